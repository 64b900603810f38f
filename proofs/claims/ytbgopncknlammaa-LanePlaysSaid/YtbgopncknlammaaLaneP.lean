/- The lanes as plain lists: what the next one is, what Drain takes; and where they lie in memory. -/
import Derived.Test.YtbgopncknlammaaSel
namespace Go.Proofs.Ytbgopncknlammaa
open Go.Conc Go.RowKit

/-- The next element, what is left, and how many urgent ones in a row. -/
def takeQ (U S : List Value) (st : Nat) : Option Value × List Value × List Value × Nat :=
  match S with
  | [] =>
    match U with
    | [] => (none, [], [], 0)
    | x :: U' => (some x, U', [], 0)
  | y :: S' =>
    if 4 ≤ st then (some y, U, S', 0) else
    match U with
    | [] => (some y, [], S', 0)
    | x :: U' => (some x, U', y :: S', st + 1)

/-- All of them, one after the other. -/
def drainQ : Nat → List Value → List Value → Nat → List Value
  | 0, _, _, _ => []
  | n + 1, U, S, st =>
    match takeQ U S st with
    | (none, _, _, _) => []
    | (some x, U', S', st') => x :: drainQ n U' S' st'

theorem takeQ_len {U S U' S' : List Value} {st st' : Nat} {x : Value} (h : takeQ U S st = (some x, U', S', st')) : U'.length + S'.length + 1 = U.length + S.length := by
  unfold takeQ at h
  split at h
  · split at h
    · simp at h
    · simp only [Prod.mk.injEq] at h; obtain ⟨_, rfl, rfl, _⟩ := h; simp
  · split at h
    · simp only [Prod.mk.injEq] at h; obtain ⟨_, rfl, rfl, _⟩ := h; simp; omega
    · split at h
      · simp only [Prod.mk.injEq] at h; obtain ⟨_, rfl, rfl, _⟩ := h; simp
      · simp only [Prod.mk.injEq] at h; obtain ⟨_, rfl, rfl, _⟩ := h; simp; omega
theorem takeQ_st {U S U' S' : List Value} {st st' : Nat} {o : Option Value} (h : takeQ U S st = (o, U', S', st')) : st' ≤ 4 := by
  unfold takeQ at h
  split at h
  · split at h <;> simp only [Prod.mk.injEq] at h <;> omega
  · split at h
    · simp only [Prod.mk.injEq] at h; omega
    · split at h <;> simp only [Prod.mk.injEq] at h <;> omega
theorem takeQ_mem {U S U' S' : List Value} {st st' : Nat} {o : Option Value} (h : takeQ U S st = (o, U', S', st')) : (∀ x ∈ U', x ∈ U) ∧ (∀ x ∈ S', x ∈ S) ∧ (∀ x, o = some x → x ∈ U ∨ x ∈ S) := by
  unfold takeQ at h
  split at h
  · split at h <;> simp only [Prod.mk.injEq] at h <;> obtain ⟨rfl, rfl, rfl, _⟩ := h <;> simp_all
  · split at h
    · simp only [Prod.mk.injEq] at h; obtain ⟨rfl, rfl, rfl, _⟩ := h; simp_all
    · split at h <;> simp only [Prod.mk.injEq] at h <;> obtain ⟨rfl, rfl, rfl, _⟩ := h <;> simp_all

theorem takeQ_sub {U S U' S' : List Value} {st st' : Nat} {o : Option Value} (h : takeQ U S st = (o, U', S', st')) : U'.length ≤ U.length ∧ S'.length ≤ S.length := by
  unfold takeQ at h
  split at h
  · split at h <;> simp only [Prod.mk.injEq] at h <;> obtain ⟨rfl, rfl, rfl, _⟩ := h <;> simp
  · split at h
    · simp only [Prod.mk.injEq] at h; obtain ⟨rfl, rfl, rfl, _⟩ := h; simp
    · split at h <;> simp only [Prod.mk.injEq] at h <;> obtain ⟨rfl, rfl, rfl, _⟩ := h <;> simp
theorem takeQ_none {U S U' S' : List Value} {st st' : Nat} (h : takeQ U S st = (none, U', S', st')) : U = [] ∧ S = [] ∧ U' = [] ∧ S' = [] ∧ st' = 0 := by
  unfold takeQ at h
  split at h
  · split at h <;> simp_all
  · split at h
    · simp at h
    · split at h <;> simp at h
theorem drainQ_some {U S U' S' : List Value} {st st' n : Nat} {x : Value} (h : takeQ U S st = (some x, U', S', st')) : drainQ (n + 1) U S st = x :: drainQ n U' S' st' := by
  simp [drainQ, h]
theorem drainQ_none {U S U' S' : List Value} {st st' n : Nat} (h : takeQ U S st = (none, U', S', st')) : drainQ (n + 1) U S st = [] := by
  simp [drainQ, h]

theorem drainQ_len : ∀ (n : Nat) (U S : List Value) (st : Nat), (drainQ n U S st).length ≤ n
  | 0, _, _, _ => Nat.le_refl _
  | n + 1, U, S, st => by
    unfold drainQ
    split
    · simp
    · have := drainQ_len n
      simp only [List.length_cons]
      exact Nat.succ_le_succ (this _ _ _)

/-- Lanes lie at b, their channels at cu and cs. -/
structure Lane (w : World) (b cu cs cap : Nat) (U S : List Value) (st : Nat) (sh : Bool) : Prop where
  hb : ∃ T, w.heap[b]? = some (.cells #[.chan (some cu), .chan (some cs), .int .i64 st, .bool sh] T (0, 0))
  hu : ∃ s r, w.heap[cu]? = some (.chan cap U.toArray false s r false)
  hs : ∃ s r, w.heap[cs]? = some (.chan cap S.toArray false s r false)
  bu : b ≠ cu
  bs : b ≠ cs
  us : cu ≠ cs
  st4 : st ≤ 4

/-- Nothing but the lanes has turned; blocks may have come. -/
structure Fr (b cu cs : Nat) (w w' : World) : Prop where
  os : w'.os = w.os
  tape : w'.tape = w.tape
  output : w'.output = w.output
  size : w.heap.size ≤ w'.heap.size
  block : ∀ k, k < w.heap.size → k ≠ b → k ≠ cu → k ≠ cs → w'.heap[k]? = w.heap[k]?

section
variable {b cu cs cap : Nat} {U S : List Value} {st : Nat} {sh : Bool} {w w' w'' : World}
theorem Fr.refl (b cu cs : Nat) (w : World) : Fr b cu cs w w := ⟨rfl, rfl, rfl, Nat.le_refl _, fun _ _ _ _ _ => rfl⟩
theorem Fr.trans (h : Fr b cu cs w w') (k : Fr b cu cs w' w'') : Fr b cu cs w w'' :=
  ⟨k.os.trans h.os, k.tape.trans h.tape, k.output.trans h.output, Nat.le_trans h.size k.size,
    fun i hi h1 h2 h3 => (k.block i (Nat.lt_of_lt_of_le hi h.size) h1 h2 h3).trans (h.block i hi h1 h2 h3)⟩
theorem Fr.below {B : Nat} (h : Fr b cu cs w w') (h1 : B ≤ b) (h2 : B ≤ cu) (h3 : B ≤ cs) (hB : B ≤ w.heap.size) : Below B w w' :=
  ⟨h.os, h.tape, h.output, h.size, fun k hk => h.block k (by omega) (by omega) (by omega) (by omega)⟩
theorem Fr.alloc (h : Fr b cu cs w w') (o : Obj) : Fr b cu cs w (w'.alloc o) :=
  h.trans ⟨rfl, rfl, rfl, by simp, fun k hk _ _ _ => Below.heap_alloc _ _ _ hk⟩
theorem Fr.drew (h : Fr b cu cs w w') : Fr b cu cs w w'.drew := ⟨h.os, h.tape, h.output, h.size, h.block⟩
theorem Fr.setU (h : Fr b cu cs w w') (cap : Nat) (buf : Array Value) (cl : Bool) (s r : Nat) (tm : Bool) : Fr b cu cs w (w'.setChan cu cap buf cl s r tm) :=
  h.trans ⟨rfl, rfl, rfl, by simp [World.setChan], fun k _ _ h2 _ => by simp only [World.setChan]; rw [Array.getElem?_setIfInBounds_ne (by omega)]⟩
theorem Fr.setS (h : Fr b cu cs w w') (cap : Nat) (buf : Array Value) (cl : Bool) (s r : Nat) (tm : Bool) : Fr b cu cs w (w'.setChan cs cap buf cl s r tm) :=
  h.trans ⟨rfl, rfl, rfl, by simp [World.setChan], fun k _ _ _ h3 => by simp only [World.setChan]; rw [Array.getElem?_setIfInBounds_ne (by omega)]⟩
theorem Fr.setCell (h : Fr b cu cs w w') (o : Nat) (v : Value) : Fr b cu cs w (w'.setCell ⟨b, o, none⟩ v) :=
  h.trans ⟨rfl, rfl, rfl, by simp [World.setCell], fun k _ h1 _ _ => Below.heap_setCell _ _ _ _ h1⟩

theorem heap_setChan_ne (w : World) {c k : Nat} (cap : Nat) (buf : Array Value) (cl : Bool) (s r : Nat) (tm : Bool) (h : k ≠ c) : (w.setChan c cap buf cl s r tm).heap[k]? = w.heap[k]? := by
  simp only [World.setChan]; rw [Array.getElem?_setIfInBounds_ne (by omega)]
theorem lt_of_heap {w : World} {k : Nat} {o : Obj} (h : w.heap[k]? = some o) : k < w.heap.size := (Array.getElem?_eq_some_iff.1 h).1

theorem Lane.c0 (h : Lane w b cu cs cap U S st sh) : w.cell? ⟨b, 0, none⟩ = some (.chan (some cu)) := by obtain ⟨T, e⟩ := h.hb; simp [World.cell?, e]
theorem Lane.c1 (h : Lane w b cu cs cap U S st sh) : w.cell? ⟨b, 1, none⟩ = some (.chan (some cs)) := by obtain ⟨T, e⟩ := h.hb; simp [World.cell?, e]
theorem Lane.c2 (h : Lane w b cu cs cap U S st sh) : w.cell? ⟨b, 2, none⟩ = some (.int .i64 st) := by obtain ⟨T, e⟩ := h.hb; simp [World.cell?, e]
theorem Lane.c3 (h : Lane w b cu cs cap U S st sh) : w.cell? ⟨b, 3, none⟩ = some (.bool sh) := by obtain ⟨T, e⟩ := h.hb; simp [World.cell?, e]
theorem Lane.free (h : Lane w b cu cs cap U S st sh) (o : Nat) : w.frozen? ⟨b, o, none⟩ = false := by obtain ⟨T, e⟩ := h.hb; simp [World.frozen?, e]

/-- What turns none of the three blocks keeps the lanes. -/
theorem Lane.keep (h : Lane w b cu cs cap U S st sh) (hb : w'.heap[b]? = w.heap[b]?) (hu : w'.heap[cu]? = w.heap[cu]?) (hs : w'.heap[cs]? = w.heap[cs]?) : Lane w' b cu cs cap U S st sh :=
  ⟨by rw [hb]; exact h.hb, by rw [hu]; exact h.hu, by rw [hs]; exact h.hs, h.bu, h.bs, h.us, h.st4⟩
theorem Lane.lts (h : Lane w b cu cs cap U S st sh) : b < w.heap.size ∧ cu < w.heap.size ∧ cs < w.heap.size := by
  obtain ⟨_, h1⟩ := h.hb
  obtain ⟨_, _, h2⟩ := h.hu
  obtain ⟨_, _, h3⟩ := h.hs
  exact ⟨lt_of_heap h1, lt_of_heap h2, lt_of_heap h3⟩
theorem Lane.below {B : Nat} (h : Lane w b cu cs cap U S st sh) (hB : Below B w w') (h1 : b < B) (h2 : cu < B) (h3 : cs < B) : Lane w' b cu cs cap U S st sh :=
  h.keep (hB.block _ h1) (hB.block _ h2) (hB.block _ h3)
theorem Lane.alloc (h : Lane w b cu cs cap U S st sh) (o : Obj) : Lane (w.alloc o) b cu cs cap U S st sh :=
  h.keep (Below.heap_alloc _ _ _ h.lts.1) (Below.heap_alloc _ _ _ h.lts.2.1) (Below.heap_alloc _ _ _ h.lts.2.2)
theorem Lane.drew (h : Lane w b cu cs cap U S st sh) : Lane w.drew b cu cs cap U S st sh := h.keep rfl rfl rfl
theorem Lane.setU (h : Lane w b cu cs cap U S st sh) (U' : List Value) (s r : Nat) : Lane (w.setChan cu cap U'.toArray false s r false) b cu cs cap U' S st sh :=
  ⟨by rw [heap_setChan_ne _ _ _ _ _ _ _ h.bu]; exact h.hb, ⟨s, r, heap_setChan _ _ _ _ _ _ _ _ h.lts.2.1⟩, by rw [heap_setChan_ne _ _ _ _ _ _ _ (Ne.symm h.us)]; exact h.hs, h.bu, h.bs, h.us, h.st4⟩
theorem Lane.setS (h : Lane w b cu cs cap U S st sh) (S' : List Value) (s r : Nat) : Lane (w.setChan cs cap S'.toArray false s r false) b cu cs cap U S' st sh :=
  ⟨by rw [heap_setChan_ne _ _ _ _ _ _ _ h.bs]; exact h.hb, by rw [heap_setChan_ne _ _ _ _ _ _ _ h.us]; exact h.hu, ⟨s, r, heap_setChan _ _ _ _ _ _ _ _ h.lts.2.2⟩, h.bu, h.bs, h.us, h.st4⟩
theorem Lane.setSt (h : Lane w b cu cs cap U S st sh) (st' : Nat) (h4 : st' ≤ 4) : Lane (w.setCell ⟨b, 2, none⟩ (.int .i64 st')) b cu cs cap U S st' sh := by
  obtain ⟨T, e⟩ := h.hb
  refine ⟨⟨T, ?_⟩, by rw [Below.heap_setCell _ _ _ _ (Ne.symm h.bu)]; exact h.hu, by rw [Below.heap_setCell _ _ _ _ (Ne.symm h.bs)]; exact h.hs, h.bu, h.bs, h.us, h4⟩
  simp [World.setCell, Array.getElem?_modify, e]
theorem Lane.setSh (h : Lane w b cu cs cap U S st sh) (sh' : Bool) : Lane (w.setCell ⟨b, 3, none⟩ (.bool sh')) b cu cs cap U S st sh' := by
  obtain ⟨T, e⟩ := h.hb
  refine ⟨⟨T, ?_⟩, by rw [Below.heap_setCell _ _ _ _ (Ne.symm h.bu)]; exact h.hu, by rw [Below.heap_setCell _ _ _ _ (Ne.symm h.bs)]; exact h.hs, h.bu, h.bs, h.us, h.st4⟩
  simp [World.setCell, Array.getElem?_modify, e]
theorem Fr.grown {row : Option Nat} (h : Fr b cu cs w w') (hg : w'.grownBy w'' row) (hr : ∀ k, row = some k → w.heap.size ≤ k) : Fr b cu cs w w'' :=
  ⟨hg.os.trans h.os, hg.tape.trans h.tape, hg.output.trans h.output, Nat.le_trans h.size hg.size, fun k hk h1 h2 h3 =>
    (hg.block k (Nat.lt_of_lt_of_le hk h.size) (fun e => by have := hr k e.symm; omega)).trans (h.block k hk h1 h2 h3)⟩
theorem Lane.grown {row : Option Nat} (h : Lane w b cu cs cap U S st sh) (hg : w.grownBy w' row) (h1 : row ≠ some b) (h2 : row ≠ some cu) (h3 : row ≠ some cs) : Lane w' b cu cs cap U S st sh :=
  h.keep (hg.block _ h.lts.1 (Ne.symm h1)) (hg.block _ h.lts.2.1 (Ne.symm h2)) (hg.block _ h.lts.2.2 (Ne.symm h3))
end
end Go.Proofs.Ytbgopncknlammaa
