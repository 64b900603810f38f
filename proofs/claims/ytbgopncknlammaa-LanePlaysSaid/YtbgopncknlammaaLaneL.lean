/- LanePlays: every play of offers and takes is the document's, thing by thing: the walk. -/
import Derived.Test.YtbgopncknlammaaLaneR2
import Derived.Test.YtbgopncknlammaaLaneA
import Derived.Deep.RegionHeld3
namespace Go.Proofs.Ytbgopncknlammaa
open Go.Conc Go.RowKit

/-- The reference lets a thing wait as the lanes do. -/
theorem roffer {w : World} {B C g room : Nat} {U S : List Value} {st : Nat} {sh : Bool} (h : RefC w B C g room U S st sh) (x : Int) (u : Bool) (h40 : room ≤ 1024) (hB : B ≤ w.heap.size) :
    Calls Try.prog 13 #[.pointer (some ⟨g, 0, none⟩), .int .i64 x, .bool u] w fun e w' => e = .returned (.int .i64 (LI.offQ room U S sh (.int .i64 x) u).1) ∧
      Ref w' B g room (LI.offQ room U S sh (.int .i64 x) u).2.1 (LI.offQ room U S sh (.int .i64 x) u).2.2 st sh ∧ Below B w w' ∧ ∀ k, C ≤ k → k < w.heap.size → w'.heap[k]? = w.heap[k]? := by
  cases sh with
  | true =>
    refine (ref_shut h.toRef x u).mono ?_
    rintro e w' ⟨rfl, rfl⟩
    exact ⟨rfl, h.toRef, Below.refl _ _, fun _ _ _ => rfl⟩
  | false =>
    have hd : Ref w.drew B g room U S st false := by obtain ⟨vU, vS, ru, rs, h⟩ := h.toRef; exact ⟨vU, vS, ru, rs, h.drew⟩
    cases u with
    | true =>
      by_cases hr : U.length < room
      · have e1 : LI.offQ room U S false (.int .i64 x) true = (0, U ++ [.int .i64 x], S) := by simp [LI.offQ, hr]
        rw [e1]
        exact ref_room_u h x hr h40 hB
      · have e1 : LI.offQ room U S false (.int .i64 x) true = (15, U, S) := by simp [LI.offQ, hr]
        rw [e1]
        refine (ref_full h.toRef x true (by simpa using hr)).mono ?_
        rintro e w' ⟨rfl, rfl⟩
        exact ⟨rfl, hd, (Below.refl _ _).drew, fun _ _ _ => rfl⟩
    | false =>
      by_cases hr : S.length < room
      · have e1 : LI.offQ room U S false (.int .i64 x) false = (0, U, S ++ [.int .i64 x]) := by simp [LI.offQ, hr]
        rw [e1]
        exact ref_room_s h x hr h40 hB
      · have e1 : LI.offQ room U S false (.int .i64 x) false = (15, U, S) := by simp [LI.offQ, hr]
        rw [e1]
        refine (ref_full h.toRef x false (by simpa using hr)).mono ?_
        rintro e w' ⟨rfl, rfl⟩
        exact ⟨rfl, hd, (Below.refl _ _).drew, fun _ _ _ => rfl⟩

/-- The steps, as they lie in the argument. -/
def OpsAt (w : World) (a : Option Addr) (ops : List (Int × Int × Bool)) : Prop :=
  ∀ j, j < ops.length → ∃ b off, a = some ⟨b, off, none⟩ ∧ w.cell? ⟨b, off + j * 3, none⟩ = some (.int .i64 (ops.getD j (0, 0, false)).1) ∧ w.cell? ⟨b, off + j * 3 + 1, none⟩ = some (.int .i64 (ops.getD j (0, 0, false)).2.1) ∧
    w.cell? ⟨b, off + j * 3 + 2, none⟩ = some (.bool (ops.getD j (0, 0, false)).2.2) ∧ b < w.heap.size

theorem OpsAt.below {w w' : World} {a : Option Addr} {ops : List (Int × Int × Bool)} (h : OpsAt w a ops) (hb : Below w.heap.size w w') : OpsAt w' a ops := by
  intro j hj
  obtain ⟨b, off, rfl, h1, h2, h3, hlt⟩ := h j hj
  refine ⟨b, off, rfl, ?_, ?_, ?_, Nat.lt_of_lt_of_le hlt hb.size⟩
  · rw [hb.cell (p := ⟨b, _, none⟩) hlt]; exact h1
  · rw [hb.cell (p := ⟨b, _, none⟩) hlt]; exact h2
  · rw [hb.cell (p := ⟨b, _, none⟩) hlt]; exact h3

/-- All that holds between two steps. -/
structure Mid (w : World) (B b cu cs g room : Nat) (U S : List Value) (st : Nat) (sh : Bool) (wr : World) : Prop where
  lane : Lane wr b cu cs room U S st sh
  ref : Ref wr B g room U S st sh
  below : Below w.heap.size w wr
  size : B ≤ wr.heap.size
  elU : ∀ x ∈ U, LI.El x
  elS : ∀ x ∈ S, LI.El x
  lenU : U.length ≤ room
  lenS : S.length ≤ room

def PlRel (w : World) (B b cu cs g room n : Nat) (k : Nat) (i : Value) (wr : World) : Prop :=
  ∃ (j : Nat) (U S : List Value) (st : Nat) (sh : Bool), k = n - j ∧ j ≤ n ∧ i = .int .i64 j ∧ Mid w B b cu cs g room U S st sh wr

/-- Where the blocks lie. -/
structure Lies (w : World) (B b cu cs g : Nat) : Prop where
  b1 : b < B
  b2 : cu < B
  b3 : cs < B
  l1 : w.heap.size ≤ b
  l2 : w.heap.size ≤ cu
  l3 : w.heap.size ≤ cs
  l4 : w.heap.size ≤ B
  l5 : B ≤ g

theorem Ref.fr {w w' : World} {B g room b cu cs : Nat} {U S : List Value} {st : Nat} {sh : Bool} (h : Ref w B g room U S st sh) (hf : Fr b cu cs w w') (h1 : b < B) (h2 : cu < B) (h3 : cs < B) : Ref w' B g room U S st sh := by
  obtain ⟨vU, vS, ru, rs, h⟩ := h
  exact ⟨vU, vS, ru, rs, h.fr hf h1 h2 h3⟩
theorem RefC.fr {w w' : World} {B C g room b cu cs : Nat} {U S : List Value} {st : Nat} {sh : Bool} (h : RefC w B C g room U S st sh) (hf : Fr b cu cs w w') (h1 : b < B) (h2 : cu < B) (h3 : cs < B) : RefC w' B C g room U S st sh := by
  obtain ⟨vU, vS, ru, rs, h, hC⟩ := h
  exact ⟨vU, vS, ru, rs, h.fr hf h1 h2 h3, hC⟩
theorem RefC.below {w w' : World} {B C D g room : Nat} {U S : List Value} {st : Nat} {sh : Bool} (h : RefC w B C g room U S st sh) (hb : Below D w w') (hD : w.heap.size ≤ D) : RefC w' B C g room U S st sh := by
  obtain ⟨vU, vS, ru, rs, h, hC⟩ := h
  exact ⟨vU, vS, ru, rs, h.below hb hD, hC⟩
theorem Ref.below {w w' : World} {B g room C : Nat} {U S : List Value} {st : Nat} {sh : Bool} (h : Ref w B g room U S st sh) (hb : Below C w w') (hC : w.heap.size ≤ C) : Ref w' B g room U S st sh := by
  obtain ⟨vU, vS, ru, rs, h⟩ := h
  exact ⟨vU, vS, ru, rs, h.below hb hC⟩

section
variable {w wr w' : World} {B b cu cs g room : Nat} {U S : List Value} {st : Nat} {sh : Bool}
/-- New blocks, draws. -/
theorem Mid.more (h : Mid w B b cu cs g room U S st sh wr) (hb : Below wr.heap.size wr w') : Mid w B b cu cs g room U S st sh w' := by
  have hw := h.below.size
  have hs := h.size
  refine ⟨?_, h.ref.below hb (Nat.le_refl _), h.below.trans (hb.mono h.below.size), Nat.le_trans h.size hb.size, h.elU, h.elS, h.lenU, h.lenS⟩
  have hl := h.lane.lts
  exact h.lane.keep (hb.block _ hl.1) (hb.block _ hl.2.1) (hb.block _ hl.2.2)
/-- The lanes' step, and then the reference's. -/
theorem Mid.step {w1 w2 : World} {U' S' : List Value} {st' : Nat} {sh' : Bool} (h : Mid w B b cu cs g room U S st sh wr) (hL : Lies w B b cu cs g) (h1 : Lane w1 b cu cs room U' S' st' sh') (hf : Fr b cu cs wr w1)
    (h2 : Ref w2 B g room U' S' st' sh') (hb : Below B w1 w2) (e1 : ∀ x ∈ U', LI.El x) (e2 : ∀ x ∈ S', LI.El x) (e3 : U'.length ≤ room) (e4 : S'.length ≤ room) : Mid w B b cu cs g room U' S' st' sh' w2 := by
  refine ⟨h1.below hb hL.b1 hL.b2 hL.b3, h2, (h.below.trans (hf.below hL.l1 hL.l2 hL.l3 h.below.size)).trans (hb.mono hL.l4), Nat.le_trans (Nat.le_trans h.size hf.size) hb.size, e1, e2, e3, e4⟩
end

theorem Mid.cells {w wr : World} {B b cu cs g room : Nat} {U S : List Value} {st : Nat} {sh : Bool} (h : Mid w B b cu cs g room U S st sh wr) :
    ∃ aU cU aS cS, wr.cell? ⟨g, 0, none⟩ = some (.slice aU U.length cU) ∧ wr.cell? ⟨g, 1, none⟩ = some (.slice aS S.length cS) := by
  obtain ⟨vU, vS, ru, rs, hrl⟩ := h.ref
  obtain ⟨aU, cU, rfl⟩ := hrl.hU.value
  obtain ⟨aS, cS, rfl⟩ := hrl.hS.value
  exact ⟨aU, cU, aS, cS, hrl.c0, hrl.c1⟩

/-- The lanes have taken; the reference takes the same. -/
theorem mid_some {w w5 w6 : World} {B b cu cs g room : Nat} {U S U' S' : List Value} {st st' : Nat} {sh : Bool} {y : Value} (hM : Mid w B b cu cs g room U S st sh w5) (hL : Lies w B b cu cs g)
    (h6 : Lane w6 b cu cs room U' S' st' sh ∧ Fr b cu cs w5 w6) (ht : takeQ U S st = (some y, U', S', st')) :
    Calls Try.prog 15 #[.pointer (some ⟨g, 0, none⟩)] w6 fun e w' => e = .returned (.tuple #[y, .bool true]) ∧ Mid w B b cu cs g room U' S' st' sh w' :=
  (rtake_some (hM.ref.fr h6.2 hL.b1 hL.b2 hL.b3) hM.elU hM.elS ht).mono fun _ _ ⟨h1, h2, h3⟩ =>
    ⟨h1, hM.step hL h6.1 h6.2 h2 h3.1 (fun z hz => hM.elU z ((takeQ_mem ht).1 z hz)) (fun z hz => hM.elS z ((takeQ_mem ht).2.1 z hz)) (Nat.le_trans (takeQ_sub ht).1 hM.lenU) (Nat.le_trans (takeQ_sub ht).2 hM.lenS)⟩
theorem mid_none {w w5 w6 : World} {B b cu cs g room : Nat} {U S U' S' : List Value} {st st' : Nat} {sh : Bool} (hM : Mid w B b cu cs g room U S st sh w5) (hL : Lies w B b cu cs g)
    (h6 : Lane w6 b cu cs room U' S' st' sh ∧ Fr b cu cs w5 w6) (ht : takeQ U S st = (none, U', S', st')) :
    Calls Try.prog 15 #[.pointer (some ⟨g, 0, none⟩)] w6 fun e w' => e = .returned (.tuple #[.int .i64 0, .bool false]) ∧ Mid w B b cu cs g room U' S' st' sh w' :=
  (rtake_none (hM.ref.fr h6.2 hL.b1 hL.b2 hL.b3) hM.elU hM.elS ht).mono fun _ _ ⟨h1, h2, h3⟩ =>
    ⟨h1, hM.step hL h6.1 h6.2 h2 h3.1 (fun z hz => hM.elU z ((takeQ_mem ht).1 z hz)) (fun z hz => hM.elS z ((takeQ_mem ht).2.1 z hz)) (Nat.le_trans (takeQ_sub ht).1 hM.lenU) (Nat.le_trans (takeQ_sub ht).2 hM.lenS)⟩
theorem Mid.el {w wr : World} {B b cu cs g room : Nat} {U S U' S' : List Value} {st st' : Nat} {sh : Bool} {y : Value} (hM : Mid w B b cu cs g room U S st sh wr) (ht : takeQ U S st = (some y, U', S', st')) : ∃ n, y = .int .i64 n := by
  rcases (takeQ_mem ht).2.2 y rfl with h | h
  · exact hM.elU y h
  · exact hM.elS y h

/-- The lanes are shut; the reference's mark is where it was. -/
theorem mid_shut {w w5 : World} {B b cu cs g room : Nat} {U S : List Value} {st : Nat} {sh : Bool} (hM : Mid w B b cu cs g room U S st sh w5) (hL : Lies w B b cu cs g) :
    Calls Try.prog 16 #[.pointer (some ⟨b, 0, none⟩)] w5 fun e w6 => e = .returned (.tuple #[]) ∧ w6.cell? ⟨g, 4, none⟩ = some (.bool sh) ∧ w6.frozen? ⟨g, 4, none⟩ = false ∧ Mid w B b cu cs g room U S st true (w6.setCell ⟨g, 4, none⟩ (.bool true)) := by
  refine (LI.shut_calls hM.lane).mono ?_
  rintro e w6 ⟨rfl, rfl⟩
  have hf : Fr b cu cs w5 (w5.setCell ⟨b, 3, none⟩ (.bool true)) := (Fr.refl _ _ _ _).setCell _ _
  have hr := hM.ref.fr hf hL.b1 hL.b2 hL.b3
  obtain ⟨vU, vS, ru, rs, hr⟩ := hr
  refine ⟨rfl, hr.c4, hr.free 4, ?_⟩
  exact hM.step hL (hM.lane.setSh true) hf ⟨_, _, _, _, hr.setSh true⟩ ((Below.refl _ _).setCell hL.l5 _) hM.elU hM.elS hM.lenU hM.lenS

/-- What a slice of so many things holds, not in block g. -/
def AsideRow (g : Nat) (w : World) (ao : Option Addr) (out : List Value) : Prop :=
  ∀ m, m < out.length → ∃ go, ao = some ⟨go, 0, none⟩ ∧ w.cell? ⟨go, m, none⟩ = out[m]? ∧ go ≠ g

/-- While the reference is emptied, thing by thing. -/
def PlRel2 (w : World) (B b cu cs g room : Nat) (sh : Bool) (ao : Option Addr) (out : List Value) (k : Nat) (i : Value) (wr : World) : Prop :=
  ∃ (m : Nat) (U S : List Value) (st : Nat), k = out.length - m ∧ m ≤ out.length ∧ i = .int .i64 m ∧ Ref wr B g room U S st sh ∧ Lane wr b cu cs room [] [] 0 sh ∧ Below w.heap.size w wr ∧ B ≤ wr.heap.size ∧
    (∀ x ∈ U, LI.El x) ∧ (∀ x ∈ S, LI.El x) ∧ out.drop m = drainQ (U.length + S.length + 1) U S st ∧ AsideRow g wr ao out

theorem mid_drain {w w5 : World} {B b cu cs g room : Nat} {U S : List Value} {st : Nat} {sh : Bool} (hM : Mid w B b cu cs g room U S st sh w5) (hL : Lies w B b cu cs g) (h40 : room ≤ 40) :
    Calls Try.prog 9 #[.pointer (some ⟨b, 0, none⟩)] w5 fun e w' => ∃ (ao : Option Addr) (cap : Nat) (out : List Value), e = .returned (.slice ao out.length cap) ∧
      PlRel2 w B b cu cs g room sh ao out out.length (.int .i64 0) w' ∧ out.length ≤ 100 := by
  have hlu := hM.lenU
  have hls := hM.lenS
  refine (LI.drain_calls hM.lane (by omega) hM.elU hM.elS).mono ?_
  rintro e w' ⟨v, rfl, hown, hl, hf⟩
  have hlen := drainQ_len (U.length + S.length + 1) U S st
  have hr := hM.ref.fr hf hL.b1 hL.b2 hL.b3
  have hg : g < w5.heap.size := by obtain ⟨_, _, _, _, h⟩ := hM.ref; exact h.lt
  have hb : Below w.heap.size w w' := hM.below.trans (hf.below hL.l1 hL.l2 hL.l3 hM.below.size)
  generalize hout : drainQ (U.length + S.length + 1) U S st = out at hown hlen
  have hrest : ∀ (ao : Option Addr), AsideRow g w' ao out → PlRel2 w B b cu cs g room sh ao out out.length (.int .i64 0) w' := fun ao ha =>
    ⟨0, U, S, st, by omega, by omega, rfl, hr, hl, hb, Nat.le_trans hM.size hf.size, hM.elU, hM.elS, hout.symm, ha⟩
  rcases Nat.eq_zero_or_pos out.length with h0 | h0
  · obtain ⟨_, ⟨rfl, _⟩ | ⟨go, cap, cur, rfl, _⟩⟩ := hown
    · exact ⟨none, 0, out, by rw [h0], hrest _ (fun m hm => absurd hm (by omega)), by omega⟩
    · exact ⟨_, cap, out, rfl, hrest _ (fun m hm => absurd hm (by omega)), by omega⟩
  · obtain ⟨go, cap, rfl, hg2, _, hc⟩ := row_at hown h0
    exact ⟨_, cap, out, rfl, hrest _ (fun m hm => ⟨go, rfl, hc m (by omega), by omega⟩), by omega⟩

theorem pl2_next {U S : List Value} {st : Nat} {x : Value} {l : List Value} (h : x :: l = drainQ (U.length + S.length + 1) U S st) :
    ∃ U' S' st', takeQ U S st = (some x, U', S', st') ∧ l = drainQ (U'.length + S'.length + 1) U' S' st' := by
  rcases ht : takeQ U S st with ⟨_ | y, U', S', st'⟩
  · rw [drainQ_none ht] at h; cases h
  · rw [drainQ_some ht] at h
    simp only [List.cons.injEq] at h
    obtain ⟨rfl, h2⟩ := h
    exact ⟨U', S', st', rfl, by rw [h2, takeQ_len ht]⟩
theorem pl2_end {U S : List Value} {st : Nat} (h : [] = drainQ (U.length + S.length + 1) U S st) : ∃ st', takeQ U S st = (none, [], [], st') ∧ U = [] ∧ S = [] ∧ st' = 0 := by
  rcases ht : takeQ U S st with ⟨_ | y, U', S', st'⟩
  · obtain ⟨rfl, rfl, rfl, rfl, rfl⟩ := takeQ_none ht
    exact ⟨0, rfl, rfl, rfl, rfl⟩
  · rw [drainQ_some ht] at h; cases h

/-- The last take of the reference, when nothing is left. -/
theorem pl2_last {w wr : World} {B b cu cs g room st st' : Nat} {sh : Bool} (hL : Lies w B b cu cs g)
    (h : takeQ [] [] st = (none, [], [], st') ∧ Ref wr B g room [] [] st sh ∧ Lane wr b cu cs room [] [] 0 sh ∧ Below w.heap.size w wr ∧ B ≤ wr.heap.size) :
    Calls Try.prog 15 #[.pointer (some ⟨g, 0, none⟩)] wr fun e w' => e = .returned (.tuple #[.int .i64 0, .bool false]) ∧ Mid w B b cu cs g room [] [] 0 sh w' := by
  obtain ⟨_, hr, hl, hb, hs⟩ := h
  refine (rtake_none (U' := []) (S' := []) (st' := 0) hr (by simp) (by simp) rfl).mono ?_
  rintro e w' ⟨rfl, h2, h3⟩
  have h1 := hL.b1
  have h4 := hL.b2
  have h5 := hL.b3
  have h6 := hL.l5
  exact ⟨rfl, hl.keep (h3.2 _ (by omega)) (h3.2 _ (by omega)) (h3.2 _ (by omega)), h2, hb.trans (h3.1.mono hL.l4), Nat.le_trans hs h3.1.size, by simp, by simp, by simp, by simp⟩

theorem offQ_el {cap : Nat} {U S : List Value} {sh : Bool} {x : Int} {u : Bool} (h1 : ∀ y ∈ U, LI.El y) (h2 : ∀ y ∈ S, LI.El y) (h3 : U.length ≤ cap) (h4 : S.length ≤ cap) :
    (∀ y ∈ (LI.offQ cap U S sh (.int .i64 x) u).2.1, LI.El y) ∧ (∀ y ∈ (LI.offQ cap U S sh (.int .i64 x) u).2.2, LI.El y) ∧ (LI.offQ cap U S sh (.int .i64 x) u).2.1.length ≤ cap ∧ (LI.offQ cap U S sh (.int .i64 x) u).2.2.length ≤ cap := by
  have hx : LI.El (.int .i64 x) := ⟨x, rfl⟩
  unfold LI.offQ
  split
  · exact ⟨h1, h2, h3, h4⟩
  · split
    · split
      · refine ⟨fun y hy => ?_, h2, by simp; omega, h4⟩
        rcases List.mem_append.1 hy with h | h
        · exact h1 y h
        · simp only [List.mem_singleton] at h; subst h; exact hx
      · exact ⟨h1, h2, h3, h4⟩
    · split
      · refine ⟨h1, fun y hy => ?_, h3, by simp; omega⟩
        rcases List.mem_append.1 hy with h | h
        · exact h2 y h
        · simp only [List.mem_singleton] at h; subst h; exact hx
      · exact ⟨h1, h2, h3, h4⟩
end Go.Proofs.Ytbgopncknlammaa
