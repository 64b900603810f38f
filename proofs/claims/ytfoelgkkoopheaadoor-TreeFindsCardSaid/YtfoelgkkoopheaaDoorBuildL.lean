/- The tree's builder: Leaf. -/
import Derived.Test.YtfoelgkkoopheaaDoorBuildA
namespace Go.Proofs.YtfoelgkkoopheaaDoor
open Go.RowKit

theorem BP.size {w w' : World} {B b : Nat} {vn : Value} {k : Nat} (h : BP w B b vn k) (hs : w.heap.size ≤ w'.heap.size) : BP w' B b vn k := ⟨h.1, h.2.1, h.2.2.1, Nat.lt_of_lt_of_le h.2.2.2 hs⟩

/-- A builder stands where its blocks stand, and its own block is as it was but for what is used. -/
theorem BuildI.stays {w w' : World} {B b : Nat} {vt vn : Value} {t : Tr.T} {used used' : Nat} (h : BuildI w B b vt vn t used) (hc : w'.heap[b]? = some (.cells #[vt, vn, .int .i64 used'] 68 (0, 0)))
    (hs : w.heap.size ≤ w'.heap.size) (hk : ∀ k, k < w.heap.size → k ≠ b → B ≤ k → w'.heap[k]? = w.heap[k]?) : BuildI w' B b vt vn t used' := by
  have hkeep : Keeps (BP w B b vn) w w' := fun k hk' => hk k hk'.2.2.2 hk'.2.1 hk'.1
  obtain ⟨kvs, hk1, hk2, hk3⟩ := h.nodes
  exact ⟨hc, h.base, h.ne, (h.toks.keep hkeep).imp fun k hk => hk.size hs, kvs, hk1, ownsRow_same hk2 fun k hk' => hk k (hk2.lt k hk').2 (fun e => h.ne (by rw [hk', e])) (hk2.lt k hk').1, fun i n kv hi hkv => ((hk3 i n kv hi hkv).keep hkeep).imp fun k hk => hk.size hs⟩
/-- And where all but blocks of the caller's own stands. -/
theorem BuildI.keep {w w' : World} {B b : Nat} {vt vn : Value} {t : Tr.T} {used : Nat} (h : BuildI w B b vt vn t used) (hs : w.heap.size ≤ w'.heap.size) (hk : ∀ k, k < w.heap.size → B ≤ k → w'.heap[k]? = w.heap[k]?) : BuildI w' B b vt vn t used :=
  h.stays (by rw [hk b (lt_heap h.cell) h.base]; exact h.cell) hs fun k h1 _ h3 => hk k h1 h3
theorem But.refl (S : Nat → Prop) (w : World) : But S w w := ⟨rfl, rfl, rfl, Nat.le_refl _, fun _ _ _ => rfl⟩
theorem But.trans {S : Nat → Prop} {a b c : World} (h : But S a b) (k : But S b c) : But S a c :=
  ⟨k.os.trans h.os, k.tape.trans h.tape, k.output.trans h.output, Nat.le_trans h.size k.size, fun i hi hn => (k.block i (Nat.lt_of_lt_of_le hi h.size) hn).trans (h.block i hi hn)⟩
theorem But.of {S : Nat → Prop} {w w' : World} (h : Below w.heap.size w w') : But S w w' := ⟨h.os, h.tape, h.output, h.size, fun k hk _ => h.block k hk⟩
theorem Grew.refl (w : World) (b : Nat) (vn : Value) : Grew w w b vn vn := ⟨But.refl _ _, fun _ h => Or.inl h⟩
theorem Grew.trans {w w1 w2 : World} {b : Nat} {vn vn1 vn2 : Value} (h : Grew w w1 b vn vn1) (k : Grew w1 w2 b vn1 vn2) : Grew w w2 b vn vn2 := by
  refine ⟨⟨k.1.os.trans h.1.os, k.1.tape.trans h.1.tape, k.1.output.trans h.1.output, Nat.le_trans h.1.size k.1.size, fun i hi hn => ?_⟩, fun i hi => ?_⟩
  · rw [k.1.block i (Nat.lt_of_lt_of_le hi h.1.size) ?_, h.1.block i hi hn]
    rintro (e | e)
    · exact hn (Or.inl e)
    · rcases h.2 i e with e2 | e2
      · exact hn (Or.inr e2)
      · omega
  · rcases k.2 i hi with e | e
    · exact h.2 i e
    · exact Or.inr (Nat.le_trans h.1.size e)
theorem Grew.of {w w' : World} {b : Nat} {vn : Value} (h : Below w.heap.size w w') : Grew w w' b vn vn := ⟨But.of h, fun _ h => Or.inl h⟩

theorem leaf_used {w : World} {B b : Nat} {vt vn : Value} {t : Tr.T} {used : Nat} (h : BuildI w B b vt vn t used) : BuildI (w.setCell ⟨b, 2, none⟩ (.int .i64 ((used : Int) + 1))).drew B b vt vn t (used + 1) := by
  refine h.stays ?_ (by show _ ≤ (w.setCell _ _).heap.size; simp [World.setCell]) fun k _ h2 _ => ?_
  · exact setCell_row h.cell _
  · exact Below.heap_setCell _ _ _ _ h2
theorem leaf_grew {w : World} {b : Nat} {vn : Value} {used : Nat} : Grew w (w.setCell ⟨b, 2, none⟩ (.int .i64 ((used : Int) + 1))).drew b vn vn :=
  ⟨⟨rfl, rfl, rfl, by show _ ≤ (w.setCell _ _).heap.size; simp [World.setCell], fun k _ h2 => Below.heap_setCell _ _ _ _ (fun e => h2 (Or.inl e))⟩, fun _ h => Or.inl h⟩

def LeafSays (w : World) (B b : Nat) (vt vn : Value) (t : Tr.T) (used : Nat) (e : Ending) (w' : World) : Prop :=
  if used = t.toks.length then e = .returned (.int .i64 (-1)) ∧ BuildI w' B b vt vn t used ∧ Grew w w' b vn vn
  else ∃ vn', e = .returned (.int .i64 t.nodes.length) ∧ BuildI w' B b vt vn' ⟨t.toks, t.nodes ++ [⟨19, used, []⟩]⟩ (used + 1) ∧ Grew w w' b vn vn'

set_option maxRecDepth 100000 in
theorem leaf_calls {w : World} {B b : Nat} {vt vn : Value} {t : Tr.T} {used : Nat} (h : BuildI w B b vt vn t used) (hn : t.nodes.length ≤ 1073741823) (ht : t.toks.length ≤ 1073741824) (hu : used ≤ t.toks.length) :
    Calls Tryd.prog 11 #[.pointer (some ⟨b, 0, none⟩)] w (LeafSays w B b vt vn t used) := by
  obtain ⟨at_, ct, rfl⟩ := h.toks.form
  have ht' : (t.toks.length : Int) ≤ 1073741824 := by omega
  have hu' : (used : Int) ≤ (t.toks.length : Int) := by omega
  have c0 := cell_of_heap h.cell 0 rfl
  have c2 := cell_of_heap h.cell 2 rfl
  have f2 := frozen_of_heap h.cell 2
  have HH := Lib.hid h
  have HN := Lib.hid hn
  clear h hn
  unfold LeafSays
  by_cases hul : used = t.toks.length
  · simp only [if_pos hul]
    have hul' : ((used : Int) == (t.toks.length : Int)) = true := by simp [hul]
    go_enter Tryd.func11, Tryd.ntmps11
    go_wp2
    go_region
    all_goals go_wp2
    all_goals go_ret
    all_goals exact ⟨rfl, HH.out.keep (Nat.le_refl _) (fun _ _ _ => rfl), Grew.of (Below.refl _ _).drew⟩
  · simp only [if_neg hul]
    have hul' : ((used : Int) == (t.toks.length : Int)) = false := by simp; omega
    have hul2 : (used : Int) < (t.toks.length : Int) := by omega
    go_enter Tryd.func11, Tryd.ntmps11
    go_wp2
    go_region
    all_goals
      have hB2 := leaf_used HH.out
      have hG2 := leaf_grew (w := w) (b := b) (vn := vn) (used := used)
      have HB2 := Lib.hid hB2
      have HG2 := Lib.hid hG2
      clear hB2 hG2
      go_wp2_with (go_at_call 29; refine (add_calls HB2.out HN.out ⟨19, used, []⟩ (.slice none 0 0) (RdS.nil _ _ _)).mono ?_; rintro e w3 ⟨vn', rfl, q1, q2⟩; have Q1 := Lib.hid q1; have Q2 := Lib.hid q2; clear q1 q2)
      go_ret
      exact ⟨vn', rfl, Q1.out, HG2.out.trans Q2.out⟩
end Go.Proofs.YtfoelgkkoopheaaDoor
