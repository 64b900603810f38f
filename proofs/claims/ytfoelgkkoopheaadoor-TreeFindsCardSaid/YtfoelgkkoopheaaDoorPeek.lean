/- The tree's builder: Peek. -/
import Derived.Test.YtfoelgkkoopheaaDoorMade
import Derived.BigRegion
namespace Go.Proofs.YtfoelgkkoopheaaDoor
open Go.RowKit

set_option maxRecDepth 100000 in
set_option maxHeartbeats 2000000 in
theorem peek_calls {w : World} {B b : Nat} {vt vn : Value} {t : Tr.T} {used : Nat} (h : BuildI w B b vt vn t used) (ht : t.toks.length ≤ 1073741824) (hu : used ≤ t.toks.length) {k : Tr.Tk} (hk : t.toks[min used (t.toks.length - 1)]? = some k) :
    Calls Tryd.prog 10 #[.pointer (some ⟨b, 0, none⟩)] w fun e w' => e = .returned (.agg #[.int .i64 k.kind, .string ⟨k.lead.toArray⟩, .string ⟨k.text.toArray⟩, .int .i64 k.pos]) ∧ Below w.heap.size w w' := by
  have hlen : 0 < t.toks.length := by
    rcases Nat.eq_zero_or_pos t.toks.length with h0 | h0
    · rw [List.getElem?_eq_none (by omega)] at hk; cases hk
    · exact h0
  have ht' : (t.toks.length : Int) ≤ 1073741824 := by omega
  have hu' : (used : Int) ≤ (t.toks.length : Int) := by omega
  have hlen' : 0 < (t.toks.length : Int) := by omega
  obtain ⟨g, o, c, he, hg, hrg⟩ := h.toks.tok hk
  subst he
  obtain ⟨m, hm⟩ : ∃ m, min used (t.toks.length - 1) = m := ⟨_, rfl⟩
  rw [hm] at hrg
  have hb1 : Below w.heap.size w (w.alloc (.cells #[.int .i64 0, .string ⟨#[]⟩, .string ⟨#[]⟩, .int .i64 0] 34)) := (Below.refl _ _).alloc (Nat.le_refl _) _
  obtain ⟨W, hW⟩ : ∃ W, w.alloc (.cells #[.int .i64 0, .string ⟨#[]⟩, .string ⟨#[]⟩, .int .i64 0] 34) = W := ⟨_, rfl⟩
  have hnew : W.heap[w.heap.size]? = some (.cells #[.int .i64 0, .string ⟨#[]⟩, .string ⟨#[]⟩, .int .i64 0] 34 (0, 0)) := by rw [← hW]; exact heap_alloc_new _ _
  have hcb : W.heap[b]? = some (.cells #[.slice (some ⟨g, o, none⟩) t.toks.length c, vn, .int .i64 used] 68 (0, 0)) := by rw [← hW, Below.heap_alloc _ _ _ (lt_heap h.cell)]; exact h.cell
  have hrW : W.rangeAt g (o + m * 4) [.int .i64 k.kind, .string ⟨k.lead.toArray⟩, .string ⟨k.text.toArray⟩, .int .i64 k.pos] := by rw [← hW]; exact rangeAt_same hrg (Below.heap_alloc _ _ _ hg.2.2.2)
  have e : (min (used : Int) ((t.toks.length : Int) - 1)).toNat = m := by omega
  rw [← e] at hrW
  have c0 := cell_of_heap hcb 0 rfl
  have c2 := cell_of_heap hcb 2 rfl
  have q0 : W.cell? ⟨g, o + (min (used : Int) ((t.toks.length : Int) - 1)).toNat * 4, none⟩ = some (.int .i64 k.kind) := hrW 0 _ rfl
  have q1 : W.cell? ⟨g, o + (min (used : Int) ((t.toks.length : Int) - 1)).toNat * 4 + 1, none⟩ = some (.string ⟨k.lead.toArray⟩) := hrW 1 _ rfl
  have q2 : W.cell? ⟨g, o + (min (used : Int) ((t.toks.length : Int) - 1)).toNat * 4 + 2, none⟩ = some (.string ⟨k.text.toArray⟩) := hrW 2 _ rfl
  have q3 : W.cell? ⟨g, o + (min (used : Int) ((t.toks.length : Int) - 1)).toNat * 4 + 3, none⟩ = some (.int .i64 k.pos) := hrW 3 _ rfl
  have n0 := cell_of_heap hnew 0 rfl
  have n1 := cell_of_heap hnew 1 rfl
  have n2 := cell_of_heap hnew 2 rfl
  have n3 := cell_of_heap hnew 3 rfl
  have f0 := frozen_of_heap hnew 0
  have f1 := frozen_of_heap hnew 1
  have f2 := frozen_of_heap hnew 2
  have f3 := frozen_of_heap hnew 3
  have HB := Lib.hid (And.intro hb1 hnew)
  rw [hW] at HB
  clear h hk hrg hg hb1 hnew hcb hrW
  clear hm e
  go_enter Tryd.func10, Tryd.ntmps10
  go_wp2_with fail
  clear hW
  go_region
  all_goals go_wp2
  all_goals
    obtain ⟨hb1, hnew⟩ := HB.out
    have hd : W.drew.heap[w.heap.size]? = some (.cells #[.int .i64 0, .string ⟨#[]⟩, .string ⟨#[]⟩, .int .i64 0] 34 (0, 0)) := hnew
    refine bodyPost_ret (v := .agg #[.int .i64 k.kind, .string ⟨k.lead.toArray⟩, .string ⟨k.text.toArray⟩, .int .i64 k.pos]) (results_cell_row rfl _ _ w.heap.size _ _ _ _ rfl (setCell_row (setCell_row (setCell_row (setCell_row hd _) _) _) _) Tryd.underlying34 rfl rfl) rfl ?_
    exact ⟨rfl, (((hb1.drew.setCell (Nat.le_refl _) _).setCell (Nat.le_refl _) _).setCell (Nat.le_refl _) _).setCell (Nat.le_refl _) _⟩
end Go.Proofs.YtfoelgkkoopheaaDoor
