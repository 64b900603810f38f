/- tree.check: may something be told of a node? -/
import Derived.Test.YtfoelgkkoopheaaDoorRight
namespace Go.Proofs.YtfoelgkkoopheaaDoor
open Go.RowKit

def Tr.check (t : Tr.T) (n : Int) : Int := if Tr.right t = false then 10 else if n < 0 ∨ (t.nodes.length : Int) ≤ n then 12 else 0

theorem chk_box {w w2 : World} {cs : Array Value} {T : TypeId} (hb : Below (w.alloc (.cells cs T)).heap.size (w.alloc (.cells cs T)) w2) : w2.heap[w.heap.size]? = some (.cells cs T (0, 0)) := done_node hb
set_option maxRecDepth 100000 in
theorem check_node_calls {w : World} {P : Nat → Prop} {vt vn : Value} {t : Tr.T} (h : RdT w P vt vn t) (hP : ∀ k, P k → k < w.heap.size) (hn : t.nodes.length ≤ 1073741823) (ht : t.toks.length ≤ 1073741824) (hkids : ∀ n ∈ t.nodes, n.kids.length ≤ 1073741823) (n : Int) :
    Calls Tryd.prog 34 #[.agg #[vt, vn], .int .i64 n] w fun e w' => e = .returned (.int .i64 (Tr.check t n)) ∧ Below w.heap.size w w' := by
  have hb1 : Below w.heap.size w (w.alloc (.cells #[vt, vn] 41)) := (Below.refl _ _).alloc (Nat.le_refl _) _
  have HR := Lib.hid (right_calls (h.keep (Keeps.of hb1 hP)) (fun k hk => Nat.lt_of_lt_of_le (hP k hk) hb1.size) hn ht hkids)
  obtain ⟨at_, ct, rfl⟩ := h.1.form
  obtain ⟨an, cn, rfl⟩ : ∃ a c, vn = .slice a t.nodes.length c := by
    obtain ⟨kvs, _, h2, _⟩ := h.2
    exact h2.form
  have HB := Lib.hid hb1
  have hn' : (t.nodes.length : Int) ≤ 1073741823 := by omega
  clear h hP hb1 hn ht hkids
  unfold Tr.check
  cases hr : Tr.right t
  · rw [hr] at HR
    rw [if_pos rfl]
    clear hr
    go_enter Tryd.func34, Tryd.ntmps34
    go_wp2_with (go_at_call 19; refine HR.out.mono ?_; rintro e w2 ⟨rfl, hb2⟩; have HB2 := Lib.hid hb2; clear hb2)
    go_ret
    exact ⟨rfl, HB.out.trans (HB2.out.mono HB.out.size)⟩
  · rw [hr] at HR
    rw [if_neg (by simp)]
    clear hr
    by_cases h1 : n < 0
    · rw [if_pos (Or.inl h1)]
      go_enter Tryd.func34, Tryd.ntmps34
      go_wp2_with (go_at_call 19; refine HR.out.mono ?_; rintro e w2 ⟨rfl, hb2⟩; have hbx := chk_box hb2; have c1 := cell_of_heap hbx 1 rfl; have HB2 := Lib.hid hb2; clear hb2 hbx)
      go_ret
      exact ⟨rfl, HB.out.trans (HB2.out.mono HB.out.size)⟩
    · by_cases h2 : (t.nodes.length : Int) ≤ n
      · rw [if_pos (Or.inr h2)]
        have h1' : 0 ≤ n := by omega
        go_enter Tryd.func34, Tryd.ntmps34
        go_wp2_with (go_at_call 19; refine HR.out.mono ?_; rintro e w2 ⟨rfl, hb2⟩; have hbx := chk_box hb2; have c1 := cell_of_heap hbx 1 rfl; have HB2 := Lib.hid hb2; clear hb2 hbx)
        go_ret
        exact ⟨rfl, HB.out.trans (HB2.out.mono HB.out.size)⟩
      · rw [if_neg (by omega)]
        have h1' : 0 ≤ n := by omega
        have h2' : n < (t.nodes.length : Int) := by omega
        go_enter Tryd.func34, Tryd.ntmps34
        go_wp2_with (go_at_call 19; refine HR.out.mono ?_; rintro e w2 ⟨rfl, hb2⟩; have hbx := chk_box hb2; have c1 := cell_of_heap hbx 1 rfl; have HB2 := Lib.hid hb2; clear hb2 hbx)
        go_ret
        exact ⟨rfl, HB.out.trans (HB2.out.mono HB.out.size)⟩
end Go.Proofs.YtfoelgkkoopheaaDoor
