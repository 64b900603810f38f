/- The tree's builder: Node's closure; slices.IndexFunc, slices.ContainsFunc with it. -/
import Derived.Test.YtfoelgkkoopheaaDoorBuildL
namespace Go.Proofs.YtfoelgkkoopheaaDoor
open Go.RowKit

/-- Is a kid none of the nodes so far? -/
def badKid (n : Nat) (k : Int) : Bool := decide (k < 0) || decide ((n : Int) ≤ k)

theorem node1_calls {w : World} {b c : Nat} {an : Option Addr} {n cn : Nat} (hn : n ≤ 1073741824) (k : Int) (h0 : w.cell? ⟨c, 0, none⟩ = some (.pointer (some ⟨b, 0, none⟩))) (h1 : w.cell? ⟨b, 1, none⟩ = some (.slice an n cn)) :
    Calls Tryd.prog 31 #[.int .i64 k, .pointer (some ⟨c, 0, none⟩)] w fun e w' => e = .returned (.bool (badKid n k)) ∧ w = w' := by
  have hn' : (n : Int) ≤ 1073741824 := by omega
  unfold badKid
  by_cases hk : k < 0
  · go_enter Tryd.func31, Tryd.ntmps31
    go_wp2
    go_ret
    exact ⟨by simp [hk], rfl⟩
  · have hk' : 0 ≤ k := by omega
    go_enter Tryd.func31, Tryd.ntmps31
    go_wp2
    go_ret
    exact ⟨by simp only [decide_eq_false (show ¬ k < 0 by omega), Bool.false_or]; rfl, rfl⟩

set_option maxRecDepth 100000 in
theorem index_node {w : World} {P : Nat → Prop} {v : Value} {l : List Int} (h : RdS w P 1 v l.length (intCells l)) (hl : l.length ≤ 1073741824) {b c : Nat} {an : Option Addr} {n cn : Nat} (hn : n ≤ 1073741824)
    (h0 : w.cell? ⟨c, 0, none⟩ = some (.pointer (some ⟨b, 0, none⟩))) (h1 : w.cell? ⟨b, 1, none⟩ = some (.slice an n cn)) :
    Calls Tryd.prog 51 #[v, .func (.func 31) #[] #[.pointer (some ⟨c, 0, none⟩)]] w fun e w' =>
      ∃ r : Int, e = .returned (.int .i64 r) ∧ decide (0 ≤ r) = l.any (badKid n) ∧ w = w' := by
  obtain ⟨_, a, cl, rfl, _, hd⟩ := h
  have hl' : (l.length : Int) ≤ 1073741824 := by omega
  have HC := fun k => Lib.hid (node1_calls hn k h0 h1)
  have HD := Lib.hid hd
  clear h0 h1 hd
  go_enter Tryd.func51, Tryd.ntmps51
  go_wp2
  go_loopg [8] l.length (fun k v8 wr => ∃ j : Nat, v8 = .int .i64 j ∧ k = l.length - j ∧ j ≤ l.length ∧ wr = w ∧ ((l.take j).any (badKid n)) = false)
  case atStart => exact ⟨0, rfl, rfl, Nat.zero_le _, rfl, by simp⟩
  case round =>
    obtain ⟨j, rfl, hk, hj, rfl, hall⟩ := hrel
    have HK := Lib.hid hk
    have HA := Lib.hid hall
    clear hk hall
    by_cases hlt : j < l.length
    · have hlt' : (j : Int) < (l.length : Int) := by omega
      obtain ⟨b2, off, rfl, _, hr⟩ := HD.out.resolve_left (fun h => by omega)
      have hcell : wr.cell? ⟨b2, off + j, none⟩ = some (.int .i64 l[j]) := hr j _ (by simp [intCells, List.getElem?_eq_getElem hlt])
      clear hr
      obtain ⟨y, hy⟩ : ∃ y, l[j] = y := ⟨_, rfl⟩
      rw [hy] at hcell
      have HY := Lib.hid hy
      clear hy
      cases hb : badKid n y
      · have HB := Lib.hid hb
        have HCB := Lib.hid (hb ▸ (HC y).out)
        clear hb
        go_wp2_with (go_at_call 31; refine HCB.out.mono ?_; rintro e w1 ⟨rfl, rfl⟩)
        go_roundg (l.length - (j + 1))
        case measure => have := HK.out; omega
        case rel =>
          refine ⟨j + 1, by go_num, rfl, by omega, rfl, ?_⟩
          rw [List.take_succ_eq_append_getElem hlt, List.any_append, HA.out, HY.out]
          simp [HB.out]
      · have HB := Lib.hid hb
        have HCB := Lib.hid (hb ▸ (HC y).out)
        clear hb
        go_wp2_with (go_at_call 31; refine HCB.out.mono ?_; rintro e w1 ⟨rfl, rfl⟩)
        go_ret
        refine ⟨(j : Int), rfl, ?_, rfl⟩
        have h2 : l.any (badKid n) = true := List.any_eq_true.2 ⟨y, by rw [← HY.out]; exact List.getElem_mem hlt, HB.out⟩
        rw [h2]
        simp
    · obtain rfl : j = l.length := by omega
      go_wp2
      go_ret
      refine ⟨-1, rfl, ?_, rfl⟩
      have h2 := HA.out
      rw [List.take_length] at h2
      rw [h2]
      rfl
theorem contains_node {w : World} {P : Nat → Prop} {v : Value} {l : List Int} (h : RdS w P 1 v l.length (intCells l)) (hl : l.length ≤ 1073741824) {b c : Nat} {an : Option Addr} {n cn : Nat} (hn : n ≤ 1073741824)
    (h0 : w.cell? ⟨c, 0, none⟩ = some (.pointer (some ⟨b, 0, none⟩))) (h1 : w.cell? ⟨b, 1, none⟩ = some (.slice an n cn)) :
    Calls Tryd.prog 30 #[v, .func (.func 31) #[] #[.pointer (some ⟨c, 0, none⟩)]] w fun e w' =>
      e = .returned (.bool (l.any (badKid n))) ∧ w = w' := by
  have HI := Lib.hid (index_node h hl hn h0 h1)
  clear h h0 h1
  go_enter Tryd.func30, Tryd.ntmps30
  go_wp2_with (go_at_call 51; refine HI.out.mono ?_; rintro e w1 ⟨r, rfl, hr, rfl⟩; have HR := Lib.hid hr; clear hr)
  go_ret
  exact ⟨by rw [← HR.out]; rfl, rfl⟩
end Go.Proofs.YtfoelgkkoopheaaDoor
