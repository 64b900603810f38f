/- slices.Index, slices.Contains at []bool. -/
import Derived.Test.YtfoelgkkoopheaaDoorForm
namespace Go.Proofs.YtfoelgkkoopheaaDoor
open Go.RowKit

def boolCells (l : List Bool) : List Value := l.map (.bool ·)

set_option maxRecDepth 100000 in
theorem index_bool {w : World} {P : Nat → Prop} {v : Value} {l : List Bool} (h : RdS w P 1 v l.length (boolCells l)) (hl : l.length ≤ 1073741824) :
    Calls Tryd.prog 55 #[v, .bool false] w fun e w' => ∃ r : Int, e = .returned (.int .i64 r) ∧ decide (0 ≤ r) = l.contains false ∧ w = w' := by
  obtain ⟨_, a, cl, rfl, _, hd⟩ := h
  have hl' : (l.length : Int) ≤ 1073741824 := by omega
  have HD := Lib.hid hd
  clear hd
  go_enter Tryd.func55, Tryd.ntmps55
  go_wp2
  go_loopg [8] l.length (fun k v8 wr => ∃ j : Nat, v8 = .int .i64 j ∧ k = l.length - j ∧ j ≤ l.length ∧ wr = w ∧ (l.take j).contains false = false)
  case atStart => exact ⟨0, rfl, rfl, Nat.zero_le _, rfl, by simp⟩
  case round =>
    obtain ⟨j, rfl, hk, hj, rfl, hall⟩ := hrel
    have HK := Lib.hid hk
    have HA := Lib.hid hall
    clear hk hall
    by_cases hlt : j < l.length
    · have hlt' : (j : Int) < (l.length : Int) := by omega
      obtain ⟨b2, off, rfl, _, hr⟩ := HD.out.resolve_left (fun h => by omega)
      have hcell : wr.cell? ⟨b2, off + j, none⟩ = some (.bool l[j]) := hr j _ (by simp [boolCells, List.getElem?_eq_getElem hlt])
      clear hr
      obtain ⟨y, hy⟩ : ∃ y, l[j] = y := ⟨_, rfl⟩
      rw [hy] at hcell
      have HY := Lib.hid hy
      clear hy
      cases y
      · go_wp2
        go_ret
        refine ⟨(j : Int), rfl, ?_, rfl⟩
        have h2 : l.contains false = true := by rw [List.contains_iff_mem, ← HY.out]; exact List.getElem_mem hlt
        rw [h2]
        simp
      · go_wp2
        go_roundg (l.length - (j + 1))
        case measure => have := HK.out; omega
        case rel =>
          refine ⟨j + 1, by go_num, rfl, by omega, rfl, ?_⟩
          rw [List.take_succ_eq_append_getElem hlt, HY.out]
          have := HA.out
          simp only [List.contains_eq_mem, decide_eq_false_iff_not] at this ⊢
          simp [this]
    · obtain rfl : j = l.length := by omega
      go_wp2
      go_ret
      refine ⟨-1, rfl, ?_, rfl⟩
      have h2 := HA.out
      rw [List.take_length] at h2
      rw [h2]
      rfl
theorem contains_bool {w : World} {P : Nat → Prop} {v : Value} {l : List Bool} (h : RdS w P 1 v l.length (boolCells l)) (hl : l.length ≤ 1073741824) :
    Calls Tryd.prog 37 #[v, .bool false] w fun e w' => e = .returned (.bool (l.contains false)) ∧ w = w' := by
  have HI := Lib.hid (index_bool h hl)
  clear h
  go_enter Tryd.func37, Tryd.ntmps37
  go_wp2_with (go_at_call 55; refine HI.out.mono ?_; rintro e w1 ⟨r, rfl, hr, rfl⟩; have HR := Lib.hid hr; clear hr)
  go_ret
  exact ⟨by rw [← HR.out]; rfl, rfl⟩
end Go.Proofs.YtfoelgkkoopheaaDoor
