/- lex: letter, digit, inside, run. -/
import Derived.Test.YtfoelgkkoopheaaDoorChecked
import Derived.Test.YtfoelgkkoopheaaDoorLexM
import Derived.WalkKit
import Derived.WalkSpells
import Derived.Lib.Hide
import Derived.Deep.LoopGhost
namespace Go.Proofs.YtfoelgkkoopheaaDoor
open Go.RowKit

theorem letter_calls (c : UInt8) (w : World) : Calls Tryd.prog 46 #[.int .u8 c.toNat] w fun e w' => e = .returned (.bool (Lx.letter c)) ∧ w = w' := by
  have e1 : Lx.letter c = ((decide (97 ≤ (c.toNat : Int)) && decide ((c.toNat : Int) ≤ 122)) || (decide (65 ≤ (c.toNat : Int)) && decide ((c.toNat : Int) ≤ 90))) := by
    unfold Lx.letter
    rw [Bool.eq_iff_iff]; simp [UInt8.le_iff_toNat_le]; omega
  rw [e1]
  have hc := c.toNat_lt
  have hc' : (c.toNat : Int) < 256 := by omega
  have hc0 : (0 : Int) ≤ (c.toNat : Int) := by omega
  clear e1 hc
  generalize (c.toNat : Int) = x at *
  by_cases a : 97 ≤ x <;> by_cases b : x ≤ 122 <;> by_cases d : 65 ≤ x <;> by_cases f : x ≤ 90
  all_goals
    first
    | (exfalso; omega)
    | (go_enter Tryd.func46, Tryd.ntmps46
       go_wp2
       go_ret
       exact ⟨by simp [*], rfl⟩)

theorem digit_calls (c : UInt8) (w : World) : Calls Tryd.prog 48 #[.int .u8 c.toNat] w fun e w' => e = .returned (.bool (Lx.digit c)) ∧ w = w' := by
  have e1 : Lx.digit c = (decide (48 ≤ (c.toNat : Int)) && decide ((c.toNat : Int) ≤ 57)) := by
    unfold Lx.digit
    rw [Bool.eq_iff_iff]; simp [UInt8.le_iff_toNat_le]; omega
  rw [e1]
  have hc := c.toNat_lt
  have hc' : (c.toNat : Int) < 256 := by omega
  have hc0 : (0 : Int) ≤ (c.toNat : Int) := by omega
  clear e1 hc
  generalize (c.toNat : Int) = x at *
  by_cases a : 48 ≤ x <;> by_cases b : x ≤ 57
  all_goals
    first
    | (exfalso; omega)
    | (go_enter Tryd.func48, Tryd.ntmps48
       go_wp2
       go_ret
       exact ⟨by simp [*], rfl⟩)
end Go.Proofs.YtfoelgkkoopheaaDoor
