/- LaneFair: for all two numbers the law returns true. No condition. -/
import Derived.Test.YtbgopncknlammaaClose
import Derived.Test.YtbgopncknlammaaLaneF
namespace Go.Proofs.Ytbgopncknlammaa
open Go.ChangeShapes Go.WideShapes Go.ChangeAt Go.RowKit

theorem fair_out (a n : Int) (w : World) (h : a < 0 ∨ 20 < a ∨ n < 0 ∨ 40 < n) :
    Calls Try.prog 4 #[.int .i64 a, .int .i64 n] w fun e w' => e = .returned (.bool true) ∧ Below w.heap.size w w' := by
  have key : (a < 0) ∨ (¬ a < 0 ∧ 20 < a) ∨ (¬ a < 0 ∧ ¬ 20 < a ∧ n < 0) ∨ (¬ a < 0 ∧ ¬ 20 < a ∧ ¬ n < 0 ∧ 40 < n) := by omega
  clear h
  rcases key with h1 | ⟨h1, h2⟩ | ⟨h1, h2, h3⟩ | ⟨h1, h2, h3, h4⟩
  all_goals
    go_enter Try.func4, Try.ntmps4
    go_wp2_with (go_at_call 6; refine (anchor_calls _).mono ?_; rintro e w1 ⟨rfl, hb1⟩; have HB1 := Lib.hid hb1; clear hb1)
    go_ret
    exact ⟨rfl, HB1.out⟩

theorem fair_any (a n : Int) (w : World) :
    Calls Try.prog 4 #[.int .i64 a, .int .i64 n] w fun e w' => e = .returned (.bool true) ∧ Below w.heap.size w w' := by
  by_cases h : a < 0 ∨ 20 < a ∨ n < 0 ∨ 40 < n
  · exact fair_out a n w h
  · obtain ⟨a', rfl⟩ := Int.eq_ofNat_of_zero_le (show 0 ≤ a by omega)
    obtain ⟨n', rfl⟩ := Int.eq_ofNat_of_zero_le (show 0 ≤ n by omega)
    exact fair_calls a' n' w (by omega) (by omega)

theorem fOwn : ownKnob Try.prog.godebug = none := by kernel_rfl
theorem fLaidOut : laidOutB Try.prog = true := by kernel_rfl

set_option maxRecDepth 100000 in
theorem fair_lifted (os : Os) (started : os.Started) (H : Type) (enc : TypeId × Value → H) :
    ReturnsInHanded {} Try.checked os 4 .any (Rows.laneFairSpec.pre6 enc Try.prog Try.f4 Rows.laneFairRow.domain false) (Rows.laneFairSpec.post enc Try.prog Try.f4 false true false false) := by
  refine returnsInHanded_of_change (C := Try.checked) fOwn started (by kernel_rfl) Try.func4
    (ChangeSpec.witness6 (enc := enc) (C := Try.checked) false ⟨#[], #[.int .i64 0, .int .i64 0], []⟩ 8 (by kernel_rfl) (by kernel_rfl) (by kernel_rfl) (by kernel_rfl)) ?_
  intro W base args ds gs before hval hW _ _
  obtain ⟨p, q, hA, _⟩ := id hW
  have hA' : DataW.TrodAll enc Try.prog W 0 (fun _ => true) true Try.f4.params.toList args.toList ds p := hA
  have hval' := hval
  rw [Try.params4] at hA' hval'
  obtain ⟨v0, v1, d0, d1, p0, p1, rfl, rfl, rfl, h0, h1⟩ := trodAll_two hA'
  obtain ⟨a, rfl, _⟩ := open_int Try.underlying3 (hval' 0 3 v0 rfl rfl) h0
  obtain ⟨n, rfl, _⟩ := open_int Try.underlying3 (hval' 1 3 v1 rfl rfl) h1
  exact law_contract (s := Rows.laneFairSpec) fLaidOut (by kernel_rfl) rfl Try.underlying4 rfl ⟨rfl, rfl, rfl⟩ hval hW (fun _ _ _ _ _ => fair_any a n W)

theorem lane_fair : Rows.LaneFairSaid :=
  OpenClaim.holds_of_wide 4 Try.f4 rfl rfl rfl rfl rfl rfl rfl ⟨rfl, rfl, rfl, rfl, rfl⟩ rfl rfl rfl rfl rfl (by kernel_rfl) Try.func4 (by kernel_rfl)
    (of_decide_eq_true (by kernel_rfl)) (by unfold Func.isWrapper; first | (rw [if_pos (by decide +kernel)]; kernel_rfl) | (rw [if_neg (by decide +kernel)]; exact ⟨rfl, rfl⟩))
    (fun os started H enc _ => fair_lifted os started H enc)

#print axioms lane_fair
end Go.Proofs.Ytbgopncknlammaa
