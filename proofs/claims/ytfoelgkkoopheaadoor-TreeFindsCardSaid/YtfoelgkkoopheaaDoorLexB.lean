/- lex: inside, run. -/
import Derived.Test.YtfoelgkkoopheaaDoorLexA
import Derived.Test.YtfoelgkkoopheaaDoorTxt
namespace Go.Proofs.YtfoelgkkoopheaaDoor
open Go.RowKit

theorem inside_calls (c : UInt8) (w : World) : Calls Tryd.prog 64 #[.int .u8 c.toNat] w fun e w' => e = .returned (.bool (Lx.inside c)) ∧ w = w' := by
  have h1 := Lib.hid (letter_calls c w)
  have h2 := Lib.hid (digit_calls c w)
  have e1 : Lx.inside c = (Lx.letter c || Lx.digit c || ((c.toNat : Int) == 95)) := by
    unfold Lx.inside
    congr 1
    rw [Bool.eq_iff_iff]; simp [← UInt8.toNat_inj]; omega
  rw [e1]
  clear e1
  cases hl : Lx.letter c
  · rw [hl] at h1
    cases hd : Lx.digit c
    · rw [hd] at h2
      clear hl hd
      go_enter Tryd.func64, Tryd.ntmps64
      go_wp2_with (first
        | (go_at_call 46; refine h1.out.mono ?_; rintro e w' ⟨rfl, rfl⟩)
        | (go_at_call 48; refine h2.out.mono ?_; rintro e w' ⟨rfl, rfl⟩))
      go_ret
      exact ⟨by simp, rfl⟩
    · rw [hd] at h2
      clear hl hd
      go_enter Tryd.func64, Tryd.ntmps64
      go_wp2_with (first
        | (go_at_call 46; refine h1.out.mono ?_; rintro e w' ⟨rfl, rfl⟩)
        | (go_at_call 48; refine h2.out.mono ?_; rintro e w' ⟨rfl, rfl⟩))
      go_ret
      exact ⟨by simp, rfl⟩
  · rw [hl] at h1
    clear hl
    go_enter Tryd.func64, Tryd.ntmps64
    go_wp2_with (go_at_call 46; refine h1.out.mono ?_; rintro e w' ⟨rfl, rfl⟩)
    go_ret
    exact ⟨by simp, rfl⟩

theorem run_inside (l : List UInt8) (hl : l.length ≤ 1073741824) (w : World) :
    Calls Tryd.prog 63 #[.string ⟨l.toArray⟩, .func (.func 64) #[] #[]] w fun e w' => e = .returned (.string ⟨(l.takeWhile Lx.inside).toArray⟩) ∧ w = w' := by
  have hl' : (l.length : Int) ≤ 1073741824 := by omega
  go_enter Tryd.func63, Tryd.ntmps63
  go_wp2_with fail
  go_loopg [5] l.length (fun k i wr => ∃ j : Nat, k = l.length - j ∧ j ≤ l.length ∧ i = .int .i64 j ∧ ((l.take j).all Lx.inside) = true ∧ wr = w)
  case atStart => exact ⟨0, by omega, by omega, rfl, rfl, rfl⟩
  case round =>
    obtain ⟨j, hk, hj, rfl, hall, rfl⟩ := hrel
    have HK := Lib.hid hk
    have HA := Lib.hid hall
    clear hk hall
    by_cases hlt : j < l.length
    · have hlt' : (j : Int) < (l.length : Int) := by omega
      have hget : l[j]? = some l[j] := List.getElem?_eq_getElem hlt
      cases hp : Lx.inside l[j]
      · have hc := inside_calls l[j] wr
        rw [hp] at hc
        have HC := Lib.hid hc
        clear hc
        go_wp2_with (go_at_call 64; refine HC.out.mono ?_; rintro e w' ⟨rfl, rfl⟩)
        go_ret
        exact ⟨by rw [tx_extract, takeWhile_stop hlt HA.out hp]; simp, rfl⟩
      · have hc := inside_calls l[j] wr
        rw [hp] at hc
        have HC := Lib.hid hc
        clear hc
        go_wp2_with (go_at_call 64; refine HC.out.mono ?_; rintro e w' ⟨rfl, rfl⟩)
        go_roundg (l.length - (j + 1))
        case measure => have := HK.out; omega
        case rel => exact ⟨j + 1, rfl, by omega, by go_num, take_all_succ hlt HA.out hp, rfl⟩
    · obtain rfl : j = l.length := by omega
      go_wp2
      go_ret
      have h := HA.out
      rw [List.take_length] at h
      exact ⟨by rw [tx_extract, takeWhile_whole h]; simp, rfl⟩

theorem run_digit (l : List UInt8) (hl : l.length ≤ 1073741824) (w : World) :
    Calls Tryd.prog 63 #[.string ⟨l.toArray⟩, .func (.func 48) #[] #[]] w fun e w' => e = .returned (.string ⟨(l.takeWhile Lx.digit).toArray⟩) ∧ w = w' := by
  have hl' : (l.length : Int) ≤ 1073741824 := by omega
  go_enter Tryd.func63, Tryd.ntmps63
  go_wp2_with fail
  go_loopg [5] l.length (fun k i wr => ∃ j : Nat, k = l.length - j ∧ j ≤ l.length ∧ i = .int .i64 j ∧ ((l.take j).all Lx.digit) = true ∧ wr = w)
  case atStart => exact ⟨0, by omega, by omega, rfl, rfl, rfl⟩
  case round =>
    obtain ⟨j, hk, hj, rfl, hall, rfl⟩ := hrel
    have HK := Lib.hid hk
    have HA := Lib.hid hall
    clear hk hall
    by_cases hlt : j < l.length
    · have hlt' : (j : Int) < (l.length : Int) := by omega
      have hget : l[j]? = some l[j] := List.getElem?_eq_getElem hlt
      cases hp : Lx.digit l[j]
      · have hc := digit_calls l[j] wr
        rw [hp] at hc
        have HC := Lib.hid hc
        clear hc
        go_wp2_with (go_at_call 48; refine HC.out.mono ?_; rintro e w' ⟨rfl, rfl⟩)
        go_ret
        exact ⟨by rw [tx_extract, takeWhile_stop hlt HA.out hp]; simp, rfl⟩
      · have hc := digit_calls l[j] wr
        rw [hp] at hc
        have HC := Lib.hid hc
        clear hc
        go_wp2_with (go_at_call 48; refine HC.out.mono ?_; rintro e w' ⟨rfl, rfl⟩)
        go_roundg (l.length - (j + 1))
        case measure => have := HK.out; omega
        case rel => exact ⟨j + 1, rfl, by omega, by go_num, take_all_succ hlt HA.out hp, rfl⟩
    · obtain rfl : j = l.length := by omega
      go_wp2
      go_ret
      have h := HA.out
      rw [List.take_length] at h
      exact ⟨by rw [tx_extract, takeWhile_whole h]; simp, rfl⟩
end Go.Proofs.YtfoelgkkoopheaaDoor
