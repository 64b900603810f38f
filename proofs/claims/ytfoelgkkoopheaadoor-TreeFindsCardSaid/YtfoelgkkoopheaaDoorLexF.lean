/- lex: the token with which a text begins. -/
import Derived.Test.YtfoelgkkoopheaaDoorLexE
namespace Go.Proofs.YtfoelgkkoopheaaDoor
open Go.RowKit

theorem signs_at (w : World) : ∀ j : Nat, j < 22 → (Instr.index 89 (.agg signsA) (.int .i64 j)).run Tryd.prog w = .ok (.string ⟨(Lx.signList.getD j []).toArray⟩) w := by
  intro j hj
  match j, hj with
  | 0, _ | 1, _ | 2, _ | 3, _ | 4, _ | 5, _ | 6, _ | 7, _ | 8, _ | 9, _ | 10, _ | 11, _ | 12, _ | 13, _ | 14, _ | 15, _ | 16, _ | 17, _ | 18, _ | 19, _ | 20, _ | 21, _ => refine Eq.trans ?_ rfl; kernel_rfl
  | n + 22, h => omega

/-- The signs from a place on. -/
theorem signs_drop {j : Nat} (hj : j < 22) : Lx.signList.drop j = Lx.signList.getD j [] :: Lx.signList.drop (j + 1) := by
  match j, hj with
  | 0, _ | 1, _ | 2, _ | 3, _ | 4, _ | 5, _ | 6, _ | 7, _ | 8, _ | 9, _ | 10, _ | 11, _ | 12, _ | 13, _ | 14, _ | 15, _ | 16, _ | 17, _ | 18, _ | 19, _ | 20, _ | 21, _ => rfl
  | n + 22, h => omega

theorem signs_some : ∃ S : Array Value, S.size = 22 ∧ (∀ (w : World) (j : Nat), j < 22 → (Instr.index 89 (.agg S) (.int .i64 j)).run Tryd.prog w = .ok (.string ⟨(Lx.signList.getD j []).toArray⟩) w) ∧ ∀ w, Calls Tryd.prog 50 #[] w fun e w' => e = .returned (.agg S) ∧ w.alloc (.cells S 89) = w' :=
  ⟨signsA, rfl, signs_at, signs_calls⟩

def TokSays (l : List UInt8) (e : Ending) : Prop := e = .returned (.tuple #[.int .i64 (Lx.token l).1, .string ⟨(Lx.token l).2.1.toArray⟩, .int .i64 (Lx.token l).2.2])

set_option maxRecDepth 100000 in
theorem token_calls (l : List UInt8) (hl : l.length ≤ 1073741824) (w : World) :
    Calls Tryd.prog 27 #[.string ⟨l.toArray⟩] w fun e w' => TokSays l e ∧ Below w.heap.size w w' := by
  obtain ⟨S, hsz, hsa, hsc⟩ := signs_some
  have HSA := Lib.hid hsa
  have HSC := fun w => Lib.hid (hsc w)
  clear hsa hsc
  cases hc0 : l with
  | nil =>
    go_enter Tryd.func27, Tryd.ntmps27
    go_wp2
    go_ret3
    exact ⟨rfl, Below.refl _ _⟩
  | cons c t =>
    rw [← hc0]
    have hlen : 0 < l.length := by rw [hc0]; simp
    have hlen' : 0 < (l.length : Int) := by omega
    have hget : l[0]'hlen = c := by simp [hc0]
    have hne : l.isEmpty = false := by rw [hc0]; rfl
    have HE := Lib.hid (show Lx.token l = if Lx.letter c then Lx.word l else if Lx.digit c then Lx.number l else match Lx.signList.find? (fun x => x.isPrefixOf l) with | some x => (4, x, 0) | none => (0, [], 20) from by rw [hc0]; rfl)
    clear hc0
    have HL := fun w => Lib.hid (letter_calls (l[0]'hlen) w)
    have HD := fun w => Lib.hid (digit_calls (l[0]'hlen) w)
    rw [← hget] at HE
    cases hlet : Lx.letter (l[0]'hlen)
    · rw [hlet] at HL HE
      clear hlet
      simp only [Bool.false_eq_true, if_false] at HE
      cases hdig : Lx.digit (l[0]'hlen)
      · rw [hdig] at HD HE
        clear hdig
        simp only [Bool.false_eq_true, if_false] at HE
        go_enter Tryd.func27, Tryd.ntmps27
        go_wp2_with (first
          | (go_at_call 46; refine (HL _).out.mono ?_; rintro e w1 ⟨rfl, rfl⟩)
          | (go_at_call 48; refine (HD _).out.mono ?_; rintro e w1 ⟨rfl, rfl⟩)
          | (go_at_call 50; refine (HSC _).out.mono ?_; rintro e w2 ⟨rfl, rfl⟩))
        go_loopg [29, 6] 22 (fun k i _ wr => ∃ j : Nat, k = 22 - j ∧ j ≤ 22 ∧ i = .int .i64 j ∧ (Lx.signList.find? (fun x => x.isPrefixOf l) = (Lx.signList.drop j).find? (fun x => x.isPrefixOf l)) ∧ Below w.heap.size w wr)
        case atStart => exact ⟨0, by omega, by omega, rfl, rfl, (Below.refl _ _).alloc (Nat.le_refl _) _⟩
        case round =>
          obtain ⟨j, hk, hj, rfl, hf, hb⟩ := hrel
          have HK := Lib.hid hk
          have HF := Lib.hid hf
          have HB := Lib.hid hb
          clear hk hf hb
          by_cases hlt : j < 22
          · have hlt' : (j : Int) < 22 := by omega
            have hs := fun w => (HSA.out w j hlt)
            have HS := Lib.hid (signs_drop hlt)
            generalize Lx.signList.getD j [] = x at *
            cases hp : x.isPrefixOf l
            · have HP := fun w => Lib.hid (hp ▸ pre2_calls l x w)
              have HN := Lib.hid hp
              clear hp
              go_wp2_with (go_at_call 44; refine (HP _).out.mono ?_; rintro e w2 ⟨rfl, rfl⟩)
              go_roundg (22 - (j + 1))
              case measure => have := HK.out; omega
              case rel => exact ⟨j + 1, rfl, by omega, by go_num, by rw [HF.out, HS.out, List.find?_cons, HN.out], HB.out⟩
            · have HP := fun w => Lib.hid (hp ▸ pre2_calls l x w)
              have HN := Lib.hid hp
              clear hp
              go_wp2_with (go_at_call 44; refine (HP _).out.mono ?_; rintro e w2 ⟨rfl, rfl⟩)
              go_ret3
              have e1 : Lx.signList.find? (fun x => x.isPrefixOf l) = some x := by rw [HF.out, HS.out, List.find?_cons, HN.out]
              refine ⟨?_, HB.out⟩
              unfold TokSays
              rw [HE.out, e1]
              rfl
          · obtain rfl : j = 22 := by omega
            go_wp2
            go_ret3
            have e1 : Lx.signList.find? (fun x => x.isPrefixOf l) = none := by rw [HF.out]; rfl
            refine ⟨?_, HB.out⟩
            unfold TokSays
            rw [HE.out, e1]
            rfl
      · rw [hdig] at HD HE
        clear hdig
        simp only [if_true] at HE
        go_enter Tryd.func27, Tryd.ntmps27
        go_wp2_with (first
          | (go_at_call 46; refine (HL _).out.mono ?_; rintro e w1 ⟨rfl, rfl⟩)
          | (go_at_call 48; refine (HD _).out.mono ?_; rintro e w1 ⟨rfl, rfl⟩)
          | (go_at_call 49; refine (number_calls l hl _).mono ?_; rintro e w2 ⟨rfl, rfl⟩))
        go_ret3
        refine ⟨?_, Below.refl _ _⟩
        unfold TokSays
        rw [HE.out]
        rfl
    · rw [hlet] at HL HE
      clear hlet
      simp only [if_true] at HE
      go_enter Tryd.func27, Tryd.ntmps27
      go_wp2_with (first
        | (go_at_call 46; refine (HL _).out.mono ?_; rintro e w1 ⟨rfl, rfl⟩)
        | (go_at_call 47; refine (word_calls l hl _).mono ?_; rintro e w2 ⟨rfl, hb⟩; have HB := Lib.hid hb; clear hb))
      go_ret3
      refine ⟨?_, HB.out⟩
      unfold TokSays
      rw [HE.out]
      rfl
end Go.Proofs.YtfoelgkkoopheaaDoor
