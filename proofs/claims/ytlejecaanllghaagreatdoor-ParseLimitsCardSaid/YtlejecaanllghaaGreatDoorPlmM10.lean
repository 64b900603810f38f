/- Contracts and plain laws, in one text. ParseLimits: the walk. | ParseLimits: for every four numbers the law returns true. Condition: the listed package-level variables are laid as the program's text lays them (the card ties them). -/
import Derived.Test.YtlejecaanllghaaGreatDoorPlmM4
import Derived.Test.YtlejecaanllghaaGreatDoorPlmM9
import Derived.Test.YtlejecaanllghaaGreatDoorPlmM1
/- ParseLimits: the walk. -/
namespace Go.Proofs.YtlejecaanllghaaGreatDoor
open Go.RowKit

/-- What is wanted behind a loop's round. -/
def Lm.st (q : Int × Int) (n p k : Nat) : Int × Int := if q.1 = 0 ∧ n < k then (15, (p : Int)) else q
theorem Lm.st_next {q : Int × Int} {n p k len : Nat} {c : Int} (hc : c = (n : Int)) (hlen : k = n → len = p) : Lm.note ((k : Int) == c) len (Lm.st q n p k) = Lm.st q n p (k + 1) := by
  subst hc
  by_cases hk : k = n
  · subst hk
    have h1 : Lm.st q k p k = q := if_neg (fun h => absurd h.2 (Nat.lt_irrefl k))
    rw [h1, hlen rfl]
    unfold Lm.note Lm.st
    by_cases hq : q.1 = 0
    · rw [if_pos ⟨by simp, hq⟩, if_pos ⟨hq, Nat.lt_succ_self _⟩]
    · rw [if_neg (fun h => hq h.2), if_neg (fun h => hq h.1)]
  · have h1 : ((k : Int) == (n : Int)) = false := by
      have : (k : Int) ≠ (n : Int) := by omega
      simpa using this
    unfold Lm.note
    rw [h1, if_neg (fun h => absurd h.1 (by decide))]
    unfold Lm.st
    by_cases hk2 : q.1 = 0 ∧ n < k
    · rw [if_pos hk2, if_pos ⟨hk2.1, by omega⟩]
    · rw [if_neg hk2, if_neg (fun h => hk2 ⟨h.1, by omega⟩)]
theorem Lm.st_zero (q : Int × Int) (n p : Nat) : Lm.st q n p 0 = q := if_neg (fun h => absurd h.2 (Nat.not_lt_zero _))
theorem Lm.st_eq (i d p a : Nat) (h : d ≤ 70) : Lm.st (Lm.st (Lm.note (decide ((64 : Int) ≤ (d : Int))) (i * 9 + d * 14) (Lm.st (Lm.st (0, 0) 16 144 i) 64 (i * 9 + 896) d)) 8 (i * 9 + d * 14 + 54) p) 8 (i * 9 + d * 14 + (Lm.sep p Lm.parC).length + 30) a = Lm.want i d p a := by
  unfold Lm.want
  have h15 : ¬ (15 : Int) = 0 := by decide
  by_cases h16 : 16 < i
  · have e1 : Lm.st (0, 0) 16 144 i = (15, 144) := if_pos ⟨rfl, h16⟩
    have e2 : Lm.st (15, 144) 64 (i * 9 + 896) d = (15, 144) := if_neg (fun h => h15 h.1)
    have e3 : Lm.note (decide ((64 : Int) ≤ (d : Int))) (i * 9 + d * 14) (15, 144) = (15, 144) := if_neg (fun h => h15 h.2)
    have e4 : Lm.st (15, 144) 8 (i * 9 + d * 14 + 54) p = (15, 144) := if_neg (fun h => h15 h.1)
    have e5 : Lm.st (15, 144) 8 (i * 9 + d * 14 + (Lm.sep p Lm.parC).length + 30) a = (15, 144) := if_neg (fun h => h15 h.1)
    rw [e1, e2, e3, e4, e5, if_pos h16]
  · have e1 : Lm.st (0, 0) 16 144 i = (0, 0) := if_neg (fun h => h16 h.2)
    rw [e1, if_neg h16]
    have eD : Lm.note (decide ((64 : Int) ≤ (d : Int))) (i * 9 + d * 14) (Lm.st (0, 0) 64 (i * 9 + 896) d) = if 64 ≤ d then (15, ((i * 9 + 896 : Nat) : Int)) else (0, 0) := by
      by_cases h64 : 64 < d
      · have e2 : Lm.st (0, 0) 64 (i * 9 + 896) d = (15, ((i * 9 + 896 : Nat) : Int)) := if_pos ⟨rfl, h64⟩
        rw [e2, if_pos (by omega)]
        exact if_neg (fun h => h15 h.2)
      · have e2 : Lm.st (0, 0) 64 (i * 9 + 896) d = (0, 0) := if_neg (fun h => h64 h.2)
        rw [e2]
        by_cases he : d = 64
        · subst he
          rw [if_pos (Nat.le_refl _)]
          exact if_pos ⟨rfl, rfl⟩
        · rw [if_neg (by omega)]
          have : decide ((64 : Int) ≤ (d : Int)) = false := by
            rw [decide_eq_false_iff_not]
            omega
          exact if_neg (fun h => by rw [this] at h; exact absurd h.1 (by decide))
    rw [eD]
    by_cases h64 : 64 ≤ d
    · rw [if_pos h64, if_pos h64]
      have e4 : Lm.st (15, ((i * 9 + 896 : Nat) : Int)) 8 (i * 9 + d * 14 + 54) p = (15, ((i * 9 + 896 : Nat) : Int)) := if_neg (fun h => h15 h.1)
      rw [e4]
      exact if_neg (fun h => h15 h.1)
    · rw [if_neg h64, if_neg h64]
      by_cases hp : 8 < p
      · have e4 : Lm.st (0, 0) 8 (i * 9 + d * 14 + 54) p = (15, ((i * 9 + d * 14 + 54 : Nat) : Int)) := if_pos ⟨rfl, hp⟩
        rw [e4, if_pos hp]
        exact if_neg (fun h => h15 h.1)
      · have e4 : Lm.st (0, 0) 8 (i * 9 + d * 14 + 54) p = (0, 0) := if_neg (fun h => hp h.2)
        rw [e4, if_neg hp]
        by_cases ha : 8 < a
        · rw [if_pos ha]
          exact if_pos ⟨rfl, ha⟩
        · rw [if_neg ha]
          exact if_neg (fun h => ha h.2)
theorem Lm.sep_step (n : Nat) (c : List UInt8) : Lm.sep (n + 1) c = if n = 0 then c else Lm.sep n c ++ [44] ++ c := by
  cases n with
  | zero => exact Lm.sep_one c
  | succ n => rw [if_neg (by omega)]; exact Lm.sep_next n c
theorem Lm.sep_le (n : Nat) (c : List UInt8) : (Lm.sep n c).length ≤ n * (c.length + 1) := by
  cases n with
  | zero => simp [Lm.sep]
  | succ n =>
    simp only [Lm.sep, List.length_append, Lm.reps_len, List.length_cons, List.length_nil, Nat.succ_mul, Nat.zero_add]
    omega

set_option maxRecDepth 100000 in
set_option maxHeartbeats 8000000 in
theorem plimits_any (i d p a : Int) (w0 : World) : Calls Tryz.prog 3 #[.int .i64 i, .int .i64 d, .int .i64 p, .int .i64 a] w0 fun e w' => e = .returned (.bool true) ∧ Below w0.heap.size w0 w' := by
  have HAN := Lib.hid (panchor_calls w0)
  by_cases hgood : 0 ≤ i ∧ i ≤ 20 ∧ 0 ≤ d ∧ d ≤ 70 ∧ 0 ≤ p ∧ p ≤ 12 ∧ 0 ≤ a ∧ a ≤ 12
  · obtain ⟨g1, g2, g3, g4, g5, g6, g7, g8⟩ := hgood
    obtain ⟨I, rfl⟩ : ∃ I : Nat, i = (I : Int) := ⟨i.toNat, by omega⟩
    obtain ⟨D, rfl⟩ : ∃ D : Nat, d = (D : Int) := ⟨d.toNat, by omega⟩
    obtain ⟨P, rfl⟩ : ∃ P : Nat, p = (P : Int) := ⟨p.toNat, by omega⟩
    obtain ⟨A, rfl⟩ : ∃ A : Nat, a = (A : Int) := ⟨a.toNat, by omega⟩
    have HI : Hid (I ≤ 20 ∧ D ≤ 70 ∧ P ≤ 12 ∧ A ≤ 12) := Lib.hid ⟨by omega, by omega, by omega, by omega⟩
    have hmf : ∀ (fn : Fn) (first cap : Array Value) (w : World), (Instr.makeFunc fn first cap).run Tryz.prog w = .ok (.func fn first cap) w := fun _ _ _ _ => rfl
    go_enter Tryz.func3, Tryz.ntmps3
    go_wp2_with fail
    refine HAN.out.mono ?_
    rintro e w ⟨rfl, hb0⟩
    have H0 := Lib.hid hb0
    clear hb0
    dsimp only
    go_wp2_with fail
    obtain ⟨V0, hV0⟩ : ∃ V, (w.alloc (.cells #[.string ⟨#[]⟩] 9)).alloc (.cells #[.int .i64 0, .int .i64 0] 25) = V := ⟨_, rfl⟩
    have hl := lims_new w [] (0, 0)
    replace hl : Lims w V0 [] (0, 0) := by rw [← hV0]; exact hl
    rw [hV0]
    have HL := Lib.hid hl
    clear hl hV0 g1 g2 g3 g4 g5 g6 g7 g8
    go_loopg [53] I (fun k v53 wr => ∃ j : Nat, v53 = .int .i64 j ∧ j ≤ I ∧ k = I - j ∧ Lims w wr (Lm.reps j Lm.impC) (Lm.st (0, 0) 16 144 j))
    case atStart =>
      refine ⟨0, rfl, Nat.zero_le _, rfl, ?_⟩
      rw [Lm.st_zero]
      exact (by simpa [Lm.reps] using HL.out)
    case round =>
      obtain ⟨j, rfl, hjn, rfl, hl⟩ := hrel
      have HJ := Lib.hid (And.intro hjn hl)
      clear hjn hl HL
      by_cases hj : j < I
      · have hj2 : (j : Int) < (I : Int) := by omega
        have HB : Hid ((Lm.reps j Lm.impC).length ≤ 4000) := Lib.hid (by have := HI.out; rw [Lm.reps_len, show Lm.impC.length = 9 from rfl]; omega)
        go_wp2_with fail
        refine (note_calls HJ.out.2 _).mono ?_
        rintro e W2 ⟨rfl, h⟩
        have hs : Lm.note ((j : Int) == 16) (Lm.reps j Lm.impC).length (Lm.st (0, 0) 16 144 j) = Lm.st (0, 0) 16 144 (j + 1) := Lm.st_next rfl (fun e => by subst e; rfl)
        first
          | rw [hs] at h
          | (rw [show ((j : Int) == 16) = false from by rw [show (j : Int) = 0 by omega]; rfl] at hs; rw [hs] at h)
        clear hs
        have HN := Lib.hid h
        have c0 := cell_of_heap h.s 0 rfl
        have f0 := frozen_of_heap h.s 0
        clear h
        dsimp only
        go_wp2_with (refine wpList_cat rfl _ _ _ _ rfl rfl rfl (by have hb := HB.out; (try simp only [List.length_append] at hb); (try simp only [List.length_append, List.length_cons, List.length_nil]); omega) ?_)
        go_roundg (I - (j + 1))
        case measure => omega
        case rel =>
          refine ⟨j + 1, by go_num, by omega, rfl, ?_⟩
          have h := HN.out.put ((Lm.reps j Lm.impC) ++ Lm.impC)
          have e : (Lm.reps (j + 1) Lm.impC) = (Lm.reps j Lm.impC) ++ Lm.impC := by rw [Lm.reps_back]
          rw [e]
          first
            | exact h
            | simpa [List.append_assoc, Lm.impC] using h
      · obtain rfl : I = j := by have := HJ.out.1; omega
        have HL := Lib.hid HJ.out.2
        clear HJ
        obtain ⟨A1, hA⟩ : ∃ x, Lm.reps I Lm.impC = x := ⟨_, rfl⟩
        obtain ⟨q1, hq⟩ : ∃ x, Lm.st (0, 0) 16 144 I = x := ⟨_, rfl⟩
        have hl := HL.out
        rw [hA, hq] at hl
        replace HL := Lib.hid hl
        have HA1 : Hid (A1.length = I * 9) := Lib.hid (by rw [← hA]; rw [Lm.reps_len]; rfl)
        have XA1 := Lib.hid hA
        have Xq1 := Lib.hid hq
        clear hA hq hl
        go_wp2_with fail
        go_loopg [64] D (fun k v64 wr => ∃ j : Nat, v64 = .int .i64 j ∧ j ≤ D ∧ k = D - j ∧ Lims w wr (A1 ++ Lm.reps j Lm.defC) (Lm.st q1 64 (I * 9 + 896) j))
        case atStart =>
          refine ⟨0, rfl, Nat.zero_le _, rfl, ?_⟩
          rw [Lm.st_zero]
          exact (by simpa [Lm.reps] using HL.out)
        case round =>
          obtain ⟨j, rfl, hjn, rfl, hl⟩ := hrel
          have HJ := Lib.hid (And.intro hjn hl)
          clear hjn hl HL
          by_cases hj : j < D
          · have hj2 : (j : Int) < (D : Int) := by omega
            have HB : Hid ((A1 ++ Lm.reps j Lm.defC).length ≤ 4000) := Lib.hid (by have := HI.out; rw [List.length_append, HA1.out]; rw [Lm.reps_len, show Lm.defC.length = 14 from rfl]; omega)
            go_wp2_with fail
            refine (note_calls HJ.out.2 _).mono ?_
            rintro e W2 ⟨rfl, h⟩
            have hs : Lm.note ((j : Int) == 64) (A1 ++ Lm.reps j Lm.defC).length (Lm.st q1 64 (I * 9 + 896) j) = Lm.st q1 64 (I * 9 + 896) (j + 1) := Lm.st_next rfl (fun e => by subst e; rw [List.length_append, HA1.out]; rw [Lm.reps_len, show Lm.defC.length = 14 from rfl]; (try omega))
            first
              | rw [hs] at h
              | (rw [show ((j : Int) == 64) = false from by rw [show (j : Int) = 0 by omega]; rfl] at hs; rw [hs] at h)
            clear hs
            have HN := Lib.hid h
            have c0 := cell_of_heap h.s 0 rfl
            have f0 := frozen_of_heap h.s 0
            clear h
            dsimp only
            go_wp2_with (refine wpList_cat rfl _ _ _ _ rfl rfl rfl (by have hb := HB.out; (try simp only [List.length_append] at hb); (try simp only [List.length_append, List.length_cons, List.length_nil]); omega) ?_)
            go_roundg (D - (j + 1))
            case measure => omega
            case rel =>
              refine ⟨j + 1, by go_num, by omega, rfl, ?_⟩
              have h := HN.out.put ((A1 ++ Lm.reps j Lm.defC) ++ Lm.defC)
              have e : (A1 ++ Lm.reps (j + 1) Lm.defC) = (A1 ++ Lm.reps j Lm.defC) ++ Lm.defC := by rw [Lm.reps_back, List.append_assoc]
              rw [e]
              first
                | exact h
                | simpa [List.append_assoc, Lm.defC] using h
          · obtain rfl : D = j := by have := HJ.out.1; omega
            have HL := Lib.hid HJ.out.2
            clear HJ
            obtain ⟨A2, hA⟩ : ∃ x, A1 ++ Lm.reps D Lm.defC = x := ⟨_, rfl⟩
            obtain ⟨q2, hq⟩ : ∃ x, Lm.st q1 64 (I * 9 + 896) D = x := ⟨_, rfl⟩
            have hl := HL.out
            rw [hA, hq] at hl
            replace HL := Lib.hid hl
            have HA2 : Hid (A2.length = I * 9 + D * 14) := Lib.hid (by rw [← hA]; rw [List.length_append, HA1.out, Lm.reps_len]; rfl)
            have XA2 := Lib.hid hA
            have Xq2 := Lib.hid hq
            clear hA hq hl
            have HB : Hid (A2.length ≤ 4000) := Lib.hid (by have := HI.out; have := HA2.out; omega)
            go_wp2_with fail
            refine (note_calls HL.out _).mono ?_
            rintro e W2 ⟨rfl, h⟩
            rw [HA2.out] at h
            replace h : Lims w W2 A2 (Lm.note (decide ((64 : Int) ≤ (D : Int))) (I * 9 + D * 14) q2) := h
            obtain ⟨q3, hq⟩ : ∃ x, Lm.note (decide ((64 : Int) ≤ (D : Int))) (I * 9 + D * 14) q2 = x := ⟨_, rfl⟩
            rw [hq] at h
            have Xq3 := Lib.hid hq
            replace HL := Lib.hid (h.put (A2 ++ Lm.gC))
            have c0 := cell_of_heap h.s 0 rfl
            have f0 := frozen_of_heap h.s 0
            clear h hq
            dsimp only
            go_wp2_with (refine wpList_cat rfl _ _ _ _ rfl rfl rfl (by have hb := HB.out; (try simp only [List.length_append] at hb); (try simp only [List.length_append, List.length_cons, List.length_nil]); omega) ?_)
            clear c0 f0
            obtain ⟨A3, hA⟩ : ∃ x, A2 ++ Lm.gC = x := ⟨_, rfl⟩
            have hl := HL.out
            rw [hA] at hl
            replace HL := Lib.hid hl
            have HA3 : Hid (A3.length = I * 9 + D * 14 + 6) := Lib.hid (by rw [← hA, List.length_append, HA2.out]; rfl)
            have hA2 : A2 ++ [102, 117, 110, 32, 103, 40] = A3 := hA
            rw [hA2]
            have XA3 := Lib.hid hA
            clear hA hl hA2
            go_loopg [81] P (fun k v81 wr => ∃ j : Nat, v81 = .int .i64 j ∧ j ≤ P ∧ k = P - j ∧ Lims w wr (A3 ++ Lm.sep j Lm.parC) (Lm.st q3 8 (I * 9 + D * 14 + 54) j))
            case atStart =>
              refine ⟨0, rfl, Nat.zero_le _, rfl, ?_⟩
              rw [Lm.st_zero]
              exact (by simpa [Lm.sep] using HL.out)
            case round =>
              obtain ⟨j, rfl, hjn, rfl, hl⟩ := hrel
              have HJ := Lib.hid (And.intro hjn hl)
              clear hjn hl HL
              by_cases hj : j < P
              · have hj2 : (j : Int) < (P : Int) := by omega
                have HB : Hid ((A3 ++ Lm.sep j Lm.parC).length ≤ 4000) := Lib.hid (by have := HI.out; have hs := Lm.sep_le j Lm.parC; rw [show Lm.parC.length = 5 from rfl] at hs; rw [List.length_append, HA3.out]; omega)
                by_cases hj0 : j = 0
                · subst hj0
                  go_wp2_with fail
                  refine (note_calls HJ.out.2 _).mono ?_
                  rintro e W2 ⟨rfl, h⟩
                  have hs : Lm.note false (A3 ++ Lm.sep 0 Lm.parC).length (Lm.st q3 8 (I * 9 + D * 14 + 54) 0) = Lm.st q3 8 (I * 9 + D * 14 + 54) 1 := by
                    rw [Lm.st_zero]
                    unfold Lm.note Lm.st
                    rw [if_neg (fun h => absurd h.1 (by decide)), if_neg (fun h => absurd h.2 (by decide))]
                  first
                    | rw [hs] at h
                    | (rw [show (((0 : Nat) : Int) == 8) = false from rfl] at h; rw [hs] at h)
                  clear hs
                  have HN := Lib.hid h
                  have c0 := cell_of_heap h.s 0 rfl
                  have f0 := frozen_of_heap h.s 0
                  clear h
                  dsimp only
                  go_wp2_with (refine wpList_cat rfl _ _ _ _ rfl rfl rfl (by have hb := HB.out; (try simp only [List.length_append] at hb); (try simp only [List.length_append, List.length_cons, List.length_nil]); omega) ?_)
                  go_roundg (P - 1)
                  case measure => omega
                  case rel =>
                    refine ⟨1, by go_num, by omega, rfl, ?_⟩
                    have h := HN.out.put ((A3 ++ Lm.sep 0 Lm.parC) ++ Lm.parC)
                    have e : (A3 ++ Lm.sep 1 Lm.parC) = (A3 ++ Lm.sep 0 Lm.parC) ++ Lm.parC := by
                      rw [Lm.sep_one]
                      simp [Lm.sep]
                    rw [e]
                    first
                      | exact h
                      | simpa [List.append_assoc, Lm.parC] using h
                · have hj3 : (0 : Int) < (j : Int) := by omega
                  have c0 := cell_of_heap HJ.out.2.s 0 rfl
                  have f0 := frozen_of_heap HJ.out.2.s 0
                  go_wp2_with (refine wpList_cat rfl _ _ _ _ rfl rfl rfl (by have hb := HB.out; (try simp only [List.length_append] at hb); (try simp only [List.length_append, List.length_cons, List.length_nil]); omega) ?_)
                  clear c0 f0
                  refine (note_calls (HJ.out.2.put (A3 ++ (Lm.sep j Lm.parC ++ [44]))) _).mono ?_
                  rintro e W2 ⟨rfl, h⟩
                  have hs : Lm.note ((j : Int) == 8) (A3 ++ (Lm.sep j Lm.parC ++ [44])).length (Lm.st q3 8 (I * 9 + D * 14 + 54) j) = Lm.st q3 8 (I * 9 + D * 14 + 54) (j + 1) := Lm.st_next rfl (fun e => by subst e; rw [List.length_append]; rw [HA3.out]; rfl)
                  first
                    | rw [hs] at h
                    | (rw [show ((j : Int) == 8) = false from by rw [show (j : Int) = 0 by omega]; rfl] at hs; rw [hs] at h)
                  clear hs
                  have HN := Lib.hid h
                  have c0 := cell_of_heap h.s 0 rfl
                  have f0 := frozen_of_heap h.s 0
                  clear h
                  dsimp only
                  go_wp2_with (refine wpList_cat rfl _ _ _ _ rfl rfl rfl (by have hb := HB.out; (try simp only [List.length_append] at hb); (try simp only [List.length_append, List.length_cons, List.length_nil]); omega) ?_)
                  go_roundg (P - (j + 1))
                  case measure => omega
                  case rel =>
                    refine ⟨j + 1, by go_num, by omega, rfl, ?_⟩
                    have h := HN.out.put ((A3 ++ (Lm.sep j Lm.parC ++ [44])) ++ Lm.parC)
                    have e : (A3 ++ Lm.sep (j + 1) Lm.parC) = (A3 ++ (Lm.sep j Lm.parC ++ [44])) ++ Lm.parC := by
                      rw [Lm.sep_step, if_neg hj0]
                      simp
                    rw [e]
                    first
                      | exact h
                      | simpa [List.append_assoc, Lm.parC] using h
              · obtain rfl : P = j := by have := HJ.out.1; omega
                have HL := Lib.hid HJ.out.2
                clear HJ
                obtain ⟨A4, hA⟩ : ∃ x, A3 ++ Lm.sep P Lm.parC = x := ⟨_, rfl⟩
                obtain ⟨q4, hq⟩ : ∃ x, Lm.st q3 8 (I * 9 + D * 14 + 54) P = x := ⟨_, rfl⟩
                have hl := HL.out
                rw [hA, hq] at hl
                replace HL := Lib.hid hl
                have HA4 : Hid (A4.length = I * 9 + D * 14 + 6 + (Lm.sep P Lm.parC).length) := Lib.hid (by rw [← hA]; rw [List.length_append, HA3.out])
                have XA4 := Lib.hid hA
                have Xq4 := Lib.hid hq
                clear hA hq hl
                have c0 := cell_of_heap HL.out.s 0 rfl
                have f0 := frozen_of_heap HL.out.s 0
                have hP : (Lm.sep P Lm.parC).length ≤ 72 := by have h := Lm.sep_le P Lm.parC; rw [show Lm.parC.length = 5 from rfl] at h; have := HI.out; omega
                have HP := Lib.hid hP
                clear hP
                have HB : Hid (A4.length ≤ 4000) := Lib.hid (by have := HI.out; have := HA4.out; have := HP.out; omega)
                go_wp2_with (refine wpList_cat rfl _ _ _ _ rfl rfl rfl (by have hb := HB.out; (try simp only [List.length_append] at hb); (try simp only [List.length_append, List.length_cons, List.length_nil]); omega) ?_)
                clear c0 f0
                have hl := HL.out.put (A4 ++ Lm.hC)
                obtain ⟨A5, hA⟩ : ∃ x, A4 ++ Lm.hC = x := ⟨_, rfl⟩
                have hA2 : A4 ++ [41, 58, 105, 110, 116, 61, 104, 40] = A5 := hA
                rw [hA] at hl
                rw [hA2]
                replace HL := Lib.hid hl
                have HA5 : Hid (A5.length = I * 9 + D * 14 + (Lm.sep P Lm.parC).length + 14) := Lib.hid (by rw [← hA, List.length_append, HA4.out, show Lm.hC.length = 8 from rfl]; omega)
                have XA5 := Lib.hid hA
                clear hA hl hA2
                have HI2 := HI.out
                have HI3 : Hid (I ≤ 20 ∧ D ≤ 70 ∧ P ≤ 12 ∧ A ≤ 12 ∧ (Lm.sep P Lm.parC).length ≤ 72) := Lib.hid ⟨HI2.1, HI2.2.1, HI2.2.2.1, HI2.2.2.2, HP.out⟩
                clear HI2 HI
                have HI := HI3
                clear HI3
                go_loopg [98] A (fun k v98 wr => ∃ j : Nat, v98 = .int .i64 j ∧ j ≤ A ∧ k = A - j ∧ Lims w wr (A5 ++ Lm.sep j Lm.argC) (Lm.st q4 8 (I * 9 + D * 14 + (Lm.sep P Lm.parC).length + 30) j))
                case atStart =>
                  refine ⟨0, rfl, Nat.zero_le _, rfl, ?_⟩
                  rw [Lm.st_zero]
                  exact (by simpa [Lm.sep] using HL.out)
                case round =>
                  obtain ⟨j, rfl, hjn, rfl, hl⟩ := hrel
                  have HJ := Lib.hid (And.intro hjn hl)
                  clear hjn hl HL
                  by_cases hj : j < A
                  · have hj2 : (j : Int) < (A : Int) := by omega
                    have HB : Hid ((A5 ++ Lm.sep j Lm.argC).length ≤ 4000) := Lib.hid (by have := HI.out; have hs := Lm.sep_le j Lm.argC; rw [show Lm.argC.length = 1 from rfl] at hs; rw [List.length_append, HA5.out]; omega)
                    by_cases hj0 : j = 0
                    · subst hj0
                      go_wp2_with fail
                      refine (note_calls HJ.out.2 _).mono ?_
                      rintro e W2 ⟨rfl, h⟩
                      have hs : Lm.note false (A5 ++ Lm.sep 0 Lm.argC).length (Lm.st q4 8 (I * 9 + D * 14 + (Lm.sep P Lm.parC).length + 30) 0) = Lm.st q4 8 (I * 9 + D * 14 + (Lm.sep P Lm.parC).length + 30) 1 := by
                        rw [Lm.st_zero]
                        unfold Lm.note Lm.st
                        rw [if_neg (fun h => absurd h.1 (by decide)), if_neg (fun h => absurd h.2 (by decide))]
                      first
                        | rw [hs] at h
                        | (rw [show (((0 : Nat) : Int) == 8) = false from rfl] at h; rw [hs] at h)
                      clear hs
                      have HN := Lib.hid h
                      have c0 := cell_of_heap h.s 0 rfl
                      have f0 := frozen_of_heap h.s 0
                      clear h
                      dsimp only
                      go_wp2_with (refine wpList_cat rfl _ _ _ _ rfl rfl rfl (by have hb := HB.out; (try simp only [List.length_append] at hb); (try simp only [List.length_append, List.length_cons, List.length_nil]); omega) ?_)
                      go_roundg (A - 1)
                      case measure => omega
                      case rel =>
                        refine ⟨1, by go_num, by omega, rfl, ?_⟩
                        have h := HN.out.put ((A5 ++ Lm.sep 0 Lm.argC) ++ Lm.argC)
                        have e : (A5 ++ Lm.sep 1 Lm.argC) = (A5 ++ Lm.sep 0 Lm.argC) ++ Lm.argC := by
                          rw [Lm.sep_one]
                          simp [Lm.sep]
                        rw [e]
                        first
                          | exact h
                          | simpa [List.append_assoc, Lm.argC] using h
                    · have hj3 : (0 : Int) < (j : Int) := by omega
                      have c0 := cell_of_heap HJ.out.2.s 0 rfl
                      have f0 := frozen_of_heap HJ.out.2.s 0
                      go_wp2_with (refine wpList_cat rfl _ _ _ _ rfl rfl rfl (by have hb := HB.out; (try simp only [List.length_append] at hb); (try simp only [List.length_append, List.length_cons, List.length_nil]); omega) ?_)
                      clear c0 f0
                      refine (note_calls (HJ.out.2.put (A5 ++ (Lm.sep j Lm.argC ++ [44]))) _).mono ?_
                      rintro e W2 ⟨rfl, h⟩
                      have hs : Lm.note ((j : Int) == 8) (A5 ++ (Lm.sep j Lm.argC ++ [44])).length (Lm.st q4 8 (I * 9 + D * 14 + (Lm.sep P Lm.parC).length + 30) j) = Lm.st q4 8 (I * 9 + D * 14 + (Lm.sep P Lm.parC).length + 30) (j + 1) := Lm.st_next rfl (fun e => by subst e; rw [List.length_append]; rw [HA5.out]; rfl)
                      first
                        | rw [hs] at h
                        | (rw [show ((j : Int) == 8) = false from by rw [show (j : Int) = 0 by omega]; rfl] at hs; rw [hs] at h)
                      clear hs
                      have HN := Lib.hid h
                      have c0 := cell_of_heap h.s 0 rfl
                      have f0 := frozen_of_heap h.s 0
                      clear h
                      dsimp only
                      go_wp2_with (refine wpList_cat rfl _ _ _ _ rfl rfl rfl (by have hb := HB.out; (try simp only [List.length_append] at hb); (try simp only [List.length_append, List.length_cons, List.length_nil]); omega) ?_)
                      go_roundg (A - (j + 1))
                      case measure => omega
                      case rel =>
                        refine ⟨j + 1, by go_num, by omega, rfl, ?_⟩
                        have h := HN.out.put ((A5 ++ (Lm.sep j Lm.argC ++ [44])) ++ Lm.argC)
                        have e : (A5 ++ Lm.sep (j + 1) Lm.argC) = (A5 ++ (Lm.sep j Lm.argC ++ [44])) ++ Lm.argC := by
                          rw [Lm.sep_step, if_neg hj0]
                          simp
                        rw [e]
                        first
                          | exact h
                          | simpa [List.append_assoc, Lm.argC] using h
                  · obtain rfl : A = j := by have := HJ.out.1; omega
                    have HL := Lib.hid HJ.out.2
                    clear HJ
                    have hq : Lm.st q4 8 (I * 9 + D * 14 + (Lm.sep P Lm.parC).length + 30) A = Lm.want I D P A := by
                      rw [← Xq4.out, ← Xq3.out, ← Xq2.out, ← Xq1.out]
                      exact Lm.st_eq I D P A HI.out.2.1
                    have hT : A5 ++ (Lm.sep A Lm.argC ++ [41, 59]) = Lm.text I D P A := by
                      rw [← XA5.out, ← XA4.out, ← XA3.out, ← XA2.out, ← XA1.out]
                      simp [Lm.text, Lm.endC]
                    have hT2 : (A5 ++ Lm.sep A Lm.argC) ++ [41, 59] = Lm.text I D P A := by rw [← hT, List.append_assoc]
                    have hlen := Lm.text_len I D P A HI.out.1 HI.out.2.1 HI.out.2.2.1 HI.out.2.2.2.1
                    have hw := Lm.limits_read I D P A HI.out.1 HI.out.2.1 HI.out.2.2.1 HI.out.2.2.2.1
                    rw [← hq] at hw
                    have hc := fun W => parse_calls (Lm.text I D P A) (by omega) 9 W
                    have hs := read_small what_program (Lm.text I D P A) 9
                    have hwh := read_whole (Lm.text I D P A) 9
                    have hr0 := read_same same_prog (Lm.text I D P A) 9
                    obtain ⟨⟨T, fe, fp⟩, hr⟩ : ∃ r, Ps.read Ps.prog (Lm.text I D P A) 9 = r := ⟨_, rfl⟩
                    simp only [hr] at hc hs hwh hw hr0
                    try dsimp only at hs
                    try dsimp only at hwh
                    obtain ⟨X, hX⟩ : ∃ x, Lm.text I D P A = x := ⟨_, rfl⟩
                    rw [hX] at hc hs hwh hT hT2 hlen
                    have hl := HL.out
                    rw [← hw] at hl
                    have HC := Lib.hid hc
                    have HS := Lib.hid (And.intro hs (And.intro hwh hlen))
                    have HLA := Lib.hid hl
                    have HTX := Lib.hid (And.intro hT hT2)
                    have c0 := cell_of_heap hl.s 0 rfl
                    have f0 := frozen_of_heap hl.s 0
                    have HB : Hid ((A5 ++ Lm.sep A Lm.argC).length ≤ 4000) := Lib.hid (by have h := Lm.sep_le A Lm.argC; rw [show Lm.argC.length = 1 from rfl] at h; have := HI.out; have := HA5.out; rw [List.length_append]; omega)
                    clear hq hT hT2 hlen hw hc hs hwh hr0 hr hX hl
                    go_wp2_with (refine wpList_cat rfl _ _ _ _ rfl rfl rfl (by have hb := HB.out; (try simp only [List.length_append] at hb); (try simp only [List.length_append, List.length_cons, List.length_nil]); omega) ?_)
                    clear c0 f0
                    have hl := HLA.out.put X
                    first
                      | rw [HTX.out.1]
                      | rw [HTX.out.2]
                    obtain ⟨V5, hV5⟩ : ∃ V, wr.setCell ⟨w.heap.size, 0, none⟩ (.string ⟨X.toArray⟩) = V := ⟨_, rfl⟩
                    rw [hV5] at hl ⊢
                    have HV5 := Lib.hid hl
                    clear hl hV5
                    refine (HC.out V5).mono ?_
                    rintro e w3 ⟨vt, vn, rfl, hT, hb⟩
                    replace hT : RdT w3 (fun k => V5.heap.size ≤ k ∧ k < w3.heap.size) vt vn T := hT
                    obtain ⟨a1, c1, rfl⟩ : ∃ a c, vt = .slice a T.toks.length c := hT.1.form
                    obtain ⟨a2, c2, rfl⟩ : ∃ a c, vn = .slice a T.nodes.length c := by
                      obtain ⟨kvs, _, h2, _⟩ := hT.2
                      exact h2.form
                    have H3 := Lib.hid (And.intro (HV5.out.past hb) hT)
                    clear hb hT
                    dsimp only
                    by_cases he : fe = 0
                    · subst he
                      have HSH : Hid (∀ W, Below w3.heap.size w3 W → Calls Tryz.prog 11 #[.agg #[.slice a1 T.toks.length c1, .slice a2 T.nodes.length c2]] W fun e w' => e = .returned (.string ⟨X.toArray⟩) ∧ Below W.heap.size W w') := by
                        refine Lib.hid fun W hW => ?_
                        have hx := (HS.out.2.1 rfl).1
                        have h := show_calls (vn := .slice a2 T.nodes.length c2) (H3.out.2.1.keep (Keeps.of hW fun k hk => hk.2)) (fun k hk => Nat.lt_of_lt_of_le hk.2 hW.size) (by have := HS.out.1.toks; have := HS.out.2.2; omega) (by rw [hx]; have := HS.out.2.2; omega)
                        rw [hx] at h
                        exact h
                      go_wp2_with fail
                      obtain ⟨V6, hV6⟩ : ∃ V, (w3.alloc (.cells #[.slice a1 T.toks.length c1, .slice a2 T.nodes.length c2] 30)).alloc (.cells #[.int .i64 0, .int .i64 fp] 25) = V := ⟨_, rfl⟩
                      have h1 := two_alloc w3 (.slice a1 T.toks.length c1) (.slice a2 T.nodes.length c2) (.int .i64 0) (.int .i64 fp)
                      rw [hV6] at h1 ⊢
                      have h2 := H3.out.1.past h1.b
                      have H6 := Lib.hid (And.intro h1 h2)
                      have t0 := cell_of_heap h1.t 0 rfl
                      have t1 := cell_of_heap h1.t 1 rfl
                      have u0 := cell_of_heap h1.f 0 rfl
                      have u1 := cell_of_heap h1.f 1 rfl
                      have x0 := cell_of_heap h2.q 0 rfl
                      have x1 := cell_of_heap h2.q 1 rfl
                      have y0 := cell_of_heap h2.s 0 rfl
                      have l0 := cell_lt t0
                      have l1 := cell_lt u0
                      have l2 := cell_lt x0
                      have l3 := cell_lt y0
                      clear h1 h2 hV6
                      go_region_held3 (fun w' => w'.cell? ⟨w3.heap.size, 0, none⟩ = some (.slice a1 T.toks.length c1) ∧ w'.cell? ⟨w3.heap.size, 1, none⟩ = some (.slice a2 T.nodes.length c2) ∧ w'.cell? ⟨w3.heap.size + 1, 0, none⟩ = some (.int .i64 0) ∧ w'.cell? ⟨w3.heap.size + 1, 1, none⟩ = some (.int .i64 fp) ∧ w'.cell? ⟨w.heap.size + 1, 0, none⟩ = some (.int .i64 0) ∧ w'.cell? ⟨w.heap.size + 1, 1, none⟩ = some (.int .i64 fp) ∧ w'.cell? ⟨w.heap.size, 0, none⟩ = some (.string ⟨X.toArray⟩)) (first | exact ⟨t0, t1, u0, u1, x0, x1, y0⟩ | exact ⟨e0, e1, e2, e3, e4, e5, e6⟩ | go_keep)
                        (first | (go_at_call 11; refine (HSH.out _ H6.out.1.b.drew).mono ?_; rintro e w8 ⟨rfl, hb8⟩; have e0 := (hb8.cell (p := ⟨w3.heap.size, 0, none⟩) l0).trans t0; have e1 := (hb8.cell (p := ⟨w3.heap.size, 1, none⟩) l0).trans t1; have e2 := (hb8.cell (p := ⟨w3.heap.size + 1, 0, none⟩) l1).trans u0; have e3 := (hb8.cell (p := ⟨w3.heap.size + 1, 1, none⟩) l1).trans u1; have e4 := (hb8.cell (p := ⟨w.heap.size + 1, 0, none⟩) l2).trans x0; have e5 := (hb8.cell (p := ⟨w.heap.size + 1, 1, none⟩) l2).trans x1; have e6 := (hb8.cell (p := ⟨w.heap.size, 0, none⟩) l3).trans y0; have H8 := Lib.hid ((Below.drew (Below.refl _ _)).trans hb8); clear hb8))
                      go_wp2_with fail
                      go_ret
                      exact ⟨by simp, H0.out.trans (H6.out.2.b.trans (H8.out.mono H6.out.2.b.size)|>.mono H0.out.size)⟩
                    · have he2 : (fe != 0) = true := by simp [he]
                      go_wp2_with fail
                      obtain ⟨V6, hV6⟩ : ∃ V, (w3.alloc (.cells #[.slice a1 T.toks.length c1, .slice a2 T.nodes.length c2] 30)).alloc (.cells #[.int .i64 fe, .int .i64 fp] 25) = V := ⟨_, rfl⟩
                      have h1 := two_alloc w3 (.slice a1 T.toks.length c1) (.slice a2 T.nodes.length c2) (.int .i64 fe) (.int .i64 fp)
                      rw [hV6] at h1 ⊢
                      have h2 := H3.out.1.past h1.b
                      have H6 := Lib.hid (And.intro h1 h2)
                      have u0 := cell_of_heap h1.f 0 rfl
                      have u1 := cell_of_heap h1.f 1 rfl
                      have x0 := cell_of_heap h2.q 0 rfl
                      have x1 := cell_of_heap h2.q 1 rfl
                      clear h1 h2 hV6
                      go_region
                      go_wp2_with fail
                      go_ret
                      exact ⟨by simp, H0.out.trans (H6.out.2.b.drew.mono H0.out.size)⟩
  · have HG := Lib.hid hgood
    clear hgood
    by_cases h0 : i < 0
    · clear HG
      go_enter Tryz.func3, Tryz.ntmps3
      go_wp2_with fail
      refine HAN.out.mono ?_
      rintro e w ⟨rfl, hb0⟩
      have H0 := Lib.hid hb0
      clear hb0
      dsimp only
      go_wp2_with fail
      go_ret
      exact ⟨rfl, H0.out⟩
    · skip
      by_cases h1 : 20 < i
      · clear HG
        go_enter Tryz.func3, Tryz.ntmps3
        go_wp2_with fail
        refine HAN.out.mono ?_
        rintro e w ⟨rfl, hb0⟩
        have H0 := Lib.hid hb0
        clear hb0
        dsimp only
        go_wp2_with fail
        go_ret
        exact ⟨rfl, H0.out⟩
      · skip
        by_cases h2 : d < 0
        · clear HG
          go_enter Tryz.func3, Tryz.ntmps3
          go_wp2_with fail
          refine HAN.out.mono ?_
          rintro e w ⟨rfl, hb0⟩
          have H0 := Lib.hid hb0
          clear hb0
          dsimp only
          go_wp2_with fail
          go_ret
          exact ⟨rfl, H0.out⟩
        · skip
          by_cases h3 : 70 < d
          · clear HG
            go_enter Tryz.func3, Tryz.ntmps3
            go_wp2_with fail
            refine HAN.out.mono ?_
            rintro e w ⟨rfl, hb0⟩
            have H0 := Lib.hid hb0
            clear hb0
            dsimp only
            go_wp2_with fail
            go_ret
            exact ⟨rfl, H0.out⟩
          · skip
            by_cases h4 : p < 0
            · clear HG
              go_enter Tryz.func3, Tryz.ntmps3
              go_wp2_with fail
              refine HAN.out.mono ?_
              rintro e w ⟨rfl, hb0⟩
              have H0 := Lib.hid hb0
              clear hb0
              dsimp only
              go_wp2_with fail
              go_ret
              exact ⟨rfl, H0.out⟩
            · skip
              by_cases h5 : 12 < p
              · clear HG
                go_enter Tryz.func3, Tryz.ntmps3
                go_wp2_with fail
                refine HAN.out.mono ?_
                rintro e w ⟨rfl, hb0⟩
                have H0 := Lib.hid hb0
                clear hb0
                dsimp only
                go_wp2_with fail
                go_ret
                exact ⟨rfl, H0.out⟩
              · skip
                by_cases h6 : a < 0
                · clear HG
                  go_enter Tryz.func3, Tryz.ntmps3
                  go_wp2_with fail
                  refine HAN.out.mono ?_
                  rintro e w ⟨rfl, hb0⟩
                  have H0 := Lib.hid hb0
                  clear hb0
                  dsimp only
                  go_wp2_with fail
                  go_ret
                  exact ⟨rfl, H0.out⟩
                · skip
                  have h7 : 12 < a := by have := HG.out; omega
                  clear HG
                  go_enter Tryz.func3, Tryz.ntmps3
                  go_wp2_with fail
                  refine HAN.out.mono ?_
                  rintro e w ⟨rfl, hb0⟩
                  have H0 := Lib.hid hb0
                  clear hb0
                  dsimp only
                  go_wp2_with fail
                  go_ret
                  exact ⟨rfl, H0.out⟩
end Go.Proofs.YtlejecaanllghaaGreatDoor
/- ParseLimits: for every four numbers the law returns true. Condition: the listed package-level variables are laid as the program's text lays them (the card ties them). -/
namespace Go.Proofs.YtlejecaanllghaaGreatDoor
open Go.ChangeShapes Go.WideShapes Go.ChangeAt Go.RowKit Go.Deep

theorem parse_limits_trod {H : Type} {enc : TypeId × Value → H} {P : Program} {w : World} {base : Nat} {spare : Nat → Bool} {held : Bool} {args : Array Value} {ds : List (DataW H)} {ps : List MemPlace} (h : DataW.TrodAll enc P w base spare held (#[3, 3, 3, 3] : Array TypeId).toList args.toList ds ps) :
    ∃ v0 v1 v2 v3 d0 d1 d2 d3 p0 p1 p2 p3, DataW.Trod enc P w base spare held 3 v0 d0 p0 ∧ DataW.Trod enc P w base spare held 3 v1 d1 p1 ∧ DataW.Trod enc P w base spare held 3 v2 d2 p2 ∧ DataW.Trod enc P w base spare held 3 v3 d3 p3 ∧ args = #[v0, v1, v2, v3] ∧ ds = [d0, d1, d2, d3] := by
  obtain ⟨v0, ls0, d0, es0, p0, q0, e0, f0, _, h0, h⟩ := trodAll_cons h
  obtain ⟨v1, ls1, d1, es1, p1, q1, e1, f1, _, h1, h⟩ := trodAll_cons h
  obtain ⟨v2, ls2, d2, es2, p2, q2, e2, f2, _, h2, h⟩ := trodAll_cons h
  obtain ⟨v3, ls3, d3, es3, p3, q3, e3, f3, _, h3, h⟩ := trodAll_cons h
  obtain ⟨e, f, _⟩ := trodAll_nil h
  refine ⟨v0, v1, v2, v3, d0, d1, d2, d3, p0, p1, p2, p3, h0, h1, h2, h3, ?_, ?_⟩
  · apply Array.toList_inj.1
    rw [e0, e1, e2, e3, e]
  · rw [f0, f1, f2, f3, f]

set_option maxRecDepth 100000 in
set_option maxHeartbeats 8000000 in
theorem parse_limits_law {H : Type} {enc : TypeId × Value → H} (W : World) (args : Array Value) (ds : List (DataW H)) :
    LawWalk enc Tryz.prog 3 Tryz.f3 W args ds := by
  intro base hval p hA hlt
  have hA' : DataW.TrodAll enc Tryz.prog W 0 (fun _ => true) true Tryz.f3.params.toList args.toList ds p := hA
  rw [Tryz.params3] at hA' hval
  obtain ⟨v0, v1, v2, v3, d0, d1, d2, d3, p0, p1, p2, p3, h0, h1, h2, h3, hargs, hds⟩ := parse_limits_trod hA'
  have g0 := hval 0 3 v0 rfl (by rw [hargs]; rfl)
  have g1 := hval 1 3 v1 rfl (by rw [hargs]; rfl)
  have g2 := hval 2 3 v2 rfl (by rw [hargs]; rfl)
  have g3 := hval 3 3 v3 rfl (by rw [hargs]; rfl)
  obtain ⟨s0, rfl, _⟩ := open_int Tryz.underlying3 g0 h0
  obtain ⟨s1, rfl, _⟩ := open_int Tryz.underlying3 g1 h1
  obtain ⟨s2, rfl, _⟩ := open_int Tryz.underlying3 g2 h2
  obtain ⟨s3, rfl, _⟩ := open_int Tryz.underlying3 g3 h3
  rw [hargs]
  exact plimits_any s0 s1 s2 s3 W

set_option maxRecDepth 100000 in
set_option maxHeartbeats 8000000 in
theorem parse_limits_lifted (os : Os) (started : os.Started) (H : Type) (enc : TypeId × Value → H) :
    ReturnsInHanded {} Tryz.checked os 3 .any (fun w args => (Rows.parseLimitsSpec.pre enc Tryz.prog Tryz.f3 Rows.parseLimitsRow.domain false w args ∧ laidMetH Tryz.prog theLaid w) ∧ sizedMet enc Tryz.prog Tryz.f3 (OpenSpec.ofChange Rows.parseLimitsSpec) false w args)
      (Rows.parseLimitsSpec.post enc Tryz.prog Tryz.f3 false true false false) := by
  refine returnsInHanded_of_change_and (C := Tryz.checked) (X := fun w _ => laidMetH Tryz.prog theLaid w) (fun _ _ _ hh h => h.of_heap hh) own started (by kernel_rfl) Tryz.func3
    (ChangeSpec.witness_shaped (enc := enc) (C := Tryz.checked) (os := os) (X := fun w _ => laidMetH Tryz.prog theLaid w) false (World.laidAll Tryz.prog os theLaid) #[.int .i64 0, .int .i64 0, .int .i64 0, .int .i64 0] 8 (World.laidAll_os _ _ _)
      (World.shaped_of_ZipB (by kernel_rfl) (by kernel_rfl)) (by kernel_rfl) (by kernel_rfl) (by kernel_rfl) (by rw [laid_plain]; exact laid_met os _)) ?_
  intro W base args ds gs before hval hW _ _ _ _
  have hA := hW
  obtain ⟨p, q, hA, _⟩ := hA
  have hA' : DataW.TrodAll enc Tryz.prog W 0 (fun _ => true) true Tryz.f3.params.toList args.toList ds p := hA
  rw [Tryz.params3] at hA'
  obtain ⟨v0, v1, v2, v3, d0, d1, d2, d3, p0, p1, p2, p3, h0, h1, h2, h3, hargs, hds⟩ := parse_limits_trod hA'
  subst hds
  exact law_contract (s := Rows.parseLimitsSpec) laidOut (by kernel_rfl) rfl Tryz.underlying4 rfl ⟨rfl, rfl, rfl⟩ hval hW (parse_limits_law W _ _)

set_option maxHeartbeats 8000000 in
theorem parse_limits_row : Rows.ParseLimitsSaid :=
  OpenClaim.holds_of_wide 3 Tryz.f3 rfl rfl rfl rfl rfl rfl rfl ⟨rfl, rfl, rfl, rfl, rfl⟩ rfl rfl rfl rfl rfl (by kernel_rfl) Tryz.func3 (by kernel_rfl)
    (of_decide_eq_true (by kernel_rfl)) (by unfold Func.isWrapper; first | (rw [if_pos (by decide +kernel)]; kernel_rfl) | (rw [if_neg (by decide +kernel)]; exact ⟨rfl, rfl⟩))
    (fun os started H enc _ => parse_limits_lifted os started H enc)
set_option maxHeartbeats 8000000 in
theorem parse_limits : Rows.ParseLimitsCardSaid :=
  Claim7.holds_tied_plain_at .later [] [.data, .data, .data, .data, .pinned] true (true, "4cb62f4e8533241bd92f179bcb3179157684541ce48ad45772a4f98463383618") false parse_limits_row (fun _ h => by cases h) (by kernel_rfl) (fun _ h => by cases h) parseLimits_row_tie rfl ⟨rfl, rfl⟩ (by kernel_rfl) rfl
    (fun f fn hf hfn => by
      obtain rfl : f = 3 := Option.some.inj ((show Tryz.prog.funcNamed "touchstone/touchstonelaw07.ParseLimits" = some 3 by kernel_rfl).symm.trans hf) |>.symm
      obtain rfl : fn = Tryz.f3 := (Option.some.inj (Tryz.func3.symm.trans hfn)).symm
      exact ⟨by kernel_rfl, fun j t ht => by
        rw [Tryz.params3] at ht
        have hm : t ∈ [3, 3, 3, 3] := by simpa using Array.mem_of_getElem? ht
        have hall : ([3, 3, 3, 3].all fun u => !Tryz.prog.wantsStandIn u) = true := by kernel_rfl
        exact (show Tryz.prog.wantsStandIn t = false by simpa using List.all_eq_true.1 hall t hm)⟩)
    (by kernel_rfl)
#print axioms parse_limits
end Go.Proofs.YtlejecaanllghaaGreatDoor
