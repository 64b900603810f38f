/- Contracts and plain laws, in one text. The document's parser: factor, negation, formula, expression: the walks. -/
import Derived.Test.YtpkhdlnlkeehhaaGreatDoorPlmM6
/- The document's parser: factor, negation, formula, expression: the walks. -/
namespace Go.Proofs.YtpkhdlnlkeehhaaGreatDoor
open Go.RowKit

theorem nest_alive {tk : List Tr.Tk} {d : Nat} {s : Pr.Rs} (h : (Pr.nest tk d s).e = 0) : d ≠ 0 := by
  rintro rfl
  unfold Pr.nest at h
  rw [if_pos rfl] at h
  unfold Pr.fail at h
  split at h
  · exact absurd (show (23 : Int) = 0 from h) (by decide)
  · rename_i h0
    exact h0 h
section
variable {w0 : World} {p : Nat} {vt : Value} {tk : List Tr.Tk} {dp : Int}

set_option maxRecDepth 100000 in
set_option maxHeartbeats 4000000 in
theorem qfactor_calls (ho : QOk tk) {n : Int} {d : Nat} (hn0 : 0 ≤ n) (hn1 : n ≤ 300) (hd : n + 1 + d = dp + 1) {lo : Pr.Lv} (hV : Pr.FitV tk d lo) (hup : d ≠ 0 → QKnows w0 p vt tk dp 148 #[.pointer (some ⟨p, 0, none⟩), .int .i64 (n + 1)] lo.fa)
    (hbe : QKnows w0 p vt tk dp 150 #[.pointer (some ⟨p, 0, none⟩), .int .i64 n] (Pr.atom tk lo.ex)) : QKnows w0 p vt tk dp 148 #[.pointer (some ⟨p, 0, none⟩), .int .i64 n] (Pr.factor tk d lo) := by
  intro W r h hi
  have HO := Lib.hid ho
  have Q0 := Lib.hid (And.intro h hi)
  have HK := Lib.hid (And.intro hV (And.intro hup hbe))
  have HD := Lib.hid hd
  clear ho h hi hV hup hbe hd
  by_cases b0 : Pr.is tk [45] r = true
  · have B0 := Lib.hid b0
    clear b0
    go_enter Tryz.func148, Tryz.ntmps148
    go_wp2_with (refine wpList_cat rfl _ _ _ _ rfl rfl rfl (by (try simp only [List.length_append, List.length_cons, List.length_nil]); omega) ?_)
    have hcall := qis_calls Q0.out.1 Q0.out.2 HO.out [45]
    rw [B0.out] at hcall
    refine hcall.mono ?_
    rintro e W1 ⟨rfl, h⟩
    have Q1 := Lib.hid (And.intro h Q0.out.2)
    clear h hcall
    dsimp only
    go_wp2_with (refine wpList_cat rfl _ _ _ _ rfl rfl rfl (by (try simp only [List.length_append, List.length_cons, List.length_nil]); omega) ?_)
    refine (qleaf_calls Q1.out.1 Q1.out.2 HO.out).mono ?_
    rintro e W2 ⟨rfl, h⟩
    have hf := Pr.leaf_fits HO.out.toks Q1.out.2 (Pr.is_kind B0.out).1
    obtain ⟨⟨x2, r2⟩, hx⟩ : ∃ q, Pr.leaf tk r = q := ⟨_, rfl⟩
    rw [hx] at h hf ⊢
    have hb := HO.out.fits hf (by decide)
    have Q2 := Lib.hid (And.intro h hb.2)
    have HL2 := Lib.hid hb.1
    have HX2 := Lib.hid hx
    clear h hf hx hb
    dsimp only at Q2 HL2 ⊢
    go_wp2_with (refine wpList_cat rfl _ _ _ _ rfl rfl rfl (by have := HL2.out; (try simp only [List.length_append, List.length_cons, List.length_nil]); omega) ?_)
    refine (qnest_calls Q2.out.1 Q2.out.2 HO.out (d := d) HD.out).mono ?_
    rintro e W3 ⟨rfl, h⟩
    obtain ⟨r3, hx⟩ : ∃ q, Pr.nest tk d r2 = q := ⟨_, rfl⟩
    have hi := (by rw [Pr.nest_i]; exact Q2.out.2 : (Pr.nest tk d r2).i < tk.length)
    rw [hx] at h hi
    have Q3 := Lib.hid (And.intro h hi)
    have HX3 := Lib.hid hx
    clear h hi hx
    dsimp only
    have c4 := Q3.out.1.c4
    by_cases he : r3.e = 0
    · skip
      have he' : (r3.e != 0) = false := by simp [he]
      have HE := Lib.hid he
      clear he
      go_wp2_with (refine wpList_cat rfl _ _ _ _ rfl rfl rfl (by have := HL2.out; (try simp only [List.length_append, List.length_cons, List.length_nil]); omega) ?_)
      clear c4 he'
      have HD0 : Hid (d ≠ 0) := Lib.hid (nest_alive (by rw [HX3.out]; exact HE.out))
      refine (HK.out.2.1 HD0.out _ _ Q3.out.1 Q3.out.2).mono ?_
      rintro e W4 ⟨rfl, h⟩
      have hf := (HK.out.1.rest HD0.out).2.2 r3 Q3.out.2
      obtain ⟨⟨x4, r4⟩, hx⟩ : ∃ q, lo.fa r3 = q := ⟨_, rfl⟩
      rw [hx] at h hf ⊢
      have hb := HO.out.fits hf (by decide)
      have Q4 := Lib.hid (And.intro h hb.2)
      have HL4 := Lib.hid hb.1
      have HX4 := Lib.hid hx
      clear h hf hx hb
      dsimp only at Q4 HL4 ⊢
      go_wp2_with (refine wpList_cat rfl _ _ _ _ rfl rfl rfl (by have := HL2.out; have := HL4.out; (try simp only [List.length_append, List.length_cons, List.length_nil]); omega) ?_)
      go_ret
      have e1 : Pr.factor tk d lo r = ([32, 40, 49, 49] ++ x2 ++ x4 ++ [41], r4) := by
        unfold Pr.factor
        rw [if_pos B0.out]
        unfold Pr.unary
        simp only [HX2.out, HX3.out]
        rw [if_pos HE.out]
        simp only [HX4.out]
      rw [e1]
      exact ⟨by simp [Pr.bin], Q4.out.1⟩
    · skip
      have he' : (r3.e != 0) = true := by simp [he]
      have HE := Lib.hid he
      clear he
      go_wp2_with (refine wpList_cat rfl _ _ _ _ rfl rfl rfl (by have := HL2.out; (try simp only [List.length_append, List.length_cons, List.length_nil]); omega) ?_)
      clear c4 he'
      go_ret
      have e1 : Pr.factor tk d lo r = ([], r3) := by
        unfold Pr.factor
        rw [if_pos B0.out]
        unfold Pr.unary
        simp only [HX2.out, HX3.out]
        rw [if_neg HE.out]
      rw [e1]
      exact ⟨by simp [Pr.bin], Q3.out.1⟩
  · rw [Bool.not_eq_true] at b0
    have B0 := Lib.hid b0
    clear b0
    go_enter Tryz.func148, Tryz.ntmps148
    go_wp2_with (refine wpList_cat rfl _ _ _ _ rfl rfl rfl (by (try simp only [List.length_append, List.length_cons, List.length_nil]); omega) ?_)
    have hcall := qis_calls Q0.out.1 Q0.out.2 HO.out [45]
    rw [B0.out] at hcall
    refine hcall.mono ?_
    rintro e W1 ⟨rfl, h⟩
    have Q1 := Lib.hid (And.intro h Q0.out.2)
    clear h hcall
    dsimp only
    go_wp2_with (refine wpList_cat rfl _ _ _ _ rfl rfl rfl (by (try simp only [List.length_append, List.length_cons, List.length_nil]); omega) ?_)
    refine (HK.out.2.2 _ _ Q1.out.1 Q1.out.2).mono ?_
    rintro e W2 ⟨rfl, h⟩
    have hf := (Pr.atom_fits HO.out.toks HK.out.1.ex) r Q1.out.2
    obtain ⟨⟨x2, r2⟩, hx⟩ : ∃ q, Pr.atom tk lo.ex r = q := ⟨_, rfl⟩
    rw [hx] at h hf ⊢
    have hb := HO.out.fits hf (by decide)
    have Q2 := Lib.hid (And.intro h hb.2)
    have HL2 := Lib.hid hb.1
    have HX2 := Lib.hid hx
    clear h hf hx hb
    dsimp only at Q2 HL2 ⊢
    go_wp2_with (refine wpList_cat rfl _ _ _ _ rfl rfl rfl (by have := HL2.out; (try simp only [List.length_append, List.length_cons, List.length_nil]); omega) ?_)
    go_ret
    have e1 : Pr.factor tk d lo r = (x2, r2) := by
      unfold Pr.factor
      rw [if_neg (by rw [B0.out]; simp)]
      exact HX2.out
    rw [e1]
    exact ⟨by simp [Pr.bin], Q2.out.1⟩

set_option maxRecDepth 100000 in
set_option maxHeartbeats 4000000 in
theorem qnot_calls (ho : QOk tk) {n : Int} {d : Nat} (hn0 : 0 ≤ n) (hn1 : n ≤ 300) (hd : n + 1 + d = dp + 1) {lo : Pr.Lv} (hV : Pr.FitV tk d lo) (hup : d ≠ 0 → QKnows w0 p vt tk dp 126 #[.pointer (some ⟨p, 0, none⟩), .int .i64 (n + 1)] lo.ne)
    (hbe : QKnows w0 p vt tk dp 139 #[.pointer (some ⟨p, 0, none⟩), .int .i64 n] (Pr.sum tk d lo)) : QKnows w0 p vt tk dp 126 #[.pointer (some ⟨p, 0, none⟩), .int .i64 n] (Pr.not tk d lo) := by
  intro W r h hi
  have HO := Lib.hid ho
  have Q0 := Lib.hid (And.intro h hi)
  have HK := Lib.hid (And.intro hV (And.intro hup hbe))
  have HD := Lib.hid hd
  clear ho h hi hV hup hbe hd
  by_cases b0 : Pr.is tk Ps.tNot r = true
  · have B0 := Lib.hid b0
    clear b0
    go_enter Tryz.func126, Tryz.ntmps126
    go_wp2_with (refine wpList_cat rfl _ _ _ _ rfl rfl rfl (by (try simp only [List.length_append, List.length_cons, List.length_nil]); omega) ?_)
    have hcall := qis_calls Q0.out.1 Q0.out.2 HO.out Ps.tNot
    rw [B0.out] at hcall
    refine hcall.mono ?_
    rintro e W1 ⟨rfl, h⟩
    have Q1 := Lib.hid (And.intro h Q0.out.2)
    clear h hcall
    dsimp only
    go_wp2_with (refine wpList_cat rfl _ _ _ _ rfl rfl rfl (by (try simp only [List.length_append, List.length_cons, List.length_nil]); omega) ?_)
    refine (qleaf_calls Q1.out.1 Q1.out.2 HO.out).mono ?_
    rintro e W2 ⟨rfl, h⟩
    have hf := Pr.leaf_fits HO.out.toks Q1.out.2 (Pr.is_kind B0.out).1
    obtain ⟨⟨x2, r2⟩, hx⟩ : ∃ q, Pr.leaf tk r = q := ⟨_, rfl⟩
    rw [hx] at h hf ⊢
    have hb := HO.out.fits hf (by decide)
    have Q2 := Lib.hid (And.intro h hb.2)
    have HL2 := Lib.hid hb.1
    have HX2 := Lib.hid hx
    clear h hf hx hb
    dsimp only at Q2 HL2 ⊢
    go_wp2_with (refine wpList_cat rfl _ _ _ _ rfl rfl rfl (by have := HL2.out; (try simp only [List.length_append, List.length_cons, List.length_nil]); omega) ?_)
    refine (qnest_calls Q2.out.1 Q2.out.2 HO.out (d := d) HD.out).mono ?_
    rintro e W3 ⟨rfl, h⟩
    obtain ⟨r3, hx⟩ : ∃ q, Pr.nest tk d r2 = q := ⟨_, rfl⟩
    have hi := (by rw [Pr.nest_i]; exact Q2.out.2 : (Pr.nest tk d r2).i < tk.length)
    rw [hx] at h hi
    have Q3 := Lib.hid (And.intro h hi)
    have HX3 := Lib.hid hx
    clear h hi hx
    dsimp only
    have c4 := Q3.out.1.c4
    by_cases he : r3.e = 0
    · skip
      have he' : (r3.e != 0) = false := by simp [he]
      have HE := Lib.hid he
      clear he
      go_wp2_with (refine wpList_cat rfl _ _ _ _ rfl rfl rfl (by have := HL2.out; (try simp only [List.length_append, List.length_cons, List.length_nil]); omega) ?_)
      clear c4 he'
      have HD0 : Hid (d ≠ 0) := Lib.hid (nest_alive (by rw [HX3.out]; exact HE.out))
      refine (HK.out.2.1 HD0.out _ _ Q3.out.1 Q3.out.2).mono ?_
      rintro e W4 ⟨rfl, h⟩
      have hf := (HK.out.1.rest HD0.out).2.1 r3 Q3.out.2
      obtain ⟨⟨x4, r4⟩, hx⟩ : ∃ q, lo.ne r3 = q := ⟨_, rfl⟩
      rw [hx] at h hf ⊢
      have hb := HO.out.fits hf (by decide)
      have Q4 := Lib.hid (And.intro h hb.2)
      have HL4 := Lib.hid hb.1
      have HX4 := Lib.hid hx
      clear h hf hx hb
      dsimp only at Q4 HL4 ⊢
      go_wp2_with (refine wpList_cat rfl _ _ _ _ rfl rfl rfl (by have := HL2.out; have := HL4.out; (try simp only [List.length_append, List.length_cons, List.length_nil]); omega) ?_)
      go_ret
      have e1 : Pr.not tk d lo r = ([32, 40, 49, 49] ++ x2 ++ x4 ++ [41], r4) := by
        unfold Pr.not
        rw [if_pos B0.out]
        unfold Pr.unary
        simp only [HX2.out, HX3.out]
        rw [if_pos HE.out]
        simp only [HX4.out]
      rw [e1]
      exact ⟨by simp [Pr.bin], Q4.out.1⟩
    · skip
      have he' : (r3.e != 0) = true := by simp [he]
      have HE := Lib.hid he
      clear he
      go_wp2_with (refine wpList_cat rfl _ _ _ _ rfl rfl rfl (by have := HL2.out; (try simp only [List.length_append, List.length_cons, List.length_nil]); omega) ?_)
      clear c4 he'
      go_ret
      have e1 : Pr.not tk d lo r = ([], r3) := by
        unfold Pr.not
        rw [if_pos B0.out]
        unfold Pr.unary
        simp only [HX2.out, HX3.out]
        rw [if_neg HE.out]
      rw [e1]
      exact ⟨by simp [Pr.bin], Q3.out.1⟩
  · rw [Bool.not_eq_true] at b0
    have B0 := Lib.hid b0
    clear b0
    go_enter Tryz.func126, Tryz.ntmps126
    go_wp2_with (refine wpList_cat rfl _ _ _ _ rfl rfl rfl (by (try simp only [List.length_append, List.length_cons, List.length_nil]); omega) ?_)
    have hcall := qis_calls Q0.out.1 Q0.out.2 HO.out Ps.tNot
    rw [B0.out] at hcall
    refine hcall.mono ?_
    rintro e W1 ⟨rfl, h⟩
    have Q1 := Lib.hid (And.intro h Q0.out.2)
    clear h hcall
    dsimp only
    go_wp2_with (refine wpList_cat rfl _ _ _ _ rfl rfl rfl (by (try simp only [List.length_append, List.length_cons, List.length_nil]); omega) ?_)
    refine (HK.out.2.2 _ _ Q1.out.1 Q1.out.2).mono ?_
    rintro e W2 ⟨rfl, h⟩
    have hf := (Pr.sum_fits HO.out.toks HK.out.1) r Q1.out.2
    obtain ⟨⟨x2, r2⟩, hx⟩ : ∃ q, Pr.sum tk d lo r = q := ⟨_, rfl⟩
    rw [hx] at h hf ⊢
    have hb := HO.out.fits hf (by decide)
    have Q2 := Lib.hid (And.intro h hb.2)
    have HL2 := Lib.hid hb.1
    have HX2 := Lib.hid hx
    clear h hf hx hb
    dsimp only at Q2 HL2 ⊢
    by_cases b0 : Pr.is tk [61] r2 = true
    · skip
      have C0 := Lib.hid b0
      have HA : Hid (Pr.any tk Ps.sCmp r2 = true) := Lib.hid (by show (Ps.sCmp.any fun x => Pr.is tk x r2) = _; simp only [Ps.sCmp, List.any_cons, List.any_nil, C0.out, Bool.or_true, Bool.true_or, Bool.or_false, Bool.false_or])
      clear b0
      go_wp2_with (refine wpList_cat rfl _ _ _ _ rfl rfl rfl (by have := HL2.out; (try simp only [List.length_append, List.length_cons, List.length_nil]); omega) ?_)
      have hcall := qis_calls Q2.out.1 Q2.out.2 HO.out [61]
      rw [C0.out] at hcall
      refine hcall.mono ?_
      rintro e W3 ⟨rfl, h⟩
      have Q3 := Lib.hid (And.intro h Q2.out.2)
      clear h hcall
      dsimp only
      go_wp2_with (refine wpList_cat rfl _ _ _ _ rfl rfl rfl (by have := HL2.out; (try simp only [List.length_append, List.length_cons, List.length_nil]); omega) ?_)
      refine (qleaf_calls Q3.out.1 Q3.out.2 HO.out).mono ?_
      rintro e W4 ⟨rfl, h⟩
      have hf := Pr.leaf_fits HO.out.toks Q3.out.2 (Pr.any_kind HA.out)
      obtain ⟨⟨x4, r4⟩, hx⟩ : ∃ q, Pr.leaf tk r2 = q := ⟨_, rfl⟩
      rw [hx] at h hf ⊢
      have hb := HO.out.fits hf (by decide)
      have Q4 := Lib.hid (And.intro h hb.2)
      have HL4 := Lib.hid hb.1
      have HX4 := Lib.hid hx
      clear h hf hx hb
      dsimp only at Q4 HL4 ⊢
      go_wp2_with (refine wpList_cat rfl _ _ _ _ rfl rfl rfl (by have := HL2.out; have := HL4.out; (try simp only [List.length_append, List.length_cons, List.length_nil]); omega) ?_)
      refine (HK.out.2.2 _ _ Q4.out.1 Q4.out.2).mono ?_
      rintro e W5 ⟨rfl, h⟩
      have hf := (Pr.sum_fits HO.out.toks HK.out.1) r4 Q4.out.2
      obtain ⟨⟨x5, r5⟩, hx⟩ : ∃ q, Pr.sum tk d lo r4 = q := ⟨_, rfl⟩
      rw [hx] at h hf ⊢
      have hb := HO.out.fits hf (by decide)
      have Q5 := Lib.hid (And.intro h hb.2)
      have HL5 := Lib.hid hb.1
      have HX5 := Lib.hid hx
      clear h hf hx hb
      dsimp only at Q5 HL5 ⊢
      go_wp2_with (refine wpList_cat rfl _ _ _ _ rfl rfl rfl (by have := HL2.out; have := HL4.out; have := HL5.out; (try simp only [List.length_append, List.length_cons, List.length_nil]); omega) ?_)
      go_ret
      have e1 : Pr.not tk d lo r = (Pr.bin x2 x4 x5, r5) := by
        unfold Pr.not
        rw [if_neg (by rw [B0.out]; simp)]
        simp only [HX2.out]
        rw [if_pos HA.out]
        simp only [HX4.out, HX5.out]
      rw [e1]
      exact ⟨by simp [Pr.bin], Q5.out.1⟩
    · rw [Bool.not_eq_true] at b0
      by_cases b1 : Pr.is tk [60, 62] r2 = true
      · skip
        have C0 := Lib.hid b0
        have C1 := Lib.hid b1
        have HA : Hid (Pr.any tk Ps.sCmp r2 = true) := Lib.hid (by show (Ps.sCmp.any fun x => Pr.is tk x r2) = _; simp only [Ps.sCmp, List.any_cons, List.any_nil, C0.out, C1.out, Bool.or_true, Bool.true_or, Bool.or_false, Bool.false_or])
        clear b0 b1
        go_wp2_with (refine wpList_cat rfl _ _ _ _ rfl rfl rfl (by have := HL2.out; (try simp only [List.length_append, List.length_cons, List.length_nil]); omega) ?_)
        have hcall := qis_calls Q2.out.1 Q2.out.2 HO.out [61]
        rw [C0.out] at hcall
        refine hcall.mono ?_
        rintro e W3 ⟨rfl, h⟩
        have Q3 := Lib.hid (And.intro h Q2.out.2)
        clear h hcall
        dsimp only
        go_wp2_with (refine wpList_cat rfl _ _ _ _ rfl rfl rfl (by have := HL2.out; (try simp only [List.length_append, List.length_cons, List.length_nil]); omega) ?_)
        have hcall := qis_calls Q3.out.1 Q3.out.2 HO.out [60, 62]
        rw [C1.out] at hcall
        refine hcall.mono ?_
        rintro e W4 ⟨rfl, h⟩
        have Q4 := Lib.hid (And.intro h Q3.out.2)
        clear h hcall
        dsimp only
        go_wp2_with (refine wpList_cat rfl _ _ _ _ rfl rfl rfl (by have := HL2.out; (try simp only [List.length_append, List.length_cons, List.length_nil]); omega) ?_)
        refine (qleaf_calls Q4.out.1 Q4.out.2 HO.out).mono ?_
        rintro e W5 ⟨rfl, h⟩
        have hf := Pr.leaf_fits HO.out.toks Q4.out.2 (Pr.any_kind HA.out)
        obtain ⟨⟨x5, r5⟩, hx⟩ : ∃ q, Pr.leaf tk r2 = q := ⟨_, rfl⟩
        rw [hx] at h hf ⊢
        have hb := HO.out.fits hf (by decide)
        have Q5 := Lib.hid (And.intro h hb.2)
        have HL5 := Lib.hid hb.1
        have HX5 := Lib.hid hx
        clear h hf hx hb
        dsimp only at Q5 HL5 ⊢
        go_wp2_with (refine wpList_cat rfl _ _ _ _ rfl rfl rfl (by have := HL2.out; have := HL5.out; (try simp only [List.length_append, List.length_cons, List.length_nil]); omega) ?_)
        refine (HK.out.2.2 _ _ Q5.out.1 Q5.out.2).mono ?_
        rintro e W6 ⟨rfl, h⟩
        have hf := (Pr.sum_fits HO.out.toks HK.out.1) r5 Q5.out.2
        obtain ⟨⟨x6, r6⟩, hx⟩ : ∃ q, Pr.sum tk d lo r5 = q := ⟨_, rfl⟩
        rw [hx] at h hf ⊢
        have hb := HO.out.fits hf (by decide)
        have Q6 := Lib.hid (And.intro h hb.2)
        have HL6 := Lib.hid hb.1
        have HX6 := Lib.hid hx
        clear h hf hx hb
        dsimp only at Q6 HL6 ⊢
        go_wp2_with (refine wpList_cat rfl _ _ _ _ rfl rfl rfl (by have := HL2.out; have := HL5.out; have := HL6.out; (try simp only [List.length_append, List.length_cons, List.length_nil]); omega) ?_)
        go_ret
        have e1 : Pr.not tk d lo r = (Pr.bin x2 x5 x6, r6) := by
          unfold Pr.not
          rw [if_neg (by rw [B0.out]; simp)]
          simp only [HX2.out]
          rw [if_pos HA.out]
          simp only [HX5.out, HX6.out]
        rw [e1]
        exact ⟨by simp [Pr.bin], Q6.out.1⟩
      · rw [Bool.not_eq_true] at b1
        by_cases b2 : Pr.is tk [60] r2 = true
        · skip
          have C0 := Lib.hid b0
          have C1 := Lib.hid b1
          have C2 := Lib.hid b2
          have HA : Hid (Pr.any tk Ps.sCmp r2 = true) := Lib.hid (by show (Ps.sCmp.any fun x => Pr.is tk x r2) = _; simp only [Ps.sCmp, List.any_cons, List.any_nil, C0.out, C1.out, C2.out, Bool.or_true, Bool.true_or, Bool.or_false, Bool.false_or])
          clear b0 b1 b2
          go_wp2_with (refine wpList_cat rfl _ _ _ _ rfl rfl rfl (by have := HL2.out; (try simp only [List.length_append, List.length_cons, List.length_nil]); omega) ?_)
          have hcall := qis_calls Q2.out.1 Q2.out.2 HO.out [61]
          rw [C0.out] at hcall
          refine hcall.mono ?_
          rintro e W3 ⟨rfl, h⟩
          have Q3 := Lib.hid (And.intro h Q2.out.2)
          clear h hcall
          dsimp only
          go_wp2_with (refine wpList_cat rfl _ _ _ _ rfl rfl rfl (by have := HL2.out; (try simp only [List.length_append, List.length_cons, List.length_nil]); omega) ?_)
          have hcall := qis_calls Q3.out.1 Q3.out.2 HO.out [60, 62]
          rw [C1.out] at hcall
          refine hcall.mono ?_
          rintro e W4 ⟨rfl, h⟩
          have Q4 := Lib.hid (And.intro h Q3.out.2)
          clear h hcall
          dsimp only
          go_wp2_with (refine wpList_cat rfl _ _ _ _ rfl rfl rfl (by have := HL2.out; (try simp only [List.length_append, List.length_cons, List.length_nil]); omega) ?_)
          have hcall := qis_calls Q4.out.1 Q4.out.2 HO.out [60]
          rw [C2.out] at hcall
          refine hcall.mono ?_
          rintro e W5 ⟨rfl, h⟩
          have Q5 := Lib.hid (And.intro h Q4.out.2)
          clear h hcall
          dsimp only
          go_wp2_with (refine wpList_cat rfl _ _ _ _ rfl rfl rfl (by have := HL2.out; (try simp only [List.length_append, List.length_cons, List.length_nil]); omega) ?_)
          refine (qleaf_calls Q5.out.1 Q5.out.2 HO.out).mono ?_
          rintro e W6 ⟨rfl, h⟩
          have hf := Pr.leaf_fits HO.out.toks Q5.out.2 (Pr.any_kind HA.out)
          obtain ⟨⟨x6, r6⟩, hx⟩ : ∃ q, Pr.leaf tk r2 = q := ⟨_, rfl⟩
          rw [hx] at h hf ⊢
          have hb := HO.out.fits hf (by decide)
          have Q6 := Lib.hid (And.intro h hb.2)
          have HL6 := Lib.hid hb.1
          have HX6 := Lib.hid hx
          clear h hf hx hb
          dsimp only at Q6 HL6 ⊢
          go_wp2_with (refine wpList_cat rfl _ _ _ _ rfl rfl rfl (by have := HL2.out; have := HL6.out; (try simp only [List.length_append, List.length_cons, List.length_nil]); omega) ?_)
          refine (HK.out.2.2 _ _ Q6.out.1 Q6.out.2).mono ?_
          rintro e W7 ⟨rfl, h⟩
          have hf := (Pr.sum_fits HO.out.toks HK.out.1) r6 Q6.out.2
          obtain ⟨⟨x7, r7⟩, hx⟩ : ∃ q, Pr.sum tk d lo r6 = q := ⟨_, rfl⟩
          rw [hx] at h hf ⊢
          have hb := HO.out.fits hf (by decide)
          have Q7 := Lib.hid (And.intro h hb.2)
          have HL7 := Lib.hid hb.1
          have HX7 := Lib.hid hx
          clear h hf hx hb
          dsimp only at Q7 HL7 ⊢
          go_wp2_with (refine wpList_cat rfl _ _ _ _ rfl rfl rfl (by have := HL2.out; have := HL6.out; have := HL7.out; (try simp only [List.length_append, List.length_cons, List.length_nil]); omega) ?_)
          go_ret
          have e1 : Pr.not tk d lo r = (Pr.bin x2 x6 x7, r7) := by
            unfold Pr.not
            rw [if_neg (by rw [B0.out]; simp)]
            simp only [HX2.out]
            rw [if_pos HA.out]
            simp only [HX6.out, HX7.out]
          rw [e1]
          exact ⟨by simp [Pr.bin], Q7.out.1⟩
        · rw [Bool.not_eq_true] at b2
          by_cases b3 : Pr.is tk [60, 61] r2 = true
          · skip
            have C0 := Lib.hid b0
            have C1 := Lib.hid b1
            have C2 := Lib.hid b2
            have C3 := Lib.hid b3
            have HA : Hid (Pr.any tk Ps.sCmp r2 = true) := Lib.hid (by show (Ps.sCmp.any fun x => Pr.is tk x r2) = _; simp only [Ps.sCmp, List.any_cons, List.any_nil, C0.out, C1.out, C2.out, C3.out, Bool.or_true, Bool.true_or, Bool.or_false, Bool.false_or])
            clear b0 b1 b2 b3
            go_wp2_with (refine wpList_cat rfl _ _ _ _ rfl rfl rfl (by have := HL2.out; (try simp only [List.length_append, List.length_cons, List.length_nil]); omega) ?_)
            have hcall := qis_calls Q2.out.1 Q2.out.2 HO.out [61]
            rw [C0.out] at hcall
            refine hcall.mono ?_
            rintro e W3 ⟨rfl, h⟩
            have Q3 := Lib.hid (And.intro h Q2.out.2)
            clear h hcall
            dsimp only
            go_wp2_with (refine wpList_cat rfl _ _ _ _ rfl rfl rfl (by have := HL2.out; (try simp only [List.length_append, List.length_cons, List.length_nil]); omega) ?_)
            have hcall := qis_calls Q3.out.1 Q3.out.2 HO.out [60, 62]
            rw [C1.out] at hcall
            refine hcall.mono ?_
            rintro e W4 ⟨rfl, h⟩
            have Q4 := Lib.hid (And.intro h Q3.out.2)
            clear h hcall
            dsimp only
            go_wp2_with (refine wpList_cat rfl _ _ _ _ rfl rfl rfl (by have := HL2.out; (try simp only [List.length_append, List.length_cons, List.length_nil]); omega) ?_)
            have hcall := qis_calls Q4.out.1 Q4.out.2 HO.out [60]
            rw [C2.out] at hcall
            refine hcall.mono ?_
            rintro e W5 ⟨rfl, h⟩
            have Q5 := Lib.hid (And.intro h Q4.out.2)
            clear h hcall
            dsimp only
            go_wp2_with (refine wpList_cat rfl _ _ _ _ rfl rfl rfl (by have := HL2.out; (try simp only [List.length_append, List.length_cons, List.length_nil]); omega) ?_)
            have hcall := qis_calls Q5.out.1 Q5.out.2 HO.out [60, 61]
            rw [C3.out] at hcall
            refine hcall.mono ?_
            rintro e W6 ⟨rfl, h⟩
            have Q6 := Lib.hid (And.intro h Q5.out.2)
            clear h hcall
            dsimp only
            go_wp2_with (refine wpList_cat rfl _ _ _ _ rfl rfl rfl (by have := HL2.out; (try simp only [List.length_append, List.length_cons, List.length_nil]); omega) ?_)
            refine (qleaf_calls Q6.out.1 Q6.out.2 HO.out).mono ?_
            rintro e W7 ⟨rfl, h⟩
            have hf := Pr.leaf_fits HO.out.toks Q6.out.2 (Pr.any_kind HA.out)
            obtain ⟨⟨x7, r7⟩, hx⟩ : ∃ q, Pr.leaf tk r2 = q := ⟨_, rfl⟩
            rw [hx] at h hf ⊢
            have hb := HO.out.fits hf (by decide)
            have Q7 := Lib.hid (And.intro h hb.2)
            have HL7 := Lib.hid hb.1
            have HX7 := Lib.hid hx
            clear h hf hx hb
            dsimp only at Q7 HL7 ⊢
            go_wp2_with (refine wpList_cat rfl _ _ _ _ rfl rfl rfl (by have := HL2.out; have := HL7.out; (try simp only [List.length_append, List.length_cons, List.length_nil]); omega) ?_)
            refine (HK.out.2.2 _ _ Q7.out.1 Q7.out.2).mono ?_
            rintro e W8 ⟨rfl, h⟩
            have hf := (Pr.sum_fits HO.out.toks HK.out.1) r7 Q7.out.2
            obtain ⟨⟨x8, r8⟩, hx⟩ : ∃ q, Pr.sum tk d lo r7 = q := ⟨_, rfl⟩
            rw [hx] at h hf ⊢
            have hb := HO.out.fits hf (by decide)
            have Q8 := Lib.hid (And.intro h hb.2)
            have HL8 := Lib.hid hb.1
            have HX8 := Lib.hid hx
            clear h hf hx hb
            dsimp only at Q8 HL8 ⊢
            go_wp2_with (refine wpList_cat rfl _ _ _ _ rfl rfl rfl (by have := HL2.out; have := HL7.out; have := HL8.out; (try simp only [List.length_append, List.length_cons, List.length_nil]); omega) ?_)
            go_ret
            have e1 : Pr.not tk d lo r = (Pr.bin x2 x7 x8, r8) := by
              unfold Pr.not
              rw [if_neg (by rw [B0.out]; simp)]
              simp only [HX2.out]
              rw [if_pos HA.out]
              simp only [HX7.out, HX8.out]
            rw [e1]
            exact ⟨by simp [Pr.bin], Q8.out.1⟩
          · rw [Bool.not_eq_true] at b3
            by_cases b4 : Pr.is tk [62] r2 = true
            · skip
              have C0 := Lib.hid b0
              have C1 := Lib.hid b1
              have C2 := Lib.hid b2
              have C3 := Lib.hid b3
              have C4 := Lib.hid b4
              have HA : Hid (Pr.any tk Ps.sCmp r2 = true) := Lib.hid (by show (Ps.sCmp.any fun x => Pr.is tk x r2) = _; simp only [Ps.sCmp, List.any_cons, List.any_nil, C0.out, C1.out, C2.out, C3.out, C4.out, Bool.or_true, Bool.true_or, Bool.or_false, Bool.false_or])
              clear b0 b1 b2 b3 b4
              go_wp2_with (refine wpList_cat rfl _ _ _ _ rfl rfl rfl (by have := HL2.out; (try simp only [List.length_append, List.length_cons, List.length_nil]); omega) ?_)
              have hcall := qis_calls Q2.out.1 Q2.out.2 HO.out [61]
              rw [C0.out] at hcall
              refine hcall.mono ?_
              rintro e W3 ⟨rfl, h⟩
              have Q3 := Lib.hid (And.intro h Q2.out.2)
              clear h hcall
              dsimp only
              go_wp2_with (refine wpList_cat rfl _ _ _ _ rfl rfl rfl (by have := HL2.out; (try simp only [List.length_append, List.length_cons, List.length_nil]); omega) ?_)
              have hcall := qis_calls Q3.out.1 Q3.out.2 HO.out [60, 62]
              rw [C1.out] at hcall
              refine hcall.mono ?_
              rintro e W4 ⟨rfl, h⟩
              have Q4 := Lib.hid (And.intro h Q3.out.2)
              clear h hcall
              dsimp only
              go_wp2_with (refine wpList_cat rfl _ _ _ _ rfl rfl rfl (by have := HL2.out; (try simp only [List.length_append, List.length_cons, List.length_nil]); omega) ?_)
              have hcall := qis_calls Q4.out.1 Q4.out.2 HO.out [60]
              rw [C2.out] at hcall
              refine hcall.mono ?_
              rintro e W5 ⟨rfl, h⟩
              have Q5 := Lib.hid (And.intro h Q4.out.2)
              clear h hcall
              dsimp only
              go_wp2_with (refine wpList_cat rfl _ _ _ _ rfl rfl rfl (by have := HL2.out; (try simp only [List.length_append, List.length_cons, List.length_nil]); omega) ?_)
              have hcall := qis_calls Q5.out.1 Q5.out.2 HO.out [60, 61]
              rw [C3.out] at hcall
              refine hcall.mono ?_
              rintro e W6 ⟨rfl, h⟩
              have Q6 := Lib.hid (And.intro h Q5.out.2)
              clear h hcall
              dsimp only
              go_wp2_with (refine wpList_cat rfl _ _ _ _ rfl rfl rfl (by have := HL2.out; (try simp only [List.length_append, List.length_cons, List.length_nil]); omega) ?_)
              have hcall := qis_calls Q6.out.1 Q6.out.2 HO.out [62]
              rw [C4.out] at hcall
              refine hcall.mono ?_
              rintro e W7 ⟨rfl, h⟩
              have Q7 := Lib.hid (And.intro h Q6.out.2)
              clear h hcall
              dsimp only
              go_wp2_with (refine wpList_cat rfl _ _ _ _ rfl rfl rfl (by have := HL2.out; (try simp only [List.length_append, List.length_cons, List.length_nil]); omega) ?_)
              refine (qleaf_calls Q7.out.1 Q7.out.2 HO.out).mono ?_
              rintro e W8 ⟨rfl, h⟩
              have hf := Pr.leaf_fits HO.out.toks Q7.out.2 (Pr.any_kind HA.out)
              obtain ⟨⟨x8, r8⟩, hx⟩ : ∃ q, Pr.leaf tk r2 = q := ⟨_, rfl⟩
              rw [hx] at h hf ⊢
              have hb := HO.out.fits hf (by decide)
              have Q8 := Lib.hid (And.intro h hb.2)
              have HL8 := Lib.hid hb.1
              have HX8 := Lib.hid hx
              clear h hf hx hb
              dsimp only at Q8 HL8 ⊢
              go_wp2_with (refine wpList_cat rfl _ _ _ _ rfl rfl rfl (by have := HL2.out; have := HL8.out; (try simp only [List.length_append, List.length_cons, List.length_nil]); omega) ?_)
              refine (HK.out.2.2 _ _ Q8.out.1 Q8.out.2).mono ?_
              rintro e W9 ⟨rfl, h⟩
              have hf := (Pr.sum_fits HO.out.toks HK.out.1) r8 Q8.out.2
              obtain ⟨⟨x9, r9⟩, hx⟩ : ∃ q, Pr.sum tk d lo r8 = q := ⟨_, rfl⟩
              rw [hx] at h hf ⊢
              have hb := HO.out.fits hf (by decide)
              have Q9 := Lib.hid (And.intro h hb.2)
              have HL9 := Lib.hid hb.1
              have HX9 := Lib.hid hx
              clear h hf hx hb
              dsimp only at Q9 HL9 ⊢
              go_wp2_with (refine wpList_cat rfl _ _ _ _ rfl rfl rfl (by have := HL2.out; have := HL8.out; have := HL9.out; (try simp only [List.length_append, List.length_cons, List.length_nil]); omega) ?_)
              go_ret
              have e1 : Pr.not tk d lo r = (Pr.bin x2 x8 x9, r9) := by
                unfold Pr.not
                rw [if_neg (by rw [B0.out]; simp)]
                simp only [HX2.out]
                rw [if_pos HA.out]
                simp only [HX8.out, HX9.out]
              rw [e1]
              exact ⟨by simp [Pr.bin], Q9.out.1⟩
            · rw [Bool.not_eq_true] at b4
              by_cases b5 : Pr.is tk [62, 61] r2 = true
              · skip
                have C0 := Lib.hid b0
                have C1 := Lib.hid b1
                have C2 := Lib.hid b2
                have C3 := Lib.hid b3
                have C4 := Lib.hid b4
                have C5 := Lib.hid b5
                have HA : Hid (Pr.any tk Ps.sCmp r2 = true) := Lib.hid (by show (Ps.sCmp.any fun x => Pr.is tk x r2) = _; simp only [Ps.sCmp, List.any_cons, List.any_nil, C0.out, C1.out, C2.out, C3.out, C4.out, C5.out, Bool.or_true, Bool.true_or, Bool.or_false, Bool.false_or])
                clear b0 b1 b2 b3 b4 b5
                go_wp2_with (refine wpList_cat rfl _ _ _ _ rfl rfl rfl (by have := HL2.out; (try simp only [List.length_append, List.length_cons, List.length_nil]); omega) ?_)
                have hcall := qis_calls Q2.out.1 Q2.out.2 HO.out [61]
                rw [C0.out] at hcall
                refine hcall.mono ?_
                rintro e W3 ⟨rfl, h⟩
                have Q3 := Lib.hid (And.intro h Q2.out.2)
                clear h hcall
                dsimp only
                go_wp2_with (refine wpList_cat rfl _ _ _ _ rfl rfl rfl (by have := HL2.out; (try simp only [List.length_append, List.length_cons, List.length_nil]); omega) ?_)
                have hcall := qis_calls Q3.out.1 Q3.out.2 HO.out [60, 62]
                rw [C1.out] at hcall
                refine hcall.mono ?_
                rintro e W4 ⟨rfl, h⟩
                have Q4 := Lib.hid (And.intro h Q3.out.2)
                clear h hcall
                dsimp only
                go_wp2_with (refine wpList_cat rfl _ _ _ _ rfl rfl rfl (by have := HL2.out; (try simp only [List.length_append, List.length_cons, List.length_nil]); omega) ?_)
                have hcall := qis_calls Q4.out.1 Q4.out.2 HO.out [60]
                rw [C2.out] at hcall
                refine hcall.mono ?_
                rintro e W5 ⟨rfl, h⟩
                have Q5 := Lib.hid (And.intro h Q4.out.2)
                clear h hcall
                dsimp only
                go_wp2_with (refine wpList_cat rfl _ _ _ _ rfl rfl rfl (by have := HL2.out; (try simp only [List.length_append, List.length_cons, List.length_nil]); omega) ?_)
                have hcall := qis_calls Q5.out.1 Q5.out.2 HO.out [60, 61]
                rw [C3.out] at hcall
                refine hcall.mono ?_
                rintro e W6 ⟨rfl, h⟩
                have Q6 := Lib.hid (And.intro h Q5.out.2)
                clear h hcall
                dsimp only
                go_wp2_with (refine wpList_cat rfl _ _ _ _ rfl rfl rfl (by have := HL2.out; (try simp only [List.length_append, List.length_cons, List.length_nil]); omega) ?_)
                have hcall := qis_calls Q6.out.1 Q6.out.2 HO.out [62]
                rw [C4.out] at hcall
                refine hcall.mono ?_
                rintro e W7 ⟨rfl, h⟩
                have Q7 := Lib.hid (And.intro h Q6.out.2)
                clear h hcall
                dsimp only
                go_wp2_with (refine wpList_cat rfl _ _ _ _ rfl rfl rfl (by have := HL2.out; (try simp only [List.length_append, List.length_cons, List.length_nil]); omega) ?_)
                have hcall := qis_calls Q7.out.1 Q7.out.2 HO.out [62, 61]
                rw [C5.out] at hcall
                refine hcall.mono ?_
                rintro e W8 ⟨rfl, h⟩
                have Q8 := Lib.hid (And.intro h Q7.out.2)
                clear h hcall
                dsimp only
                go_wp2_with (refine wpList_cat rfl _ _ _ _ rfl rfl rfl (by have := HL2.out; (try simp only [List.length_append, List.length_cons, List.length_nil]); omega) ?_)
                refine (qleaf_calls Q8.out.1 Q8.out.2 HO.out).mono ?_
                rintro e W9 ⟨rfl, h⟩
                have hf := Pr.leaf_fits HO.out.toks Q8.out.2 (Pr.any_kind HA.out)
                obtain ⟨⟨x9, r9⟩, hx⟩ : ∃ q, Pr.leaf tk r2 = q := ⟨_, rfl⟩
                rw [hx] at h hf ⊢
                have hb := HO.out.fits hf (by decide)
                have Q9 := Lib.hid (And.intro h hb.2)
                have HL9 := Lib.hid hb.1
                have HX9 := Lib.hid hx
                clear h hf hx hb
                dsimp only at Q9 HL9 ⊢
                go_wp2_with (refine wpList_cat rfl _ _ _ _ rfl rfl rfl (by have := HL2.out; have := HL9.out; (try simp only [List.length_append, List.length_cons, List.length_nil]); omega) ?_)
                refine (HK.out.2.2 _ _ Q9.out.1 Q9.out.2).mono ?_
                rintro e W10 ⟨rfl, h⟩
                have hf := (Pr.sum_fits HO.out.toks HK.out.1) r9 Q9.out.2
                obtain ⟨⟨x10, r10⟩, hx⟩ : ∃ q, Pr.sum tk d lo r9 = q := ⟨_, rfl⟩
                rw [hx] at h hf ⊢
                have hb := HO.out.fits hf (by decide)
                have Q10 := Lib.hid (And.intro h hb.2)
                have HL10 := Lib.hid hb.1
                have HX10 := Lib.hid hx
                clear h hf hx hb
                dsimp only at Q10 HL10 ⊢
                go_wp2_with (refine wpList_cat rfl _ _ _ _ rfl rfl rfl (by have := HL2.out; have := HL9.out; have := HL10.out; (try simp only [List.length_append, List.length_cons, List.length_nil]); omega) ?_)
                go_ret
                have e1 : Pr.not tk d lo r = (Pr.bin x2 x9 x10, r10) := by
                  unfold Pr.not
                  rw [if_neg (by rw [B0.out]; simp)]
                  simp only [HX2.out]
                  rw [if_pos HA.out]
                  simp only [HX9.out, HX10.out]
                rw [e1]
                exact ⟨by simp [Pr.bin], Q10.out.1⟩
              · rw [Bool.not_eq_true] at b5
                have C0 := Lib.hid b0
                have C1 := Lib.hid b1
                have C2 := Lib.hid b2
                have C3 := Lib.hid b3
                have C4 := Lib.hid b4
                have C5 := Lib.hid b5
                have HA : Hid (Pr.any tk Ps.sCmp r2 = false) := Lib.hid (by show (Ps.sCmp.any fun x => Pr.is tk x r2) = _; simp only [Ps.sCmp, List.any_cons, List.any_nil, C0.out, C1.out, C2.out, C3.out, C4.out, C5.out, Bool.or_true, Bool.true_or, Bool.or_false, Bool.false_or])
                clear b0 b1 b2 b3 b4 b5
                go_wp2_with (refine wpList_cat rfl _ _ _ _ rfl rfl rfl (by have := HL2.out; (try simp only [List.length_append, List.length_cons, List.length_nil]); omega) ?_)
                have hcall := qis_calls Q2.out.1 Q2.out.2 HO.out [61]
                rw [C0.out] at hcall
                refine hcall.mono ?_
                rintro e W3 ⟨rfl, h⟩
                have Q3 := Lib.hid (And.intro h Q2.out.2)
                clear h hcall
                dsimp only
                go_wp2_with (refine wpList_cat rfl _ _ _ _ rfl rfl rfl (by have := HL2.out; (try simp only [List.length_append, List.length_cons, List.length_nil]); omega) ?_)
                have hcall := qis_calls Q3.out.1 Q3.out.2 HO.out [60, 62]
                rw [C1.out] at hcall
                refine hcall.mono ?_
                rintro e W4 ⟨rfl, h⟩
                have Q4 := Lib.hid (And.intro h Q3.out.2)
                clear h hcall
                dsimp only
                go_wp2_with (refine wpList_cat rfl _ _ _ _ rfl rfl rfl (by have := HL2.out; (try simp only [List.length_append, List.length_cons, List.length_nil]); omega) ?_)
                have hcall := qis_calls Q4.out.1 Q4.out.2 HO.out [60]
                rw [C2.out] at hcall
                refine hcall.mono ?_
                rintro e W5 ⟨rfl, h⟩
                have Q5 := Lib.hid (And.intro h Q4.out.2)
                clear h hcall
                dsimp only
                go_wp2_with (refine wpList_cat rfl _ _ _ _ rfl rfl rfl (by have := HL2.out; (try simp only [List.length_append, List.length_cons, List.length_nil]); omega) ?_)
                have hcall := qis_calls Q5.out.1 Q5.out.2 HO.out [60, 61]
                rw [C3.out] at hcall
                refine hcall.mono ?_
                rintro e W6 ⟨rfl, h⟩
                have Q6 := Lib.hid (And.intro h Q5.out.2)
                clear h hcall
                dsimp only
                go_wp2_with (refine wpList_cat rfl _ _ _ _ rfl rfl rfl (by have := HL2.out; (try simp only [List.length_append, List.length_cons, List.length_nil]); omega) ?_)
                have hcall := qis_calls Q6.out.1 Q6.out.2 HO.out [62]
                rw [C4.out] at hcall
                refine hcall.mono ?_
                rintro e W7 ⟨rfl, h⟩
                have Q7 := Lib.hid (And.intro h Q6.out.2)
                clear h hcall
                dsimp only
                go_wp2_with (refine wpList_cat rfl _ _ _ _ rfl rfl rfl (by have := HL2.out; (try simp only [List.length_append, List.length_cons, List.length_nil]); omega) ?_)
                have hcall := qis_calls Q7.out.1 Q7.out.2 HO.out [62, 61]
                rw [C5.out] at hcall
                refine hcall.mono ?_
                rintro e W8 ⟨rfl, h⟩
                have Q8 := Lib.hid (And.intro h Q7.out.2)
                clear h hcall
                dsimp only
                go_wp2_with (refine wpList_cat rfl _ _ _ _ rfl rfl rfl (by have := HL2.out; (try simp only [List.length_append, List.length_cons, List.length_nil]); omega) ?_)
                go_ret
                have e1 : Pr.not tk d lo r = (x2, r2) := by
                  unfold Pr.not
                  rw [if_neg (by rw [B0.out]; simp)]
                  simp only [HX2.out]
                  rw [if_neg (by rw [HA.out]; simp)]
                rw [e1]
                exact ⟨by simp [Pr.bin], Q8.out.1⟩

set_option maxRecDepth 100000 in
set_option maxHeartbeats 4000000 in
theorem qformula_calls (ho : QOk tk) {n : Int} {d : Nat} (hn0 : 0 ≤ n) (hn1 : n ≤ 300) (hd : n + 1 + d = dp + 1) {lo : Pr.Lv} (hV : Pr.FitV tk d lo) (hup : d ≠ 0 → QKnows w0 p vt tk dp 75 #[.pointer (some ⟨p, 0, none⟩), .int .i64 (n + 1)] lo.fo)
    (hbe : QKnows w0 p vt tk dp 95 #[.pointer (some ⟨p, 0, none⟩), .int .i64 n] (Pr.or tk d lo)) : QKnows w0 p vt tk dp 75 #[.pointer (some ⟨p, 0, none⟩), .int .i64 n] (Pr.formula tk d lo) := by
  intro W r h hi
  have hfo : Pr.Fit tk (Pr.or tk d lo) 0 := Pr.row_fits ho.toks (Pr.row_fits ho.toks (Pr.not_fits ho.toks hV) Ps.sAnd) Ps.sOr
  have HO := Lib.hid ho
  have Q0 := Lib.hid (And.intro h hi)
  have HK := Lib.hid (And.intro hV (And.intro hup (And.intro hbe hfo)))
  have HD := Lib.hid hd
  clear ho h hi hV hup hbe hd hfo
  go_enter Tryz.func75, Tryz.ntmps75
  go_wp2_with (refine wpList_cat rfl _ _ _ _ rfl rfl rfl (by (try simp only [List.length_append, List.length_cons, List.length_nil]); omega) ?_)
  refine (HK.out.2.2.1 _ _ Q0.out.1 Q0.out.2).mono ?_
  rintro e W1 ⟨rfl, h⟩
  have hf := HK.out.2.2.2 r Q0.out.2
  obtain ⟨⟨x1, r1⟩, hx⟩ : ∃ q, Pr.or tk d lo r = q := ⟨_, rfl⟩
  rw [hx] at h hf ⊢
  have hb := HO.out.fits hf (by decide)
  have Q1 := Lib.hid (And.intro h hb.2)
  have HL1 := Lib.hid hb.1
  have HX1 := Lib.hid hx
  clear h hf hx hb
  dsimp only at Q1 HL1 ⊢
  by_cases b0 : Pr.is tk [61, 62] r1 = true
  · skip
    have B0 := Lib.hid b0
    clear b0
    go_wp2_with (refine wpList_cat rfl _ _ _ _ rfl rfl rfl (by have := HL1.out; (try simp only [List.length_append, List.length_cons, List.length_nil]); omega) ?_)
    have hcall := qis_calls Q1.out.1 Q1.out.2 HO.out [61, 62]
    rw [B0.out] at hcall
    refine hcall.mono ?_
    rintro e W2 ⟨rfl, h⟩
    have Q2 := Lib.hid (And.intro h Q1.out.2)
    clear h hcall
    dsimp only
    go_wp2_with (refine wpList_cat rfl _ _ _ _ rfl rfl rfl (by have := HL1.out; (try simp only [List.length_append, List.length_cons, List.length_nil]); omega) ?_)
    refine (qleaf_calls Q2.out.1 Q2.out.2 HO.out).mono ?_
    rintro e W3 ⟨rfl, h⟩
    have hf := Pr.leaf_fits HO.out.toks Q2.out.2 (Pr.is_kind B0.out).1
    obtain ⟨⟨x3, r3⟩, hx⟩ : ∃ q, Pr.leaf tk r1 = q := ⟨_, rfl⟩
    rw [hx] at h hf ⊢
    have hb := HO.out.fits hf (by decide)
    have Q3 := Lib.hid (And.intro h hb.2)
    have HL3 := Lib.hid hb.1
    have HX3 := Lib.hid hx
    clear h hf hx hb
    dsimp only at Q3 HL3 ⊢
    go_wp2_with (refine wpList_cat rfl _ _ _ _ rfl rfl rfl (by have := HL1.out; have := HL3.out; (try simp only [List.length_append, List.length_cons, List.length_nil]); omega) ?_)
    refine (qnest_calls Q3.out.1 Q3.out.2 HO.out (d := d) HD.out).mono ?_
    rintro e W4 ⟨rfl, h⟩
    obtain ⟨r4, hx⟩ : ∃ q, Pr.nest tk d r3 = q := ⟨_, rfl⟩
    have hi := (by rw [Pr.nest_i]; exact Q3.out.2 : (Pr.nest tk d r3).i < tk.length)
    rw [hx] at h hi
    have Q4 := Lib.hid (And.intro h hi)
    have HX4 := Lib.hid hx
    clear h hi hx
    dsimp only
    have c4 := Q4.out.1.c4
    by_cases he : r4.e = 0
    · skip
      have he' : (r4.e != 0) = false := by simp [he]
      have HE := Lib.hid he
      clear he
      go_wp2_with (refine wpList_cat rfl _ _ _ _ rfl rfl rfl (by have := HL1.out; have := HL3.out; (try simp only [List.length_append, List.length_cons, List.length_nil]); omega) ?_)
      clear c4 he'
      have HD0 : Hid (d ≠ 0) := Lib.hid (nest_alive (by rw [HX4.out]; exact HE.out))
      refine (HK.out.2.1 HD0.out _ _ Q4.out.1 Q4.out.2).mono ?_
      rintro e W5 ⟨rfl, h⟩
      have hf := (HK.out.1.rest HD0.out).1 r4 Q4.out.2
      obtain ⟨⟨x5, r5⟩, hx⟩ : ∃ q, lo.fo r4 = q := ⟨_, rfl⟩
      rw [hx] at h hf ⊢
      have hb := HO.out.fits hf (by decide)
      have Q5 := Lib.hid (And.intro h hb.2)
      have HL5 := Lib.hid hb.1
      have HX5 := Lib.hid hx
      clear h hf hx hb
      dsimp only at Q5 HL5 ⊢
      go_wp2_with (refine wpList_cat rfl _ _ _ _ rfl rfl rfl (by have := HL1.out; have := HL3.out; have := HL5.out; (try simp only [List.length_append, List.length_cons, List.length_nil]); omega) ?_)
      go_ret
      have e1 : Pr.formula tk d lo r = (Pr.bin x1 x3 x5, r5) := by
        unfold Pr.formula
        simp only [HX1.out]
        rw [if_pos B0.out]
        simp only [HX3.out, HX4.out]
        rw [if_pos HE.out]
        simp only [HX5.out]
      rw [e1]
      exact ⟨by simp [Pr.bin], Q5.out.1⟩
    · skip
      have he' : (r4.e != 0) = true := by simp [he]
      have HE := Lib.hid he
      clear he
      go_wp2_with (refine wpList_cat rfl _ _ _ _ rfl rfl rfl (by have := HL1.out; have := HL3.out; (try simp only [List.length_append, List.length_cons, List.length_nil]); omega) ?_)
      clear c4 he'
      go_ret
      have e1 : Pr.formula tk d lo r = ([], r4) := by
        unfold Pr.formula
        simp only [HX1.out]
        rw [if_pos B0.out]
        simp only [HX3.out, HX4.out]
        rw [if_neg HE.out]
      rw [e1]
      exact ⟨by simp [Pr.bin], Q4.out.1⟩
  · skip
    rw [Bool.not_eq_true] at b0
    have B0 := Lib.hid b0
    clear b0
    go_wp2_with (refine wpList_cat rfl _ _ _ _ rfl rfl rfl (by have := HL1.out; (try simp only [List.length_append, List.length_cons, List.length_nil]); omega) ?_)
    have hcall := qis_calls Q1.out.1 Q1.out.2 HO.out [61, 62]
    rw [B0.out] at hcall
    refine hcall.mono ?_
    rintro e W2 ⟨rfl, h⟩
    have Q2 := Lib.hid (And.intro h Q1.out.2)
    clear h hcall
    dsimp only
    go_wp2_with (refine wpList_cat rfl _ _ _ _ rfl rfl rfl (by have := HL1.out; (try simp only [List.length_append, List.length_cons, List.length_nil]); omega) ?_)
    go_ret
    have e1 : Pr.formula tk d lo r = (x1, r1) := by
      unfold Pr.formula
      simp only [HX1.out]
      rw [if_neg (by rw [B0.out]; simp)]
    rw [e1]
    exact ⟨by simp [Pr.bin], Q2.out.1⟩

set_option maxRecDepth 100000 in
set_option maxHeartbeats 4000000 in
theorem qexpr_zero (ho : QOk tk) {n : Int} (hd : n = dp + 1) : QKnows w0 p vt tk dp 42 #[.pointer (some ⟨p, 0, none⟩), .int .i64 n] (Pr.lv tk 0).ex := by
  intro W r h hi
  have HO := Lib.hid ho
  have Q0 := Lib.hid (And.intro h hi)
  have hz : (Pr.nest tk 0 r).e ≠ 0 := fun e => nest_alive e rfl
  have HZ := Lib.hid (And.intro hd hz)
  clear ho h hi hd hz
  go_enter Tryz.func42, Tryz.ntmps42
  go_wp2_with (refine wpList_cat rfl _ _ _ _ rfl rfl rfl (by (try simp only [List.length_append, List.length_cons, List.length_nil]); omega) ?_)
  refine (qnest_calls Q0.out.1 Q0.out.2 HO.out (d := 0) (by simpa using HZ.out.1)).mono ?_
  rintro e W1 ⟨rfl, h⟩
  obtain ⟨r1, hx⟩ : ∃ q, Pr.nest tk 0 r = q := ⟨_, rfl⟩
  have hi := (by rw [Pr.nest_i]; exact Q0.out.2 : (Pr.nest tk 0 r).i < tk.length)
  rw [hx] at h hi
  have Q1 := Lib.hid (And.intro h hi)
  have HX1 := Lib.hid hx
  clear h hi hx
  dsimp only
  have c4 := Q1.out.1.c4
  have hz := HZ.out.2
  rw [HX1.out] at hz
  have he' : (r1.e != 0) = true := by simp [hz]
  clear hz
  go_wp2_with (refine wpList_cat rfl _ _ _ _ rfl rfl rfl (by (try simp only [List.length_append, List.length_cons, List.length_nil]); omega) ?_)
  go_ret
  have e1 : (Pr.lv tk 0).ex r = ([], r1) := by
    show (([] : List UInt8), Pr.fail tk 23 r) = _
    rw [← HX1.out]
    rfl
  rw [e1]
  exact ⟨by simp [Pr.bin], Q1.out.1⟩

set_option maxRecDepth 100000 in
set_option maxHeartbeats 4000000 in
theorem qexpr_calls (ho : QOk tk) {n : Int} {d : Nat} (hn0 : 0 ≤ n) (hn1 : n ≤ 300) (hd : n + 1 + d = dp + 1) {lo : Pr.Lv} (hV : Pr.FitV tk d lo) (hup : QKnows w0 p vt tk dp 42 #[.pointer (some ⟨p, 0, none⟩), .int .i64 (n + 1)] lo.ex)
    (hbe : QKnows w0 p vt tk dp 75 #[.pointer (some ⟨p, 0, none⟩), .int .i64 n] (Pr.formula tk d lo)) : QKnows w0 p vt tk dp 42 #[.pointer (some ⟨p, 0, none⟩), .int .i64 n] (Pr.express tk d lo) := by
  intro W r h hi
  have HO := Lib.hid ho
  have Q0 := Lib.hid (And.intro h hi)
  have HK := Lib.hid (And.intro hV (And.intro hup hbe))
  have hns : Pr.nest tk (d + 1) r = r := by unfold Pr.nest; rw [if_neg (by omega)]
  have hnc := qnest_calls h hi ho (n := n) (d := d + 1) (by omega)
  rw [hns] at hnc
  have HN := Lib.hid hnc
  clear ho h hi hV hup hbe hd hns hnc
  by_cases he : r.e = 0
  · have he' : (r.e != 0) = false := by simp [he]
    have HE := Lib.hid he
    clear he
    cases hcl : r.inn
    · skip
      by_cases b0 : Pr.is tk Ps.tLet r = true
      · skip
        have B0 := Lib.hid b0
        clear b0
        have hcl2 : r.inn = false := hcl
        go_enter Tryz.func42, Tryz.ntmps42
        go_wp2_with (refine wpList_cat rfl _ _ _ _ rfl rfl rfl (by (try simp only [List.length_append, List.length_cons, List.length_nil]); omega) ?_)
        refine HN.out.mono ?_
        rintro e W1 ⟨rfl, h⟩
        have Q1 := Lib.hid (And.intro h Q0.out.2)
        have c4 := h.c4
        have c3 := h.c3
        clear h
        dsimp only
        rw [hcl] at c3
        go_wp2_with (refine wpList_cat rfl _ _ _ _ rfl rfl rfl (by (try simp only [List.length_append, List.length_cons, List.length_nil]); omega) ?_)
        have hcall := qis_calls Q1.out.1 Q1.out.2 HO.out Ps.tLet
        rw [B0.out] at hcall
        refine hcall.mono ?_
        rintro e W2 ⟨rfl, h⟩
        have Q2 := Lib.hid (And.intro h Q1.out.2)
        clear h hcall
        dsimp only
        go_wp2_with (refine wpList_cat rfl _ _ _ _ rfl rfl rfl (by (try simp only [List.length_append, List.length_cons, List.length_nil]); omega) ?_)
        refine (qleaf_calls Q2.out.1 Q2.out.2 HO.out).mono ?_
        rintro e W3 ⟨rfl, h⟩
        have hf := Pr.leaf_fits HO.out.toks Q2.out.2 (Pr.is_kind B0.out).1
        obtain ⟨⟨x3, r3⟩, hx⟩ : ∃ q, Pr.leaf tk r = q := ⟨_, rfl⟩
        rw [hx] at h hf ⊢
        have hb := HO.out.fits hf (by decide)
        have Q3 := Lib.hid (And.intro h hb.2)
        have HL3 := Lib.hid hb.1
        have HX3 := Lib.hid hx
        clear h hf hx hb
        dsimp only at Q3 HL3 ⊢
        go_wp2_with (refine wpList_cat rfl _ _ _ _ rfl rfl rfl (by have := HL3.out; (try simp only [List.length_append, List.length_cons, List.length_nil]); omega) ?_)
        refine (qkind_calls Q3.out.1 Q3.out.2 HO.out 1).mono ?_
        rintro e W4 ⟨rfl, h⟩
        have hf := Pr.kind_fits0 HO.out.toks (k := 1) (by decide) r3 Q3.out.2
        obtain ⟨⟨x4, r4⟩, hx⟩ : ∃ q, Pr.kind tk 1 r3 = q := ⟨_, rfl⟩
        rw [hx] at h hf ⊢
        have hb := HO.out.fits hf (by decide)
        have Q4 := Lib.hid (And.intro h hb.2)
        have HL4 := Lib.hid hb.1
        have HX4 := Lib.hid hx
        clear h hf hx hb
        dsimp only at Q4 HL4 ⊢
        go_wp2_with (refine wpList_cat rfl _ _ _ _ rfl rfl rfl (by have := HL3.out; have := HL4.out; (try simp only [List.length_append, List.length_cons, List.length_nil]); omega) ?_)
        refine (qmust_calls Q4.out.1 Q4.out.2 HO.out [61]).mono ?_
        rintro e W5 ⟨rfl, h⟩
        have hf := Pr.must_fits HO.out.toks [61] r4 Q4.out.2
        obtain ⟨⟨x5, r5⟩, hx⟩ : ∃ q, Pr.must tk [61] r4 = q := ⟨_, rfl⟩
        rw [hx] at h hf ⊢
        have hb := HO.out.fits hf (by decide)
        have Q5 := Lib.hid (And.intro h hb.2)
        have HL5 := Lib.hid hb.1
        have HX5 := Lib.hid hx
        clear h hf hx hb
        dsimp only at Q5 HL5 ⊢
        go_wp2_with (refine wpList_cat rfl _ _ _ _ rfl rfl rfl (by have := HL3.out; have := HL4.out; have := HL5.out; (try simp only [List.length_append, List.length_cons, List.length_nil]); omega) ?_)
        refine (HK.out.2.1 _ _ Q5.out.1 Q5.out.2).mono ?_
        rintro e W6 ⟨rfl, h⟩
        have hf := HK.out.1.ex r5 Q5.out.2
        obtain ⟨⟨x6, r6⟩, hx⟩ : ∃ q, lo.ex r5 = q := ⟨_, rfl⟩
        rw [hx] at h hf ⊢
        have hb := HO.out.fits hf (by decide)
        have Q6 := Lib.hid (And.intro h hb.2)
        have HL6 := Lib.hid hb.1
        have HX6 := Lib.hid hx
        clear h hf hx hb
        dsimp only at Q6 HL6 ⊢
        go_wp2_with (refine wpList_cat rfl _ _ _ _ rfl rfl rfl (by have := HL3.out; have := HL4.out; have := HL5.out; have := HL6.out; (try simp only [List.length_append, List.length_cons, List.length_nil]); omega) ?_)
        refine (qmust_calls Q6.out.1 Q6.out.2 HO.out Ps.tIn).mono ?_
        rintro e W7 ⟨rfl, h⟩
        have hf := Pr.must_fits HO.out.toks Ps.tIn r6 Q6.out.2
        obtain ⟨⟨x7, r7⟩, hx⟩ : ∃ q, Pr.must tk Ps.tIn r6 = q := ⟨_, rfl⟩
        rw [hx] at h hf ⊢
        have hb := HO.out.fits hf (by decide)
        have Q7 := Lib.hid (And.intro h hb.2)
        have HL7 := Lib.hid hb.1
        have HX7 := Lib.hid hx
        clear h hf hx hb
        dsimp only at Q7 HL7 ⊢
        go_wp2_with (refine wpList_cat rfl _ _ _ _ rfl rfl rfl (by have := HL3.out; have := HL4.out; have := HL5.out; have := HL6.out; have := HL7.out; (try simp only [List.length_append, List.length_cons, List.length_nil]); omega) ?_)
        refine (HK.out.2.1 _ _ Q7.out.1 Q7.out.2).mono ?_
        rintro e W8 ⟨rfl, h⟩
        have hf := HK.out.1.ex r7 Q7.out.2
        obtain ⟨⟨x8, r8⟩, hx⟩ : ∃ q, lo.ex r7 = q := ⟨_, rfl⟩
        rw [hx] at h hf ⊢
        have hb := HO.out.fits hf (by decide)
        have Q8 := Lib.hid (And.intro h hb.2)
        have HL8 := Lib.hid hb.1
        have HX8 := Lib.hid hx
        clear h hf hx hb
        dsimp only at Q8 HL8 ⊢
        go_wp2_with (refine wpList_cat rfl _ _ _ _ rfl rfl rfl (by have := HL3.out; have := HL4.out; have := HL5.out; have := HL6.out; have := HL7.out; have := HL8.out; (try simp only [List.length_append, List.length_cons, List.length_nil]); omega) ?_)
        go_ret
        have e1 : Pr.express tk d lo r = ([32, 40, 55] ++ x3 ++ x4 ++ x5 ++ x6 ++ x7 ++ x8 ++ [41], r8) := by
          unfold Pr.express
          rw [if_pos HE.out, hcl]
          simp only [Bool.not_false, Bool.true_and]
          rw [if_pos B0.out]
          unfold Pr.exLet
          simp only [HX3.out, HX4.out, HX5.out, HX6.out, HX7.out, HX8.out]
        rw [e1]
        exact ⟨by simp [Pr.bin], Q8.out.1⟩
      · rw [Bool.not_eq_true] at b0
        by_cases b1 : Pr.is tk Ps.tIf r = true
        · skip
          have B0 := Lib.hid b0
          have B1 := Lib.hid b1
          clear b0 b1
          have hcl2 : r.inn = false := hcl
          go_enter Tryz.func42, Tryz.ntmps42
          go_wp2_with (refine wpList_cat rfl _ _ _ _ rfl rfl rfl (by (try simp only [List.length_append, List.length_cons, List.length_nil]); omega) ?_)
          refine HN.out.mono ?_
          rintro e W1 ⟨rfl, h⟩
          have Q1 := Lib.hid (And.intro h Q0.out.2)
          have c4 := h.c4
          have c3 := h.c3
          clear h
          dsimp only
          rw [hcl] at c3
          go_wp2_with (refine wpList_cat rfl _ _ _ _ rfl rfl rfl (by (try simp only [List.length_append, List.length_cons, List.length_nil]); omega) ?_)
          have hcall := qis_calls Q1.out.1 Q1.out.2 HO.out Ps.tLet
          rw [B0.out] at hcall
          refine hcall.mono ?_
          rintro e W2 ⟨rfl, h⟩
          have Q2 := Lib.hid (And.intro h Q1.out.2)
          clear h hcall
          dsimp only
          clear c3
          have c3 := Q2.out.1.c3
          rw [hcl] at c3
          go_wp2_with (refine wpList_cat rfl _ _ _ _ rfl rfl rfl (by (try simp only [List.length_append, List.length_cons, List.length_nil]); omega) ?_)
          have hcall := qis_calls Q2.out.1 Q2.out.2 HO.out Ps.tIf
          rw [B1.out] at hcall
          refine hcall.mono ?_
          rintro e W3 ⟨rfl, h⟩
          have Q3 := Lib.hid (And.intro h Q2.out.2)
          clear h hcall
          dsimp only
          go_wp2_with (refine wpList_cat rfl _ _ _ _ rfl rfl rfl (by (try simp only [List.length_append, List.length_cons, List.length_nil]); omega) ?_)
          refine (qleaf_calls Q3.out.1 Q3.out.2 HO.out).mono ?_
          rintro e W4 ⟨rfl, h⟩
          have hf := Pr.leaf_fits HO.out.toks Q3.out.2 (Pr.is_kind B1.out).1
          obtain ⟨⟨x4, r4⟩, hx⟩ : ∃ q, Pr.leaf tk r = q := ⟨_, rfl⟩
          rw [hx] at h hf ⊢
          have hb := HO.out.fits hf (by decide)
          have Q4 := Lib.hid (And.intro h hb.2)
          have HL4 := Lib.hid hb.1
          have HX4 := Lib.hid hx
          clear h hf hx hb
          dsimp only at Q4 HL4 ⊢
          go_wp2_with (refine wpList_cat rfl _ _ _ _ rfl rfl rfl (by have := HL4.out; (try simp only [List.length_append, List.length_cons, List.length_nil]); omega) ?_)
          refine (HK.out.2.1 _ _ Q4.out.1 Q4.out.2).mono ?_
          rintro e W5 ⟨rfl, h⟩
          have hf := HK.out.1.ex r4 Q4.out.2
          obtain ⟨⟨x5, r5⟩, hx⟩ : ∃ q, lo.ex r4 = q := ⟨_, rfl⟩
          rw [hx] at h hf ⊢
          have hb := HO.out.fits hf (by decide)
          have Q5 := Lib.hid (And.intro h hb.2)
          have HL5 := Lib.hid hb.1
          have HX5 := Lib.hid hx
          clear h hf hx hb
          dsimp only at Q5 HL5 ⊢
          go_wp2_with (refine wpList_cat rfl _ _ _ _ rfl rfl rfl (by have := HL4.out; have := HL5.out; (try simp only [List.length_append, List.length_cons, List.length_nil]); omega) ?_)
          refine (qmust_calls Q5.out.1 Q5.out.2 HO.out Ps.tThen).mono ?_
          rintro e W6 ⟨rfl, h⟩
          have hf := Pr.must_fits HO.out.toks Ps.tThen r5 Q5.out.2
          obtain ⟨⟨x6, r6⟩, hx⟩ : ∃ q, Pr.must tk Ps.tThen r5 = q := ⟨_, rfl⟩
          rw [hx] at h hf ⊢
          have hb := HO.out.fits hf (by decide)
          have Q6 := Lib.hid (And.intro h hb.2)
          have HL6 := Lib.hid hb.1
          have HX6 := Lib.hid hx
          clear h hf hx hb
          dsimp only at Q6 HL6 ⊢
          go_wp2_with (refine wpList_cat rfl _ _ _ _ rfl rfl rfl (by have := HL4.out; have := HL5.out; have := HL6.out; (try simp only [List.length_append, List.length_cons, List.length_nil]); omega) ?_)
          refine (HK.out.2.1 _ _ Q6.out.1 Q6.out.2).mono ?_
          rintro e W7 ⟨rfl, h⟩
          have hf := HK.out.1.ex r6 Q6.out.2
          obtain ⟨⟨x7, r7⟩, hx⟩ : ∃ q, lo.ex r6 = q := ⟨_, rfl⟩
          rw [hx] at h hf ⊢
          have hb := HO.out.fits hf (by decide)
          have Q7 := Lib.hid (And.intro h hb.2)
          have HL7 := Lib.hid hb.1
          have HX7 := Lib.hid hx
          clear h hf hx hb
          dsimp only at Q7 HL7 ⊢
          go_wp2_with (refine wpList_cat rfl _ _ _ _ rfl rfl rfl (by have := HL4.out; have := HL5.out; have := HL6.out; have := HL7.out; (try simp only [List.length_append, List.length_cons, List.length_nil]); omega) ?_)
          refine (qmust_calls Q7.out.1 Q7.out.2 HO.out Ps.tElse).mono ?_
          rintro e W8 ⟨rfl, h⟩
          have hf := Pr.must_fits HO.out.toks Ps.tElse r7 Q7.out.2
          obtain ⟨⟨x8, r8⟩, hx⟩ : ∃ q, Pr.must tk Ps.tElse r7 = q := ⟨_, rfl⟩
          rw [hx] at h hf ⊢
          have hb := HO.out.fits hf (by decide)
          have Q8 := Lib.hid (And.intro h hb.2)
          have HL8 := Lib.hid hb.1
          have HX8 := Lib.hid hx
          clear h hf hx hb
          dsimp only at Q8 HL8 ⊢
          go_wp2_with (refine wpList_cat rfl _ _ _ _ rfl rfl rfl (by have := HL4.out; have := HL5.out; have := HL6.out; have := HL7.out; have := HL8.out; (try simp only [List.length_append, List.length_cons, List.length_nil]); omega) ?_)
          refine (HK.out.2.1 _ _ Q8.out.1 Q8.out.2).mono ?_
          rintro e W9 ⟨rfl, h⟩
          have hf := HK.out.1.ex r8 Q8.out.2
          obtain ⟨⟨x9, r9⟩, hx⟩ : ∃ q, lo.ex r8 = q := ⟨_, rfl⟩
          rw [hx] at h hf ⊢
          have hb := HO.out.fits hf (by decide)
          have Q9 := Lib.hid (And.intro h hb.2)
          have HL9 := Lib.hid hb.1
          have HX9 := Lib.hid hx
          clear h hf hx hb
          dsimp only at Q9 HL9 ⊢
          go_wp2_with (refine wpList_cat rfl _ _ _ _ rfl rfl rfl (by have := HL4.out; have := HL5.out; have := HL6.out; have := HL7.out; have := HL8.out; have := HL9.out; (try simp only [List.length_append, List.length_cons, List.length_nil]); omega) ?_)
          go_ret
          have e1 : Pr.express tk d lo r = ([32, 40, 56] ++ x4 ++ x5 ++ x6 ++ x7 ++ x8 ++ x9 ++ [41], r9) := by
            unfold Pr.express
            rw [if_pos HE.out, hcl]
            simp only [Bool.not_false, Bool.true_and]
            rw [if_neg (by rw [B0.out]; simp)]
            rw [if_pos B1.out]
            unfold Pr.exIf
            simp only [HX4.out, HX5.out, HX6.out, HX7.out, HX8.out, HX9.out]
          rw [e1]
          exact ⟨by simp [Pr.bin], Q9.out.1⟩
        · rw [Bool.not_eq_true] at b1
          by_cases b2 : Pr.is tk Ps.tAssert r = true
          · skip
            have B0 := Lib.hid b0
            have B1 := Lib.hid b1
            have B2 := Lib.hid b2
            clear b0 b1 b2
            have hcl2 : r.inn = false := hcl
            go_enter Tryz.func42, Tryz.ntmps42
            go_wp2_with (refine wpList_cat rfl _ _ _ _ rfl rfl rfl (by (try simp only [List.length_append, List.length_cons, List.length_nil]); omega) ?_)
            refine HN.out.mono ?_
            rintro e W1 ⟨rfl, h⟩
            have Q1 := Lib.hid (And.intro h Q0.out.2)
            have c4 := h.c4
            have c3 := h.c3
            clear h
            dsimp only
            rw [hcl] at c3
            go_wp2_with (refine wpList_cat rfl _ _ _ _ rfl rfl rfl (by (try simp only [List.length_append, List.length_cons, List.length_nil]); omega) ?_)
            have hcall := qis_calls Q1.out.1 Q1.out.2 HO.out Ps.tLet
            rw [B0.out] at hcall
            refine hcall.mono ?_
            rintro e W2 ⟨rfl, h⟩
            have Q2 := Lib.hid (And.intro h Q1.out.2)
            clear h hcall
            dsimp only
            clear c3
            have c3 := Q2.out.1.c3
            rw [hcl] at c3
            go_wp2_with (refine wpList_cat rfl _ _ _ _ rfl rfl rfl (by (try simp only [List.length_append, List.length_cons, List.length_nil]); omega) ?_)
            have hcall := qis_calls Q2.out.1 Q2.out.2 HO.out Ps.tIf
            rw [B1.out] at hcall
            refine hcall.mono ?_
            rintro e W3 ⟨rfl, h⟩
            have Q3 := Lib.hid (And.intro h Q2.out.2)
            clear h hcall
            dsimp only
            clear c3
            have c3 := Q3.out.1.c3
            rw [hcl] at c3
            go_wp2_with (refine wpList_cat rfl _ _ _ _ rfl rfl rfl (by (try simp only [List.length_append, List.length_cons, List.length_nil]); omega) ?_)
            have hcall := qis_calls Q3.out.1 Q3.out.2 HO.out Ps.tAssert
            rw [B2.out] at hcall
            refine hcall.mono ?_
            rintro e W4 ⟨rfl, h⟩
            have Q4 := Lib.hid (And.intro h Q3.out.2)
            clear h hcall
            dsimp only
            go_wp2_with (refine wpList_cat rfl _ _ _ _ rfl rfl rfl (by (try simp only [List.length_append, List.length_cons, List.length_nil]); omega) ?_)
            refine (qleaf_calls Q4.out.1 Q4.out.2 HO.out).mono ?_
            rintro e W5 ⟨rfl, h⟩
            have hf := Pr.leaf_fits HO.out.toks Q4.out.2 (Pr.is_kind B2.out).1
            obtain ⟨⟨x5, r5⟩, hx⟩ : ∃ q, Pr.leaf tk r = q := ⟨_, rfl⟩
            rw [hx] at h hf ⊢
            have hb := HO.out.fits hf (by decide)
            have Q5 := Lib.hid (And.intro h hb.2)
            have HL5 := Lib.hid hb.1
            have HX5 := Lib.hid hx
            clear h hf hx hb
            dsimp only at Q5 HL5 ⊢
            go_wp2_with (refine wpList_cat rfl _ _ _ _ rfl rfl rfl (by have := HL5.out; (try simp only [List.length_append, List.length_cons, List.length_nil]); omega) ?_)
            refine (HK.out.2.1 _ _ Q5.out.1 Q5.out.2).mono ?_
            rintro e W6 ⟨rfl, h⟩
            have hf := HK.out.1.ex r5 Q5.out.2
            obtain ⟨⟨x6, r6⟩, hx⟩ : ∃ q, lo.ex r5 = q := ⟨_, rfl⟩
            rw [hx] at h hf ⊢
            have hb := HO.out.fits hf (by decide)
            have Q6 := Lib.hid (And.intro h hb.2)
            have HL6 := Lib.hid hb.1
            have HX6 := Lib.hid hx
            clear h hf hx hb
            dsimp only at Q6 HL6 ⊢
            go_wp2_with (refine wpList_cat rfl _ _ _ _ rfl rfl rfl (by have := HL5.out; have := HL6.out; (try simp only [List.length_append, List.length_cons, List.length_nil]); omega) ?_)
            refine (qmust_calls Q6.out.1 Q6.out.2 HO.out Ps.tIn).mono ?_
            rintro e W7 ⟨rfl, h⟩
            have hf := Pr.must_fits HO.out.toks Ps.tIn r6 Q6.out.2
            obtain ⟨⟨x7, r7⟩, hx⟩ : ∃ q, Pr.must tk Ps.tIn r6 = q := ⟨_, rfl⟩
            rw [hx] at h hf ⊢
            have hb := HO.out.fits hf (by decide)
            have Q7 := Lib.hid (And.intro h hb.2)
            have HL7 := Lib.hid hb.1
            have HX7 := Lib.hid hx
            clear h hf hx hb
            dsimp only at Q7 HL7 ⊢
            go_wp2_with (refine wpList_cat rfl _ _ _ _ rfl rfl rfl (by have := HL5.out; have := HL6.out; have := HL7.out; (try simp only [List.length_append, List.length_cons, List.length_nil]); omega) ?_)
            refine (HK.out.2.1 _ _ Q7.out.1 Q7.out.2).mono ?_
            rintro e W8 ⟨rfl, h⟩
            have hf := HK.out.1.ex r7 Q7.out.2
            obtain ⟨⟨x8, r8⟩, hx⟩ : ∃ q, lo.ex r7 = q := ⟨_, rfl⟩
            rw [hx] at h hf ⊢
            have hb := HO.out.fits hf (by decide)
            have Q8 := Lib.hid (And.intro h hb.2)
            have HL8 := Lib.hid hb.1
            have HX8 := Lib.hid hx
            clear h hf hx hb
            dsimp only at Q8 HL8 ⊢
            go_wp2_with (refine wpList_cat rfl _ _ _ _ rfl rfl rfl (by have := HL5.out; have := HL6.out; have := HL7.out; have := HL8.out; (try simp only [List.length_append, List.length_cons, List.length_nil]); omega) ?_)
            go_ret
            have e1 : Pr.express tk d lo r = ([32, 40, 57] ++ x5 ++ x6 ++ x7 ++ x8 ++ [41], r8) := by
              unfold Pr.express
              rw [if_pos HE.out, hcl]
              simp only [Bool.not_false, Bool.true_and]
              rw [if_neg (by rw [B0.out]; simp)]
              rw [if_neg (by rw [B1.out]; simp)]
              rw [if_pos B2.out]
              unfold Pr.exAssert
              simp only [HX5.out, HX6.out, HX7.out, HX8.out]
            rw [e1]
            exact ⟨by simp [Pr.bin], Q8.out.1⟩
          · rw [Bool.not_eq_true] at b2
            have B0 := Lib.hid b0
            have B1 := Lib.hid b1
            have B2 := Lib.hid b2
            clear b0 b1 b2
            have hcl2 : r.inn = false := hcl
            go_enter Tryz.func42, Tryz.ntmps42
            go_wp2_with (refine wpList_cat rfl _ _ _ _ rfl rfl rfl (by (try simp only [List.length_append, List.length_cons, List.length_nil]); omega) ?_)
            refine HN.out.mono ?_
            rintro e W1 ⟨rfl, h⟩
            have Q1 := Lib.hid (And.intro h Q0.out.2)
            have c4 := h.c4
            have c3 := h.c3
            clear h
            dsimp only
            rw [hcl] at c3
            go_wp2_with (refine wpList_cat rfl _ _ _ _ rfl rfl rfl (by (try simp only [List.length_append, List.length_cons, List.length_nil]); omega) ?_)
            have hcall := qis_calls Q1.out.1 Q1.out.2 HO.out Ps.tLet
            rw [B0.out] at hcall
            refine hcall.mono ?_
            rintro e W2 ⟨rfl, h⟩
            have Q2 := Lib.hid (And.intro h Q1.out.2)
            clear h hcall
            dsimp only
            clear c3
            have c3 := Q2.out.1.c3
            rw [hcl] at c3
            go_wp2_with (refine wpList_cat rfl _ _ _ _ rfl rfl rfl (by (try simp only [List.length_append, List.length_cons, List.length_nil]); omega) ?_)
            have hcall := qis_calls Q2.out.1 Q2.out.2 HO.out Ps.tIf
            rw [B1.out] at hcall
            refine hcall.mono ?_
            rintro e W3 ⟨rfl, h⟩
            have Q3 := Lib.hid (And.intro h Q2.out.2)
            clear h hcall
            dsimp only
            clear c3
            have c3 := Q3.out.1.c3
            rw [hcl] at c3
            go_wp2_with (refine wpList_cat rfl _ _ _ _ rfl rfl rfl (by (try simp only [List.length_append, List.length_cons, List.length_nil]); omega) ?_)
            have hcall := qis_calls Q3.out.1 Q3.out.2 HO.out Ps.tAssert
            rw [B2.out] at hcall
            refine hcall.mono ?_
            rintro e W4 ⟨rfl, h⟩
            have Q4 := Lib.hid (And.intro h Q3.out.2)
            clear h hcall
            dsimp only
            go_wp2_with (refine wpList_cat rfl _ _ _ _ rfl rfl rfl (by (try simp only [List.length_append, List.length_cons, List.length_nil]); omega) ?_)
            refine (HK.out.2.2 _ _ Q4.out.1 Q4.out.2).mono ?_
            rintro e W5 ⟨rfl, h⟩
            have hf := (Pr.formula_fits HO.out.toks HK.out.1) r Q4.out.2
            obtain ⟨⟨x5, r5⟩, hx⟩ : ∃ q, Pr.formula tk d lo r = q := ⟨_, rfl⟩
            rw [hx] at h hf ⊢
            have hb := HO.out.fits hf (by decide)
            have Q5 := Lib.hid (And.intro h hb.2)
            have HL5 := Lib.hid hb.1
            have HX5 := Lib.hid hx
            clear h hf hx hb
            dsimp only at Q5 HL5 ⊢
            go_wp2_with (refine wpList_cat rfl _ _ _ _ rfl rfl rfl (by have := HL5.out; (try simp only [List.length_append, List.length_cons, List.length_nil]); omega) ?_)
            go_ret
            have e1 : Pr.express tk d lo r = (x5, r5) := by
              unfold Pr.express
              rw [if_pos HE.out, hcl]
              simp only [Bool.not_false, Bool.true_and]
              rw [if_neg (by rw [B0.out]; simp), if_neg (by rw [B1.out]; simp), if_neg (by rw [B2.out]; simp)]
              exact HX5.out
            rw [e1]
            exact ⟨by simp [Pr.bin], Q5.out.1⟩
    · skip
      go_enter Tryz.func42, Tryz.ntmps42
      go_wp2_with (refine wpList_cat rfl _ _ _ _ rfl rfl rfl (by (try simp only [List.length_append, List.length_cons, List.length_nil]); omega) ?_)
      refine HN.out.mono ?_
      rintro e W1 ⟨rfl, h⟩
      have Q1 := Lib.hid (And.intro h Q0.out.2)
      have c4 := h.c4
      have c3 := h.c3
      clear h
      dsimp only
      rw [hcl] at c3
      go_wp2_with (refine wpList_cat rfl _ _ _ _ rfl rfl rfl (by (try simp only [List.length_append, List.length_cons, List.length_nil]); omega) ?_)
      refine (HK.out.2.2 _ _ Q1.out.1 Q1.out.2).mono ?_
      rintro e W2 ⟨rfl, h⟩
      have hf := (Pr.formula_fits HO.out.toks HK.out.1) r Q1.out.2
      obtain ⟨⟨x2, r2⟩, hx⟩ : ∃ q, Pr.formula tk d lo r = q := ⟨_, rfl⟩
      rw [hx] at h hf ⊢
      have hb := HO.out.fits hf (by decide)
      have Q2 := Lib.hid (And.intro h hb.2)
      have HL2 := Lib.hid hb.1
      have HX2 := Lib.hid hx
      clear h hf hx hb
      dsimp only at Q2 HL2 ⊢
      go_wp2_with (refine wpList_cat rfl _ _ _ _ rfl rfl rfl (by have := HL2.out; (try simp only [List.length_append, List.length_cons, List.length_nil]); omega) ?_)
      go_ret
      have e1 : Pr.express tk d lo r = (x2, r2) := by
        unfold Pr.express
        rw [if_pos HE.out, hcl]
        simp only [Bool.not_true, Bool.false_and, Bool.false_eq_true, if_false]
        exact HX2.out
      rw [e1]
      exact ⟨by simp [Pr.bin], Q2.out.1⟩
  · have he' : (r.e != 0) = true := by simp [he]
    have HE := Lib.hid he
    clear he
    go_enter Tryz.func42, Tryz.ntmps42
    go_wp2_with (refine wpList_cat rfl _ _ _ _ rfl rfl rfl (by (try simp only [List.length_append, List.length_cons, List.length_nil]); omega) ?_)
    refine HN.out.mono ?_
    rintro e W1 ⟨rfl, h⟩
    have Q1 := Lib.hid (And.intro h Q0.out.2)
    have c4 := h.c4
    have c3 := h.c3
    clear h
    dsimp only
    go_wp2_with (refine wpList_cat rfl _ _ _ _ rfl rfl rfl (by (try simp only [List.length_append, List.length_cons, List.length_nil]); omega) ?_)
    go_ret
    have e1 : Pr.express tk d lo r = ([], r) := by
      unfold Pr.express
      rw [if_neg HE.out]
    rw [e1]
    exact ⟨by simp [Pr.bin], Q1.out.1⟩
end
end Go.Proofs.YtpkhdlnlkeehhaaGreatDoor
