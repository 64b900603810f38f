/- Contracts and plain laws, in one text. The document's parser: all levels; typed, params, def: the walks. | The document's parser: program, alone, Parse: the walks. -/
import Derived.Test.YtpkhdlnlkeehhaaGreatDoorPlmM8
import Derived.Test.YtpkhdlnlkeehhaaGreatDoorPlmM6
import Derived.Test.YtpkhdlnlkeehhaaGreatDoorPlmM5
/- The document's parser: all levels; typed, params, def: the walks. -/
namespace Go.Proofs.YtpkhdlnlkeehhaaGreatDoor
open Go.RowKit

section
variable {w0 : World} {p : Nat} {vt : Value} {tk : List Tr.Tk} {dp : Int}
structure QKnowsV (w0 : World) (p : Nat) (vt : Value) (tk : List Tr.Tk) (dp : Int) (d : Nat) (n : Int) : Prop where
  ex : QKnows w0 p vt tk dp 42 #[.pointer (some ⟨p, 0, none⟩), .int .i64 n] (Pr.lv tk d).ex
  rest : d ≠ 0 → QKnows w0 p vt tk dp 75 #[.pointer (some ⟨p, 0, none⟩), .int .i64 n] (Pr.lv tk d).fo ∧ QKnows w0 p vt tk dp 126 #[.pointer (some ⟨p, 0, none⟩), .int .i64 n] (Pr.lv tk d).ne ∧ QKnows w0 p vt tk dp 148 #[.pointer (some ⟨p, 0, none⟩), .int .i64 n] (Pr.lv tk d).fa
theorem qlv_calls (ho : QOk tk) (hdp : dp ≤ 200) : ∀ (d : Nat) (n : Int), 0 ≤ n → n + d = dp + 1 → QKnowsV w0 p vt tk dp d n
  | 0, n, _, hd => ⟨qexpr_zero ho (by simpa using hd), fun h => absurd rfl h⟩
  | d + 1, n, h0, hd => by
    have h1 : n ≤ 300 := by omega
    have hd' : n + 1 + d = dp + 1 := by omega
    have hV := Pr.lv_fits ho.toks d
    have hk : QKnowsV w0 p vt tk dp d (n + 1) := qlv_calls ho hdp d (n + 1) (by omega) hd'
    have ha := qatom_calls ho h0 h1 hV.ex hk.ex
    have hfa := qfactor_calls ho h0 h1 hd' hV (fun hz => (hk.rest hz).2.2) ha
    have ffa := Pr.factor_fits ho.toks hV
    have hpr := qproduct_calls ho ffa hfa
    have hsu := qsum_calls ho (Pr.row_fits ho.toks ffa Ps.sMul) hpr
    have hno := qnot_calls ho h0 h1 hd' hV (fun hz => (hk.rest hz).2.1) hsu
    have fno := Pr.not_fits ho.toks hV
    have han := qand_calls ho fno hno
    have hor := qor_calls ho (Pr.row_fits ho.toks fno Ps.sAnd) han
    have hfo := qformula_calls ho h0 h1 hd' hV (fun hz => (hk.rest hz).1) hor
    exact ⟨qexpr_calls ho h0 h1 hd' hV hk.ex hfo, fun _ => ⟨hfo, hno, hfa⟩⟩

set_option maxRecDepth 100000 in
set_option maxHeartbeats 4000000 in
theorem qtyped_calls (ho : QOk tk) {f : Pr.G} (hf : Pr.Fit tk f 0) (hk : QKnows w0 p vt tk dp 42 #[.pointer (some ⟨p, 0, none⟩), .int .i64 1] f) : QKnows w0 p vt tk dp 77 #[.pointer (some ⟨p, 0, none⟩)] (Pr.typed tk f) := by
  intro W r h hi
  have HO := Lib.hid ho
  have Q0 := Lib.hid (And.intro h hi)
  have HK := Lib.hid (And.intro hk hf)
  clear ho h hi hf hk
  obtain ⟨⟨x1, r1⟩, hx1⟩ : ∃ q, Pr.must tk [58] r = q := ⟨_, rfl⟩
  have HXX := Lib.hid hx1
  clear hx1
  by_cases b0 : Pr.is tk Ps.tInt r1 = true
  · have B0 := Lib.hid b0
    clear b0
    go_enter Tryz.func77, Tryz.ntmps77
    go_wp2_with (refine wpList_cat rfl _ _ _ _ rfl rfl rfl (by (try simp only [List.length_append, List.length_cons, List.length_nil]); omega) ?_)
    refine (qmust_calls Q0.out.1 Q0.out.2 HO.out [58]).mono ?_
    rintro e W1 ⟨rfl, h⟩
    have hf := Pr.must_fits HO.out.toks [58] r Q0.out.2
    rw [HXX.out] at h hf ⊢
    have hb := HO.out.fits hf (by decide)
    have Q1 := Lib.hid (And.intro h hb.2)
    have HL1 : Hid (x1.length ≤ 1000001000) := Lib.hid hb.1
    clear h hf hb
    dsimp only at Q1 ⊢
    go_wp2_with (refine wpList_cat rfl _ _ _ _ rfl rfl rfl (by have := HL1.out; (try simp only [List.length_append, List.length_cons, List.length_nil]); omega) ?_)
    have hcall := qis_calls Q1.out.1 Q1.out.2 HO.out Ps.tInt
    rw [B0.out] at hcall
    refine hcall.mono ?_
    rintro e W2 ⟨rfl, h⟩
    have Q2 := Lib.hid (And.intro h Q1.out.2)
    clear h hcall
    dsimp only
    go_wp2_with (refine wpList_cat rfl _ _ _ _ rfl rfl rfl (by have := HL1.out; (try simp only [List.length_append, List.length_cons, List.length_nil]); omega) ?_)
    refine (qleaf_calls Q2.out.1 Q2.out.2 HO.out).mono ?_
    rintro e W3 ⟨rfl, h⟩
    have hf := Pr.leaf_fits HO.out.toks Q2.out.2 (Pr.is_kind B0.out).1
    obtain ⟨⟨x3, r3⟩, hx⟩ : ∃ q, Pr.leaf tk r1 = q := ⟨_, rfl⟩
    rw [hx] at h hf ⊢
    have hb := HO.out.fits hf (by decide)
    have Q3 := Lib.hid (And.intro h hb.2)
    have HL3 := Lib.hid hb.1
    have HX3 := Lib.hid hx
    clear h hf hx hb
    dsimp only at Q3 HL3 ⊢
    have HB : Hid (Pr.base tk x1 r1 = ((x1 ++ ([32, 40, 53] ++ x3 ++ [41])), r3)) := Lib.hid (by unfold Pr.base; rw [if_pos (by rw [B0.out]; simp)]; simp only [HX3.out])
    by_cases b9 : Pr.is tk [123] r3 = true
    · skip
      have B9 := Lib.hid b9
      clear b9
      go_wp2_with (refine wpList_cat rfl _ _ _ _ rfl rfl rfl (by have := HL1.out; have := HL3.out; (try simp only [List.length_append, List.length_cons, List.length_nil]); omega) ?_)
      have hcall := qis_calls Q3.out.1 Q3.out.2 HO.out [123]
      rw [B9.out] at hcall
      refine hcall.mono ?_
      rintro e W4 ⟨rfl, h⟩
      have Q4 := Lib.hid (And.intro h Q3.out.2)
      clear h hcall
      dsimp only
      go_wp2_with (refine wpList_cat rfl _ _ _ _ rfl rfl rfl (by have := HL1.out; have := HL3.out; (try simp only [List.length_append, List.length_cons, List.length_nil]); omega) ?_)
      refine (qleaf_calls Q4.out.1 Q4.out.2 HO.out).mono ?_
      rintro e W5 ⟨rfl, h⟩
      have hf := Pr.leaf_fits HO.out.toks Q4.out.2 (Pr.is_kind B9.out).1
      obtain ⟨⟨x5, r5⟩, hx⟩ : ∃ q, Pr.leaf tk r3 = q := ⟨_, rfl⟩
      rw [hx] at h hf ⊢
      have hb := HO.out.fits hf (by decide)
      have Q5 := Lib.hid (And.intro h hb.2)
      have HL5 := Lib.hid hb.1
      have HX5 := Lib.hid hx
      clear h hf hx hb
      dsimp only at Q5 HL5 ⊢
      have c3 := Q5.out.1.c3
      have f3 := frozen_of_heap Q5.out.1.cell 3
      go_wp2_with (refine wpList_cat rfl _ _ _ _ rfl rfl rfl (by have := HL1.out; have := HL3.out; have := HL5.out; (try simp only [List.length_append, List.length_cons, List.length_nil]); omega) ?_)
      clear c3 f3
      have h := Q5.out.1.inn true
      obtain ⟨W6, hw⟩ : ∃ V, W5.setCell ⟨p, 3, none⟩ (.bool true) = V := ⟨_, rfl⟩
      obtain ⟨r6, hr⟩ : ∃ q : Pr.Rs, { r5 with inn := true } = q := ⟨_, rfl⟩
      have hi : r6.i < tk.length := by rw [← hr]; exact Q5.out.2
      rw [hw, hr] at h
      rw [hw]
      have Q6 := Lib.hid (And.intro h hi)
      have HX6 := Lib.hid hr
      clear h hw hr hi
      refine (HK.out.1 _ _ Q6.out.1 Q6.out.2).mono ?_
      rintro e W7 ⟨rfl, h⟩
      have hf := HK.out.2 r6 Q6.out.2
      obtain ⟨⟨x7, r7⟩, hx⟩ : ∃ q, f r6 = q := ⟨_, rfl⟩
      rw [hx] at h hf ⊢
      have hb := HO.out.fits hf (by decide)
      have Q7 := Lib.hid (And.intro h hb.2)
      have HL7 := Lib.hid hb.1
      have HX7 := Lib.hid hx
      clear h hf hx hb
      dsimp only at Q7 HL7 ⊢
      have c3 := Q7.out.1.c3
      have f3 := frozen_of_heap Q7.out.1.cell 3
      go_wp2_with (refine wpList_cat rfl _ _ _ _ rfl rfl rfl (by have := HL1.out; have := HL3.out; have := HL5.out; have := HL7.out; (try simp only [List.length_append, List.length_cons, List.length_nil]); omega) ?_)
      clear c3 f3
      have h := Q7.out.1.inn false
      obtain ⟨W8, hw⟩ : ∃ V, W7.setCell ⟨p, 3, none⟩ (.bool false) = V := ⟨_, rfl⟩
      obtain ⟨r8, hr⟩ : ∃ q : Pr.Rs, { r7 with inn := false } = q := ⟨_, rfl⟩
      have hi : r8.i < tk.length := by rw [← hr]; exact Q7.out.2
      rw [hw, hr] at h
      rw [hw]
      have Q8 := Lib.hid (And.intro h hi)
      have HX8 := Lib.hid hr
      clear h hw hr hi
      refine (qmust_calls Q8.out.1 Q8.out.2 HO.out [125]).mono ?_
      rintro e W9 ⟨rfl, h⟩
      have hf := Pr.must_fits HO.out.toks [125] r8 Q8.out.2
      obtain ⟨⟨x9, r9⟩, hx⟩ : ∃ q, Pr.must tk [125] r8 = q := ⟨_, rfl⟩
      rw [hx] at h hf ⊢
      have hb := HO.out.fits hf (by decide)
      have Q9 := Lib.hid (And.intro h hb.2)
      have HL9 := Lib.hid hb.1
      have HX9 := Lib.hid hx
      clear h hf hx hb
      dsimp only at Q9 HL9 ⊢
      go_wp2_with (refine wpList_cat rfl _ _ _ _ rfl rfl rfl (by have := HL1.out; have := HL3.out; have := HL5.out; have := HL7.out; have := HL9.out; (try simp only [List.length_append, List.length_cons, List.length_nil]); omega) ?_)
      go_ret
      have e1 : Pr.typed tk f r = ((x1 ++ ([32, 40, 53] ++ x3 ++ [41])) ++ ([32, 40, 54] ++ x5 ++ x7 ++ x9 ++ [41]), r9) := by
        unfold Pr.typed
        simp only [HXX.out, HB.out]
        rw [if_pos B9.out]
        simp only [HX5.out, HX6.out, HX7.out, HX8.out, HX9.out]
      rw [e1]
      exact ⟨by simp [Pr.bin], Q9.out.1⟩
    · skip
      rw [Bool.not_eq_true] at b9
      have B9 := Lib.hid b9
      clear b9
      go_wp2_with (refine wpList_cat rfl _ _ _ _ rfl rfl rfl (by have := HL1.out; have := HL3.out; (try simp only [List.length_append, List.length_cons, List.length_nil]); omega) ?_)
      have hcall := qis_calls Q3.out.1 Q3.out.2 HO.out [123]
      rw [B9.out] at hcall
      refine hcall.mono ?_
      rintro e W4 ⟨rfl, h⟩
      have Q4 := Lib.hid (And.intro h Q3.out.2)
      clear h hcall
      dsimp only
      go_wp2_with (refine wpList_cat rfl _ _ _ _ rfl rfl rfl (by have := HL1.out; have := HL3.out; (try simp only [List.length_append, List.length_cons, List.length_nil]); omega) ?_)
      go_ret
      have e1 : Pr.typed tk f r = ((x1 ++ ([32, 40, 53] ++ x3 ++ [41])), r3) := by
        unfold Pr.typed
        simp only [HXX.out, HB.out]
        rw [if_neg (by rw [B9.out]; simp)]
      rw [e1]
      exact ⟨by simp [Pr.bin], Q4.out.1⟩
  · rw [Bool.not_eq_true] at b0
    have B0 := Lib.hid b0
    clear b0
    by_cases b1 : Pr.is tk Ps.tBool r1 = true
    · have B1 := Lib.hid b1
      clear b1
      go_enter Tryz.func77, Tryz.ntmps77
      go_wp2_with (refine wpList_cat rfl _ _ _ _ rfl rfl rfl (by (try simp only [List.length_append, List.length_cons, List.length_nil]); omega) ?_)
      refine (qmust_calls Q0.out.1 Q0.out.2 HO.out [58]).mono ?_
      rintro e W1 ⟨rfl, h⟩
      have hf := Pr.must_fits HO.out.toks [58] r Q0.out.2
      rw [HXX.out] at h hf ⊢
      have hb := HO.out.fits hf (by decide)
      have Q1 := Lib.hid (And.intro h hb.2)
      have HL1 : Hid (x1.length ≤ 1000001000) := Lib.hid hb.1
      clear h hf hb
      dsimp only at Q1 ⊢
      go_wp2_with (refine wpList_cat rfl _ _ _ _ rfl rfl rfl (by have := HL1.out; (try simp only [List.length_append, List.length_cons, List.length_nil]); omega) ?_)
      have hcall := qis_calls Q1.out.1 Q1.out.2 HO.out Ps.tInt
      rw [B0.out] at hcall
      refine hcall.mono ?_
      rintro e W2 ⟨rfl, h⟩
      have Q2 := Lib.hid (And.intro h Q1.out.2)
      clear h hcall
      dsimp only
      go_wp2_with (refine wpList_cat rfl _ _ _ _ rfl rfl rfl (by have := HL1.out; (try simp only [List.length_append, List.length_cons, List.length_nil]); omega) ?_)
      have hcall := qis_calls Q2.out.1 Q2.out.2 HO.out Ps.tBool
      rw [B1.out] at hcall
      refine hcall.mono ?_
      rintro e W3 ⟨rfl, h⟩
      have Q3 := Lib.hid (And.intro h Q2.out.2)
      clear h hcall
      dsimp only
      go_wp2_with (refine wpList_cat rfl _ _ _ _ rfl rfl rfl (by have := HL1.out; (try simp only [List.length_append, List.length_cons, List.length_nil]); omega) ?_)
      refine (qleaf_calls Q3.out.1 Q3.out.2 HO.out).mono ?_
      rintro e W4 ⟨rfl, h⟩
      have hf := Pr.leaf_fits HO.out.toks Q3.out.2 (Pr.is_kind B1.out).1
      obtain ⟨⟨x4, r4⟩, hx⟩ : ∃ q, Pr.leaf tk r1 = q := ⟨_, rfl⟩
      rw [hx] at h hf ⊢
      have hb := HO.out.fits hf (by decide)
      have Q4 := Lib.hid (And.intro h hb.2)
      have HL4 := Lib.hid hb.1
      have HX4 := Lib.hid hx
      clear h hf hx hb
      dsimp only at Q4 HL4 ⊢
      have HB : Hid (Pr.base tk x1 r1 = ((x1 ++ ([32, 40, 53] ++ x4 ++ [41])), r4)) := Lib.hid (by unfold Pr.base; rw [if_pos (by rw [B1.out]; simp)]; simp only [HX4.out])
      by_cases b9 : Pr.is tk [123] r4 = true
      · skip
        have B9 := Lib.hid b9
        clear b9
        go_wp2_with (refine wpList_cat rfl _ _ _ _ rfl rfl rfl (by have := HL1.out; have := HL4.out; (try simp only [List.length_append, List.length_cons, List.length_nil]); omega) ?_)
        have hcall := qis_calls Q4.out.1 Q4.out.2 HO.out [123]
        rw [B9.out] at hcall
        refine hcall.mono ?_
        rintro e W5 ⟨rfl, h⟩
        have Q5 := Lib.hid (And.intro h Q4.out.2)
        clear h hcall
        dsimp only
        go_wp2_with (refine wpList_cat rfl _ _ _ _ rfl rfl rfl (by have := HL1.out; have := HL4.out; (try simp only [List.length_append, List.length_cons, List.length_nil]); omega) ?_)
        refine (qleaf_calls Q5.out.1 Q5.out.2 HO.out).mono ?_
        rintro e W6 ⟨rfl, h⟩
        have hf := Pr.leaf_fits HO.out.toks Q5.out.2 (Pr.is_kind B9.out).1
        obtain ⟨⟨x6, r6⟩, hx⟩ : ∃ q, Pr.leaf tk r4 = q := ⟨_, rfl⟩
        rw [hx] at h hf ⊢
        have hb := HO.out.fits hf (by decide)
        have Q6 := Lib.hid (And.intro h hb.2)
        have HL6 := Lib.hid hb.1
        have HX6 := Lib.hid hx
        clear h hf hx hb
        dsimp only at Q6 HL6 ⊢
        have c3 := Q6.out.1.c3
        have f3 := frozen_of_heap Q6.out.1.cell 3
        go_wp2_with (refine wpList_cat rfl _ _ _ _ rfl rfl rfl (by have := HL1.out; have := HL4.out; have := HL6.out; (try simp only [List.length_append, List.length_cons, List.length_nil]); omega) ?_)
        clear c3 f3
        have h := Q6.out.1.inn true
        obtain ⟨W7, hw⟩ : ∃ V, W6.setCell ⟨p, 3, none⟩ (.bool true) = V := ⟨_, rfl⟩
        obtain ⟨r7, hr⟩ : ∃ q : Pr.Rs, { r6 with inn := true } = q := ⟨_, rfl⟩
        have hi : r7.i < tk.length := by rw [← hr]; exact Q6.out.2
        rw [hw, hr] at h
        rw [hw]
        have Q7 := Lib.hid (And.intro h hi)
        have HX7 := Lib.hid hr
        clear h hw hr hi
        refine (HK.out.1 _ _ Q7.out.1 Q7.out.2).mono ?_
        rintro e W8 ⟨rfl, h⟩
        have hf := HK.out.2 r7 Q7.out.2
        obtain ⟨⟨x8, r8⟩, hx⟩ : ∃ q, f r7 = q := ⟨_, rfl⟩
        rw [hx] at h hf ⊢
        have hb := HO.out.fits hf (by decide)
        have Q8 := Lib.hid (And.intro h hb.2)
        have HL8 := Lib.hid hb.1
        have HX8 := Lib.hid hx
        clear h hf hx hb
        dsimp only at Q8 HL8 ⊢
        have c3 := Q8.out.1.c3
        have f3 := frozen_of_heap Q8.out.1.cell 3
        go_wp2_with (refine wpList_cat rfl _ _ _ _ rfl rfl rfl (by have := HL1.out; have := HL4.out; have := HL6.out; have := HL8.out; (try simp only [List.length_append, List.length_cons, List.length_nil]); omega) ?_)
        clear c3 f3
        have h := Q8.out.1.inn false
        obtain ⟨W9, hw⟩ : ∃ V, W8.setCell ⟨p, 3, none⟩ (.bool false) = V := ⟨_, rfl⟩
        obtain ⟨r9, hr⟩ : ∃ q : Pr.Rs, { r8 with inn := false } = q := ⟨_, rfl⟩
        have hi : r9.i < tk.length := by rw [← hr]; exact Q8.out.2
        rw [hw, hr] at h
        rw [hw]
        have Q9 := Lib.hid (And.intro h hi)
        have HX9 := Lib.hid hr
        clear h hw hr hi
        refine (qmust_calls Q9.out.1 Q9.out.2 HO.out [125]).mono ?_
        rintro e W10 ⟨rfl, h⟩
        have hf := Pr.must_fits HO.out.toks [125] r9 Q9.out.2
        obtain ⟨⟨x10, r10⟩, hx⟩ : ∃ q, Pr.must tk [125] r9 = q := ⟨_, rfl⟩
        rw [hx] at h hf ⊢
        have hb := HO.out.fits hf (by decide)
        have Q10 := Lib.hid (And.intro h hb.2)
        have HL10 := Lib.hid hb.1
        have HX10 := Lib.hid hx
        clear h hf hx hb
        dsimp only at Q10 HL10 ⊢
        go_wp2_with (refine wpList_cat rfl _ _ _ _ rfl rfl rfl (by have := HL1.out; have := HL4.out; have := HL6.out; have := HL8.out; have := HL10.out; (try simp only [List.length_append, List.length_cons, List.length_nil]); omega) ?_)
        go_ret
        have e1 : Pr.typed tk f r = ((x1 ++ ([32, 40, 53] ++ x4 ++ [41])) ++ ([32, 40, 54] ++ x6 ++ x8 ++ x10 ++ [41]), r10) := by
          unfold Pr.typed
          simp only [HXX.out, HB.out]
          rw [if_pos B9.out]
          simp only [HX6.out, HX7.out, HX8.out, HX9.out, HX10.out]
        rw [e1]
        exact ⟨by simp [Pr.bin], Q10.out.1⟩
      · skip
        rw [Bool.not_eq_true] at b9
        have B9 := Lib.hid b9
        clear b9
        go_wp2_with (refine wpList_cat rfl _ _ _ _ rfl rfl rfl (by have := HL1.out; have := HL4.out; (try simp only [List.length_append, List.length_cons, List.length_nil]); omega) ?_)
        have hcall := qis_calls Q4.out.1 Q4.out.2 HO.out [123]
        rw [B9.out] at hcall
        refine hcall.mono ?_
        rintro e W5 ⟨rfl, h⟩
        have Q5 := Lib.hid (And.intro h Q4.out.2)
        clear h hcall
        dsimp only
        go_wp2_with (refine wpList_cat rfl _ _ _ _ rfl rfl rfl (by have := HL1.out; have := HL4.out; (try simp only [List.length_append, List.length_cons, List.length_nil]); omega) ?_)
        go_ret
        have e1 : Pr.typed tk f r = ((x1 ++ ([32, 40, 53] ++ x4 ++ [41])), r4) := by
          unfold Pr.typed
          simp only [HXX.out, HB.out]
          rw [if_neg (by rw [B9.out]; simp)]
        rw [e1]
        exact ⟨by simp [Pr.bin], Q5.out.1⟩
    · rw [Bool.not_eq_true] at b1
      have B1 := Lib.hid b1
      clear b1
      go_enter Tryz.func77, Tryz.ntmps77
      go_wp2_with (refine wpList_cat rfl _ _ _ _ rfl rfl rfl (by (try simp only [List.length_append, List.length_cons, List.length_nil]); omega) ?_)
      refine (qmust_calls Q0.out.1 Q0.out.2 HO.out [58]).mono ?_
      rintro e W1 ⟨rfl, h⟩
      have hf := Pr.must_fits HO.out.toks [58] r Q0.out.2
      rw [HXX.out] at h hf ⊢
      have hb := HO.out.fits hf (by decide)
      have Q1 := Lib.hid (And.intro h hb.2)
      have HL1 : Hid (x1.length ≤ 1000001000) := Lib.hid hb.1
      clear h hf hb
      dsimp only at Q1 ⊢
      go_wp2_with (refine wpList_cat rfl _ _ _ _ rfl rfl rfl (by have := HL1.out; (try simp only [List.length_append, List.length_cons, List.length_nil]); omega) ?_)
      have hcall := qis_calls Q1.out.1 Q1.out.2 HO.out Ps.tInt
      rw [B0.out] at hcall
      refine hcall.mono ?_
      rintro e W2 ⟨rfl, h⟩
      have Q2 := Lib.hid (And.intro h Q1.out.2)
      clear h hcall
      dsimp only
      go_wp2_with (refine wpList_cat rfl _ _ _ _ rfl rfl rfl (by have := HL1.out; (try simp only [List.length_append, List.length_cons, List.length_nil]); omega) ?_)
      have hcall := qis_calls Q2.out.1 Q2.out.2 HO.out Ps.tBool
      rw [B1.out] at hcall
      refine hcall.mono ?_
      rintro e W3 ⟨rfl, h⟩
      have Q3 := Lib.hid (And.intro h Q2.out.2)
      clear h hcall
      dsimp only
      go_wp2_with (refine wpList_cat rfl _ _ _ _ rfl rfl rfl (by have := HL1.out; (try simp only [List.length_append, List.length_cons, List.length_nil]); omega) ?_)
      refine (qfail_calls Q3.out.1 Q3.out.2 HO.out 22).mono ?_
      rintro e W4 ⟨rfl, h⟩
      obtain ⟨r4, hx⟩ : ∃ q, Pr.fail tk 22 r1 = q := ⟨_, rfl⟩
      have hi := (by rw [Pr.fail_i]; exact Q3.out.2 : (Pr.fail tk 22 r1).i < tk.length)
      rw [hx] at h hi
      have Q4 := Lib.hid (And.intro h hi)
      have HX4 := Lib.hid hx
      clear h hi hx
      dsimp only
      have HB : Hid (Pr.base tk x1 r1 = (x1, r4)) := Lib.hid (by unfold Pr.base; rw [if_neg (by rw [B0.out, B1.out]; simp), HX4.out])
      by_cases b9 : Pr.is tk [123] r4 = true
      · skip
        have B9 := Lib.hid b9
        clear b9
        go_wp2_with (refine wpList_cat rfl _ _ _ _ rfl rfl rfl (by have := HL1.out; (try simp only [List.length_append, List.length_cons, List.length_nil]); omega) ?_)
        have hcall := qis_calls Q4.out.1 Q4.out.2 HO.out [123]
        rw [B9.out] at hcall
        refine hcall.mono ?_
        rintro e W5 ⟨rfl, h⟩
        have Q5 := Lib.hid (And.intro h Q4.out.2)
        clear h hcall
        dsimp only
        go_wp2_with (refine wpList_cat rfl _ _ _ _ rfl rfl rfl (by have := HL1.out; (try simp only [List.length_append, List.length_cons, List.length_nil]); omega) ?_)
        refine (qleaf_calls Q5.out.1 Q5.out.2 HO.out).mono ?_
        rintro e W6 ⟨rfl, h⟩
        have hf := Pr.leaf_fits HO.out.toks Q5.out.2 (Pr.is_kind B9.out).1
        obtain ⟨⟨x6, r6⟩, hx⟩ : ∃ q, Pr.leaf tk r4 = q := ⟨_, rfl⟩
        rw [hx] at h hf ⊢
        have hb := HO.out.fits hf (by decide)
        have Q6 := Lib.hid (And.intro h hb.2)
        have HL6 := Lib.hid hb.1
        have HX6 := Lib.hid hx
        clear h hf hx hb
        dsimp only at Q6 HL6 ⊢
        have c3 := Q6.out.1.c3
        have f3 := frozen_of_heap Q6.out.1.cell 3
        go_wp2_with (refine wpList_cat rfl _ _ _ _ rfl rfl rfl (by have := HL1.out; have := HL6.out; (try simp only [List.length_append, List.length_cons, List.length_nil]); omega) ?_)
        clear c3 f3
        have h := Q6.out.1.inn true
        obtain ⟨W7, hw⟩ : ∃ V, W6.setCell ⟨p, 3, none⟩ (.bool true) = V := ⟨_, rfl⟩
        obtain ⟨r7, hr⟩ : ∃ q : Pr.Rs, { r6 with inn := true } = q := ⟨_, rfl⟩
        have hi : r7.i < tk.length := by rw [← hr]; exact Q6.out.2
        rw [hw, hr] at h
        rw [hw]
        have Q7 := Lib.hid (And.intro h hi)
        have HX7 := Lib.hid hr
        clear h hw hr hi
        refine (HK.out.1 _ _ Q7.out.1 Q7.out.2).mono ?_
        rintro e W8 ⟨rfl, h⟩
        have hf := HK.out.2 r7 Q7.out.2
        obtain ⟨⟨x8, r8⟩, hx⟩ : ∃ q, f r7 = q := ⟨_, rfl⟩
        rw [hx] at h hf ⊢
        have hb := HO.out.fits hf (by decide)
        have Q8 := Lib.hid (And.intro h hb.2)
        have HL8 := Lib.hid hb.1
        have HX8 := Lib.hid hx
        clear h hf hx hb
        dsimp only at Q8 HL8 ⊢
        have c3 := Q8.out.1.c3
        have f3 := frozen_of_heap Q8.out.1.cell 3
        go_wp2_with (refine wpList_cat rfl _ _ _ _ rfl rfl rfl (by have := HL1.out; have := HL6.out; have := HL8.out; (try simp only [List.length_append, List.length_cons, List.length_nil]); omega) ?_)
        clear c3 f3
        have h := Q8.out.1.inn false
        obtain ⟨W9, hw⟩ : ∃ V, W8.setCell ⟨p, 3, none⟩ (.bool false) = V := ⟨_, rfl⟩
        obtain ⟨r9, hr⟩ : ∃ q : Pr.Rs, { r8 with inn := false } = q := ⟨_, rfl⟩
        have hi : r9.i < tk.length := by rw [← hr]; exact Q8.out.2
        rw [hw, hr] at h
        rw [hw]
        have Q9 := Lib.hid (And.intro h hi)
        have HX9 := Lib.hid hr
        clear h hw hr hi
        refine (qmust_calls Q9.out.1 Q9.out.2 HO.out [125]).mono ?_
        rintro e W10 ⟨rfl, h⟩
        have hf := Pr.must_fits HO.out.toks [125] r9 Q9.out.2
        obtain ⟨⟨x10, r10⟩, hx⟩ : ∃ q, Pr.must tk [125] r9 = q := ⟨_, rfl⟩
        rw [hx] at h hf ⊢
        have hb := HO.out.fits hf (by decide)
        have Q10 := Lib.hid (And.intro h hb.2)
        have HL10 := Lib.hid hb.1
        have HX10 := Lib.hid hx
        clear h hf hx hb
        dsimp only at Q10 HL10 ⊢
        go_wp2_with (refine wpList_cat rfl _ _ _ _ rfl rfl rfl (by have := HL1.out; have := HL6.out; have := HL8.out; have := HL10.out; (try simp only [List.length_append, List.length_cons, List.length_nil]); omega) ?_)
        go_ret
        have e1 : Pr.typed tk f r = (x1 ++ ([32, 40, 54] ++ x6 ++ x8 ++ x10 ++ [41]), r10) := by
          unfold Pr.typed
          simp only [HXX.out, HB.out]
          rw [if_pos B9.out]
          simp only [HX6.out, HX7.out, HX8.out, HX9.out, HX10.out]
        rw [e1]
        exact ⟨by simp [Pr.bin], Q10.out.1⟩
      · skip
        rw [Bool.not_eq_true] at b9
        have B9 := Lib.hid b9
        clear b9
        go_wp2_with (refine wpList_cat rfl _ _ _ _ rfl rfl rfl (by have := HL1.out; (try simp only [List.length_append, List.length_cons, List.length_nil]); omega) ?_)
        have hcall := qis_calls Q4.out.1 Q4.out.2 HO.out [123]
        rw [B9.out] at hcall
        refine hcall.mono ?_
        rintro e W5 ⟨rfl, h⟩
        have Q5 := Lib.hid (And.intro h Q4.out.2)
        clear h hcall
        dsimp only
        go_wp2_with (refine wpList_cat rfl _ _ _ _ rfl rfl rfl (by have := HL1.out; (try simp only [List.length_append, List.length_cons, List.length_nil]); omega) ?_)
        go_ret
        have e1 : Pr.typed tk f r = (x1, r4) := by
          unfold Pr.typed
          simp only [HXX.out, HB.out]
          rw [if_neg (by rw [B9.out]; simp)]
        rw [e1]
        exact ⟨by simp [Pr.bin], Q5.out.1⟩

set_option maxRecDepth 100000 in
set_option maxHeartbeats 4000000 in
theorem qparams_calls (ho : QOk tk) {f : Pr.G} (hf : Pr.Fit tk f 0) (hk : QKnows w0 p vt tk dp 42 #[.pointer (some ⟨p, 0, none⟩), .int .i64 1] f) : QKnows w0 p vt tk dp 76 #[.pointer (some ⟨p, 0, none⟩)] (Pr.args tk (Pr.param tk f)) := by
  intro W r h hi
  have HO := Lib.hid ho
  have Q0 := Lib.hid (And.intro h hi)
  have HK := Lib.hid (And.intro (qtyped_calls ho hf hk) (Pr.typed_fits ho.toks hf))
  have HFIT := Lib.hid (Pr.param_fits ho.toks hf)
  clear ho h hi hf hk
  go_enter Tryz.func76, Tryz.ntmps76
  go_wp2_with (refine wpList_cat rfl _ _ _ _ rfl rfl rfl (by (try simp only [List.length_append, List.length_cons, List.length_nil]); omega) ?_)
  refine (qkind_calls Q0.out.1 Q0.out.2 HO.out 1).mono ?_
  rintro e W1 ⟨rfl, h⟩
  have hf := Pr.kind_fits0 HO.out.toks (k := 1) (by decide) r Q0.out.2
  obtain ⟨⟨x1, r1⟩, hx⟩ : ∃ q, Pr.kind tk 1 r = q := ⟨_, rfl⟩
  rw [hx] at h hf ⊢
  have hb := HO.out.fits hf (by decide)
  have Q1 := Lib.hid (And.intro h hb.2)
  have HL1 := Lib.hid hb.1
  have HX1 := Lib.hid hx
  clear h hf hx hb
  dsimp only at Q1 HL1 ⊢
  go_wp2_with (refine wpList_cat rfl _ _ _ _ rfl rfl rfl (by have := HL1.out; (try simp only [List.length_append, List.length_cons, List.length_nil]); omega) ?_)
  refine (HK.out.1 _ _ Q1.out.1 Q1.out.2).mono ?_
  rintro e W2 ⟨rfl, h⟩
  have hf := HK.out.2 r1 Q1.out.2
  obtain ⟨⟨x2, r2⟩, hx⟩ : ∃ q, Pr.typed tk f r1 = q := ⟨_, rfl⟩
  rw [hx] at h hf ⊢
  have hb := HO.out.fits hf (by decide)
  have Q2 := Lib.hid (And.intro h hb.2)
  have HL2 := Lib.hid hb.1
  have HX2 := Lib.hid hx
  clear h hf hx hb
  dsimp only at Q2 HL2 ⊢
  go_wp2_with (refine wpList_cat rfl _ _ _ _ rfl rfl rfl (by have := HL1.out; have := HL2.out; (try simp only [List.length_append, List.length_cons, List.length_nil]); omega) ?_)
  have HF : Hid (Pr.param tk f r = ([32, 40, 52] ++ x1 ++ x2 ++ [41], r2)) := Lib.hid (by unfold Pr.param; simp only [HX1.out, HX2.out])
  have hf1 := HFIT.out r Q0.out.2
  rw [HF.out] at hf1
  have e0 : Pr.args tk (Pr.param tk f) r = Pr.argsGo tk (Pr.param tk f) tk.length 1 ([32, 40, 52] ++ x1 ++ x2 ++ [41]) r2 := by unfold Pr.args; rw [HF.out]
  go_loopg [3, 4] tk.length (fun g v5 v6 wr => ∃ (m k : Nat) (a : List UInt8) (r2 : Pr.Rs), v5 = .string ⟨a.toArray⟩ ∧ v6 = .int .i64 k ∧ g = m ∧ QI w0 wr p vt tk dp r2 ∧ tk.length ≤ m + r2.i ∧ k ≤ r2.i + 1 ∧ Pr.Fits tk r (a, r2) 4 ∧ Pr.argsGo tk (Pr.param tk f) m k a r2 = Pr.args tk (Pr.param tk f) r)
  case atStart =>
    exact ⟨tk.length, 1, [32, 40, 52] ++ x1 ++ x2 ++ [41], r2, by simp, rfl, rfl, Q2.out.1, by omega, by omega, hf1, e0.symm⟩
  case round =>
    obtain ⟨m, kk, a, r2, rfl, rfl, hkm, h2, hm, hkk, hft, hgo⟩ := hrel
    have Q2 := Lib.hid (And.intro h2 hft.hi)
    have HM := Lib.hid (And.intro hkm (And.intro hm (And.intro hft (And.intro hgo hkk))))
    have HL2 : Hid (a.length ≤ 1000001000) := Lib.hid (HO.out.fits hft (by decide)).1
    have hk0 : (0 : Int) ≤ (kk : Int) := by omega
    have hk1 : (kk : Int) ≤ 2000000 := by have := hft.hi; have := HO.out.len; simp only at *; omega
    clear hkm h2 hm hft hgo e0 hf1 hkk HF
    by_cases b0 : Pr.is tk [44] r2 = true
    · have B0 := Lib.hid b0
      clear b0
      by_cases h8 : kk = 8
      · skip
        subst h8
        go_wp2_with (refine wpList_cat rfl _ _ _ _ rfl rfl rfl (by have := HL2.out; (try simp only [List.length_append, List.length_cons, List.length_nil]); omega) ?_)
        have hcall := qis_calls Q2.out.1 Q2.out.2 HO.out [44]
        rw [B0.out] at hcall
        refine hcall.mono ?_
        rintro e W21 ⟨rfl, h⟩
        have Q21 := Lib.hid (And.intro h Q2.out.2)
        clear h hcall
        dsimp only
        go_wp2_with (refine wpList_cat rfl _ _ _ _ rfl rfl rfl (by have := HL2.out; (try simp only [List.length_append, List.length_cons, List.length_nil]); omega) ?_)
        refine (qleaf_calls Q21.out.1 Q21.out.2 HO.out).mono ?_
        rintro e W22 ⟨rfl, h⟩
        have hf := Pr.leaf_fits HO.out.toks Q21.out.2 (Pr.is_kind B0.out).1
        obtain ⟨⟨x22, r22⟩, hx⟩ : ∃ q, Pr.leaf tk r2 = q := ⟨_, rfl⟩
        rw [hx] at h hf ⊢
        have hb := HO.out.fits hf (by decide)
        have Q22 := Lib.hid (And.intro h hb.2)
        have HL22 := Lib.hid hb.1
        have HX22 := Lib.hid hx
        clear h hf hx hb
        dsimp only at Q22 HL22 ⊢
        go_wp2_with (refine wpList_cat rfl _ _ _ _ rfl rfl rfl (by have := HL2.out; have := HL22.out; (try simp only [List.length_append, List.length_cons, List.length_nil]); omega) ?_)
        refine (qfail_calls Q22.out.1 Q22.out.2 HO.out 15).mono ?_
        rintro e W23 ⟨rfl, h⟩
        obtain ⟨r23, hx⟩ : ∃ q, Pr.fail tk 15 r22 = q := ⟨_, rfl⟩
        have hi := (by rw [Pr.fail_i]; exact Q22.out.2 : (Pr.fail tk 15 r22).i < tk.length)
        rw [hx] at h hi
        have Q23 := Lib.hid (And.intro h hi)
        have HX23 := Lib.hid hx
        clear h hi hx
        dsimp only
        go_wp2_with (refine wpList_cat rfl _ _ _ _ rfl rfl rfl (by have := HL2.out; have := HL22.out; (try simp only [List.length_append, List.length_cons, List.length_nil]); omega) ?_)
        refine (qkind_calls Q23.out.1 Q23.out.2 HO.out 1).mono ?_
        rintro e W24 ⟨rfl, h⟩
        have hf := Pr.kind_fits0 HO.out.toks (k := 1) (by decide) r23 Q23.out.2
        obtain ⟨⟨x24, r24⟩, hx⟩ : ∃ q, Pr.kind tk 1 r23 = q := ⟨_, rfl⟩
        rw [hx] at h hf ⊢
        have hb := HO.out.fits hf (by decide)
        have Q24 := Lib.hid (And.intro h hb.2)
        have HL24 := Lib.hid hb.1
        have HX24 := Lib.hid hx
        clear h hf hx hb
        dsimp only at Q24 HL24 ⊢
        go_wp2_with (refine wpList_cat rfl _ _ _ _ rfl rfl rfl (by have := HL2.out; have := HL22.out; have := HL24.out; (try simp only [List.length_append, List.length_cons, List.length_nil]); omega) ?_)
        refine (HK.out.1 _ _ Q24.out.1 Q24.out.2).mono ?_
        rintro e W25 ⟨rfl, h⟩
        have hf := HK.out.2 r24 Q24.out.2
        obtain ⟨⟨x25, r25⟩, hx⟩ : ∃ q, Pr.typed tk f r24 = q := ⟨_, rfl⟩
        rw [hx] at h hf ⊢
        have hb := HO.out.fits hf (by decide)
        have Q25 := Lib.hid (And.intro h hb.2)
        have HL25 := Lib.hid hb.1
        have HX25 := Lib.hid hx
        clear h hf hx hb
        dsimp only at Q25 HL25 ⊢
        go_wp2_with (refine wpList_cat rfl _ _ _ _ rfl rfl rfl (by have := HL2.out; have := HL22.out; have := HL24.out; have := HL25.out; (try simp only [List.length_append, List.length_cons, List.length_nil]); omega) ?_)
        have HF : Hid (Pr.param tk f r23 = ([32, 40, 52] ++ x24 ++ x25 ++ [41], r25)) := Lib.hid (by unfold Pr.param; simp only [HX24.out, HX25.out])
        go_roundg (m - 1)
        case measure => have := HM.out.1; have := HM.out.2.1; have := Q2.out.2; omega
        case rel =>
          have hgo := HM.out.2.2.2.1
          have hm := HM.out.2.1
          have hi2 := Q2.out.2
          have hkk := HM.out.2.2.2.2
          obtain ⟨m2, hm2⟩ : ∃ m2, m = m2 + 1 := ⟨m - 1, by omega⟩
          rw [hm2, argsGo_on B0.out, HX22.out] at hgo
          rw [if_pos rfl, HX23.out, HF.out] at hgo
          have hl := Pr.leaf_fits HO.out.toks Q2.out.2 (Pr.is_kind B0.out).1
          have hn := leaf_next (Pr.is_kind B0.out).1
          rw [HX22.out] at hl hn
          have hp := HFIT.out r23 Q23.out.2
          rw [HF.out] at hp
          have h1 : r23.i ≤ r25.i := hp.lo
          have h2 : r22.i = r2.i + 1 := hn
          have h3 : r23.i = r22.i := by rw [← HX23.out]; exact Pr.fail_i _ _
          have hl2 : Pr.Fits tk r2 (x22, r23) (-11) := Fits_state hl h3
          have hfin := ((HM.out.2.2.1.then hl2).then hp).mono (d := 4) (by omega)
          refine ⟨m - 1, 8 + 1, a ++ x22 ++ ([32, 40, 52] ++ x24 ++ x25 ++ [41]), r25, by simp, by go_num, rfl, Q25.out.1, by omega, by omega, hfin, ?_⟩
          rw [show m - 1 = m2 by omega]
          exact hgo
      · skip
        have h8n : ((kk : Int) == 8) = false := by simp; omega
        have H8 := Lib.hid h8
        clear h8
        go_wp2_with (refine wpList_cat rfl _ _ _ _ rfl rfl rfl (by have := HL2.out; (try simp only [List.length_append, List.length_cons, List.length_nil]); omega) ?_)
        have hcall := qis_calls Q2.out.1 Q2.out.2 HO.out [44]
        rw [B0.out] at hcall
        refine hcall.mono ?_
        rintro e W21 ⟨rfl, h⟩
        have Q21 := Lib.hid (And.intro h Q2.out.2)
        clear h hcall
        dsimp only
        go_wp2_with (refine wpList_cat rfl _ _ _ _ rfl rfl rfl (by have := HL2.out; (try simp only [List.length_append, List.length_cons, List.length_nil]); omega) ?_)
        refine (qleaf_calls Q21.out.1 Q21.out.2 HO.out).mono ?_
        rintro e W22 ⟨rfl, h⟩
        have hf := Pr.leaf_fits HO.out.toks Q21.out.2 (Pr.is_kind B0.out).1
        obtain ⟨⟨x22, r22⟩, hx⟩ : ∃ q, Pr.leaf tk r2 = q := ⟨_, rfl⟩
        rw [hx] at h hf ⊢
        have hb := HO.out.fits hf (by decide)
        have Q22 := Lib.hid (And.intro h hb.2)
        have HL22 := Lib.hid hb.1
        have HX22 := Lib.hid hx
        clear h hf hx hb
        dsimp only at Q22 HL22 ⊢
        go_wp2_with (refine wpList_cat rfl _ _ _ _ rfl rfl rfl (by have := HL2.out; have := HL22.out; (try simp only [List.length_append, List.length_cons, List.length_nil]); omega) ?_)
        refine (qkind_calls Q22.out.1 Q22.out.2 HO.out 1).mono ?_
        rintro e W23 ⟨rfl, h⟩
        have hf := Pr.kind_fits0 HO.out.toks (k := 1) (by decide) r22 Q22.out.2
        obtain ⟨⟨x23, r23⟩, hx⟩ : ∃ q, Pr.kind tk 1 r22 = q := ⟨_, rfl⟩
        rw [hx] at h hf ⊢
        have hb := HO.out.fits hf (by decide)
        have Q23 := Lib.hid (And.intro h hb.2)
        have HL23 := Lib.hid hb.1
        have HX23 := Lib.hid hx
        clear h hf hx hb
        dsimp only at Q23 HL23 ⊢
        go_wp2_with (refine wpList_cat rfl _ _ _ _ rfl rfl rfl (by have := HL2.out; have := HL22.out; have := HL23.out; (try simp only [List.length_append, List.length_cons, List.length_nil]); omega) ?_)
        refine (HK.out.1 _ _ Q23.out.1 Q23.out.2).mono ?_
        rintro e W24 ⟨rfl, h⟩
        have hf := HK.out.2 r23 Q23.out.2
        obtain ⟨⟨x24, r24⟩, hx⟩ : ∃ q, Pr.typed tk f r23 = q := ⟨_, rfl⟩
        rw [hx] at h hf ⊢
        have hb := HO.out.fits hf (by decide)
        have Q24 := Lib.hid (And.intro h hb.2)
        have HL24 := Lib.hid hb.1
        have HX24 := Lib.hid hx
        clear h hf hx hb
        dsimp only at Q24 HL24 ⊢
        go_wp2_with (refine wpList_cat rfl _ _ _ _ rfl rfl rfl (by have := HL2.out; have := HL22.out; have := HL23.out; have := HL24.out; (try simp only [List.length_append, List.length_cons, List.length_nil]); omega) ?_)
        have HF : Hid (Pr.param tk f r22 = ([32, 40, 52] ++ x23 ++ x24 ++ [41], r24)) := Lib.hid (by unfold Pr.param; simp only [HX23.out, HX24.out])
        go_roundg (m - 1)
        case measure => have := HM.out.1; have := HM.out.2.1; have := Q2.out.2; omega
        case rel =>
          have hgo := HM.out.2.2.2.1
          have hm := HM.out.2.1
          have hi2 := Q2.out.2
          have hkk := HM.out.2.2.2.2
          obtain ⟨m2, hm2⟩ : ∃ m2, m = m2 + 1 := ⟨m - 1, by omega⟩
          rw [hm2, argsGo_on B0.out, HX22.out] at hgo
          rw [if_neg H8.out, HF.out] at hgo
          have hl := Pr.leaf_fits HO.out.toks Q2.out.2 (Pr.is_kind B0.out).1
          have hn := leaf_next (Pr.is_kind B0.out).1
          rw [HX22.out] at hl hn
          have hp := HFIT.out r22 Q22.out.2
          rw [HF.out] at hp
          have h1 : r22.i ≤ r24.i := hp.lo
          have h2 : r22.i = r2.i + 1 := hn
          have h3 : r22.i = r22.i := rfl
          have hl2 : Pr.Fits tk r2 (x22, r22) (-11) := hl
          have hfin := ((HM.out.2.2.1.then hl2).then hp).mono (d := 4) (by omega)
          refine ⟨m - 1, kk + 1, a ++ x22 ++ ([32, 40, 52] ++ x23 ++ x24 ++ [41]), r24, by simp, by go_num, rfl, Q24.out.1, by omega, by omega, hfin, ?_⟩
          rw [show m - 1 = m2 by omega]
          exact hgo
    · skip
      rw [Bool.not_eq_true] at b0
      have B0 := Lib.hid b0
      clear b0
      go_wp2_with (refine wpList_cat rfl _ _ _ _ rfl rfl rfl (by have := HL2.out; (try simp only [List.length_append, List.length_cons, List.length_nil]); omega) ?_)
      have hcall := qis_calls Q2.out.1 Q2.out.2 HO.out [44]
      rw [B0.out] at hcall
      refine hcall.mono ?_
      rintro e W21 ⟨rfl, h⟩
      have Q21 := Lib.hid (And.intro h Q2.out.2)
      clear h hcall
      dsimp only
      go_wp2_with (refine wpList_cat rfl _ _ _ _ rfl rfl rfl (by have := HL2.out; (try simp only [List.length_append, List.length_cons, List.length_nil]); omega) ?_)
      go_ret
      have hgo := HM.out.2.2.2.1
      rw [argsGo_off _ B0.out] at hgo
      rw [← hgo]
      exact ⟨by simp, Q21.out.1⟩

set_option maxRecDepth 100000 in
set_option maxHeartbeats 4000000 in
theorem qdef_calls (ho : QOk tk) {f : Pr.G} (hf : Pr.Fit tk f 0) (hk : QKnows w0 p vt tk dp 42 #[.pointer (some ⟨p, 0, none⟩), .int .i64 1] f) : QKnows w0 p vt tk dp 48 #[.pointer (some ⟨p, 0, none⟩)] (Pr.definition tk f) := by
  intro W r h hi
  have HO := Lib.hid ho
  have Q0 := Lib.hid (And.intro h hi)
  have HK := Lib.hid (And.intro hk hf)
  have HT := Lib.hid (And.intro (qtyped_calls ho hf hk) (Pr.typed_fits ho.toks hf))
  have HPA := Lib.hid (And.intro (qparams_calls ho hf hk) (Pr.args_fits ho.toks (by decide) (Pr.param_fits ho.toks hf)))
  clear ho h hi hf hk
  by_cases b0 : Pr.is tk Ps.tPub r = true
  · skip
    have B0 := Lib.hid b0
    clear b0
    go_enter Tryz.func48, Tryz.ntmps48
    go_wp2_with (refine wpList_cat rfl _ _ _ _ rfl rfl rfl (by (try simp only [List.length_append, List.length_cons, List.length_nil]); omega) ?_)
    have hcall := qis_calls Q0.out.1 Q0.out.2 HO.out Ps.tPub
    rw [B0.out] at hcall
    refine hcall.mono ?_
    rintro e W1 ⟨rfl, h⟩
    have Q1 := Lib.hid (And.intro h Q0.out.2)
    clear h hcall
    dsimp only
    go_wp2_with (refine wpList_cat rfl _ _ _ _ rfl rfl rfl (by (try simp only [List.length_append, List.length_cons, List.length_nil]); omega) ?_)
    refine (qleaf_calls Q1.out.1 Q1.out.2 HO.out).mono ?_
    rintro e W2 ⟨rfl, h⟩
    have hf := Pr.leaf_fits HO.out.toks Q1.out.2 (Pr.is_kind B0.out).1
    obtain ⟨⟨x2, r2⟩, hx⟩ : ∃ q, Pr.leaf tk r = q := ⟨_, rfl⟩
    rw [hx] at h hf ⊢
    have hb := HO.out.fits hf (by decide)
    have Q2 := Lib.hid (And.intro h hb.2)
    have HL2 := Lib.hid hb.1
    have HX2 := Lib.hid hx
    clear h hf hx hb
    dsimp only at Q2 HL2 ⊢
    go_wp2_with (refine wpList_cat rfl _ _ _ _ rfl rfl rfl (by have := HL2.out; (try simp only [List.length_append, List.length_cons, List.length_nil]); omega) ?_)
    have HH : Hid (Pr.head tk r = ([32, 40, 51] ++ x2, r2)) := Lib.hid (by unfold Pr.head; rw [if_pos B0.out]; simp only [HX2.out])
    refine (qmust_calls Q2.out.1 Q2.out.2 HO.out Ps.tFun).mono ?_
    rintro e W3 ⟨rfl, h⟩
    have hf := Pr.must_fits HO.out.toks Ps.tFun r2 Q2.out.2
    obtain ⟨⟨x3, r3⟩, hx⟩ : ∃ q, Pr.must tk Ps.tFun r2 = q := ⟨_, rfl⟩
    rw [hx] at h hf ⊢
    have hb := HO.out.fits hf (by decide)
    have Q3 := Lib.hid (And.intro h hb.2)
    have HL3 := Lib.hid hb.1
    have HX3 := Lib.hid hx
    clear h hf hx hb
    dsimp only at Q3 HL3 ⊢
    go_wp2_with (refine wpList_cat rfl _ _ _ _ rfl rfl rfl (by have := HL2.out; have := HL3.out; (try simp only [List.length_append, List.length_cons, List.length_nil]); omega) ?_)
    refine (qkind_calls Q3.out.1 Q3.out.2 HO.out 1).mono ?_
    rintro e W4 ⟨rfl, h⟩
    have hf := Pr.kind_fits0 HO.out.toks (k := 1) (by decide) r3 Q3.out.2
    obtain ⟨⟨x4, r4⟩, hx⟩ : ∃ q, Pr.kind tk 1 r3 = q := ⟨_, rfl⟩
    rw [hx] at h hf ⊢
    have hb := HO.out.fits hf (by decide)
    have Q4 := Lib.hid (And.intro h hb.2)
    have HL4 := Lib.hid hb.1
    have HX4 := Lib.hid hx
    clear h hf hx hb
    dsimp only at Q4 HL4 ⊢
    go_wp2_with (refine wpList_cat rfl _ _ _ _ rfl rfl rfl (by have := HL2.out; have := HL3.out; have := HL4.out; (try simp only [List.length_append, List.length_cons, List.length_nil]); omega) ?_)
    refine (qmust_calls Q4.out.1 Q4.out.2 HO.out [40]).mono ?_
    rintro e W5 ⟨rfl, h⟩
    have hf := Pr.must_fits HO.out.toks [40] r4 Q4.out.2
    obtain ⟨⟨x5, r5⟩, hx⟩ : ∃ q, Pr.must tk [40] r4 = q := ⟨_, rfl⟩
    rw [hx] at h hf ⊢
    have hb := HO.out.fits hf (by decide)
    have Q5 := Lib.hid (And.intro h hb.2)
    have HL5 := Lib.hid hb.1
    have HX5 := Lib.hid hx
    clear h hf hx hb
    dsimp only at Q5 HL5 ⊢
    have HD : Hid (Pr.defHead tk ([32, 40, 51] ++ x2) r2 = (([32, 40, 51] ++ x2) ++ (x3 ++ x4 ++ x5), r5)) := Lib.hid (by unfold Pr.defHead; simp only [HX3.out, HX4.out, HX5.out])
    have c4 := Q5.out.1.c4
    by_cases he : r5.e = 0
    · skip
      have he' : (r5.e == 0) = true := by simp [he]
      have HE := Lib.hid he
      clear he
      by_cases b3 : Pr.is tk [41] r5 = true
      · skip
        have B3 := Lib.hid b3
        clear b3
        go_wp2_with (refine wpList_cat rfl _ _ _ _ rfl rfl rfl (by have := HL2.out; have := HL3.out; have := HL4.out; have := HL5.out; (try simp only [List.length_append, List.length_cons, List.length_nil]); omega) ?_)
        clear c4 he'
        have hcall := qis_calls Q5.out.1 Q5.out.2 HO.out [41]
        rw [B3.out] at hcall
        refine hcall.mono ?_
        rintro e W6 ⟨rfl, h⟩
        have Q6 := Lib.hid (And.intro h Q5.out.2)
        clear h hcall
        dsimp only
        go_wp2_with (refine wpList_cat rfl _ _ _ _ rfl rfl rfl (by have := HL2.out; have := HL3.out; have := HL4.out; have := HL5.out; (try simp only [List.length_append, List.length_cons, List.length_nil]); omega) ?_)
        have HLI : Hid (Pr.defList tk f (([32, 40, 51] ++ x2) ++ (x3 ++ x4 ++ x5)) r5 = (([32, 40, 51] ++ x2) ++ (x3 ++ x4 ++ x5), r5)) := Lib.hid (by unfold Pr.defList; rw [if_neg (by rw [B3.out]; simp)])
        refine (qmust_calls Q6.out.1 Q6.out.2 HO.out [41]).mono ?_
        rintro e W7 ⟨rfl, h⟩
        have hf := Pr.must_fits HO.out.toks [41] r5 Q6.out.2
        obtain ⟨⟨x7, r7⟩, hx⟩ : ∃ q, Pr.must tk [41] r5 = q := ⟨_, rfl⟩
        rw [hx] at h hf ⊢
        have hb := HO.out.fits hf (by decide)
        have Q7 := Lib.hid (And.intro h hb.2)
        have HL7 := Lib.hid hb.1
        have HX7 := Lib.hid hx
        clear h hf hx hb
        dsimp only at Q7 HL7 ⊢
        go_wp2_with (refine wpList_cat rfl _ _ _ _ rfl rfl rfl (by have := HL2.out; have := HL3.out; have := HL4.out; have := HL5.out; have := HL7.out; (try simp only [List.length_append, List.length_cons, List.length_nil]); omega) ?_)
        refine (HT.out.1 _ _ Q7.out.1 Q7.out.2).mono ?_
        rintro e W8 ⟨rfl, h⟩
        have hf := HT.out.2 r7 Q7.out.2
        obtain ⟨⟨x8, r8⟩, hx⟩ : ∃ q, Pr.typed tk f r7 = q := ⟨_, rfl⟩
        rw [hx] at h hf ⊢
        have hb := HO.out.fits hf (by decide)
        have Q8 := Lib.hid (And.intro h hb.2)
        have HL8 := Lib.hid hb.1
        have HX8 := Lib.hid hx
        clear h hf hx hb
        dsimp only at Q8 HL8 ⊢
        go_wp2_with (refine wpList_cat rfl _ _ _ _ rfl rfl rfl (by have := HL2.out; have := HL3.out; have := HL4.out; have := HL5.out; have := HL7.out; have := HL8.out; (try simp only [List.length_append, List.length_cons, List.length_nil]); omega) ?_)
        refine (qmust_calls Q8.out.1 Q8.out.2 HO.out [61]).mono ?_
        rintro e W9 ⟨rfl, h⟩
        have hf := Pr.must_fits HO.out.toks [61] r8 Q8.out.2
        obtain ⟨⟨x9, r9⟩, hx⟩ : ∃ q, Pr.must tk [61] r8 = q := ⟨_, rfl⟩
        rw [hx] at h hf ⊢
        have hb := HO.out.fits hf (by decide)
        have Q9 := Lib.hid (And.intro h hb.2)
        have HL9 := Lib.hid hb.1
        have HX9 := Lib.hid hx
        clear h hf hx hb
        dsimp only at Q9 HL9 ⊢
        go_wp2_with (refine wpList_cat rfl _ _ _ _ rfl rfl rfl (by have := HL2.out; have := HL3.out; have := HL4.out; have := HL5.out; have := HL7.out; have := HL8.out; have := HL9.out; (try simp only [List.length_append, List.length_cons, List.length_nil]); omega) ?_)
        refine (HK.out.1 _ _ Q9.out.1 Q9.out.2).mono ?_
        rintro e W10 ⟨rfl, h⟩
        have hf := HK.out.2 r9 Q9.out.2
        obtain ⟨⟨x10, r10⟩, hx⟩ : ∃ q, f r9 = q := ⟨_, rfl⟩
        rw [hx] at h hf ⊢
        have hb := HO.out.fits hf (by decide)
        have Q10 := Lib.hid (And.intro h hb.2)
        have HL10 := Lib.hid hb.1
        have HX10 := Lib.hid hx
        clear h hf hx hb
        dsimp only at Q10 HL10 ⊢
        go_wp2_with (refine wpList_cat rfl _ _ _ _ rfl rfl rfl (by have := HL2.out; have := HL3.out; have := HL4.out; have := HL5.out; have := HL7.out; have := HL8.out; have := HL9.out; have := HL10.out; (try simp only [List.length_append, List.length_cons, List.length_nil]); omega) ?_)
        refine (qmust_calls Q10.out.1 Q10.out.2 HO.out [59]).mono ?_
        rintro e W11 ⟨rfl, h⟩
        have hf := Pr.must_fits HO.out.toks [59] r10 Q10.out.2
        obtain ⟨⟨x11, r11⟩, hx⟩ : ∃ q, Pr.must tk [59] r10 = q := ⟨_, rfl⟩
        rw [hx] at h hf ⊢
        have hb := HO.out.fits hf (by decide)
        have Q11 := Lib.hid (And.intro h hb.2)
        have HL11 := Lib.hid hb.1
        have HX11 := Lib.hid hx
        clear h hf hx hb
        dsimp only at Q11 HL11 ⊢
        go_wp2_with (refine wpList_cat rfl _ _ _ _ rfl rfl rfl (by have := HL2.out; have := HL3.out; have := HL4.out; have := HL5.out; have := HL7.out; have := HL8.out; have := HL9.out; have := HL10.out; have := HL11.out; (try simp only [List.length_append, List.length_cons, List.length_nil]); omega) ?_)
        go_ret
        have e1 : Pr.definition tk f r = ((([32, 40, 51] ++ x2) ++ (x3 ++ x4 ++ x5)) ++ (x7 ++ x8 ++ x9) ++ x10 ++ x11 ++ [41], r11) := by
          unfold Pr.definition Pr.defn
          simp only [HH.out, HD.out, HLI.out]
          unfold Pr.defRest
          simp only [HX7.out, HX8.out, HX9.out, HX10.out, HX11.out]
        rw [e1]
        exact ⟨by simp [Pr.bin], Q11.out.1⟩
      · skip
        rw [Bool.not_eq_true] at b3
        have B3 := Lib.hid b3
        clear b3
        go_wp2_with (refine wpList_cat rfl _ _ _ _ rfl rfl rfl (by have := HL2.out; have := HL3.out; have := HL4.out; have := HL5.out; (try simp only [List.length_append, List.length_cons, List.length_nil]); omega) ?_)
        clear c4 he'
        have hcall := qis_calls Q5.out.1 Q5.out.2 HO.out [41]
        rw [B3.out] at hcall
        refine hcall.mono ?_
        rintro e W6 ⟨rfl, h⟩
        have Q6 := Lib.hid (And.intro h Q5.out.2)
        clear h hcall
        dsimp only
        go_wp2_with (refine wpList_cat rfl _ _ _ _ rfl rfl rfl (by have := HL2.out; have := HL3.out; have := HL4.out; have := HL5.out; (try simp only [List.length_append, List.length_cons, List.length_nil]); omega) ?_)
        refine (HPA.out.1 _ _ Q6.out.1 Q6.out.2).mono ?_
        rintro e W7 ⟨rfl, h⟩
        have hf := HPA.out.2 r5 Q6.out.2
        obtain ⟨⟨x7, r7⟩, hx⟩ : ∃ q, Pr.args tk (Pr.param tk f) r5 = q := ⟨_, rfl⟩
        rw [hx] at h hf ⊢
        have hb := HO.out.fits hf (by decide)
        have Q7 := Lib.hid (And.intro h hb.2)
        have HL7 := Lib.hid hb.1
        have HX7 := Lib.hid hx
        clear h hf hx hb
        dsimp only at Q7 HL7 ⊢
        go_wp2_with (refine wpList_cat rfl _ _ _ _ rfl rfl rfl (by have := HL2.out; have := HL3.out; have := HL4.out; have := HL5.out; have := HL7.out; (try simp only [List.length_append, List.length_cons, List.length_nil]); omega) ?_)
        have HLI : Hid (Pr.defList tk f (([32, 40, 51] ++ x2) ++ (x3 ++ x4 ++ x5)) r5 = ((([32, 40, 51] ++ x2) ++ (x3 ++ x4 ++ x5)) ++ x7, r7)) := Lib.hid (by unfold Pr.defList Pr.params; rw [if_pos ⟨HE.out, B3.out⟩]; simp only [HX7.out])
        refine (qmust_calls Q7.out.1 Q7.out.2 HO.out [41]).mono ?_
        rintro e W8 ⟨rfl, h⟩
        have hf := Pr.must_fits HO.out.toks [41] r7 Q7.out.2
        obtain ⟨⟨x8, r8⟩, hx⟩ : ∃ q, Pr.must tk [41] r7 = q := ⟨_, rfl⟩
        rw [hx] at h hf ⊢
        have hb := HO.out.fits hf (by decide)
        have Q8 := Lib.hid (And.intro h hb.2)
        have HL8 := Lib.hid hb.1
        have HX8 := Lib.hid hx
        clear h hf hx hb
        dsimp only at Q8 HL8 ⊢
        go_wp2_with (refine wpList_cat rfl _ _ _ _ rfl rfl rfl (by have := HL2.out; have := HL3.out; have := HL4.out; have := HL5.out; have := HL7.out; have := HL8.out; (try simp only [List.length_append, List.length_cons, List.length_nil]); omega) ?_)
        refine (HT.out.1 _ _ Q8.out.1 Q8.out.2).mono ?_
        rintro e W9 ⟨rfl, h⟩
        have hf := HT.out.2 r8 Q8.out.2
        obtain ⟨⟨x9, r9⟩, hx⟩ : ∃ q, Pr.typed tk f r8 = q := ⟨_, rfl⟩
        rw [hx] at h hf ⊢
        have hb := HO.out.fits hf (by decide)
        have Q9 := Lib.hid (And.intro h hb.2)
        have HL9 := Lib.hid hb.1
        have HX9 := Lib.hid hx
        clear h hf hx hb
        dsimp only at Q9 HL9 ⊢
        go_wp2_with (refine wpList_cat rfl _ _ _ _ rfl rfl rfl (by have := HL2.out; have := HL3.out; have := HL4.out; have := HL5.out; have := HL7.out; have := HL8.out; have := HL9.out; (try simp only [List.length_append, List.length_cons, List.length_nil]); omega) ?_)
        refine (qmust_calls Q9.out.1 Q9.out.2 HO.out [61]).mono ?_
        rintro e W10 ⟨rfl, h⟩
        have hf := Pr.must_fits HO.out.toks [61] r9 Q9.out.2
        obtain ⟨⟨x10, r10⟩, hx⟩ : ∃ q, Pr.must tk [61] r9 = q := ⟨_, rfl⟩
        rw [hx] at h hf ⊢
        have hb := HO.out.fits hf (by decide)
        have Q10 := Lib.hid (And.intro h hb.2)
        have HL10 := Lib.hid hb.1
        have HX10 := Lib.hid hx
        clear h hf hx hb
        dsimp only at Q10 HL10 ⊢
        go_wp2_with (refine wpList_cat rfl _ _ _ _ rfl rfl rfl (by have := HL2.out; have := HL3.out; have := HL4.out; have := HL5.out; have := HL7.out; have := HL8.out; have := HL9.out; have := HL10.out; (try simp only [List.length_append, List.length_cons, List.length_nil]); omega) ?_)
        refine (HK.out.1 _ _ Q10.out.1 Q10.out.2).mono ?_
        rintro e W11 ⟨rfl, h⟩
        have hf := HK.out.2 r10 Q10.out.2
        obtain ⟨⟨x11, r11⟩, hx⟩ : ∃ q, f r10 = q := ⟨_, rfl⟩
        rw [hx] at h hf ⊢
        have hb := HO.out.fits hf (by decide)
        have Q11 := Lib.hid (And.intro h hb.2)
        have HL11 := Lib.hid hb.1
        have HX11 := Lib.hid hx
        clear h hf hx hb
        dsimp only at Q11 HL11 ⊢
        go_wp2_with (refine wpList_cat rfl _ _ _ _ rfl rfl rfl (by have := HL2.out; have := HL3.out; have := HL4.out; have := HL5.out; have := HL7.out; have := HL8.out; have := HL9.out; have := HL10.out; have := HL11.out; (try simp only [List.length_append, List.length_cons, List.length_nil]); omega) ?_)
        refine (qmust_calls Q11.out.1 Q11.out.2 HO.out [59]).mono ?_
        rintro e W12 ⟨rfl, h⟩
        have hf := Pr.must_fits HO.out.toks [59] r11 Q11.out.2
        obtain ⟨⟨x12, r12⟩, hx⟩ : ∃ q, Pr.must tk [59] r11 = q := ⟨_, rfl⟩
        rw [hx] at h hf ⊢
        have hb := HO.out.fits hf (by decide)
        have Q12 := Lib.hid (And.intro h hb.2)
        have HL12 := Lib.hid hb.1
        have HX12 := Lib.hid hx
        clear h hf hx hb
        dsimp only at Q12 HL12 ⊢
        go_wp2_with (refine wpList_cat rfl _ _ _ _ rfl rfl rfl (by have := HL2.out; have := HL3.out; have := HL4.out; have := HL5.out; have := HL7.out; have := HL8.out; have := HL9.out; have := HL10.out; have := HL11.out; have := HL12.out; (try simp only [List.length_append, List.length_cons, List.length_nil]); omega) ?_)
        go_ret
        have e1 : Pr.definition tk f r = (((([32, 40, 51] ++ x2) ++ (x3 ++ x4 ++ x5)) ++ x7) ++ (x8 ++ x9 ++ x10) ++ x11 ++ x12 ++ [41], r12) := by
          unfold Pr.definition Pr.defn
          simp only [HH.out, HD.out, HLI.out]
          unfold Pr.defRest
          simp only [HX8.out, HX9.out, HX10.out, HX11.out, HX12.out]
        rw [e1]
        exact ⟨by simp [Pr.bin], Q12.out.1⟩
    · skip
      have he' : (r5.e == 0) = false := by simp [he]
      have HE := Lib.hid he
      clear he
      go_wp2_with (refine wpList_cat rfl _ _ _ _ rfl rfl rfl (by have := HL2.out; have := HL3.out; have := HL4.out; have := HL5.out; (try simp only [List.length_append, List.length_cons, List.length_nil]); omega) ?_)
      clear c4 he'
      have HLI : Hid (Pr.defList tk f (([32, 40, 51] ++ x2) ++ (x3 ++ x4 ++ x5)) r5 = (([32, 40, 51] ++ x2) ++ (x3 ++ x4 ++ x5), r5)) := Lib.hid (by unfold Pr.defList; rw [if_neg (fun h => HE.out h.1)])
      refine (qmust_calls Q5.out.1 Q5.out.2 HO.out [41]).mono ?_
      rintro e W6 ⟨rfl, h⟩
      have hf := Pr.must_fits HO.out.toks [41] r5 Q5.out.2
      obtain ⟨⟨x6, r6⟩, hx⟩ : ∃ q, Pr.must tk [41] r5 = q := ⟨_, rfl⟩
      rw [hx] at h hf ⊢
      have hb := HO.out.fits hf (by decide)
      have Q6 := Lib.hid (And.intro h hb.2)
      have HL6 := Lib.hid hb.1
      have HX6 := Lib.hid hx
      clear h hf hx hb
      dsimp only at Q6 HL6 ⊢
      go_wp2_with (refine wpList_cat rfl _ _ _ _ rfl rfl rfl (by have := HL2.out; have := HL3.out; have := HL4.out; have := HL5.out; have := HL6.out; (try simp only [List.length_append, List.length_cons, List.length_nil]); omega) ?_)
      refine (HT.out.1 _ _ Q6.out.1 Q6.out.2).mono ?_
      rintro e W7 ⟨rfl, h⟩
      have hf := HT.out.2 r6 Q6.out.2
      obtain ⟨⟨x7, r7⟩, hx⟩ : ∃ q, Pr.typed tk f r6 = q := ⟨_, rfl⟩
      rw [hx] at h hf ⊢
      have hb := HO.out.fits hf (by decide)
      have Q7 := Lib.hid (And.intro h hb.2)
      have HL7 := Lib.hid hb.1
      have HX7 := Lib.hid hx
      clear h hf hx hb
      dsimp only at Q7 HL7 ⊢
      go_wp2_with (refine wpList_cat rfl _ _ _ _ rfl rfl rfl (by have := HL2.out; have := HL3.out; have := HL4.out; have := HL5.out; have := HL6.out; have := HL7.out; (try simp only [List.length_append, List.length_cons, List.length_nil]); omega) ?_)
      refine (qmust_calls Q7.out.1 Q7.out.2 HO.out [61]).mono ?_
      rintro e W8 ⟨rfl, h⟩
      have hf := Pr.must_fits HO.out.toks [61] r7 Q7.out.2
      obtain ⟨⟨x8, r8⟩, hx⟩ : ∃ q, Pr.must tk [61] r7 = q := ⟨_, rfl⟩
      rw [hx] at h hf ⊢
      have hb := HO.out.fits hf (by decide)
      have Q8 := Lib.hid (And.intro h hb.2)
      have HL8 := Lib.hid hb.1
      have HX8 := Lib.hid hx
      clear h hf hx hb
      dsimp only at Q8 HL8 ⊢
      go_wp2_with (refine wpList_cat rfl _ _ _ _ rfl rfl rfl (by have := HL2.out; have := HL3.out; have := HL4.out; have := HL5.out; have := HL6.out; have := HL7.out; have := HL8.out; (try simp only [List.length_append, List.length_cons, List.length_nil]); omega) ?_)
      refine (HK.out.1 _ _ Q8.out.1 Q8.out.2).mono ?_
      rintro e W9 ⟨rfl, h⟩
      have hf := HK.out.2 r8 Q8.out.2
      obtain ⟨⟨x9, r9⟩, hx⟩ : ∃ q, f r8 = q := ⟨_, rfl⟩
      rw [hx] at h hf ⊢
      have hb := HO.out.fits hf (by decide)
      have Q9 := Lib.hid (And.intro h hb.2)
      have HL9 := Lib.hid hb.1
      have HX9 := Lib.hid hx
      clear h hf hx hb
      dsimp only at Q9 HL9 ⊢
      go_wp2_with (refine wpList_cat rfl _ _ _ _ rfl rfl rfl (by have := HL2.out; have := HL3.out; have := HL4.out; have := HL5.out; have := HL6.out; have := HL7.out; have := HL8.out; have := HL9.out; (try simp only [List.length_append, List.length_cons, List.length_nil]); omega) ?_)
      refine (qmust_calls Q9.out.1 Q9.out.2 HO.out [59]).mono ?_
      rintro e W10 ⟨rfl, h⟩
      have hf := Pr.must_fits HO.out.toks [59] r9 Q9.out.2
      obtain ⟨⟨x10, r10⟩, hx⟩ : ∃ q, Pr.must tk [59] r9 = q := ⟨_, rfl⟩
      rw [hx] at h hf ⊢
      have hb := HO.out.fits hf (by decide)
      have Q10 := Lib.hid (And.intro h hb.2)
      have HL10 := Lib.hid hb.1
      have HX10 := Lib.hid hx
      clear h hf hx hb
      dsimp only at Q10 HL10 ⊢
      go_wp2_with (refine wpList_cat rfl _ _ _ _ rfl rfl rfl (by have := HL2.out; have := HL3.out; have := HL4.out; have := HL5.out; have := HL6.out; have := HL7.out; have := HL8.out; have := HL9.out; have := HL10.out; (try simp only [List.length_append, List.length_cons, List.length_nil]); omega) ?_)
      go_ret
      have e1 : Pr.definition tk f r = ((([32, 40, 51] ++ x2) ++ (x3 ++ x4 ++ x5)) ++ (x6 ++ x7 ++ x8) ++ x9 ++ x10 ++ [41], r10) := by
        unfold Pr.definition Pr.defn
        simp only [HH.out, HD.out, HLI.out]
        unfold Pr.defRest
        simp only [HX6.out, HX7.out, HX8.out, HX9.out, HX10.out]
      rw [e1]
      exact ⟨by simp [Pr.bin], Q10.out.1⟩
  · skip
    rw [Bool.not_eq_true] at b0
    have B0 := Lib.hid b0
    clear b0
    go_enter Tryz.func48, Tryz.ntmps48
    go_wp2_with (refine wpList_cat rfl _ _ _ _ rfl rfl rfl (by (try simp only [List.length_append, List.length_cons, List.length_nil]); omega) ?_)
    have hcall := qis_calls Q0.out.1 Q0.out.2 HO.out Ps.tPub
    rw [B0.out] at hcall
    refine hcall.mono ?_
    rintro e W1 ⟨rfl, h⟩
    have Q1 := Lib.hid (And.intro h Q0.out.2)
    clear h hcall
    dsimp only
    go_wp2_with (refine wpList_cat rfl _ _ _ _ rfl rfl rfl (by (try simp only [List.length_append, List.length_cons, List.length_nil]); omega) ?_)
    have HH : Hid (Pr.head tk r = ([32, 40, 51], r)) := Lib.hid (by unfold Pr.head; rw [if_neg (by rw [B0.out]; simp)])
    refine (qmust_calls Q1.out.1 Q1.out.2 HO.out Ps.tFun).mono ?_
    rintro e W2 ⟨rfl, h⟩
    have hf := Pr.must_fits HO.out.toks Ps.tFun r Q1.out.2
    obtain ⟨⟨x2, r2⟩, hx⟩ : ∃ q, Pr.must tk Ps.tFun r = q := ⟨_, rfl⟩
    rw [hx] at h hf ⊢
    have hb := HO.out.fits hf (by decide)
    have Q2 := Lib.hid (And.intro h hb.2)
    have HL2 := Lib.hid hb.1
    have HX2 := Lib.hid hx
    clear h hf hx hb
    dsimp only at Q2 HL2 ⊢
    go_wp2_with (refine wpList_cat rfl _ _ _ _ rfl rfl rfl (by have := HL2.out; (try simp only [List.length_append, List.length_cons, List.length_nil]); omega) ?_)
    refine (qkind_calls Q2.out.1 Q2.out.2 HO.out 1).mono ?_
    rintro e W3 ⟨rfl, h⟩
    have hf := Pr.kind_fits0 HO.out.toks (k := 1) (by decide) r2 Q2.out.2
    obtain ⟨⟨x3, r3⟩, hx⟩ : ∃ q, Pr.kind tk 1 r2 = q := ⟨_, rfl⟩
    rw [hx] at h hf ⊢
    have hb := HO.out.fits hf (by decide)
    have Q3 := Lib.hid (And.intro h hb.2)
    have HL3 := Lib.hid hb.1
    have HX3 := Lib.hid hx
    clear h hf hx hb
    dsimp only at Q3 HL3 ⊢
    go_wp2_with (refine wpList_cat rfl _ _ _ _ rfl rfl rfl (by have := HL2.out; have := HL3.out; (try simp only [List.length_append, List.length_cons, List.length_nil]); omega) ?_)
    refine (qmust_calls Q3.out.1 Q3.out.2 HO.out [40]).mono ?_
    rintro e W4 ⟨rfl, h⟩
    have hf := Pr.must_fits HO.out.toks [40] r3 Q3.out.2
    obtain ⟨⟨x4, r4⟩, hx⟩ : ∃ q, Pr.must tk [40] r3 = q := ⟨_, rfl⟩
    rw [hx] at h hf ⊢
    have hb := HO.out.fits hf (by decide)
    have Q4 := Lib.hid (And.intro h hb.2)
    have HL4 := Lib.hid hb.1
    have HX4 := Lib.hid hx
    clear h hf hx hb
    dsimp only at Q4 HL4 ⊢
    have HD : Hid (Pr.defHead tk ([32, 40, 51]) r = (([32, 40, 51]) ++ (x2 ++ x3 ++ x4), r4)) := Lib.hid (by unfold Pr.defHead; simp only [HX2.out, HX3.out, HX4.out])
    have c4 := Q4.out.1.c4
    by_cases he : r4.e = 0
    · skip
      have he' : (r4.e == 0) = true := by simp [he]
      have HE := Lib.hid he
      clear he
      by_cases b3 : Pr.is tk [41] r4 = true
      · skip
        have B3 := Lib.hid b3
        clear b3
        go_wp2_with (refine wpList_cat rfl _ _ _ _ rfl rfl rfl (by have := HL2.out; have := HL3.out; have := HL4.out; (try simp only [List.length_append, List.length_cons, List.length_nil]); omega) ?_)
        clear c4 he'
        have hcall := qis_calls Q4.out.1 Q4.out.2 HO.out [41]
        rw [B3.out] at hcall
        refine hcall.mono ?_
        rintro e W5 ⟨rfl, h⟩
        have Q5 := Lib.hid (And.intro h Q4.out.2)
        clear h hcall
        dsimp only
        go_wp2_with (refine wpList_cat rfl _ _ _ _ rfl rfl rfl (by have := HL2.out; have := HL3.out; have := HL4.out; (try simp only [List.length_append, List.length_cons, List.length_nil]); omega) ?_)
        have HLI : Hid (Pr.defList tk f (([32, 40, 51]) ++ (x2 ++ x3 ++ x4)) r4 = (([32, 40, 51]) ++ (x2 ++ x3 ++ x4), r4)) := Lib.hid (by unfold Pr.defList; rw [if_neg (by rw [B3.out]; simp)])
        refine (qmust_calls Q5.out.1 Q5.out.2 HO.out [41]).mono ?_
        rintro e W6 ⟨rfl, h⟩
        have hf := Pr.must_fits HO.out.toks [41] r4 Q5.out.2
        obtain ⟨⟨x6, r6⟩, hx⟩ : ∃ q, Pr.must tk [41] r4 = q := ⟨_, rfl⟩
        rw [hx] at h hf ⊢
        have hb := HO.out.fits hf (by decide)
        have Q6 := Lib.hid (And.intro h hb.2)
        have HL6 := Lib.hid hb.1
        have HX6 := Lib.hid hx
        clear h hf hx hb
        dsimp only at Q6 HL6 ⊢
        go_wp2_with (refine wpList_cat rfl _ _ _ _ rfl rfl rfl (by have := HL2.out; have := HL3.out; have := HL4.out; have := HL6.out; (try simp only [List.length_append, List.length_cons, List.length_nil]); omega) ?_)
        refine (HT.out.1 _ _ Q6.out.1 Q6.out.2).mono ?_
        rintro e W7 ⟨rfl, h⟩
        have hf := HT.out.2 r6 Q6.out.2
        obtain ⟨⟨x7, r7⟩, hx⟩ : ∃ q, Pr.typed tk f r6 = q := ⟨_, rfl⟩
        rw [hx] at h hf ⊢
        have hb := HO.out.fits hf (by decide)
        have Q7 := Lib.hid (And.intro h hb.2)
        have HL7 := Lib.hid hb.1
        have HX7 := Lib.hid hx
        clear h hf hx hb
        dsimp only at Q7 HL7 ⊢
        go_wp2_with (refine wpList_cat rfl _ _ _ _ rfl rfl rfl (by have := HL2.out; have := HL3.out; have := HL4.out; have := HL6.out; have := HL7.out; (try simp only [List.length_append, List.length_cons, List.length_nil]); omega) ?_)
        refine (qmust_calls Q7.out.1 Q7.out.2 HO.out [61]).mono ?_
        rintro e W8 ⟨rfl, h⟩
        have hf := Pr.must_fits HO.out.toks [61] r7 Q7.out.2
        obtain ⟨⟨x8, r8⟩, hx⟩ : ∃ q, Pr.must tk [61] r7 = q := ⟨_, rfl⟩
        rw [hx] at h hf ⊢
        have hb := HO.out.fits hf (by decide)
        have Q8 := Lib.hid (And.intro h hb.2)
        have HL8 := Lib.hid hb.1
        have HX8 := Lib.hid hx
        clear h hf hx hb
        dsimp only at Q8 HL8 ⊢
        go_wp2_with (refine wpList_cat rfl _ _ _ _ rfl rfl rfl (by have := HL2.out; have := HL3.out; have := HL4.out; have := HL6.out; have := HL7.out; have := HL8.out; (try simp only [List.length_append, List.length_cons, List.length_nil]); omega) ?_)
        refine (HK.out.1 _ _ Q8.out.1 Q8.out.2).mono ?_
        rintro e W9 ⟨rfl, h⟩
        have hf := HK.out.2 r8 Q8.out.2
        obtain ⟨⟨x9, r9⟩, hx⟩ : ∃ q, f r8 = q := ⟨_, rfl⟩
        rw [hx] at h hf ⊢
        have hb := HO.out.fits hf (by decide)
        have Q9 := Lib.hid (And.intro h hb.2)
        have HL9 := Lib.hid hb.1
        have HX9 := Lib.hid hx
        clear h hf hx hb
        dsimp only at Q9 HL9 ⊢
        go_wp2_with (refine wpList_cat rfl _ _ _ _ rfl rfl rfl (by have := HL2.out; have := HL3.out; have := HL4.out; have := HL6.out; have := HL7.out; have := HL8.out; have := HL9.out; (try simp only [List.length_append, List.length_cons, List.length_nil]); omega) ?_)
        refine (qmust_calls Q9.out.1 Q9.out.2 HO.out [59]).mono ?_
        rintro e W10 ⟨rfl, h⟩
        have hf := Pr.must_fits HO.out.toks [59] r9 Q9.out.2
        obtain ⟨⟨x10, r10⟩, hx⟩ : ∃ q, Pr.must tk [59] r9 = q := ⟨_, rfl⟩
        rw [hx] at h hf ⊢
        have hb := HO.out.fits hf (by decide)
        have Q10 := Lib.hid (And.intro h hb.2)
        have HL10 := Lib.hid hb.1
        have HX10 := Lib.hid hx
        clear h hf hx hb
        dsimp only at Q10 HL10 ⊢
        go_wp2_with (refine wpList_cat rfl _ _ _ _ rfl rfl rfl (by have := HL2.out; have := HL3.out; have := HL4.out; have := HL6.out; have := HL7.out; have := HL8.out; have := HL9.out; have := HL10.out; (try simp only [List.length_append, List.length_cons, List.length_nil]); omega) ?_)
        go_ret
        have e1 : Pr.definition tk f r = ((([32, 40, 51]) ++ (x2 ++ x3 ++ x4)) ++ (x6 ++ x7 ++ x8) ++ x9 ++ x10 ++ [41], r10) := by
          unfold Pr.definition Pr.defn
          simp only [HH.out, HD.out, HLI.out]
          unfold Pr.defRest
          simp only [HX6.out, HX7.out, HX8.out, HX9.out, HX10.out]
        rw [e1]
        exact ⟨by simp [Pr.bin], Q10.out.1⟩
      · skip
        rw [Bool.not_eq_true] at b3
        have B3 := Lib.hid b3
        clear b3
        go_wp2_with (refine wpList_cat rfl _ _ _ _ rfl rfl rfl (by have := HL2.out; have := HL3.out; have := HL4.out; (try simp only [List.length_append, List.length_cons, List.length_nil]); omega) ?_)
        clear c4 he'
        have hcall := qis_calls Q4.out.1 Q4.out.2 HO.out [41]
        rw [B3.out] at hcall
        refine hcall.mono ?_
        rintro e W5 ⟨rfl, h⟩
        have Q5 := Lib.hid (And.intro h Q4.out.2)
        clear h hcall
        dsimp only
        go_wp2_with (refine wpList_cat rfl _ _ _ _ rfl rfl rfl (by have := HL2.out; have := HL3.out; have := HL4.out; (try simp only [List.length_append, List.length_cons, List.length_nil]); omega) ?_)
        refine (HPA.out.1 _ _ Q5.out.1 Q5.out.2).mono ?_
        rintro e W6 ⟨rfl, h⟩
        have hf := HPA.out.2 r4 Q5.out.2
        obtain ⟨⟨x6, r6⟩, hx⟩ : ∃ q, Pr.args tk (Pr.param tk f) r4 = q := ⟨_, rfl⟩
        rw [hx] at h hf ⊢
        have hb := HO.out.fits hf (by decide)
        have Q6 := Lib.hid (And.intro h hb.2)
        have HL6 := Lib.hid hb.1
        have HX6 := Lib.hid hx
        clear h hf hx hb
        dsimp only at Q6 HL6 ⊢
        go_wp2_with (refine wpList_cat rfl _ _ _ _ rfl rfl rfl (by have := HL2.out; have := HL3.out; have := HL4.out; have := HL6.out; (try simp only [List.length_append, List.length_cons, List.length_nil]); omega) ?_)
        have HLI : Hid (Pr.defList tk f (([32, 40, 51]) ++ (x2 ++ x3 ++ x4)) r4 = ((([32, 40, 51]) ++ (x2 ++ x3 ++ x4)) ++ x6, r6)) := Lib.hid (by unfold Pr.defList Pr.params; rw [if_pos ⟨HE.out, B3.out⟩]; simp only [HX6.out])
        refine (qmust_calls Q6.out.1 Q6.out.2 HO.out [41]).mono ?_
        rintro e W7 ⟨rfl, h⟩
        have hf := Pr.must_fits HO.out.toks [41] r6 Q6.out.2
        obtain ⟨⟨x7, r7⟩, hx⟩ : ∃ q, Pr.must tk [41] r6 = q := ⟨_, rfl⟩
        rw [hx] at h hf ⊢
        have hb := HO.out.fits hf (by decide)
        have Q7 := Lib.hid (And.intro h hb.2)
        have HL7 := Lib.hid hb.1
        have HX7 := Lib.hid hx
        clear h hf hx hb
        dsimp only at Q7 HL7 ⊢
        go_wp2_with (refine wpList_cat rfl _ _ _ _ rfl rfl rfl (by have := HL2.out; have := HL3.out; have := HL4.out; have := HL6.out; have := HL7.out; (try simp only [List.length_append, List.length_cons, List.length_nil]); omega) ?_)
        refine (HT.out.1 _ _ Q7.out.1 Q7.out.2).mono ?_
        rintro e W8 ⟨rfl, h⟩
        have hf := HT.out.2 r7 Q7.out.2
        obtain ⟨⟨x8, r8⟩, hx⟩ : ∃ q, Pr.typed tk f r7 = q := ⟨_, rfl⟩
        rw [hx] at h hf ⊢
        have hb := HO.out.fits hf (by decide)
        have Q8 := Lib.hid (And.intro h hb.2)
        have HL8 := Lib.hid hb.1
        have HX8 := Lib.hid hx
        clear h hf hx hb
        dsimp only at Q8 HL8 ⊢
        go_wp2_with (refine wpList_cat rfl _ _ _ _ rfl rfl rfl (by have := HL2.out; have := HL3.out; have := HL4.out; have := HL6.out; have := HL7.out; have := HL8.out; (try simp only [List.length_append, List.length_cons, List.length_nil]); omega) ?_)
        refine (qmust_calls Q8.out.1 Q8.out.2 HO.out [61]).mono ?_
        rintro e W9 ⟨rfl, h⟩
        have hf := Pr.must_fits HO.out.toks [61] r8 Q8.out.2
        obtain ⟨⟨x9, r9⟩, hx⟩ : ∃ q, Pr.must tk [61] r8 = q := ⟨_, rfl⟩
        rw [hx] at h hf ⊢
        have hb := HO.out.fits hf (by decide)
        have Q9 := Lib.hid (And.intro h hb.2)
        have HL9 := Lib.hid hb.1
        have HX9 := Lib.hid hx
        clear h hf hx hb
        dsimp only at Q9 HL9 ⊢
        go_wp2_with (refine wpList_cat rfl _ _ _ _ rfl rfl rfl (by have := HL2.out; have := HL3.out; have := HL4.out; have := HL6.out; have := HL7.out; have := HL8.out; have := HL9.out; (try simp only [List.length_append, List.length_cons, List.length_nil]); omega) ?_)
        refine (HK.out.1 _ _ Q9.out.1 Q9.out.2).mono ?_
        rintro e W10 ⟨rfl, h⟩
        have hf := HK.out.2 r9 Q9.out.2
        obtain ⟨⟨x10, r10⟩, hx⟩ : ∃ q, f r9 = q := ⟨_, rfl⟩
        rw [hx] at h hf ⊢
        have hb := HO.out.fits hf (by decide)
        have Q10 := Lib.hid (And.intro h hb.2)
        have HL10 := Lib.hid hb.1
        have HX10 := Lib.hid hx
        clear h hf hx hb
        dsimp only at Q10 HL10 ⊢
        go_wp2_with (refine wpList_cat rfl _ _ _ _ rfl rfl rfl (by have := HL2.out; have := HL3.out; have := HL4.out; have := HL6.out; have := HL7.out; have := HL8.out; have := HL9.out; have := HL10.out; (try simp only [List.length_append, List.length_cons, List.length_nil]); omega) ?_)
        refine (qmust_calls Q10.out.1 Q10.out.2 HO.out [59]).mono ?_
        rintro e W11 ⟨rfl, h⟩
        have hf := Pr.must_fits HO.out.toks [59] r10 Q10.out.2
        obtain ⟨⟨x11, r11⟩, hx⟩ : ∃ q, Pr.must tk [59] r10 = q := ⟨_, rfl⟩
        rw [hx] at h hf ⊢
        have hb := HO.out.fits hf (by decide)
        have Q11 := Lib.hid (And.intro h hb.2)
        have HL11 := Lib.hid hb.1
        have HX11 := Lib.hid hx
        clear h hf hx hb
        dsimp only at Q11 HL11 ⊢
        go_wp2_with (refine wpList_cat rfl _ _ _ _ rfl rfl rfl (by have := HL2.out; have := HL3.out; have := HL4.out; have := HL6.out; have := HL7.out; have := HL8.out; have := HL9.out; have := HL10.out; have := HL11.out; (try simp only [List.length_append, List.length_cons, List.length_nil]); omega) ?_)
        go_ret
        have e1 : Pr.definition tk f r = (((([32, 40, 51]) ++ (x2 ++ x3 ++ x4)) ++ x6) ++ (x7 ++ x8 ++ x9) ++ x10 ++ x11 ++ [41], r11) := by
          unfold Pr.definition Pr.defn
          simp only [HH.out, HD.out, HLI.out]
          unfold Pr.defRest
          simp only [HX7.out, HX8.out, HX9.out, HX10.out, HX11.out]
        rw [e1]
        exact ⟨by simp [Pr.bin], Q11.out.1⟩
    · skip
      have he' : (r4.e == 0) = false := by simp [he]
      have HE := Lib.hid he
      clear he
      go_wp2_with (refine wpList_cat rfl _ _ _ _ rfl rfl rfl (by have := HL2.out; have := HL3.out; have := HL4.out; (try simp only [List.length_append, List.length_cons, List.length_nil]); omega) ?_)
      clear c4 he'
      have HLI : Hid (Pr.defList tk f (([32, 40, 51]) ++ (x2 ++ x3 ++ x4)) r4 = (([32, 40, 51]) ++ (x2 ++ x3 ++ x4), r4)) := Lib.hid (by unfold Pr.defList; rw [if_neg (fun h => HE.out h.1)])
      refine (qmust_calls Q4.out.1 Q4.out.2 HO.out [41]).mono ?_
      rintro e W5 ⟨rfl, h⟩
      have hf := Pr.must_fits HO.out.toks [41] r4 Q4.out.2
      obtain ⟨⟨x5, r5⟩, hx⟩ : ∃ q, Pr.must tk [41] r4 = q := ⟨_, rfl⟩
      rw [hx] at h hf ⊢
      have hb := HO.out.fits hf (by decide)
      have Q5 := Lib.hid (And.intro h hb.2)
      have HL5 := Lib.hid hb.1
      have HX5 := Lib.hid hx
      clear h hf hx hb
      dsimp only at Q5 HL5 ⊢
      go_wp2_with (refine wpList_cat rfl _ _ _ _ rfl rfl rfl (by have := HL2.out; have := HL3.out; have := HL4.out; have := HL5.out; (try simp only [List.length_append, List.length_cons, List.length_nil]); omega) ?_)
      refine (HT.out.1 _ _ Q5.out.1 Q5.out.2).mono ?_
      rintro e W6 ⟨rfl, h⟩
      have hf := HT.out.2 r5 Q5.out.2
      obtain ⟨⟨x6, r6⟩, hx⟩ : ∃ q, Pr.typed tk f r5 = q := ⟨_, rfl⟩
      rw [hx] at h hf ⊢
      have hb := HO.out.fits hf (by decide)
      have Q6 := Lib.hid (And.intro h hb.2)
      have HL6 := Lib.hid hb.1
      have HX6 := Lib.hid hx
      clear h hf hx hb
      dsimp only at Q6 HL6 ⊢
      go_wp2_with (refine wpList_cat rfl _ _ _ _ rfl rfl rfl (by have := HL2.out; have := HL3.out; have := HL4.out; have := HL5.out; have := HL6.out; (try simp only [List.length_append, List.length_cons, List.length_nil]); omega) ?_)
      refine (qmust_calls Q6.out.1 Q6.out.2 HO.out [61]).mono ?_
      rintro e W7 ⟨rfl, h⟩
      have hf := Pr.must_fits HO.out.toks [61] r6 Q6.out.2
      obtain ⟨⟨x7, r7⟩, hx⟩ : ∃ q, Pr.must tk [61] r6 = q := ⟨_, rfl⟩
      rw [hx] at h hf ⊢
      have hb := HO.out.fits hf (by decide)
      have Q7 := Lib.hid (And.intro h hb.2)
      have HL7 := Lib.hid hb.1
      have HX7 := Lib.hid hx
      clear h hf hx hb
      dsimp only at Q7 HL7 ⊢
      go_wp2_with (refine wpList_cat rfl _ _ _ _ rfl rfl rfl (by have := HL2.out; have := HL3.out; have := HL4.out; have := HL5.out; have := HL6.out; have := HL7.out; (try simp only [List.length_append, List.length_cons, List.length_nil]); omega) ?_)
      refine (HK.out.1 _ _ Q7.out.1 Q7.out.2).mono ?_
      rintro e W8 ⟨rfl, h⟩
      have hf := HK.out.2 r7 Q7.out.2
      obtain ⟨⟨x8, r8⟩, hx⟩ : ∃ q, f r7 = q := ⟨_, rfl⟩
      rw [hx] at h hf ⊢
      have hb := HO.out.fits hf (by decide)
      have Q8 := Lib.hid (And.intro h hb.2)
      have HL8 := Lib.hid hb.1
      have HX8 := Lib.hid hx
      clear h hf hx hb
      dsimp only at Q8 HL8 ⊢
      go_wp2_with (refine wpList_cat rfl _ _ _ _ rfl rfl rfl (by have := HL2.out; have := HL3.out; have := HL4.out; have := HL5.out; have := HL6.out; have := HL7.out; have := HL8.out; (try simp only [List.length_append, List.length_cons, List.length_nil]); omega) ?_)
      refine (qmust_calls Q8.out.1 Q8.out.2 HO.out [59]).mono ?_
      rintro e W9 ⟨rfl, h⟩
      have hf := Pr.must_fits HO.out.toks [59] r8 Q8.out.2
      obtain ⟨⟨x9, r9⟩, hx⟩ : ∃ q, Pr.must tk [59] r8 = q := ⟨_, rfl⟩
      rw [hx] at h hf ⊢
      have hb := HO.out.fits hf (by decide)
      have Q9 := Lib.hid (And.intro h hb.2)
      have HL9 := Lib.hid hb.1
      have HX9 := Lib.hid hx
      clear h hf hx hb
      dsimp only at Q9 HL9 ⊢
      go_wp2_with (refine wpList_cat rfl _ _ _ _ rfl rfl rfl (by have := HL2.out; have := HL3.out; have := HL4.out; have := HL5.out; have := HL6.out; have := HL7.out; have := HL8.out; have := HL9.out; (try simp only [List.length_append, List.length_cons, List.length_nil]); omega) ?_)
      go_ret
      have e1 : Pr.definition tk f r = ((([32, 40, 51]) ++ (x2 ++ x3 ++ x4)) ++ (x5 ++ x6 ++ x7) ++ x8 ++ x9 ++ [41], r9) := by
        unfold Pr.definition Pr.defn
        simp only [HH.out, HD.out, HLI.out]
        unfold Pr.defRest
        simp only [HX5.out, HX6.out, HX7.out, HX8.out, HX9.out]
      rw [e1]
      exact ⟨by simp [Pr.bin], Q9.out.1⟩
end
end Go.Proofs.YtpkhdlnlkeehhaaGreatDoor
/- The document's parser: program, alone, Parse: the walks. -/
namespace Go.Proofs.YtpkhdlnlkeehhaaGreatDoor
open Go.RowKit

theorem importsGo_on {tk : List Tr.Tk} {n : Nat} {a : List UInt8} {s : Pr.Rs} (h : Pr.is tk Ps.tImport s = true) :
    Pr.importsGo tk (n + 1) a s = Pr.importsGo tk n (a ++ ([32, 40, 50] ++ (Pr.leaf tk s).1 ++ (Pr.kind tk 1 (Pr.leaf tk s).2).1 ++ (Pr.must tk [59] (Pr.kind tk 1 (Pr.leaf tk s).2).2).1 ++ [41])) (Pr.must tk [59] (Pr.kind tk 1 (Pr.leaf tk s).2).2).2 := by
  rw [Pr.importsGo, if_pos h]
theorem importsGo_full {tk : List Tr.Tk} {a : List UInt8} {s : Pr.Rs} (h : Pr.is tk Ps.tImport s = true) : Pr.importsGo tk 0 a s = ([], Pr.fail tk 15 s, false) := by rw [Pr.importsGo, if_pos h]
theorem importsGo_off {tk : List Tr.Tk} (n : Nat) {a : List UInt8} {s : Pr.Rs} (h : Pr.is tk Ps.tImport s = false) : Pr.importsGo tk n a s = (a, s, true) := by
  cases n <;> rw [Pr.importsGo, if_neg (by simp [h])]
theorem defsGo_on {tk : List Tr.Tk} {f : Pr.G} {n : Nat} {a : List UInt8} {s : Pr.Rs} (h : (Pr.is tk Ps.tPub s || Pr.is tk Ps.tFun s) = true) :
    Pr.defsGo tk f (n + 1) a s = Pr.defsGo tk f n (a ++ (Pr.definition tk f s).1) (Pr.definition tk f s).2 := by
  rw [Pr.defsGo, if_pos h]
theorem defsGo_full {tk : List Tr.Tk} {f : Pr.G} {a : List UInt8} {s : Pr.Rs} (h : (Pr.is tk Ps.tPub s || Pr.is tk Ps.tFun s) = true) : Pr.defsGo tk f 0 a s = ([], Pr.fail tk 15 s, false) := by rw [Pr.defsGo, if_pos h]
theorem defsGo_off {tk : List Tr.Tk} {f : Pr.G} (n : Nat) {a : List UInt8} {s : Pr.Rs} (h : (Pr.is tk Ps.tPub s || Pr.is tk Ps.tFun s) = false) : Pr.defsGo tk f n a s = (a, s, true) := by
  cases n <;> rw [Pr.defsGo, if_neg (by simp [h])]

section
variable {w0 : World} {p : Nat} {vt : Value} {tk : List Tr.Tk} {dp : Int}

set_option maxRecDepth 100000 in
set_option maxHeartbeats 4000000 in
theorem qalone_calls (ho : QOk tk) {f : Pr.G} (hf : Pr.Fit tk f 0) (hk : QKnows w0 p vt tk dp 42 #[.pointer (some ⟨p, 0, none⟩), .int .i64 1] f) : QKnows w0 p vt tk dp 21 #[.pointer (some ⟨p, 0, none⟩)] (Pr.alone tk f) := by
  intro W r h hi
  have HO := Lib.hid ho
  have Q0 := Lib.hid (And.intro h hi)
  have HK := Lib.hid (And.intro hk hf)
  have c3 := h.c3
  have f3 := frozen_of_heap h.cell 3
  clear ho h hi hf hk
  go_enter Tryz.func21, Tryz.ntmps21
  go_wp2_with (refine wpList_cat rfl _ _ _ _ rfl rfl rfl (by (try simp only [List.length_append, List.length_cons, List.length_nil]); omega) ?_)
  clear c3 f3
  have h := Q0.out.1.inn true
  obtain ⟨W1, hw⟩ : ∃ V, W.setCell ⟨p, 3, none⟩ (.bool true) = V := ⟨_, rfl⟩
  obtain ⟨r1, hr⟩ : ∃ q : Pr.Rs, { r with inn := true } = q := ⟨_, rfl⟩
  have hi : r1.i < tk.length := by rw [← hr]; exact Q0.out.2
  rw [hw, hr] at h
  rw [hw]
  have Q1 := Lib.hid (And.intro h hi)
  have HX1 := Lib.hid hr
  clear h hw hr hi
  refine (HK.out.1 _ _ Q1.out.1 Q1.out.2).mono ?_
  rintro e W2 ⟨rfl, h⟩
  have hf := HK.out.2 r1 Q1.out.2
  obtain ⟨⟨x2, r2⟩, hx⟩ : ∃ q, f r1 = q := ⟨_, rfl⟩
  rw [hx] at h hf ⊢
  have hb := HO.out.fits hf (by decide)
  have Q2 := Lib.hid (And.intro h hb.2)
  have HL2 := Lib.hid hb.1
  have HX2 := Lib.hid hx
  clear h hf hx hb
  dsimp only at Q2 HL2 ⊢
  go_wp2_with (refine wpList_cat rfl _ _ _ _ rfl rfl rfl (by have := HL2.out; (try simp only [List.length_append, List.length_cons, List.length_nil]); omega) ?_)
  refine (qkind_calls Q2.out.1 Q2.out.2 HO.out 5).mono ?_
  rintro e W3 ⟨rfl, h⟩
  have hf := Pr.kind_fits HO.out.toks 5 r2 Q2.out.2
  obtain ⟨⟨x3, r3⟩, hx⟩ : ∃ q, Pr.kind tk 5 r2 = q := ⟨_, rfl⟩
  rw [hx] at h hf ⊢
  have hb := HO.out.fits hf (by decide)
  have Q3 := Lib.hid (And.intro h hb.2)
  have HL3 := Lib.hid hb.1
  have HX3 := Lib.hid hx
  clear h hf hx hb
  dsimp only at Q3 HL3 ⊢
  go_wp2_with (refine wpList_cat rfl _ _ _ _ rfl rfl rfl (by have := HL2.out; have := HL3.out; (try simp only [List.length_append, List.length_cons, List.length_nil]); omega) ?_)
  go_ret
  have e1 : Pr.alone tk f r = ([40, 49, 56] ++ x2 ++ x3 ++ [41], r3) := by
    unfold Pr.alone
    simp only [HX1.out, HX2.out, HX3.out]
  rw [e1]
  exact ⟨by simp [Pr.bin], Q3.out.1⟩

set_option maxRecDepth 100000 in
set_option maxHeartbeats 4000000 in
theorem qprogram_calls (ho : QOk tk) {f : Pr.G} (hf : Pr.Fit tk f 0) (hk : QKnows w0 p vt tk dp 42 #[.pointer (some ⟨p, 0, none⟩), .int .i64 1] f) : QKnows w0 p vt tk dp 22 #[.pointer (some ⟨p, 0, none⟩)] (Pr.program tk f) := by
  intro W r h hi
  have HO := Lib.hid ho
  have Q0 := Lib.hid (And.intro h hi)
  have HK := Lib.hid (And.intro (qdef_calls ho hf hk) (Pr.definition_fits ho.toks hf))
  clear ho h hi hf hk
  go_enter Tryz.func22, Tryz.ntmps22
  go_wp2_with (refine wpList_cat rfl _ _ _ _ rfl rfl rfl (by (try simp only [List.length_append, List.length_cons, List.length_nil]); omega) ?_)
  go_loopg [3, 4] 16 (fun g v3 v4 wr => ∃ (m kk : Nat) (a : List UInt8) (r2 : Pr.Rs), v3 = .string ⟨a.toArray⟩ ∧ v4 = .int .i64 kk ∧ g = m ∧ m + kk = 16 ∧ QI w0 wr p vt tk dp r2 ∧ Pr.Fits tk r (a, r2) 2 ∧ Pr.importsGo tk m a r2 = Pr.importsGo tk 16 [40, 49] r)
  case atStart => exact ⟨16, 0, [40, 49], r, rfl, rfl, rfl, rfl, Q0.out.1, (Pr.Fits.text (Pr.Fits.start Q0.out.2) (y := [40, 49]) (d := 2) (by simp)).mono (by omega), rfl⟩
  case round =>
    obtain ⟨m, kk, a, r2, rfl, rfl, hkm, hmk, h2, hft, hgo⟩ := hrel
    have Q2 := Lib.hid (And.intro h2 hft.hi)
    have HM := Lib.hid (And.intro hkm (And.intro hmk (And.intro hft hgo)))
    have HL2 : Hid (a.length ≤ 1000001000) := Lib.hid (HO.out.fits hft (by decide)).1
    have hk0 : (0 : Int) ≤ (kk : Int) := by omega
    have hk1 : (kk : Int) ≤ 16 := by omega
    clear hkm h2 hmk hft hgo
    by_cases b0 : Pr.is tk Ps.tImport r2 = true
    · have B0 := Lib.hid b0
      clear b0
      by_cases h16 : kk = 16
      · subst h16
        go_wp2_with (refine wpList_cat rfl _ _ _ _ rfl rfl rfl (by have := HL2.out; (try simp only [List.length_append, List.length_cons, List.length_nil]); omega) ?_)
        have hcall := qis_calls Q2.out.1 Q2.out.2 HO.out Ps.tImport
        rw [B0.out] at hcall
        refine hcall.mono ?_
        rintro e W21 ⟨rfl, h⟩
        have Q21 := Lib.hid (And.intro h Q2.out.2)
        clear h hcall
        dsimp only
        go_wp2_with (refine wpList_cat rfl _ _ _ _ rfl rfl rfl (by have := HL2.out; (try simp only [List.length_append, List.length_cons, List.length_nil]); omega) ?_)
        refine (qfail_calls Q21.out.1 Q21.out.2 HO.out 15).mono ?_
        rintro e W22 ⟨rfl, h⟩
        obtain ⟨r22, hx⟩ : ∃ q, Pr.fail tk 15 r2 = q := ⟨_, rfl⟩
        have hi := (by rw [Pr.fail_i]; exact Q21.out.2 : (Pr.fail tk 15 r2).i < tk.length)
        rw [hx] at h hi
        have Q22 := Lib.hid (And.intro h hi)
        have HX22 := Lib.hid hx
        clear h hi hx
        dsimp only
        go_wp2_with (refine wpList_cat rfl _ _ _ _ rfl rfl rfl (by have := HL2.out; (try simp only [List.length_append, List.length_cons, List.length_nil]); omega) ?_)
        have hgo := HM.out.2.2.2
        have hm0 : m = 0 := by have := HM.out.2.1; omega
        rw [hm0, importsGo_full B0.out] at hgo
        have HG := Lib.hid hgo
        clear hgo hm0
        go_ret
        have e1 : Pr.program tk f r = ([], r22) := by
          unfold Pr.program
          simp only [← HG.out]
          rw [if_neg (by simp), HX22.out]
        rw [e1]
        exact ⟨by simp [Pr.bin], Q22.out.1⟩
      · skip
        have h16n : ((kk : Int) == 16) = false := by simp; omega
        have H16 := Lib.hid h16
        clear h16
        go_wp2_with (refine wpList_cat rfl _ _ _ _ rfl rfl rfl (by have := HL2.out; (try simp only [List.length_append, List.length_cons, List.length_nil]); omega) ?_)
        have hcall := qis_calls Q2.out.1 Q2.out.2 HO.out Ps.tImport
        rw [B0.out] at hcall
        refine hcall.mono ?_
        rintro e W21 ⟨rfl, h⟩
        have Q21 := Lib.hid (And.intro h Q2.out.2)
        clear h hcall
        dsimp only
        go_wp2_with (refine wpList_cat rfl _ _ _ _ rfl rfl rfl (by have := HL2.out; (try simp only [List.length_append, List.length_cons, List.length_nil]); omega) ?_)
        refine (qleaf_calls Q21.out.1 Q21.out.2 HO.out).mono ?_
        rintro e W22 ⟨rfl, h⟩
        have hf := Pr.leaf_fits HO.out.toks Q21.out.2 (Pr.is_kind B0.out).1
        obtain ⟨⟨x22, r22⟩, hx⟩ : ∃ q, Pr.leaf tk r2 = q := ⟨_, rfl⟩
        rw [hx] at h hf ⊢
        have hb := HO.out.fits hf (by decide)
        have Q22 := Lib.hid (And.intro h hb.2)
        have HL22 := Lib.hid hb.1
        have HX22 := Lib.hid hx
        clear h hf hx hb
        dsimp only at Q22 HL22 ⊢
        go_wp2_with (refine wpList_cat rfl _ _ _ _ rfl rfl rfl (by have := HL2.out; have := HL22.out; (try simp only [List.length_append, List.length_cons, List.length_nil]); omega) ?_)
        refine (qkind_calls Q22.out.1 Q22.out.2 HO.out 1).mono ?_
        rintro e W23 ⟨rfl, h⟩
        have hf := Pr.kind_fits0 HO.out.toks (k := 1) (by decide) r22 Q22.out.2
        obtain ⟨⟨x23, r23⟩, hx⟩ : ∃ q, Pr.kind tk 1 r22 = q := ⟨_, rfl⟩
        rw [hx] at h hf ⊢
        have hb := HO.out.fits hf (by decide)
        have Q23 := Lib.hid (And.intro h hb.2)
        have HL23 := Lib.hid hb.1
        have HX23 := Lib.hid hx
        clear h hf hx hb
        dsimp only at Q23 HL23 ⊢
        go_wp2_with (refine wpList_cat rfl _ _ _ _ rfl rfl rfl (by have := HL2.out; have := HL22.out; have := HL23.out; (try simp only [List.length_append, List.length_cons, List.length_nil]); omega) ?_)
        refine (qmust_calls Q23.out.1 Q23.out.2 HO.out [59]).mono ?_
        rintro e W24 ⟨rfl, h⟩
        have hf := Pr.must_fits HO.out.toks [59] r23 Q23.out.2
        obtain ⟨⟨x24, r24⟩, hx⟩ : ∃ q, Pr.must tk [59] r23 = q := ⟨_, rfl⟩
        rw [hx] at h hf ⊢
        have hb := HO.out.fits hf (by decide)
        have Q24 := Lib.hid (And.intro h hb.2)
        have HL24 := Lib.hid hb.1
        have HX24 := Lib.hid hx
        clear h hf hx hb
        dsimp only at Q24 HL24 ⊢
        go_wp2_with (refine wpList_cat rfl _ _ _ _ rfl rfl rfl (by have := HL2.out; have := HL22.out; have := HL23.out; have := HL24.out; (try simp only [List.length_append, List.length_cons, List.length_nil]); omega) ?_)
        go_roundg (m - 1)
        case measure => have := HM.out.1; have := HM.out.2.1; have := H16.out; omega
        case rel =>
          have hgo := HM.out.2.2.2
          have hm := HM.out.2.1
          have h16 := H16.out
          obtain ⟨m2, hm2⟩ : ∃ m2, m = m2 + 1 := ⟨m - 1, by omega⟩
          rw [hm2, importsGo_on B0.out, HX22.out] at hgo
          simp only [HX23.out, HX24.out] at hgo
          have f1 := Pr.leaf_fits HO.out.toks Q2.out.2 (Pr.is_kind B0.out).1
          rw [HX22.out] at f1
          have f2 := Pr.kind_fits0 HO.out.toks (k := 1) (by decide) r22 f1.hi
          rw [HX23.out] at f2
          have f3 := Pr.must_fits HO.out.toks [59] r23 f2.hi
          rw [HX24.out] at f3
          have hfin := ((HM.out.2.2.1.then ((f1.then f2).then f3)).text (y := a ++ ([32, 40, 50] ++ x22 ++ x23 ++ x24 ++ [41])) (d := 4) (by simp; omega)).mono (d := 2) (by omega)
          refine ⟨m - 1, kk + 1, a ++ ([32, 40, 50] ++ x22 ++ x23 ++ x24 ++ [41]), r24, by simp, by go_num, rfl, by omega, Q24.out.1, hfin, ?_⟩
          rw [show m - 1 = m2 by omega]
          exact hgo
    · rw [Bool.not_eq_true] at b0
      have B0 := Lib.hid b0
      have hgo := HM.out.2.2.2
      rw [importsGo_off _ b0] at hgo
      have HI1 := Lib.hid hgo.symm
      clear b0 hgo
      go_wp2_with (refine wpList_cat rfl _ _ _ _ rfl rfl rfl (by have := HL2.out; (try simp only [List.length_append, List.length_cons, List.length_nil]); omega) ?_)
      have hcall := qis_calls Q2.out.1 Q2.out.2 HO.out Ps.tImport
      rw [B0.out] at hcall
      refine hcall.mono ?_
      rintro e W21 ⟨rfl, h⟩
      have Q21 := Lib.hid (And.intro h Q2.out.2)
      clear h hcall
      dsimp only
      go_wp2_with (refine wpList_cat rfl _ _ _ _ rfl rfl rfl (by have := HL2.out; (try simp only [List.length_append, List.length_cons, List.length_nil]); omega) ?_)
      go_loopg [3, 5] 64 (fun g v3 v5 wr => ∃ (m kk : Nat) (a3 : List UInt8) (r3 : Pr.Rs), v3 = .string ⟨a3.toArray⟩ ∧ v5 = .int .i64 kk ∧ g = m ∧ m + kk = 64 ∧ QI w0 wr p vt tk dp r3 ∧ Pr.Fits tk r (a3, r3) (2 + 8 * (kk : Int)) ∧ Pr.defsGo tk f m a3 r3 = Pr.defsGo tk f 64 a r2)
      case atStart => exact ⟨64, 0, a, r2, rfl, rfl, rfl, rfl, Q21.out.1, HM.out.2.2.1.mono (by omega), rfl⟩
      case round =>
        obtain ⟨m3, k3, a3, r3, rfl, rfl, hkm, hmk, h3, hft, hgo⟩ := hrel
        have Q3 := Lib.hid (And.intro h3 hft.hi)
        have HM3 := Lib.hid (And.intro hkm (And.intro hmk (And.intro hft hgo)))
        have HL3 : Hid (a3.length ≤ 1000001000) := Lib.hid (HO.out.fits hft (by omega)).1
        have hj0 : (0 : Int) ≤ (k3 : Int) := by omega
        have hj1 : (k3 : Int) ≤ 64 := by omega
        clear hkm h3 hmk hft hgo
        by_cases b1 : Pr.is tk Ps.tPub r3 = true
        · have B1 := Lib.hid b1
          clear b1
          have BA : Hid ((Pr.is tk Ps.tPub r3 || Pr.is tk Ps.tFun r3) = true) := Lib.hid (by rw [B1.out]; rfl)
          by_cases h64 : k3 = 64
          · subst h64
            go_wp2_with (refine wpList_cat rfl _ _ _ _ rfl rfl rfl (by have := HL3.out; (try simp only [List.length_append, List.length_cons, List.length_nil]); omega) ?_)
            have hcall := qis_calls Q3.out.1 Q3.out.2 HO.out Ps.tPub
            rw [B1.out] at hcall
            refine hcall.mono ?_
            rintro e W41 ⟨rfl, h⟩
            have Q41 := Lib.hid (And.intro h Q3.out.2)
            clear h hcall
            dsimp only
            go_wp2_with (refine wpList_cat rfl _ _ _ _ rfl rfl rfl (by have := HL3.out; (try simp only [List.length_append, List.length_cons, List.length_nil]); omega) ?_)
            refine (qfail_calls Q41.out.1 Q41.out.2 HO.out 15).mono ?_
            rintro e W42 ⟨rfl, h⟩
            obtain ⟨r42, hx⟩ : ∃ q, Pr.fail tk 15 r3 = q := ⟨_, rfl⟩
            have hi := (by rw [Pr.fail_i]; exact Q41.out.2 : (Pr.fail tk 15 r3).i < tk.length)
            rw [hx] at h hi
            have Q42 := Lib.hid (And.intro h hi)
            have HX42 := Lib.hid hx
            clear h hi hx
            dsimp only
            go_wp2_with (refine wpList_cat rfl _ _ _ _ rfl rfl rfl (by have := HL3.out; (try simp only [List.length_append, List.length_cons, List.length_nil]); omega) ?_)
            have hgo := HM3.out.2.2.2
            have hm0 : m3 = 0 := by have := HM3.out.2.1; omega
            rw [hm0, defsGo_full BA.out] at hgo
            have HG := Lib.hid hgo
            clear hgo hm0
            go_ret
            have e1 : Pr.program tk f r = ([], r42) := by
              unfold Pr.program
              simp only [HI1.out]
              rw [if_pos trivial]
              simp only [← HG.out]
              rw [if_neg (by simp), HX42.out]
            rw [e1]
            exact ⟨by simp [Pr.bin], Q42.out.1⟩
          · skip
            have h64n : ((k3 : Int) == 64) = false := by simp; omega
            have H64 := Lib.hid h64
            clear h64
            go_wp2_with (refine wpList_cat rfl _ _ _ _ rfl rfl rfl (by have := HL3.out; (try simp only [List.length_append, List.length_cons, List.length_nil]); omega) ?_)
            have hcall := qis_calls Q3.out.1 Q3.out.2 HO.out Ps.tPub
            rw [B1.out] at hcall
            refine hcall.mono ?_
            rintro e W41 ⟨rfl, h⟩
            have Q41 := Lib.hid (And.intro h Q3.out.2)
            clear h hcall
            dsimp only
            go_wp2_with (refine wpList_cat rfl _ _ _ _ rfl rfl rfl (by have := HL3.out; (try simp only [List.length_append, List.length_cons, List.length_nil]); omega) ?_)
            refine (HK.out.1 _ _ Q41.out.1 Q41.out.2).mono ?_
            rintro e W42 ⟨rfl, h⟩
            have hf := (HK.out.2 r3 Q41.out.2).mono (d := 8) (by omega)
            obtain ⟨⟨x42, r42⟩, hx⟩ : ∃ q, Pr.definition tk f r3 = q := ⟨_, rfl⟩
            rw [hx] at h hf ⊢
            have hb := HO.out.fits hf (by decide)
            have Q42 := Lib.hid (And.intro h hb.2)
            have HL42 := Lib.hid hb.1
            have HX42 := Lib.hid hx
            clear h hf hx hb
            dsimp only at Q42 HL42 ⊢
            go_wp2_with (refine wpList_cat rfl _ _ _ _ rfl rfl rfl (by have := HL3.out; have := HL42.out; (try simp only [List.length_append, List.length_cons, List.length_nil]); omega) ?_)
            go_roundg (m3 - 1)
            case measure => have := HM3.out.1; have := HM3.out.2.1; have := H64.out; omega
            case rel =>
              have hgo := HM3.out.2.2.2
              have hm := HM3.out.2.1
              have h64 := H64.out
              obtain ⟨m2, hm2⟩ : ∃ m2, m3 = m2 + 1 := ⟨m3 - 1, by omega⟩
              rw [hm2, defsGo_on BA.out, HX42.out] at hgo
              have f1 := HK.out.2 r3 Q3.out.2
              rw [HX42.out] at f1
              refine ⟨m3 - 1, k3 + 1, a3 ++ x42, r42, by simp, by go_num, rfl, by omega, Q42.out.1, (HM3.out.2.2.1.then f1).mono (by omega), ?_⟩
              rw [show m3 - 1 = m2 by omega]
              exact hgo
        · rw [Bool.not_eq_true] at b1
          have B1 := Lib.hid b1
          clear b1
          by_cases b2 : Pr.is tk Ps.tFun r3 = true
          · have B2 := Lib.hid b2
            clear b2
            have BA : Hid ((Pr.is tk Ps.tPub r3 || Pr.is tk Ps.tFun r3) = true) := Lib.hid (by rw [B1.out, B2.out]; rfl)
            by_cases h64 : k3 = 64
            · subst h64
              go_wp2_with (refine wpList_cat rfl _ _ _ _ rfl rfl rfl (by have := HL3.out; (try simp only [List.length_append, List.length_cons, List.length_nil]); omega) ?_)
              have hcall := qis_calls Q3.out.1 Q3.out.2 HO.out Ps.tPub
              rw [B1.out] at hcall
              refine hcall.mono ?_
              rintro e W41 ⟨rfl, h⟩
              have Q41 := Lib.hid (And.intro h Q3.out.2)
              clear h hcall
              dsimp only
              go_wp2_with (refine wpList_cat rfl _ _ _ _ rfl rfl rfl (by have := HL3.out; (try simp only [List.length_append, List.length_cons, List.length_nil]); omega) ?_)
              have hcall := qis_calls Q41.out.1 Q41.out.2 HO.out Ps.tFun
              rw [B2.out] at hcall
              refine hcall.mono ?_
              rintro e W42 ⟨rfl, h⟩
              have Q42 := Lib.hid (And.intro h Q41.out.2)
              clear h hcall
              dsimp only
              go_wp2_with (refine wpList_cat rfl _ _ _ _ rfl rfl rfl (by have := HL3.out; (try simp only [List.length_append, List.length_cons, List.length_nil]); omega) ?_)
              refine (qfail_calls Q42.out.1 Q42.out.2 HO.out 15).mono ?_
              rintro e W43 ⟨rfl, h⟩
              obtain ⟨r43, hx⟩ : ∃ q, Pr.fail tk 15 r3 = q := ⟨_, rfl⟩
              have hi := (by rw [Pr.fail_i]; exact Q42.out.2 : (Pr.fail tk 15 r3).i < tk.length)
              rw [hx] at h hi
              have Q43 := Lib.hid (And.intro h hi)
              have HX43 := Lib.hid hx
              clear h hi hx
              dsimp only
              go_wp2_with (refine wpList_cat rfl _ _ _ _ rfl rfl rfl (by have := HL3.out; (try simp only [List.length_append, List.length_cons, List.length_nil]); omega) ?_)
              have hgo := HM3.out.2.2.2
              have hm0 : m3 = 0 := by have := HM3.out.2.1; omega
              rw [hm0, defsGo_full BA.out] at hgo
              have HG := Lib.hid hgo
              clear hgo hm0
              go_ret
              have e1 : Pr.program tk f r = ([], r43) := by
                unfold Pr.program
                simp only [HI1.out]
                rw [if_pos trivial]
                simp only [← HG.out]
                rw [if_neg (by simp), HX43.out]
              rw [e1]
              exact ⟨by simp [Pr.bin], Q43.out.1⟩
            · skip
              have h64n : ((k3 : Int) == 64) = false := by simp; omega
              have H64 := Lib.hid h64
              clear h64
              go_wp2_with (refine wpList_cat rfl _ _ _ _ rfl rfl rfl (by have := HL3.out; (try simp only [List.length_append, List.length_cons, List.length_nil]); omega) ?_)
              have hcall := qis_calls Q3.out.1 Q3.out.2 HO.out Ps.tPub
              rw [B1.out] at hcall
              refine hcall.mono ?_
              rintro e W41 ⟨rfl, h⟩
              have Q41 := Lib.hid (And.intro h Q3.out.2)
              clear h hcall
              dsimp only
              go_wp2_with (refine wpList_cat rfl _ _ _ _ rfl rfl rfl (by have := HL3.out; (try simp only [List.length_append, List.length_cons, List.length_nil]); omega) ?_)
              have hcall := qis_calls Q41.out.1 Q41.out.2 HO.out Ps.tFun
              rw [B2.out] at hcall
              refine hcall.mono ?_
              rintro e W42 ⟨rfl, h⟩
              have Q42 := Lib.hid (And.intro h Q41.out.2)
              clear h hcall
              dsimp only
              go_wp2_with (refine wpList_cat rfl _ _ _ _ rfl rfl rfl (by have := HL3.out; (try simp only [List.length_append, List.length_cons, List.length_nil]); omega) ?_)
              refine (HK.out.1 _ _ Q42.out.1 Q42.out.2).mono ?_
              rintro e W43 ⟨rfl, h⟩
              have hf := (HK.out.2 r3 Q42.out.2).mono (d := 8) (by omega)
              obtain ⟨⟨x43, r43⟩, hx⟩ : ∃ q, Pr.definition tk f r3 = q := ⟨_, rfl⟩
              rw [hx] at h hf ⊢
              have hb := HO.out.fits hf (by decide)
              have Q43 := Lib.hid (And.intro h hb.2)
              have HL43 := Lib.hid hb.1
              have HX43 := Lib.hid hx
              clear h hf hx hb
              dsimp only at Q43 HL43 ⊢
              go_wp2_with (refine wpList_cat rfl _ _ _ _ rfl rfl rfl (by have := HL3.out; have := HL43.out; (try simp only [List.length_append, List.length_cons, List.length_nil]); omega) ?_)
              go_roundg (m3 - 1)
              case measure => have := HM3.out.1; have := HM3.out.2.1; have := H64.out; omega
              case rel =>
                have hgo := HM3.out.2.2.2
                have hm := HM3.out.2.1
                have h64 := H64.out
                obtain ⟨m2, hm2⟩ : ∃ m2, m3 = m2 + 1 := ⟨m3 - 1, by omega⟩
                rw [hm2, defsGo_on BA.out, HX43.out] at hgo
                have f1 := HK.out.2 r3 Q3.out.2
                rw [HX43.out] at f1
                refine ⟨m3 - 1, k3 + 1, a3 ++ x43, r43, by simp, by go_num, rfl, by omega, Q43.out.1, (HM3.out.2.2.1.then f1).mono (by omega), ?_⟩
                rw [show m3 - 1 = m2 by omega]
                exact hgo
          · rw [Bool.not_eq_true] at b2
            have B2 := Lib.hid b2
            clear b2
            go_wp2_with (refine wpList_cat rfl _ _ _ _ rfl rfl rfl (by have := HL3.out; (try simp only [List.length_append, List.length_cons, List.length_nil]); omega) ?_)
            have hcall := qis_calls Q3.out.1 Q3.out.2 HO.out Ps.tPub
            rw [B1.out] at hcall
            refine hcall.mono ?_
            rintro e W41 ⟨rfl, h⟩
            have Q41 := Lib.hid (And.intro h Q3.out.2)
            clear h hcall
            dsimp only
            go_wp2_with (refine wpList_cat rfl _ _ _ _ rfl rfl rfl (by have := HL3.out; (try simp only [List.length_append, List.length_cons, List.length_nil]); omega) ?_)
            have hcall := qis_calls Q41.out.1 Q41.out.2 HO.out Ps.tFun
            rw [B2.out] at hcall
            refine hcall.mono ?_
            rintro e W42 ⟨rfl, h⟩
            have Q42 := Lib.hid (And.intro h Q41.out.2)
            clear h hcall
            dsimp only
            go_wp2_with (refine wpList_cat rfl _ _ _ _ rfl rfl rfl (by have := HL3.out; (try simp only [List.length_append, List.length_cons, List.length_nil]); omega) ?_)
            have hgo := HM3.out.2.2.2
            rw [defsGo_off _ (by rw [B1.out, B2.out]; rfl)] at hgo
            have HG := Lib.hid hgo.symm
            clear hgo
            refine (qkind_calls Q42.out.1 Q42.out.2 HO.out 5).mono ?_
            rintro e W43 ⟨rfl, h⟩
            have hf := Pr.kind_fits HO.out.toks 5 r3 Q42.out.2
            obtain ⟨⟨x43, r43⟩, hx⟩ : ∃ q, Pr.kind tk 5 r3 = q := ⟨_, rfl⟩
            rw [hx] at h hf ⊢
            have hb := HO.out.fits hf (by decide)
            have Q43 := Lib.hid (And.intro h hb.2)
            have HL43 := Lib.hid hb.1
            have HX43 := Lib.hid hx
            clear h hf hx hb
            dsimp only at Q43 HL43 ⊢
            go_wp2_with (refine wpList_cat rfl _ _ _ _ rfl rfl rfl (by have := HL3.out; have := HL43.out; (try simp only [List.length_append, List.length_cons, List.length_nil]); omega) ?_)
            go_ret
            have e1 : Pr.program tk f r = (a3 ++ x43 ++ [41], r43) := by
              unfold Pr.program
              simp only [HI1.out]
              rw [if_pos trivial]
              simp only [HG.out]
              rw [if_pos trivial]
              simp only [HX43.out]
            rw [e1]
            exact ⟨by simp [Pr.bin], Q43.out.1⟩
end
end Go.Proofs.YtpkhdlnlkeehhaaGreatDoor
