/- Contracts and plain laws, in one text. The document's parser: all levels; typed, params, def: the walks. | Plain: the tokens of a text: the last one alone is the end; they stand one behind another. No program in sight. | Plain law: a text's tokens are the text; at least one stands there, the last one the end. No program in sight. -/
import Derived.Test.YtpkhdlnlkeehhaaGreatDoorPfmM7
import Derived.Test.YtpkhdlnlkeehhaaGreatDoorPfmM1
import Derived.Test.YtpkhdlnlkeehhaaGreatDoorPfmM4
/- The document's parser: all levels; typed, params, def: the walks. -/
namespace Go.Proofs.YtpkhdlnlkeehhaaGreatDoor
open Go.RowKit

section
variable {w0 : World} {p : Nat} {vt : Value} {tk : List Tr.Tk} {dp : Int}
structure QKnowsV (w0 : World) (p : Nat) (vt : Value) (tk : List Tr.Tk) (dp : Int) (d : Nat) (n : Int) : Prop where
  ex : QKnows w0 p vt tk dp 42 #[.pointer (some ⟨p, 0, none⟩), .int .i64 n] (Pr.lv tk d).ex
  rest : d ≠ 0 → QKnows w0 p vt tk dp 75 #[.pointer (some ⟨p, 0, none⟩), .int .i64 n] (Pr.lv tk d).fo ∧ QKnows w0 p vt tk dp 126 #[.pointer (some ⟨p, 0, none⟩), .int .i64 n] (Pr.lv tk d).ne ∧ QKnows w0 p vt tk dp 148 #[.pointer (some ⟨p, 0, none⟩), .int .i64 n] (Pr.lv tk d).fa
theorem qlv_calls (ho : QOk tk) (hdp : dp ≤ 200) : ∀ (d : Nat) (n : Int), 0 ≤ n → n + d = dp + 1 → QKnowsV w0 p vt tk dp d n
  | 0, n, _, hd => ⟨qexpr_zero ho (by simpa using hd), fun h => absurd rfl h⟩
  | d + 1, n, h0, hd => by
    have h1 : n ≤ 300 := by omega
    have hd' : n + 1 + d = dp + 1 := by omega
    have hV := Pr.lv_fits ho.toks d
    have hk : QKnowsV w0 p vt tk dp d (n + 1) := qlv_calls ho hdp d (n + 1) (by omega) hd'
    have ha := qatom_calls ho h0 h1 hV.ex hk.ex
    have hfa := qfactor_calls ho h0 h1 hd' hV (fun hz => (hk.rest hz).2.2) ha
    have ffa := Pr.factor_fits ho.toks hV
    have hpr := qproduct_calls ho ffa hfa
    have hsu := qsum_calls ho (Pr.row_fits ho.toks ffa Ps.sMul) hpr
    have hno := qnot_calls ho h0 h1 hd' hV (fun hz => (hk.rest hz).2.1) hsu
    have fno := Pr.not_fits ho.toks hV
    have han := qand_calls ho fno hno
    have hor := qor_calls ho (Pr.row_fits ho.toks fno Ps.sAnd) han
    have hfo := qformula_calls ho h0 h1 hd' hV (fun hz => (hk.rest hz).1) hor
    exact ⟨qexpr_calls ho h0 h1 hd' hV hk.ex hfo, fun _ => ⟨hfo, hno, hfa⟩⟩

set_option maxRecDepth 100000 in
set_option maxHeartbeats 4000000 in
theorem qtyped_calls (ho : QOk tk) {f : Pr.G} (hf : Pr.Fit tk f 0) (hk : QKnows w0 p vt tk dp 42 #[.pointer (some ⟨p, 0, none⟩), .int .i64 1] f) : QKnows w0 p vt tk dp 77 #[.pointer (some ⟨p, 0, none⟩)] (Pr.typed tk f) := by
  intro W r h hi
  have HO := Lib.hid ho
  have Q0 := Lib.hid (And.intro h hi)
  have HK := Lib.hid (And.intro hk hf)
  clear ho h hi hf hk
  obtain ⟨⟨x1, r1⟩, hx1⟩ : ∃ q, Pr.must tk [58] r = q := ⟨_, rfl⟩
  have HXX := Lib.hid hx1
  clear hx1
  by_cases b0 : Pr.is tk Ps.tInt r1 = true
  · have B0 := Lib.hid b0
    clear b0
    go_enter Tryz.func77, Tryz.ntmps77
    go_wp2_with (refine wpList_cat rfl _ _ _ _ rfl rfl rfl (by (try simp only [List.length_append, List.length_cons, List.length_nil]); omega) ?_)
    refine (qmust_calls Q0.out.1 Q0.out.2 HO.out [58]).mono ?_
    rintro e W1 ⟨rfl, h⟩
    have hf := Pr.must_fits HO.out.toks [58] r Q0.out.2
    rw [HXX.out] at h hf ⊢
    have hb := HO.out.fits hf (by decide)
    have Q1 := Lib.hid (And.intro h hb.2)
    have HL1 : Hid (x1.length ≤ 1000001000) := Lib.hid hb.1
    clear h hf hb
    dsimp only at Q1 ⊢
    go_wp2_with (refine wpList_cat rfl _ _ _ _ rfl rfl rfl (by have := HL1.out; (try simp only [List.length_append, List.length_cons, List.length_nil]); omega) ?_)
    have hcall := qis_calls Q1.out.1 Q1.out.2 HO.out Ps.tInt
    rw [B0.out] at hcall
    refine hcall.mono ?_
    rintro e W2 ⟨rfl, h⟩
    have Q2 := Lib.hid (And.intro h Q1.out.2)
    clear h hcall
    dsimp only
    go_wp2_with (refine wpList_cat rfl _ _ _ _ rfl rfl rfl (by have := HL1.out; (try simp only [List.length_append, List.length_cons, List.length_nil]); omega) ?_)
    refine (qleaf_calls Q2.out.1 Q2.out.2 HO.out).mono ?_
    rintro e W3 ⟨rfl, h⟩
    have hf := Pr.leaf_fits HO.out.toks Q2.out.2 (Pr.is_kind B0.out).1
    obtain ⟨⟨x3, r3⟩, hx⟩ : ∃ q, Pr.leaf tk r1 = q := ⟨_, rfl⟩
    rw [hx] at h hf ⊢
    have hb := HO.out.fits hf (by decide)
    have Q3 := Lib.hid (And.intro h hb.2)
    have HL3 := Lib.hid hb.1
    have HX3 := Lib.hid hx
    clear h hf hx hb
    dsimp only at Q3 HL3 ⊢
    have HB : Hid (Pr.base tk x1 r1 = ((x1 ++ ([32, 40, 53] ++ x3 ++ [41])), r3)) := Lib.hid (by unfold Pr.base; rw [if_pos (by rw [B0.out]; simp)]; simp only [HX3.out])
    by_cases b9 : Pr.is tk [123] r3 = true
    · skip
      have B9 := Lib.hid b9
      clear b9
      go_wp2_with (refine wpList_cat rfl _ _ _ _ rfl rfl rfl (by have := HL1.out; have := HL3.out; (try simp only [List.length_append, List.length_cons, List.length_nil]); omega) ?_)
      have hcall := qis_calls Q3.out.1 Q3.out.2 HO.out [123]
      rw [B9.out] at hcall
      refine hcall.mono ?_
      rintro e W4 ⟨rfl, h⟩
      have Q4 := Lib.hid (And.intro h Q3.out.2)
      clear h hcall
      dsimp only
      go_wp2_with (refine wpList_cat rfl _ _ _ _ rfl rfl rfl (by have := HL1.out; have := HL3.out; (try simp only [List.length_append, List.length_cons, List.length_nil]); omega) ?_)
      refine (qleaf_calls Q4.out.1 Q4.out.2 HO.out).mono ?_
      rintro e W5 ⟨rfl, h⟩
      have hf := Pr.leaf_fits HO.out.toks Q4.out.2 (Pr.is_kind B9.out).1
      obtain ⟨⟨x5, r5⟩, hx⟩ : ∃ q, Pr.leaf tk r3 = q := ⟨_, rfl⟩
      rw [hx] at h hf ⊢
      have hb := HO.out.fits hf (by decide)
      have Q5 := Lib.hid (And.intro h hb.2)
      have HL5 := Lib.hid hb.1
      have HX5 := Lib.hid hx
      clear h hf hx hb
      dsimp only at Q5 HL5 ⊢
      have c3 := Q5.out.1.c3
      have f3 := frozen_of_heap Q5.out.1.cell 3
      go_wp2_with (refine wpList_cat rfl _ _ _ _ rfl rfl rfl (by have := HL1.out; have := HL3.out; have := HL5.out; (try simp only [List.length_append, List.length_cons, List.length_nil]); omega) ?_)
      clear c3 f3
      have h := Q5.out.1.inn true
      obtain ⟨W6, hw⟩ : ∃ V, W5.setCell ⟨p, 3, none⟩ (.bool true) = V := ⟨_, rfl⟩
      obtain ⟨r6, hr⟩ : ∃ q : Pr.Rs, { r5 with inn := true } = q := ⟨_, rfl⟩
      have hi : r6.i < tk.length := by rw [← hr]; exact Q5.out.2
      rw [hw, hr] at h
      rw [hw]
      have Q6 := Lib.hid (And.intro h hi)
      have HX6 := Lib.hid hr
      clear h hw hr hi
      refine (HK.out.1 _ _ Q6.out.1 Q6.out.2).mono ?_
      rintro e W7 ⟨rfl, h⟩
      have hf := HK.out.2 r6 Q6.out.2
      obtain ⟨⟨x7, r7⟩, hx⟩ : ∃ q, f r6 = q := ⟨_, rfl⟩
      rw [hx] at h hf ⊢
      have hb := HO.out.fits hf (by decide)
      have Q7 := Lib.hid (And.intro h hb.2)
      have HL7 := Lib.hid hb.1
      have HX7 := Lib.hid hx
      clear h hf hx hb
      dsimp only at Q7 HL7 ⊢
      have c3 := Q7.out.1.c3
      have f3 := frozen_of_heap Q7.out.1.cell 3
      go_wp2_with (refine wpList_cat rfl _ _ _ _ rfl rfl rfl (by have := HL1.out; have := HL3.out; have := HL5.out; have := HL7.out; (try simp only [List.length_append, List.length_cons, List.length_nil]); omega) ?_)
      clear c3 f3
      have h := Q7.out.1.inn false
      obtain ⟨W8, hw⟩ : ∃ V, W7.setCell ⟨p, 3, none⟩ (.bool false) = V := ⟨_, rfl⟩
      obtain ⟨r8, hr⟩ : ∃ q : Pr.Rs, { r7 with inn := false } = q := ⟨_, rfl⟩
      have hi : r8.i < tk.length := by rw [← hr]; exact Q7.out.2
      rw [hw, hr] at h
      rw [hw]
      have Q8 := Lib.hid (And.intro h hi)
      have HX8 := Lib.hid hr
      clear h hw hr hi
      refine (qmust_calls Q8.out.1 Q8.out.2 HO.out [125]).mono ?_
      rintro e W9 ⟨rfl, h⟩
      have hf := Pr.must_fits HO.out.toks [125] r8 Q8.out.2
      obtain ⟨⟨x9, r9⟩, hx⟩ : ∃ q, Pr.must tk [125] r8 = q := ⟨_, rfl⟩
      rw [hx] at h hf ⊢
      have hb := HO.out.fits hf (by decide)
      have Q9 := Lib.hid (And.intro h hb.2)
      have HL9 := Lib.hid hb.1
      have HX9 := Lib.hid hx
      clear h hf hx hb
      dsimp only at Q9 HL9 ⊢
      go_wp2_with (refine wpList_cat rfl _ _ _ _ rfl rfl rfl (by have := HL1.out; have := HL3.out; have := HL5.out; have := HL7.out; have := HL9.out; (try simp only [List.length_append, List.length_cons, List.length_nil]); omega) ?_)
      go_ret
      have e1 : Pr.typed tk f r = ((x1 ++ ([32, 40, 53] ++ x3 ++ [41])) ++ ([32, 40, 54] ++ x5 ++ x7 ++ x9 ++ [41]), r9) := by
        unfold Pr.typed
        simp only [HXX.out, HB.out]
        rw [if_pos B9.out]
        simp only [HX5.out, HX6.out, HX7.out, HX8.out, HX9.out]
      rw [e1]
      exact ⟨by simp [Pr.bin], Q9.out.1⟩
    · skip
      rw [Bool.not_eq_true] at b9
      have B9 := Lib.hid b9
      clear b9
      go_wp2_with (refine wpList_cat rfl _ _ _ _ rfl rfl rfl (by have := HL1.out; have := HL3.out; (try simp only [List.length_append, List.length_cons, List.length_nil]); omega) ?_)
      have hcall := qis_calls Q3.out.1 Q3.out.2 HO.out [123]
      rw [B9.out] at hcall
      refine hcall.mono ?_
      rintro e W4 ⟨rfl, h⟩
      have Q4 := Lib.hid (And.intro h Q3.out.2)
      clear h hcall
      dsimp only
      go_wp2_with (refine wpList_cat rfl _ _ _ _ rfl rfl rfl (by have := HL1.out; have := HL3.out; (try simp only [List.length_append, List.length_cons, List.length_nil]); omega) ?_)
      go_ret
      have e1 : Pr.typed tk f r = ((x1 ++ ([32, 40, 53] ++ x3 ++ [41])), r3) := by
        unfold Pr.typed
        simp only [HXX.out, HB.out]
        rw [if_neg (by rw [B9.out]; simp)]
      rw [e1]
      exact ⟨by simp [Pr.bin], Q4.out.1⟩
  · rw [Bool.not_eq_true] at b0
    have B0 := Lib.hid b0
    clear b0
    by_cases b1 : Pr.is tk Ps.tBool r1 = true
    · have B1 := Lib.hid b1
      clear b1
      go_enter Tryz.func77, Tryz.ntmps77
      go_wp2_with (refine wpList_cat rfl _ _ _ _ rfl rfl rfl (by (try simp only [List.length_append, List.length_cons, List.length_nil]); omega) ?_)
      refine (qmust_calls Q0.out.1 Q0.out.2 HO.out [58]).mono ?_
      rintro e W1 ⟨rfl, h⟩
      have hf := Pr.must_fits HO.out.toks [58] r Q0.out.2
      rw [HXX.out] at h hf ⊢
      have hb := HO.out.fits hf (by decide)
      have Q1 := Lib.hid (And.intro h hb.2)
      have HL1 : Hid (x1.length ≤ 1000001000) := Lib.hid hb.1
      clear h hf hb
      dsimp only at Q1 ⊢
      go_wp2_with (refine wpList_cat rfl _ _ _ _ rfl rfl rfl (by have := HL1.out; (try simp only [List.length_append, List.length_cons, List.length_nil]); omega) ?_)
      have hcall := qis_calls Q1.out.1 Q1.out.2 HO.out Ps.tInt
      rw [B0.out] at hcall
      refine hcall.mono ?_
      rintro e W2 ⟨rfl, h⟩
      have Q2 := Lib.hid (And.intro h Q1.out.2)
      clear h hcall
      dsimp only
      go_wp2_with (refine wpList_cat rfl _ _ _ _ rfl rfl rfl (by have := HL1.out; (try simp only [List.length_append, List.length_cons, List.length_nil]); omega) ?_)
      have hcall := qis_calls Q2.out.1 Q2.out.2 HO.out Ps.tBool
      rw [B1.out] at hcall
      refine hcall.mono ?_
      rintro e W3 ⟨rfl, h⟩
      have Q3 := Lib.hid (And.intro h Q2.out.2)
      clear h hcall
      dsimp only
      go_wp2_with (refine wpList_cat rfl _ _ _ _ rfl rfl rfl (by have := HL1.out; (try simp only [List.length_append, List.length_cons, List.length_nil]); omega) ?_)
      refine (qleaf_calls Q3.out.1 Q3.out.2 HO.out).mono ?_
      rintro e W4 ⟨rfl, h⟩
      have hf := Pr.leaf_fits HO.out.toks Q3.out.2 (Pr.is_kind B1.out).1
      obtain ⟨⟨x4, r4⟩, hx⟩ : ∃ q, Pr.leaf tk r1 = q := ⟨_, rfl⟩
      rw [hx] at h hf ⊢
      have hb := HO.out.fits hf (by decide)
      have Q4 := Lib.hid (And.intro h hb.2)
      have HL4 := Lib.hid hb.1
      have HX4 := Lib.hid hx
      clear h hf hx hb
      dsimp only at Q4 HL4 ⊢
      have HB : Hid (Pr.base tk x1 r1 = ((x1 ++ ([32, 40, 53] ++ x4 ++ [41])), r4)) := Lib.hid (by unfold Pr.base; rw [if_pos (by rw [B1.out]; simp)]; simp only [HX4.out])
      by_cases b9 : Pr.is tk [123] r4 = true
      · skip
        have B9 := Lib.hid b9
        clear b9
        go_wp2_with (refine wpList_cat rfl _ _ _ _ rfl rfl rfl (by have := HL1.out; have := HL4.out; (try simp only [List.length_append, List.length_cons, List.length_nil]); omega) ?_)
        have hcall := qis_calls Q4.out.1 Q4.out.2 HO.out [123]
        rw [B9.out] at hcall
        refine hcall.mono ?_
        rintro e W5 ⟨rfl, h⟩
        have Q5 := Lib.hid (And.intro h Q4.out.2)
        clear h hcall
        dsimp only
        go_wp2_with (refine wpList_cat rfl _ _ _ _ rfl rfl rfl (by have := HL1.out; have := HL4.out; (try simp only [List.length_append, List.length_cons, List.length_nil]); omega) ?_)
        refine (qleaf_calls Q5.out.1 Q5.out.2 HO.out).mono ?_
        rintro e W6 ⟨rfl, h⟩
        have hf := Pr.leaf_fits HO.out.toks Q5.out.2 (Pr.is_kind B9.out).1
        obtain ⟨⟨x6, r6⟩, hx⟩ : ∃ q, Pr.leaf tk r4 = q := ⟨_, rfl⟩
        rw [hx] at h hf ⊢
        have hb := HO.out.fits hf (by decide)
        have Q6 := Lib.hid (And.intro h hb.2)
        have HL6 := Lib.hid hb.1
        have HX6 := Lib.hid hx
        clear h hf hx hb
        dsimp only at Q6 HL6 ⊢
        have c3 := Q6.out.1.c3
        have f3 := frozen_of_heap Q6.out.1.cell 3
        go_wp2_with (refine wpList_cat rfl _ _ _ _ rfl rfl rfl (by have := HL1.out; have := HL4.out; have := HL6.out; (try simp only [List.length_append, List.length_cons, List.length_nil]); omega) ?_)
        clear c3 f3
        have h := Q6.out.1.inn true
        obtain ⟨W7, hw⟩ : ∃ V, W6.setCell ⟨p, 3, none⟩ (.bool true) = V := ⟨_, rfl⟩
        obtain ⟨r7, hr⟩ : ∃ q : Pr.Rs, { r6 with inn := true } = q := ⟨_, rfl⟩
        have hi : r7.i < tk.length := by rw [← hr]; exact Q6.out.2
        rw [hw, hr] at h
        rw [hw]
        have Q7 := Lib.hid (And.intro h hi)
        have HX7 := Lib.hid hr
        clear h hw hr hi
        refine (HK.out.1 _ _ Q7.out.1 Q7.out.2).mono ?_
        rintro e W8 ⟨rfl, h⟩
        have hf := HK.out.2 r7 Q7.out.2
        obtain ⟨⟨x8, r8⟩, hx⟩ : ∃ q, f r7 = q := ⟨_, rfl⟩
        rw [hx] at h hf ⊢
        have hb := HO.out.fits hf (by decide)
        have Q8 := Lib.hid (And.intro h hb.2)
        have HL8 := Lib.hid hb.1
        have HX8 := Lib.hid hx
        clear h hf hx hb
        dsimp only at Q8 HL8 ⊢
        have c3 := Q8.out.1.c3
        have f3 := frozen_of_heap Q8.out.1.cell 3
        go_wp2_with (refine wpList_cat rfl _ _ _ _ rfl rfl rfl (by have := HL1.out; have := HL4.out; have := HL6.out; have := HL8.out; (try simp only [List.length_append, List.length_cons, List.length_nil]); omega) ?_)
        clear c3 f3
        have h := Q8.out.1.inn false
        obtain ⟨W9, hw⟩ : ∃ V, W8.setCell ⟨p, 3, none⟩ (.bool false) = V := ⟨_, rfl⟩
        obtain ⟨r9, hr⟩ : ∃ q : Pr.Rs, { r8 with inn := false } = q := ⟨_, rfl⟩
        have hi : r9.i < tk.length := by rw [← hr]; exact Q8.out.2
        rw [hw, hr] at h
        rw [hw]
        have Q9 := Lib.hid (And.intro h hi)
        have HX9 := Lib.hid hr
        clear h hw hr hi
        refine (qmust_calls Q9.out.1 Q9.out.2 HO.out [125]).mono ?_
        rintro e W10 ⟨rfl, h⟩
        have hf := Pr.must_fits HO.out.toks [125] r9 Q9.out.2
        obtain ⟨⟨x10, r10⟩, hx⟩ : ∃ q, Pr.must tk [125] r9 = q := ⟨_, rfl⟩
        rw [hx] at h hf ⊢
        have hb := HO.out.fits hf (by decide)
        have Q10 := Lib.hid (And.intro h hb.2)
        have HL10 := Lib.hid hb.1
        have HX10 := Lib.hid hx
        clear h hf hx hb
        dsimp only at Q10 HL10 ⊢
        go_wp2_with (refine wpList_cat rfl _ _ _ _ rfl rfl rfl (by have := HL1.out; have := HL4.out; have := HL6.out; have := HL8.out; have := HL10.out; (try simp only [List.length_append, List.length_cons, List.length_nil]); omega) ?_)
        go_ret
        have e1 : Pr.typed tk f r = ((x1 ++ ([32, 40, 53] ++ x4 ++ [41])) ++ ([32, 40, 54] ++ x6 ++ x8 ++ x10 ++ [41]), r10) := by
          unfold Pr.typed
          simp only [HXX.out, HB.out]
          rw [if_pos B9.out]
          simp only [HX6.out, HX7.out, HX8.out, HX9.out, HX10.out]
        rw [e1]
        exact ⟨by simp [Pr.bin], Q10.out.1⟩
      · skip
        rw [Bool.not_eq_true] at b9
        have B9 := Lib.hid b9
        clear b9
        go_wp2_with (refine wpList_cat rfl _ _ _ _ rfl rfl rfl (by have := HL1.out; have := HL4.out; (try simp only [List.length_append, List.length_cons, List.length_nil]); omega) ?_)
        have hcall := qis_calls Q4.out.1 Q4.out.2 HO.out [123]
        rw [B9.out] at hcall
        refine hcall.mono ?_
        rintro e W5 ⟨rfl, h⟩
        have Q5 := Lib.hid (And.intro h Q4.out.2)
        clear h hcall
        dsimp only
        go_wp2_with (refine wpList_cat rfl _ _ _ _ rfl rfl rfl (by have := HL1.out; have := HL4.out; (try simp only [List.length_append, List.length_cons, List.length_nil]); omega) ?_)
        go_ret
        have e1 : Pr.typed tk f r = ((x1 ++ ([32, 40, 53] ++ x4 ++ [41])), r4) := by
          unfold Pr.typed
          simp only [HXX.out, HB.out]
          rw [if_neg (by rw [B9.out]; simp)]
        rw [e1]
        exact ⟨by simp [Pr.bin], Q5.out.1⟩
    · rw [Bool.not_eq_true] at b1
      have B1 := Lib.hid b1
      clear b1
      go_enter Tryz.func77, Tryz.ntmps77
      go_wp2_with (refine wpList_cat rfl _ _ _ _ rfl rfl rfl (by (try simp only [List.length_append, List.length_cons, List.length_nil]); omega) ?_)
      refine (qmust_calls Q0.out.1 Q0.out.2 HO.out [58]).mono ?_
      rintro e W1 ⟨rfl, h⟩
      have hf := Pr.must_fits HO.out.toks [58] r Q0.out.2
      rw [HXX.out] at h hf ⊢
      have hb := HO.out.fits hf (by decide)
      have Q1 := Lib.hid (And.intro h hb.2)
      have HL1 : Hid (x1.length ≤ 1000001000) := Lib.hid hb.1
      clear h hf hb
      dsimp only at Q1 ⊢
      go_wp2_with (refine wpList_cat rfl _ _ _ _ rfl rfl rfl (by have := HL1.out; (try simp only [List.length_append, List.length_cons, List.length_nil]); omega) ?_)
      have hcall := qis_calls Q1.out.1 Q1.out.2 HO.out Ps.tInt
      rw [B0.out] at hcall
      refine hcall.mono ?_
      rintro e W2 ⟨rfl, h⟩
      have Q2 := Lib.hid (And.intro h Q1.out.2)
      clear h hcall
      dsimp only
      go_wp2_with (refine wpList_cat rfl _ _ _ _ rfl rfl rfl (by have := HL1.out; (try simp only [List.length_append, List.length_cons, List.length_nil]); omega) ?_)
      have hcall := qis_calls Q2.out.1 Q2.out.2 HO.out Ps.tBool
      rw [B1.out] at hcall
      refine hcall.mono ?_
      rintro e W3 ⟨rfl, h⟩
      have Q3 := Lib.hid (And.intro h Q2.out.2)
      clear h hcall
      dsimp only
      go_wp2_with (refine wpList_cat rfl _ _ _ _ rfl rfl rfl (by have := HL1.out; (try simp only [List.length_append, List.length_cons, List.length_nil]); omega) ?_)
      refine (qfail_calls Q3.out.1 Q3.out.2 HO.out 22).mono ?_
      rintro e W4 ⟨rfl, h⟩
      obtain ⟨r4, hx⟩ : ∃ q, Pr.fail tk 22 r1 = q := ⟨_, rfl⟩
      have hi := (by rw [Pr.fail_i]; exact Q3.out.2 : (Pr.fail tk 22 r1).i < tk.length)
      rw [hx] at h hi
      have Q4 := Lib.hid (And.intro h hi)
      have HX4 := Lib.hid hx
      clear h hi hx
      dsimp only
      have HB : Hid (Pr.base tk x1 r1 = (x1, r4)) := Lib.hid (by unfold Pr.base; rw [if_neg (by rw [B0.out, B1.out]; simp), HX4.out])
      by_cases b9 : Pr.is tk [123] r4 = true
      · skip
        have B9 := Lib.hid b9
        clear b9
        go_wp2_with (refine wpList_cat rfl _ _ _ _ rfl rfl rfl (by have := HL1.out; (try simp only [List.length_append, List.length_cons, List.length_nil]); omega) ?_)
        have hcall := qis_calls Q4.out.1 Q4.out.2 HO.out [123]
        rw [B9.out] at hcall
        refine hcall.mono ?_
        rintro e W5 ⟨rfl, h⟩
        have Q5 := Lib.hid (And.intro h Q4.out.2)
        clear h hcall
        dsimp only
        go_wp2_with (refine wpList_cat rfl _ _ _ _ rfl rfl rfl (by have := HL1.out; (try simp only [List.length_append, List.length_cons, List.length_nil]); omega) ?_)
        refine (qleaf_calls Q5.out.1 Q5.out.2 HO.out).mono ?_
        rintro e W6 ⟨rfl, h⟩
        have hf := Pr.leaf_fits HO.out.toks Q5.out.2 (Pr.is_kind B9.out).1
        obtain ⟨⟨x6, r6⟩, hx⟩ : ∃ q, Pr.leaf tk r4 = q := ⟨_, rfl⟩
        rw [hx] at h hf ⊢
        have hb := HO.out.fits hf (by decide)
        have Q6 := Lib.hid (And.intro h hb.2)
        have HL6 := Lib.hid hb.1
        have HX6 := Lib.hid hx
        clear h hf hx hb
        dsimp only at Q6 HL6 ⊢
        have c3 := Q6.out.1.c3
        have f3 := frozen_of_heap Q6.out.1.cell 3
        go_wp2_with (refine wpList_cat rfl _ _ _ _ rfl rfl rfl (by have := HL1.out; have := HL6.out; (try simp only [List.length_append, List.length_cons, List.length_nil]); omega) ?_)
        clear c3 f3
        have h := Q6.out.1.inn true
        obtain ⟨W7, hw⟩ : ∃ V, W6.setCell ⟨p, 3, none⟩ (.bool true) = V := ⟨_, rfl⟩
        obtain ⟨r7, hr⟩ : ∃ q : Pr.Rs, { r6 with inn := true } = q := ⟨_, rfl⟩
        have hi : r7.i < tk.length := by rw [← hr]; exact Q6.out.2
        rw [hw, hr] at h
        rw [hw]
        have Q7 := Lib.hid (And.intro h hi)
        have HX7 := Lib.hid hr
        clear h hw hr hi
        refine (HK.out.1 _ _ Q7.out.1 Q7.out.2).mono ?_
        rintro e W8 ⟨rfl, h⟩
        have hf := HK.out.2 r7 Q7.out.2
        obtain ⟨⟨x8, r8⟩, hx⟩ : ∃ q, f r7 = q := ⟨_, rfl⟩
        rw [hx] at h hf ⊢
        have hb := HO.out.fits hf (by decide)
        have Q8 := Lib.hid (And.intro h hb.2)
        have HL8 := Lib.hid hb.1
        have HX8 := Lib.hid hx
        clear h hf hx hb
        dsimp only at Q8 HL8 ⊢
        have c3 := Q8.out.1.c3
        have f3 := frozen_of_heap Q8.out.1.cell 3
        go_wp2_with (refine wpList_cat rfl _ _ _ _ rfl rfl rfl (by have := HL1.out; have := HL6.out; have := HL8.out; (try simp only [List.length_append, List.length_cons, List.length_nil]); omega) ?_)
        clear c3 f3
        have h := Q8.out.1.inn false
        obtain ⟨W9, hw⟩ : ∃ V, W8.setCell ⟨p, 3, none⟩ (.bool false) = V := ⟨_, rfl⟩
        obtain ⟨r9, hr⟩ : ∃ q : Pr.Rs, { r8 with inn := false } = q := ⟨_, rfl⟩
        have hi : r9.i < tk.length := by rw [← hr]; exact Q8.out.2
        rw [hw, hr] at h
        rw [hw]
        have Q9 := Lib.hid (And.intro h hi)
        have HX9 := Lib.hid hr
        clear h hw hr hi
        refine (qmust_calls Q9.out.1 Q9.out.2 HO.out [125]).mono ?_
        rintro e W10 ⟨rfl, h⟩
        have hf := Pr.must_fits HO.out.toks [125] r9 Q9.out.2
        obtain ⟨⟨x10, r10⟩, hx⟩ : ∃ q, Pr.must tk [125] r9 = q := ⟨_, rfl⟩
        rw [hx] at h hf ⊢
        have hb := HO.out.fits hf (by decide)
        have Q10 := Lib.hid (And.intro h hb.2)
        have HL10 := Lib.hid hb.1
        have HX10 := Lib.hid hx
        clear h hf hx hb
        dsimp only at Q10 HL10 ⊢
        go_wp2_with (refine wpList_cat rfl _ _ _ _ rfl rfl rfl (by have := HL1.out; have := HL6.out; have := HL8.out; have := HL10.out; (try simp only [List.length_append, List.length_cons, List.length_nil]); omega) ?_)
        go_ret
        have e1 : Pr.typed tk f r = (x1 ++ ([32, 40, 54] ++ x6 ++ x8 ++ x10 ++ [41]), r10) := by
          unfold Pr.typed
          simp only [HXX.out, HB.out]
          rw [if_pos B9.out]
          simp only [HX6.out, HX7.out, HX8.out, HX9.out, HX10.out]
        rw [e1]
        exact ⟨by simp [Pr.bin], Q10.out.1⟩
      · skip
        rw [Bool.not_eq_true] at b9
        have B9 := Lib.hid b9
        clear b9
        go_wp2_with (refine wpList_cat rfl _ _ _ _ rfl rfl rfl (by have := HL1.out; (try simp only [List.length_append, List.length_cons, List.length_nil]); omega) ?_)
        have hcall := qis_calls Q4.out.1 Q4.out.2 HO.out [123]
        rw [B9.out] at hcall
        refine hcall.mono ?_
        rintro e W5 ⟨rfl, h⟩
        have Q5 := Lib.hid (And.intro h Q4.out.2)
        clear h hcall
        dsimp only
        go_wp2_with (refine wpList_cat rfl _ _ _ _ rfl rfl rfl (by have := HL1.out; (try simp only [List.length_append, List.length_cons, List.length_nil]); omega) ?_)
        go_ret
        have e1 : Pr.typed tk f r = (x1, r4) := by
          unfold Pr.typed
          simp only [HXX.out, HB.out]
          rw [if_neg (by rw [B9.out]; simp)]
        rw [e1]
        exact ⟨by simp [Pr.bin], Q5.out.1⟩

set_option maxRecDepth 100000 in
set_option maxHeartbeats 4000000 in
theorem qparams_calls (ho : QOk tk) {f : Pr.G} (hf : Pr.Fit tk f 0) (hk : QKnows w0 p vt tk dp 42 #[.pointer (some ⟨p, 0, none⟩), .int .i64 1] f) : QKnows w0 p vt tk dp 76 #[.pointer (some ⟨p, 0, none⟩)] (Pr.args tk (Pr.param tk f)) := by
  intro W r h hi
  have HO := Lib.hid ho
  have Q0 := Lib.hid (And.intro h hi)
  have HK := Lib.hid (And.intro (qtyped_calls ho hf hk) (Pr.typed_fits ho.toks hf))
  have HFIT := Lib.hid (Pr.param_fits ho.toks hf)
  clear ho h hi hf hk
  go_enter Tryz.func76, Tryz.ntmps76
  go_wp2_with (refine wpList_cat rfl _ _ _ _ rfl rfl rfl (by (try simp only [List.length_append, List.length_cons, List.length_nil]); omega) ?_)
  refine (qkind_calls Q0.out.1 Q0.out.2 HO.out 1).mono ?_
  rintro e W1 ⟨rfl, h⟩
  have hf := Pr.kind_fits0 HO.out.toks (k := 1) (by decide) r Q0.out.2
  obtain ⟨⟨x1, r1⟩, hx⟩ : ∃ q, Pr.kind tk 1 r = q := ⟨_, rfl⟩
  rw [hx] at h hf ⊢
  have hb := HO.out.fits hf (by decide)
  have Q1 := Lib.hid (And.intro h hb.2)
  have HL1 := Lib.hid hb.1
  have HX1 := Lib.hid hx
  clear h hf hx hb
  dsimp only at Q1 HL1 ⊢
  go_wp2_with (refine wpList_cat rfl _ _ _ _ rfl rfl rfl (by have := HL1.out; (try simp only [List.length_append, List.length_cons, List.length_nil]); omega) ?_)
  refine (HK.out.1 _ _ Q1.out.1 Q1.out.2).mono ?_
  rintro e W2 ⟨rfl, h⟩
  have hf := HK.out.2 r1 Q1.out.2
  obtain ⟨⟨x2, r2⟩, hx⟩ : ∃ q, Pr.typed tk f r1 = q := ⟨_, rfl⟩
  rw [hx] at h hf ⊢
  have hb := HO.out.fits hf (by decide)
  have Q2 := Lib.hid (And.intro h hb.2)
  have HL2 := Lib.hid hb.1
  have HX2 := Lib.hid hx
  clear h hf hx hb
  dsimp only at Q2 HL2 ⊢
  go_wp2_with (refine wpList_cat rfl _ _ _ _ rfl rfl rfl (by have := HL1.out; have := HL2.out; (try simp only [List.length_append, List.length_cons, List.length_nil]); omega) ?_)
  have HF : Hid (Pr.param tk f r = ([32, 40, 52] ++ x1 ++ x2 ++ [41], r2)) := Lib.hid (by unfold Pr.param; simp only [HX1.out, HX2.out])
  have hf1 := HFIT.out r Q0.out.2
  rw [HF.out] at hf1
  have e0 : Pr.args tk (Pr.param tk f) r = Pr.argsGo tk (Pr.param tk f) tk.length 1 ([32, 40, 52] ++ x1 ++ x2 ++ [41]) r2 := by unfold Pr.args; rw [HF.out]
  go_loopg [3, 4] tk.length (fun g v5 v6 wr => ∃ (m k : Nat) (a : List UInt8) (r2 : Pr.Rs), v5 = .string ⟨a.toArray⟩ ∧ v6 = .int .i64 k ∧ g = m ∧ QI w0 wr p vt tk dp r2 ∧ tk.length ≤ m + r2.i ∧ k ≤ r2.i + 1 ∧ Pr.Fits tk r (a, r2) 4 ∧ Pr.argsGo tk (Pr.param tk f) m k a r2 = Pr.args tk (Pr.param tk f) r)
  case atStart =>
    exact ⟨tk.length, 1, [32, 40, 52] ++ x1 ++ x2 ++ [41], r2, by simp, rfl, rfl, Q2.out.1, by omega, by omega, hf1, e0.symm⟩
  case round =>
    obtain ⟨m, kk, a, r2, rfl, rfl, hkm, h2, hm, hkk, hft, hgo⟩ := hrel
    have Q2 := Lib.hid (And.intro h2 hft.hi)
    have HM := Lib.hid (And.intro hkm (And.intro hm (And.intro hft (And.intro hgo hkk))))
    have HL2 : Hid (a.length ≤ 1000001000) := Lib.hid (HO.out.fits hft (by decide)).1
    have hk0 : (0 : Int) ≤ (kk : Int) := by omega
    have hk1 : (kk : Int) ≤ 2000000 := by have := hft.hi; have := HO.out.len; simp only at *; omega
    clear hkm h2 hm hft hgo e0 hf1 hkk HF
    by_cases b0 : Pr.is tk [44] r2 = true
    · have B0 := Lib.hid b0
      clear b0
      by_cases h8 : kk = 8
      · skip
        subst h8
        go_wp2_with (refine wpList_cat rfl _ _ _ _ rfl rfl rfl (by have := HL2.out; (try simp only [List.length_append, List.length_cons, List.length_nil]); omega) ?_)
        have hcall := qis_calls Q2.out.1 Q2.out.2 HO.out [44]
        rw [B0.out] at hcall
        refine hcall.mono ?_
        rintro e W21 ⟨rfl, h⟩
        have Q21 := Lib.hid (And.intro h Q2.out.2)
        clear h hcall
        dsimp only
        go_wp2_with (refine wpList_cat rfl _ _ _ _ rfl rfl rfl (by have := HL2.out; (try simp only [List.length_append, List.length_cons, List.length_nil]); omega) ?_)
        refine (qleaf_calls Q21.out.1 Q21.out.2 HO.out).mono ?_
        rintro e W22 ⟨rfl, h⟩
        have hf := Pr.leaf_fits HO.out.toks Q21.out.2 (Pr.is_kind B0.out).1
        obtain ⟨⟨x22, r22⟩, hx⟩ : ∃ q, Pr.leaf tk r2 = q := ⟨_, rfl⟩
        rw [hx] at h hf ⊢
        have hb := HO.out.fits hf (by decide)
        have Q22 := Lib.hid (And.intro h hb.2)
        have HL22 := Lib.hid hb.1
        have HX22 := Lib.hid hx
        clear h hf hx hb
        dsimp only at Q22 HL22 ⊢
        go_wp2_with (refine wpList_cat rfl _ _ _ _ rfl rfl rfl (by have := HL2.out; have := HL22.out; (try simp only [List.length_append, List.length_cons, List.length_nil]); omega) ?_)
        refine (qfail_calls Q22.out.1 Q22.out.2 HO.out 15).mono ?_
        rintro e W23 ⟨rfl, h⟩
        obtain ⟨r23, hx⟩ : ∃ q, Pr.fail tk 15 r22 = q := ⟨_, rfl⟩
        have hi := (by rw [Pr.fail_i]; exact Q22.out.2 : (Pr.fail tk 15 r22).i < tk.length)
        rw [hx] at h hi
        have Q23 := Lib.hid (And.intro h hi)
        have HX23 := Lib.hid hx
        clear h hi hx
        dsimp only
        go_wp2_with (refine wpList_cat rfl _ _ _ _ rfl rfl rfl (by have := HL2.out; have := HL22.out; (try simp only [List.length_append, List.length_cons, List.length_nil]); omega) ?_)
        refine (qkind_calls Q23.out.1 Q23.out.2 HO.out 1).mono ?_
        rintro e W24 ⟨rfl, h⟩
        have hf := Pr.kind_fits0 HO.out.toks (k := 1) (by decide) r23 Q23.out.2
        obtain ⟨⟨x24, r24⟩, hx⟩ : ∃ q, Pr.kind tk 1 r23 = q := ⟨_, rfl⟩
        rw [hx] at h hf ⊢
        have hb := HO.out.fits hf (by decide)
        have Q24 := Lib.hid (And.intro h hb.2)
        have HL24 := Lib.hid hb.1
        have HX24 := Lib.hid hx
        clear h hf hx hb
        dsimp only at Q24 HL24 ⊢
        go_wp2_with (refine wpList_cat rfl _ _ _ _ rfl rfl rfl (by have := HL2.out; have := HL22.out; have := HL24.out; (try simp only [List.length_append, List.length_cons, List.length_nil]); omega) ?_)
        refine (HK.out.1 _ _ Q24.out.1 Q24.out.2).mono ?_
        rintro e W25 ⟨rfl, h⟩
        have hf := HK.out.2 r24 Q24.out.2
        obtain ⟨⟨x25, r25⟩, hx⟩ : ∃ q, Pr.typed tk f r24 = q := ⟨_, rfl⟩
        rw [hx] at h hf ⊢
        have hb := HO.out.fits hf (by decide)
        have Q25 := Lib.hid (And.intro h hb.2)
        have HL25 := Lib.hid hb.1
        have HX25 := Lib.hid hx
        clear h hf hx hb
        dsimp only at Q25 HL25 ⊢
        go_wp2_with (refine wpList_cat rfl _ _ _ _ rfl rfl rfl (by have := HL2.out; have := HL22.out; have := HL24.out; have := HL25.out; (try simp only [List.length_append, List.length_cons, List.length_nil]); omega) ?_)
        have HF : Hid (Pr.param tk f r23 = ([32, 40, 52] ++ x24 ++ x25 ++ [41], r25)) := Lib.hid (by unfold Pr.param; simp only [HX24.out, HX25.out])
        go_roundg (m - 1)
        case measure => have := HM.out.1; have := HM.out.2.1; have := Q2.out.2; omega
        case rel =>
          have hgo := HM.out.2.2.2.1
          have hm := HM.out.2.1
          have hi2 := Q2.out.2
          have hkk := HM.out.2.2.2.2
          obtain ⟨m2, hm2⟩ : ∃ m2, m = m2 + 1 := ⟨m - 1, by omega⟩
          rw [hm2, argsGo_on B0.out, HX22.out] at hgo
          rw [if_pos rfl, HX23.out, HF.out] at hgo
          have hl := Pr.leaf_fits HO.out.toks Q2.out.2 (Pr.is_kind B0.out).1
          have hn := leaf_next (Pr.is_kind B0.out).1
          rw [HX22.out] at hl hn
          have hp := HFIT.out r23 Q23.out.2
          rw [HF.out] at hp
          have h1 : r23.i ≤ r25.i := hp.lo
          have h2 : r22.i = r2.i + 1 := hn
          have h3 : r23.i = r22.i := by rw [← HX23.out]; exact Pr.fail_i _ _
          have hl2 : Pr.Fits tk r2 (x22, r23) (-11) := Fits_state hl h3
          have hfin := ((HM.out.2.2.1.then hl2).then hp).mono (d := 4) (by omega)
          refine ⟨m - 1, 8 + 1, a ++ x22 ++ ([32, 40, 52] ++ x24 ++ x25 ++ [41]), r25, by simp, by go_num, rfl, Q25.out.1, by omega, by omega, hfin, ?_⟩
          rw [show m - 1 = m2 by omega]
          exact hgo
      · skip
        have h8n : ((kk : Int) == 8) = false := by simp; omega
        have H8 := Lib.hid h8
        clear h8
        go_wp2_with (refine wpList_cat rfl _ _ _ _ rfl rfl rfl (by have := HL2.out; (try simp only [List.length_append, List.length_cons, List.length_nil]); omega) ?_)
        have hcall := qis_calls Q2.out.1 Q2.out.2 HO.out [44]
        rw [B0.out] at hcall
        refine hcall.mono ?_
        rintro e W21 ⟨rfl, h⟩
        have Q21 := Lib.hid (And.intro h Q2.out.2)
        clear h hcall
        dsimp only
        go_wp2_with (refine wpList_cat rfl _ _ _ _ rfl rfl rfl (by have := HL2.out; (try simp only [List.length_append, List.length_cons, List.length_nil]); omega) ?_)
        refine (qleaf_calls Q21.out.1 Q21.out.2 HO.out).mono ?_
        rintro e W22 ⟨rfl, h⟩
        have hf := Pr.leaf_fits HO.out.toks Q21.out.2 (Pr.is_kind B0.out).1
        obtain ⟨⟨x22, r22⟩, hx⟩ : ∃ q, Pr.leaf tk r2 = q := ⟨_, rfl⟩
        rw [hx] at h hf ⊢
        have hb := HO.out.fits hf (by decide)
        have Q22 := Lib.hid (And.intro h hb.2)
        have HL22 := Lib.hid hb.1
        have HX22 := Lib.hid hx
        clear h hf hx hb
        dsimp only at Q22 HL22 ⊢
        go_wp2_with (refine wpList_cat rfl _ _ _ _ rfl rfl rfl (by have := HL2.out; have := HL22.out; (try simp only [List.length_append, List.length_cons, List.length_nil]); omega) ?_)
        refine (qkind_calls Q22.out.1 Q22.out.2 HO.out 1).mono ?_
        rintro e W23 ⟨rfl, h⟩
        have hf := Pr.kind_fits0 HO.out.toks (k := 1) (by decide) r22 Q22.out.2
        obtain ⟨⟨x23, r23⟩, hx⟩ : ∃ q, Pr.kind tk 1 r22 = q := ⟨_, rfl⟩
        rw [hx] at h hf ⊢
        have hb := HO.out.fits hf (by decide)
        have Q23 := Lib.hid (And.intro h hb.2)
        have HL23 := Lib.hid hb.1
        have HX23 := Lib.hid hx
        clear h hf hx hb
        dsimp only at Q23 HL23 ⊢
        go_wp2_with (refine wpList_cat rfl _ _ _ _ rfl rfl rfl (by have := HL2.out; have := HL22.out; have := HL23.out; (try simp only [List.length_append, List.length_cons, List.length_nil]); omega) ?_)
        refine (HK.out.1 _ _ Q23.out.1 Q23.out.2).mono ?_
        rintro e W24 ⟨rfl, h⟩
        have hf := HK.out.2 r23 Q23.out.2
        obtain ⟨⟨x24, r24⟩, hx⟩ : ∃ q, Pr.typed tk f r23 = q := ⟨_, rfl⟩
        rw [hx] at h hf ⊢
        have hb := HO.out.fits hf (by decide)
        have Q24 := Lib.hid (And.intro h hb.2)
        have HL24 := Lib.hid hb.1
        have HX24 := Lib.hid hx
        clear h hf hx hb
        dsimp only at Q24 HL24 ⊢
        go_wp2_with (refine wpList_cat rfl _ _ _ _ rfl rfl rfl (by have := HL2.out; have := HL22.out; have := HL23.out; have := HL24.out; (try simp only [List.length_append, List.length_cons, List.length_nil]); omega) ?_)
        have HF : Hid (Pr.param tk f r22 = ([32, 40, 52] ++ x23 ++ x24 ++ [41], r24)) := Lib.hid (by unfold Pr.param; simp only [HX23.out, HX24.out])
        go_roundg (m - 1)
        case measure => have := HM.out.1; have := HM.out.2.1; have := Q2.out.2; omega
        case rel =>
          have hgo := HM.out.2.2.2.1
          have hm := HM.out.2.1
          have hi2 := Q2.out.2
          have hkk := HM.out.2.2.2.2
          obtain ⟨m2, hm2⟩ : ∃ m2, m = m2 + 1 := ⟨m - 1, by omega⟩
          rw [hm2, argsGo_on B0.out, HX22.out] at hgo
          rw [if_neg H8.out, HF.out] at hgo
          have hl := Pr.leaf_fits HO.out.toks Q2.out.2 (Pr.is_kind B0.out).1
          have hn := leaf_next (Pr.is_kind B0.out).1
          rw [HX22.out] at hl hn
          have hp := HFIT.out r22 Q22.out.2
          rw [HF.out] at hp
          have h1 : r22.i ≤ r24.i := hp.lo
          have h2 : r22.i = r2.i + 1 := hn
          have h3 : r22.i = r22.i := rfl
          have hl2 : Pr.Fits tk r2 (x22, r22) (-11) := hl
          have hfin := ((HM.out.2.2.1.then hl2).then hp).mono (d := 4) (by omega)
          refine ⟨m - 1, kk + 1, a ++ x22 ++ ([32, 40, 52] ++ x23 ++ x24 ++ [41]), r24, by simp, by go_num, rfl, Q24.out.1, by omega, by omega, hfin, ?_⟩
          rw [show m - 1 = m2 by omega]
          exact hgo
    · skip
      rw [Bool.not_eq_true] at b0
      have B0 := Lib.hid b0
      clear b0
      go_wp2_with (refine wpList_cat rfl _ _ _ _ rfl rfl rfl (by have := HL2.out; (try simp only [List.length_append, List.length_cons, List.length_nil]); omega) ?_)
      have hcall := qis_calls Q2.out.1 Q2.out.2 HO.out [44]
      rw [B0.out] at hcall
      refine hcall.mono ?_
      rintro e W21 ⟨rfl, h⟩
      have Q21 := Lib.hid (And.intro h Q2.out.2)
      clear h hcall
      dsimp only
      go_wp2_with (refine wpList_cat rfl _ _ _ _ rfl rfl rfl (by have := HL2.out; (try simp only [List.length_append, List.length_cons, List.length_nil]); omega) ?_)
      go_ret
      have hgo := HM.out.2.2.2.1
      rw [argsGo_off _ B0.out] at hgo
      rw [← hgo]
      exact ⟨by simp, Q21.out.1⟩

set_option maxRecDepth 100000 in
set_option maxHeartbeats 4000000 in
theorem qdef_calls (ho : QOk tk) {f : Pr.G} (hf : Pr.Fit tk f 0) (hk : QKnows w0 p vt tk dp 42 #[.pointer (some ⟨p, 0, none⟩), .int .i64 1] f) : QKnows w0 p vt tk dp 48 #[.pointer (some ⟨p, 0, none⟩)] (Pr.definition tk f) := by
  intro W r h hi
  have HO := Lib.hid ho
  have Q0 := Lib.hid (And.intro h hi)
  have HK := Lib.hid (And.intro hk hf)
  have HT := Lib.hid (And.intro (qtyped_calls ho hf hk) (Pr.typed_fits ho.toks hf))
  have HPA := Lib.hid (And.intro (qparams_calls ho hf hk) (Pr.args_fits ho.toks (by decide) (Pr.param_fits ho.toks hf)))
  clear ho h hi hf hk
  by_cases b0 : Pr.is tk Ps.tPub r = true
  · skip
    have B0 := Lib.hid b0
    clear b0
    go_enter Tryz.func48, Tryz.ntmps48
    go_wp2_with (refine wpList_cat rfl _ _ _ _ rfl rfl rfl (by (try simp only [List.length_append, List.length_cons, List.length_nil]); omega) ?_)
    have hcall := qis_calls Q0.out.1 Q0.out.2 HO.out Ps.tPub
    rw [B0.out] at hcall
    refine hcall.mono ?_
    rintro e W1 ⟨rfl, h⟩
    have Q1 := Lib.hid (And.intro h Q0.out.2)
    clear h hcall
    dsimp only
    go_wp2_with (refine wpList_cat rfl _ _ _ _ rfl rfl rfl (by (try simp only [List.length_append, List.length_cons, List.length_nil]); omega) ?_)
    refine (qleaf_calls Q1.out.1 Q1.out.2 HO.out).mono ?_
    rintro e W2 ⟨rfl, h⟩
    have hf := Pr.leaf_fits HO.out.toks Q1.out.2 (Pr.is_kind B0.out).1
    obtain ⟨⟨x2, r2⟩, hx⟩ : ∃ q, Pr.leaf tk r = q := ⟨_, rfl⟩
    rw [hx] at h hf ⊢
    have hb := HO.out.fits hf (by decide)
    have Q2 := Lib.hid (And.intro h hb.2)
    have HL2 := Lib.hid hb.1
    have HX2 := Lib.hid hx
    clear h hf hx hb
    dsimp only at Q2 HL2 ⊢
    go_wp2_with (refine wpList_cat rfl _ _ _ _ rfl rfl rfl (by have := HL2.out; (try simp only [List.length_append, List.length_cons, List.length_nil]); omega) ?_)
    have HH : Hid (Pr.head tk r = ([32, 40, 51] ++ x2, r2)) := Lib.hid (by unfold Pr.head; rw [if_pos B0.out]; simp only [HX2.out])
    refine (qmust_calls Q2.out.1 Q2.out.2 HO.out Ps.tFun).mono ?_
    rintro e W3 ⟨rfl, h⟩
    have hf := Pr.must_fits HO.out.toks Ps.tFun r2 Q2.out.2
    obtain ⟨⟨x3, r3⟩, hx⟩ : ∃ q, Pr.must tk Ps.tFun r2 = q := ⟨_, rfl⟩
    rw [hx] at h hf ⊢
    have hb := HO.out.fits hf (by decide)
    have Q3 := Lib.hid (And.intro h hb.2)
    have HL3 := Lib.hid hb.1
    have HX3 := Lib.hid hx
    clear h hf hx hb
    dsimp only at Q3 HL3 ⊢
    go_wp2_with (refine wpList_cat rfl _ _ _ _ rfl rfl rfl (by have := HL2.out; have := HL3.out; (try simp only [List.length_append, List.length_cons, List.length_nil]); omega) ?_)
    refine (qkind_calls Q3.out.1 Q3.out.2 HO.out 1).mono ?_
    rintro e W4 ⟨rfl, h⟩
    have hf := Pr.kind_fits0 HO.out.toks (k := 1) (by decide) r3 Q3.out.2
    obtain ⟨⟨x4, r4⟩, hx⟩ : ∃ q, Pr.kind tk 1 r3 = q := ⟨_, rfl⟩
    rw [hx] at h hf ⊢
    have hb := HO.out.fits hf (by decide)
    have Q4 := Lib.hid (And.intro h hb.2)
    have HL4 := Lib.hid hb.1
    have HX4 := Lib.hid hx
    clear h hf hx hb
    dsimp only at Q4 HL4 ⊢
    go_wp2_with (refine wpList_cat rfl _ _ _ _ rfl rfl rfl (by have := HL2.out; have := HL3.out; have := HL4.out; (try simp only [List.length_append, List.length_cons, List.length_nil]); omega) ?_)
    refine (qmust_calls Q4.out.1 Q4.out.2 HO.out [40]).mono ?_
    rintro e W5 ⟨rfl, h⟩
    have hf := Pr.must_fits HO.out.toks [40] r4 Q4.out.2
    obtain ⟨⟨x5, r5⟩, hx⟩ : ∃ q, Pr.must tk [40] r4 = q := ⟨_, rfl⟩
    rw [hx] at h hf ⊢
    have hb := HO.out.fits hf (by decide)
    have Q5 := Lib.hid (And.intro h hb.2)
    have HL5 := Lib.hid hb.1
    have HX5 := Lib.hid hx
    clear h hf hx hb
    dsimp only at Q5 HL5 ⊢
    have HD : Hid (Pr.defHead tk ([32, 40, 51] ++ x2) r2 = (([32, 40, 51] ++ x2) ++ (x3 ++ x4 ++ x5), r5)) := Lib.hid (by unfold Pr.defHead; simp only [HX3.out, HX4.out, HX5.out])
    have c4 := Q5.out.1.c4
    by_cases he : r5.e = 0
    · skip
      have he' : (r5.e == 0) = true := by simp [he]
      have HE := Lib.hid he
      clear he
      by_cases b3 : Pr.is tk [41] r5 = true
      · skip
        have B3 := Lib.hid b3
        clear b3
        go_wp2_with (refine wpList_cat rfl _ _ _ _ rfl rfl rfl (by have := HL2.out; have := HL3.out; have := HL4.out; have := HL5.out; (try simp only [List.length_append, List.length_cons, List.length_nil]); omega) ?_)
        clear c4 he'
        have hcall := qis_calls Q5.out.1 Q5.out.2 HO.out [41]
        rw [B3.out] at hcall
        refine hcall.mono ?_
        rintro e W6 ⟨rfl, h⟩
        have Q6 := Lib.hid (And.intro h Q5.out.2)
        clear h hcall
        dsimp only
        go_wp2_with (refine wpList_cat rfl _ _ _ _ rfl rfl rfl (by have := HL2.out; have := HL3.out; have := HL4.out; have := HL5.out; (try simp only [List.length_append, List.length_cons, List.length_nil]); omega) ?_)
        have HLI : Hid (Pr.defList tk f (([32, 40, 51] ++ x2) ++ (x3 ++ x4 ++ x5)) r5 = (([32, 40, 51] ++ x2) ++ (x3 ++ x4 ++ x5), r5)) := Lib.hid (by unfold Pr.defList; rw [if_neg (by rw [B3.out]; simp)])
        refine (qmust_calls Q6.out.1 Q6.out.2 HO.out [41]).mono ?_
        rintro e W7 ⟨rfl, h⟩
        have hf := Pr.must_fits HO.out.toks [41] r5 Q6.out.2
        obtain ⟨⟨x7, r7⟩, hx⟩ : ∃ q, Pr.must tk [41] r5 = q := ⟨_, rfl⟩
        rw [hx] at h hf ⊢
        have hb := HO.out.fits hf (by decide)
        have Q7 := Lib.hid (And.intro h hb.2)
        have HL7 := Lib.hid hb.1
        have HX7 := Lib.hid hx
        clear h hf hx hb
        dsimp only at Q7 HL7 ⊢
        go_wp2_with (refine wpList_cat rfl _ _ _ _ rfl rfl rfl (by have := HL2.out; have := HL3.out; have := HL4.out; have := HL5.out; have := HL7.out; (try simp only [List.length_append, List.length_cons, List.length_nil]); omega) ?_)
        refine (HT.out.1 _ _ Q7.out.1 Q7.out.2).mono ?_
        rintro e W8 ⟨rfl, h⟩
        have hf := HT.out.2 r7 Q7.out.2
        obtain ⟨⟨x8, r8⟩, hx⟩ : ∃ q, Pr.typed tk f r7 = q := ⟨_, rfl⟩
        rw [hx] at h hf ⊢
        have hb := HO.out.fits hf (by decide)
        have Q8 := Lib.hid (And.intro h hb.2)
        have HL8 := Lib.hid hb.1
        have HX8 := Lib.hid hx
        clear h hf hx hb
        dsimp only at Q8 HL8 ⊢
        go_wp2_with (refine wpList_cat rfl _ _ _ _ rfl rfl rfl (by have := HL2.out; have := HL3.out; have := HL4.out; have := HL5.out; have := HL7.out; have := HL8.out; (try simp only [List.length_append, List.length_cons, List.length_nil]); omega) ?_)
        refine (qmust_calls Q8.out.1 Q8.out.2 HO.out [61]).mono ?_
        rintro e W9 ⟨rfl, h⟩
        have hf := Pr.must_fits HO.out.toks [61] r8 Q8.out.2
        obtain ⟨⟨x9, r9⟩, hx⟩ : ∃ q, Pr.must tk [61] r8 = q := ⟨_, rfl⟩
        rw [hx] at h hf ⊢
        have hb := HO.out.fits hf (by decide)
        have Q9 := Lib.hid (And.intro h hb.2)
        have HL9 := Lib.hid hb.1
        have HX9 := Lib.hid hx
        clear h hf hx hb
        dsimp only at Q9 HL9 ⊢
        go_wp2_with (refine wpList_cat rfl _ _ _ _ rfl rfl rfl (by have := HL2.out; have := HL3.out; have := HL4.out; have := HL5.out; have := HL7.out; have := HL8.out; have := HL9.out; (try simp only [List.length_append, List.length_cons, List.length_nil]); omega) ?_)
        refine (HK.out.1 _ _ Q9.out.1 Q9.out.2).mono ?_
        rintro e W10 ⟨rfl, h⟩
        have hf := HK.out.2 r9 Q9.out.2
        obtain ⟨⟨x10, r10⟩, hx⟩ : ∃ q, f r9 = q := ⟨_, rfl⟩
        rw [hx] at h hf ⊢
        have hb := HO.out.fits hf (by decide)
        have Q10 := Lib.hid (And.intro h hb.2)
        have HL10 := Lib.hid hb.1
        have HX10 := Lib.hid hx
        clear h hf hx hb
        dsimp only at Q10 HL10 ⊢
        go_wp2_with (refine wpList_cat rfl _ _ _ _ rfl rfl rfl (by have := HL2.out; have := HL3.out; have := HL4.out; have := HL5.out; have := HL7.out; have := HL8.out; have := HL9.out; have := HL10.out; (try simp only [List.length_append, List.length_cons, List.length_nil]); omega) ?_)
        refine (qmust_calls Q10.out.1 Q10.out.2 HO.out [59]).mono ?_
        rintro e W11 ⟨rfl, h⟩
        have hf := Pr.must_fits HO.out.toks [59] r10 Q10.out.2
        obtain ⟨⟨x11, r11⟩, hx⟩ : ∃ q, Pr.must tk [59] r10 = q := ⟨_, rfl⟩
        rw [hx] at h hf ⊢
        have hb := HO.out.fits hf (by decide)
        have Q11 := Lib.hid (And.intro h hb.2)
        have HL11 := Lib.hid hb.1
        have HX11 := Lib.hid hx
        clear h hf hx hb
        dsimp only at Q11 HL11 ⊢
        go_wp2_with (refine wpList_cat rfl _ _ _ _ rfl rfl rfl (by have := HL2.out; have := HL3.out; have := HL4.out; have := HL5.out; have := HL7.out; have := HL8.out; have := HL9.out; have := HL10.out; have := HL11.out; (try simp only [List.length_append, List.length_cons, List.length_nil]); omega) ?_)
        go_ret
        have e1 : Pr.definition tk f r = ((([32, 40, 51] ++ x2) ++ (x3 ++ x4 ++ x5)) ++ (x7 ++ x8 ++ x9) ++ x10 ++ x11 ++ [41], r11) := by
          unfold Pr.definition Pr.defn
          simp only [HH.out, HD.out, HLI.out]
          unfold Pr.defRest
          simp only [HX7.out, HX8.out, HX9.out, HX10.out, HX11.out]
        rw [e1]
        exact ⟨by simp [Pr.bin], Q11.out.1⟩
      · skip
        rw [Bool.not_eq_true] at b3
        have B3 := Lib.hid b3
        clear b3
        go_wp2_with (refine wpList_cat rfl _ _ _ _ rfl rfl rfl (by have := HL2.out; have := HL3.out; have := HL4.out; have := HL5.out; (try simp only [List.length_append, List.length_cons, List.length_nil]); omega) ?_)
        clear c4 he'
        have hcall := qis_calls Q5.out.1 Q5.out.2 HO.out [41]
        rw [B3.out] at hcall
        refine hcall.mono ?_
        rintro e W6 ⟨rfl, h⟩
        have Q6 := Lib.hid (And.intro h Q5.out.2)
        clear h hcall
        dsimp only
        go_wp2_with (refine wpList_cat rfl _ _ _ _ rfl rfl rfl (by have := HL2.out; have := HL3.out; have := HL4.out; have := HL5.out; (try simp only [List.length_append, List.length_cons, List.length_nil]); omega) ?_)
        refine (HPA.out.1 _ _ Q6.out.1 Q6.out.2).mono ?_
        rintro e W7 ⟨rfl, h⟩
        have hf := HPA.out.2 r5 Q6.out.2
        obtain ⟨⟨x7, r7⟩, hx⟩ : ∃ q, Pr.args tk (Pr.param tk f) r5 = q := ⟨_, rfl⟩
        rw [hx] at h hf ⊢
        have hb := HO.out.fits hf (by decide)
        have Q7 := Lib.hid (And.intro h hb.2)
        have HL7 := Lib.hid hb.1
        have HX7 := Lib.hid hx
        clear h hf hx hb
        dsimp only at Q7 HL7 ⊢
        go_wp2_with (refine wpList_cat rfl _ _ _ _ rfl rfl rfl (by have := HL2.out; have := HL3.out; have := HL4.out; have := HL5.out; have := HL7.out; (try simp only [List.length_append, List.length_cons, List.length_nil]); omega) ?_)
        have HLI : Hid (Pr.defList tk f (([32, 40, 51] ++ x2) ++ (x3 ++ x4 ++ x5)) r5 = ((([32, 40, 51] ++ x2) ++ (x3 ++ x4 ++ x5)) ++ x7, r7)) := Lib.hid (by unfold Pr.defList Pr.params; rw [if_pos ⟨HE.out, B3.out⟩]; simp only [HX7.out])
        refine (qmust_calls Q7.out.1 Q7.out.2 HO.out [41]).mono ?_
        rintro e W8 ⟨rfl, h⟩
        have hf := Pr.must_fits HO.out.toks [41] r7 Q7.out.2
        obtain ⟨⟨x8, r8⟩, hx⟩ : ∃ q, Pr.must tk [41] r7 = q := ⟨_, rfl⟩
        rw [hx] at h hf ⊢
        have hb := HO.out.fits hf (by decide)
        have Q8 := Lib.hid (And.intro h hb.2)
        have HL8 := Lib.hid hb.1
        have HX8 := Lib.hid hx
        clear h hf hx hb
        dsimp only at Q8 HL8 ⊢
        go_wp2_with (refine wpList_cat rfl _ _ _ _ rfl rfl rfl (by have := HL2.out; have := HL3.out; have := HL4.out; have := HL5.out; have := HL7.out; have := HL8.out; (try simp only [List.length_append, List.length_cons, List.length_nil]); omega) ?_)
        refine (HT.out.1 _ _ Q8.out.1 Q8.out.2).mono ?_
        rintro e W9 ⟨rfl, h⟩
        have hf := HT.out.2 r8 Q8.out.2
        obtain ⟨⟨x9, r9⟩, hx⟩ : ∃ q, Pr.typed tk f r8 = q := ⟨_, rfl⟩
        rw [hx] at h hf ⊢
        have hb := HO.out.fits hf (by decide)
        have Q9 := Lib.hid (And.intro h hb.2)
        have HL9 := Lib.hid hb.1
        have HX9 := Lib.hid hx
        clear h hf hx hb
        dsimp only at Q9 HL9 ⊢
        go_wp2_with (refine wpList_cat rfl _ _ _ _ rfl rfl rfl (by have := HL2.out; have := HL3.out; have := HL4.out; have := HL5.out; have := HL7.out; have := HL8.out; have := HL9.out; (try simp only [List.length_append, List.length_cons, List.length_nil]); omega) ?_)
        refine (qmust_calls Q9.out.1 Q9.out.2 HO.out [61]).mono ?_
        rintro e W10 ⟨rfl, h⟩
        have hf := Pr.must_fits HO.out.toks [61] r9 Q9.out.2
        obtain ⟨⟨x10, r10⟩, hx⟩ : ∃ q, Pr.must tk [61] r9 = q := ⟨_, rfl⟩
        rw [hx] at h hf ⊢
        have hb := HO.out.fits hf (by decide)
        have Q10 := Lib.hid (And.intro h hb.2)
        have HL10 := Lib.hid hb.1
        have HX10 := Lib.hid hx
        clear h hf hx hb
        dsimp only at Q10 HL10 ⊢
        go_wp2_with (refine wpList_cat rfl _ _ _ _ rfl rfl rfl (by have := HL2.out; have := HL3.out; have := HL4.out; have := HL5.out; have := HL7.out; have := HL8.out; have := HL9.out; have := HL10.out; (try simp only [List.length_append, List.length_cons, List.length_nil]); omega) ?_)
        refine (HK.out.1 _ _ Q10.out.1 Q10.out.2).mono ?_
        rintro e W11 ⟨rfl, h⟩
        have hf := HK.out.2 r10 Q10.out.2
        obtain ⟨⟨x11, r11⟩, hx⟩ : ∃ q, f r10 = q := ⟨_, rfl⟩
        rw [hx] at h hf ⊢
        have hb := HO.out.fits hf (by decide)
        have Q11 := Lib.hid (And.intro h hb.2)
        have HL11 := Lib.hid hb.1
        have HX11 := Lib.hid hx
        clear h hf hx hb
        dsimp only at Q11 HL11 ⊢
        go_wp2_with (refine wpList_cat rfl _ _ _ _ rfl rfl rfl (by have := HL2.out; have := HL3.out; have := HL4.out; have := HL5.out; have := HL7.out; have := HL8.out; have := HL9.out; have := HL10.out; have := HL11.out; (try simp only [List.length_append, List.length_cons, List.length_nil]); omega) ?_)
        refine (qmust_calls Q11.out.1 Q11.out.2 HO.out [59]).mono ?_
        rintro e W12 ⟨rfl, h⟩
        have hf := Pr.must_fits HO.out.toks [59] r11 Q11.out.2
        obtain ⟨⟨x12, r12⟩, hx⟩ : ∃ q, Pr.must tk [59] r11 = q := ⟨_, rfl⟩
        rw [hx] at h hf ⊢
        have hb := HO.out.fits hf (by decide)
        have Q12 := Lib.hid (And.intro h hb.2)
        have HL12 := Lib.hid hb.1
        have HX12 := Lib.hid hx
        clear h hf hx hb
        dsimp only at Q12 HL12 ⊢
        go_wp2_with (refine wpList_cat rfl _ _ _ _ rfl rfl rfl (by have := HL2.out; have := HL3.out; have := HL4.out; have := HL5.out; have := HL7.out; have := HL8.out; have := HL9.out; have := HL10.out; have := HL11.out; have := HL12.out; (try simp only [List.length_append, List.length_cons, List.length_nil]); omega) ?_)
        go_ret
        have e1 : Pr.definition tk f r = (((([32, 40, 51] ++ x2) ++ (x3 ++ x4 ++ x5)) ++ x7) ++ (x8 ++ x9 ++ x10) ++ x11 ++ x12 ++ [41], r12) := by
          unfold Pr.definition Pr.defn
          simp only [HH.out, HD.out, HLI.out]
          unfold Pr.defRest
          simp only [HX8.out, HX9.out, HX10.out, HX11.out, HX12.out]
        rw [e1]
        exact ⟨by simp [Pr.bin], Q12.out.1⟩
    · skip
      have he' : (r5.e == 0) = false := by simp [he]
      have HE := Lib.hid he
      clear he
      go_wp2_with (refine wpList_cat rfl _ _ _ _ rfl rfl rfl (by have := HL2.out; have := HL3.out; have := HL4.out; have := HL5.out; (try simp only [List.length_append, List.length_cons, List.length_nil]); omega) ?_)
      clear c4 he'
      have HLI : Hid (Pr.defList tk f (([32, 40, 51] ++ x2) ++ (x3 ++ x4 ++ x5)) r5 = (([32, 40, 51] ++ x2) ++ (x3 ++ x4 ++ x5), r5)) := Lib.hid (by unfold Pr.defList; rw [if_neg (fun h => HE.out h.1)])
      refine (qmust_calls Q5.out.1 Q5.out.2 HO.out [41]).mono ?_
      rintro e W6 ⟨rfl, h⟩
      have hf := Pr.must_fits HO.out.toks [41] r5 Q5.out.2
      obtain ⟨⟨x6, r6⟩, hx⟩ : ∃ q, Pr.must tk [41] r5 = q := ⟨_, rfl⟩
      rw [hx] at h hf ⊢
      have hb := HO.out.fits hf (by decide)
      have Q6 := Lib.hid (And.intro h hb.2)
      have HL6 := Lib.hid hb.1
      have HX6 := Lib.hid hx
      clear h hf hx hb
      dsimp only at Q6 HL6 ⊢
      go_wp2_with (refine wpList_cat rfl _ _ _ _ rfl rfl rfl (by have := HL2.out; have := HL3.out; have := HL4.out; have := HL5.out; have := HL6.out; (try simp only [List.length_append, List.length_cons, List.length_nil]); omega) ?_)
      refine (HT.out.1 _ _ Q6.out.1 Q6.out.2).mono ?_
      rintro e W7 ⟨rfl, h⟩
      have hf := HT.out.2 r6 Q6.out.2
      obtain ⟨⟨x7, r7⟩, hx⟩ : ∃ q, Pr.typed tk f r6 = q := ⟨_, rfl⟩
      rw [hx] at h hf ⊢
      have hb := HO.out.fits hf (by decide)
      have Q7 := Lib.hid (And.intro h hb.2)
      have HL7 := Lib.hid hb.1
      have HX7 := Lib.hid hx
      clear h hf hx hb
      dsimp only at Q7 HL7 ⊢
      go_wp2_with (refine wpList_cat rfl _ _ _ _ rfl rfl rfl (by have := HL2.out; have := HL3.out; have := HL4.out; have := HL5.out; have := HL6.out; have := HL7.out; (try simp only [List.length_append, List.length_cons, List.length_nil]); omega) ?_)
      refine (qmust_calls Q7.out.1 Q7.out.2 HO.out [61]).mono ?_
      rintro e W8 ⟨rfl, h⟩
      have hf := Pr.must_fits HO.out.toks [61] r7 Q7.out.2
      obtain ⟨⟨x8, r8⟩, hx⟩ : ∃ q, Pr.must tk [61] r7 = q := ⟨_, rfl⟩
      rw [hx] at h hf ⊢
      have hb := HO.out.fits hf (by decide)
      have Q8 := Lib.hid (And.intro h hb.2)
      have HL8 := Lib.hid hb.1
      have HX8 := Lib.hid hx
      clear h hf hx hb
      dsimp only at Q8 HL8 ⊢
      go_wp2_with (refine wpList_cat rfl _ _ _ _ rfl rfl rfl (by have := HL2.out; have := HL3.out; have := HL4.out; have := HL5.out; have := HL6.out; have := HL7.out; have := HL8.out; (try simp only [List.length_append, List.length_cons, List.length_nil]); omega) ?_)
      refine (HK.out.1 _ _ Q8.out.1 Q8.out.2).mono ?_
      rintro e W9 ⟨rfl, h⟩
      have hf := HK.out.2 r8 Q8.out.2
      obtain ⟨⟨x9, r9⟩, hx⟩ : ∃ q, f r8 = q := ⟨_, rfl⟩
      rw [hx] at h hf ⊢
      have hb := HO.out.fits hf (by decide)
      have Q9 := Lib.hid (And.intro h hb.2)
      have HL9 := Lib.hid hb.1
      have HX9 := Lib.hid hx
      clear h hf hx hb
      dsimp only at Q9 HL9 ⊢
      go_wp2_with (refine wpList_cat rfl _ _ _ _ rfl rfl rfl (by have := HL2.out; have := HL3.out; have := HL4.out; have := HL5.out; have := HL6.out; have := HL7.out; have := HL8.out; have := HL9.out; (try simp only [List.length_append, List.length_cons, List.length_nil]); omega) ?_)
      refine (qmust_calls Q9.out.1 Q9.out.2 HO.out [59]).mono ?_
      rintro e W10 ⟨rfl, h⟩
      have hf := Pr.must_fits HO.out.toks [59] r9 Q9.out.2
      obtain ⟨⟨x10, r10⟩, hx⟩ : ∃ q, Pr.must tk [59] r9 = q := ⟨_, rfl⟩
      rw [hx] at h hf ⊢
      have hb := HO.out.fits hf (by decide)
      have Q10 := Lib.hid (And.intro h hb.2)
      have HL10 := Lib.hid hb.1
      have HX10 := Lib.hid hx
      clear h hf hx hb
      dsimp only at Q10 HL10 ⊢
      go_wp2_with (refine wpList_cat rfl _ _ _ _ rfl rfl rfl (by have := HL2.out; have := HL3.out; have := HL4.out; have := HL5.out; have := HL6.out; have := HL7.out; have := HL8.out; have := HL9.out; have := HL10.out; (try simp only [List.length_append, List.length_cons, List.length_nil]); omega) ?_)
      go_ret
      have e1 : Pr.definition tk f r = ((([32, 40, 51] ++ x2) ++ (x3 ++ x4 ++ x5)) ++ (x6 ++ x7 ++ x8) ++ x9 ++ x10 ++ [41], r10) := by
        unfold Pr.definition Pr.defn
        simp only [HH.out, HD.out, HLI.out]
        unfold Pr.defRest
        simp only [HX6.out, HX7.out, HX8.out, HX9.out, HX10.out]
      rw [e1]
      exact ⟨by simp [Pr.bin], Q10.out.1⟩
  · skip
    rw [Bool.not_eq_true] at b0
    have B0 := Lib.hid b0
    clear b0
    go_enter Tryz.func48, Tryz.ntmps48
    go_wp2_with (refine wpList_cat rfl _ _ _ _ rfl rfl rfl (by (try simp only [List.length_append, List.length_cons, List.length_nil]); omega) ?_)
    have hcall := qis_calls Q0.out.1 Q0.out.2 HO.out Ps.tPub
    rw [B0.out] at hcall
    refine hcall.mono ?_
    rintro e W1 ⟨rfl, h⟩
    have Q1 := Lib.hid (And.intro h Q0.out.2)
    clear h hcall
    dsimp only
    go_wp2_with (refine wpList_cat rfl _ _ _ _ rfl rfl rfl (by (try simp only [List.length_append, List.length_cons, List.length_nil]); omega) ?_)
    have HH : Hid (Pr.head tk r = ([32, 40, 51], r)) := Lib.hid (by unfold Pr.head; rw [if_neg (by rw [B0.out]; simp)])
    refine (qmust_calls Q1.out.1 Q1.out.2 HO.out Ps.tFun).mono ?_
    rintro e W2 ⟨rfl, h⟩
    have hf := Pr.must_fits HO.out.toks Ps.tFun r Q1.out.2
    obtain ⟨⟨x2, r2⟩, hx⟩ : ∃ q, Pr.must tk Ps.tFun r = q := ⟨_, rfl⟩
    rw [hx] at h hf ⊢
    have hb := HO.out.fits hf (by decide)
    have Q2 := Lib.hid (And.intro h hb.2)
    have HL2 := Lib.hid hb.1
    have HX2 := Lib.hid hx
    clear h hf hx hb
    dsimp only at Q2 HL2 ⊢
    go_wp2_with (refine wpList_cat rfl _ _ _ _ rfl rfl rfl (by have := HL2.out; (try simp only [List.length_append, List.length_cons, List.length_nil]); omega) ?_)
    refine (qkind_calls Q2.out.1 Q2.out.2 HO.out 1).mono ?_
    rintro e W3 ⟨rfl, h⟩
    have hf := Pr.kind_fits0 HO.out.toks (k := 1) (by decide) r2 Q2.out.2
    obtain ⟨⟨x3, r3⟩, hx⟩ : ∃ q, Pr.kind tk 1 r2 = q := ⟨_, rfl⟩
    rw [hx] at h hf ⊢
    have hb := HO.out.fits hf (by decide)
    have Q3 := Lib.hid (And.intro h hb.2)
    have HL3 := Lib.hid hb.1
    have HX3 := Lib.hid hx
    clear h hf hx hb
    dsimp only at Q3 HL3 ⊢
    go_wp2_with (refine wpList_cat rfl _ _ _ _ rfl rfl rfl (by have := HL2.out; have := HL3.out; (try simp only [List.length_append, List.length_cons, List.length_nil]); omega) ?_)
    refine (qmust_calls Q3.out.1 Q3.out.2 HO.out [40]).mono ?_
    rintro e W4 ⟨rfl, h⟩
    have hf := Pr.must_fits HO.out.toks [40] r3 Q3.out.2
    obtain ⟨⟨x4, r4⟩, hx⟩ : ∃ q, Pr.must tk [40] r3 = q := ⟨_, rfl⟩
    rw [hx] at h hf ⊢
    have hb := HO.out.fits hf (by decide)
    have Q4 := Lib.hid (And.intro h hb.2)
    have HL4 := Lib.hid hb.1
    have HX4 := Lib.hid hx
    clear h hf hx hb
    dsimp only at Q4 HL4 ⊢
    have HD : Hid (Pr.defHead tk ([32, 40, 51]) r = (([32, 40, 51]) ++ (x2 ++ x3 ++ x4), r4)) := Lib.hid (by unfold Pr.defHead; simp only [HX2.out, HX3.out, HX4.out])
    have c4 := Q4.out.1.c4
    by_cases he : r4.e = 0
    · skip
      have he' : (r4.e == 0) = true := by simp [he]
      have HE := Lib.hid he
      clear he
      by_cases b3 : Pr.is tk [41] r4 = true
      · skip
        have B3 := Lib.hid b3
        clear b3
        go_wp2_with (refine wpList_cat rfl _ _ _ _ rfl rfl rfl (by have := HL2.out; have := HL3.out; have := HL4.out; (try simp only [List.length_append, List.length_cons, List.length_nil]); omega) ?_)
        clear c4 he'
        have hcall := qis_calls Q4.out.1 Q4.out.2 HO.out [41]
        rw [B3.out] at hcall
        refine hcall.mono ?_
        rintro e W5 ⟨rfl, h⟩
        have Q5 := Lib.hid (And.intro h Q4.out.2)
        clear h hcall
        dsimp only
        go_wp2_with (refine wpList_cat rfl _ _ _ _ rfl rfl rfl (by have := HL2.out; have := HL3.out; have := HL4.out; (try simp only [List.length_append, List.length_cons, List.length_nil]); omega) ?_)
        have HLI : Hid (Pr.defList tk f (([32, 40, 51]) ++ (x2 ++ x3 ++ x4)) r4 = (([32, 40, 51]) ++ (x2 ++ x3 ++ x4), r4)) := Lib.hid (by unfold Pr.defList; rw [if_neg (by rw [B3.out]; simp)])
        refine (qmust_calls Q5.out.1 Q5.out.2 HO.out [41]).mono ?_
        rintro e W6 ⟨rfl, h⟩
        have hf := Pr.must_fits HO.out.toks [41] r4 Q5.out.2
        obtain ⟨⟨x6, r6⟩, hx⟩ : ∃ q, Pr.must tk [41] r4 = q := ⟨_, rfl⟩
        rw [hx] at h hf ⊢
        have hb := HO.out.fits hf (by decide)
        have Q6 := Lib.hid (And.intro h hb.2)
        have HL6 := Lib.hid hb.1
        have HX6 := Lib.hid hx
        clear h hf hx hb
        dsimp only at Q6 HL6 ⊢
        go_wp2_with (refine wpList_cat rfl _ _ _ _ rfl rfl rfl (by have := HL2.out; have := HL3.out; have := HL4.out; have := HL6.out; (try simp only [List.length_append, List.length_cons, List.length_nil]); omega) ?_)
        refine (HT.out.1 _ _ Q6.out.1 Q6.out.2).mono ?_
        rintro e W7 ⟨rfl, h⟩
        have hf := HT.out.2 r6 Q6.out.2
        obtain ⟨⟨x7, r7⟩, hx⟩ : ∃ q, Pr.typed tk f r6 = q := ⟨_, rfl⟩
        rw [hx] at h hf ⊢
        have hb := HO.out.fits hf (by decide)
        have Q7 := Lib.hid (And.intro h hb.2)
        have HL7 := Lib.hid hb.1
        have HX7 := Lib.hid hx
        clear h hf hx hb
        dsimp only at Q7 HL7 ⊢
        go_wp2_with (refine wpList_cat rfl _ _ _ _ rfl rfl rfl (by have := HL2.out; have := HL3.out; have := HL4.out; have := HL6.out; have := HL7.out; (try simp only [List.length_append, List.length_cons, List.length_nil]); omega) ?_)
        refine (qmust_calls Q7.out.1 Q7.out.2 HO.out [61]).mono ?_
        rintro e W8 ⟨rfl, h⟩
        have hf := Pr.must_fits HO.out.toks [61] r7 Q7.out.2
        obtain ⟨⟨x8, r8⟩, hx⟩ : ∃ q, Pr.must tk [61] r7 = q := ⟨_, rfl⟩
        rw [hx] at h hf ⊢
        have hb := HO.out.fits hf (by decide)
        have Q8 := Lib.hid (And.intro h hb.2)
        have HL8 := Lib.hid hb.1
        have HX8 := Lib.hid hx
        clear h hf hx hb
        dsimp only at Q8 HL8 ⊢
        go_wp2_with (refine wpList_cat rfl _ _ _ _ rfl rfl rfl (by have := HL2.out; have := HL3.out; have := HL4.out; have := HL6.out; have := HL7.out; have := HL8.out; (try simp only [List.length_append, List.length_cons, List.length_nil]); omega) ?_)
        refine (HK.out.1 _ _ Q8.out.1 Q8.out.2).mono ?_
        rintro e W9 ⟨rfl, h⟩
        have hf := HK.out.2 r8 Q8.out.2
        obtain ⟨⟨x9, r9⟩, hx⟩ : ∃ q, f r8 = q := ⟨_, rfl⟩
        rw [hx] at h hf ⊢
        have hb := HO.out.fits hf (by decide)
        have Q9 := Lib.hid (And.intro h hb.2)
        have HL9 := Lib.hid hb.1
        have HX9 := Lib.hid hx
        clear h hf hx hb
        dsimp only at Q9 HL9 ⊢
        go_wp2_with (refine wpList_cat rfl _ _ _ _ rfl rfl rfl (by have := HL2.out; have := HL3.out; have := HL4.out; have := HL6.out; have := HL7.out; have := HL8.out; have := HL9.out; (try simp only [List.length_append, List.length_cons, List.length_nil]); omega) ?_)
        refine (qmust_calls Q9.out.1 Q9.out.2 HO.out [59]).mono ?_
        rintro e W10 ⟨rfl, h⟩
        have hf := Pr.must_fits HO.out.toks [59] r9 Q9.out.2
        obtain ⟨⟨x10, r10⟩, hx⟩ : ∃ q, Pr.must tk [59] r9 = q := ⟨_, rfl⟩
        rw [hx] at h hf ⊢
        have hb := HO.out.fits hf (by decide)
        have Q10 := Lib.hid (And.intro h hb.2)
        have HL10 := Lib.hid hb.1
        have HX10 := Lib.hid hx
        clear h hf hx hb
        dsimp only at Q10 HL10 ⊢
        go_wp2_with (refine wpList_cat rfl _ _ _ _ rfl rfl rfl (by have := HL2.out; have := HL3.out; have := HL4.out; have := HL6.out; have := HL7.out; have := HL8.out; have := HL9.out; have := HL10.out; (try simp only [List.length_append, List.length_cons, List.length_nil]); omega) ?_)
        go_ret
        have e1 : Pr.definition tk f r = ((([32, 40, 51]) ++ (x2 ++ x3 ++ x4)) ++ (x6 ++ x7 ++ x8) ++ x9 ++ x10 ++ [41], r10) := by
          unfold Pr.definition Pr.defn
          simp only [HH.out, HD.out, HLI.out]
          unfold Pr.defRest
          simp only [HX6.out, HX7.out, HX8.out, HX9.out, HX10.out]
        rw [e1]
        exact ⟨by simp [Pr.bin], Q10.out.1⟩
      · skip
        rw [Bool.not_eq_true] at b3
        have B3 := Lib.hid b3
        clear b3
        go_wp2_with (refine wpList_cat rfl _ _ _ _ rfl rfl rfl (by have := HL2.out; have := HL3.out; have := HL4.out; (try simp only [List.length_append, List.length_cons, List.length_nil]); omega) ?_)
        clear c4 he'
        have hcall := qis_calls Q4.out.1 Q4.out.2 HO.out [41]
        rw [B3.out] at hcall
        refine hcall.mono ?_
        rintro e W5 ⟨rfl, h⟩
        have Q5 := Lib.hid (And.intro h Q4.out.2)
        clear h hcall
        dsimp only
        go_wp2_with (refine wpList_cat rfl _ _ _ _ rfl rfl rfl (by have := HL2.out; have := HL3.out; have := HL4.out; (try simp only [List.length_append, List.length_cons, List.length_nil]); omega) ?_)
        refine (HPA.out.1 _ _ Q5.out.1 Q5.out.2).mono ?_
        rintro e W6 ⟨rfl, h⟩
        have hf := HPA.out.2 r4 Q5.out.2
        obtain ⟨⟨x6, r6⟩, hx⟩ : ∃ q, Pr.args tk (Pr.param tk f) r4 = q := ⟨_, rfl⟩
        rw [hx] at h hf ⊢
        have hb := HO.out.fits hf (by decide)
        have Q6 := Lib.hid (And.intro h hb.2)
        have HL6 := Lib.hid hb.1
        have HX6 := Lib.hid hx
        clear h hf hx hb
        dsimp only at Q6 HL6 ⊢
        go_wp2_with (refine wpList_cat rfl _ _ _ _ rfl rfl rfl (by have := HL2.out; have := HL3.out; have := HL4.out; have := HL6.out; (try simp only [List.length_append, List.length_cons, List.length_nil]); omega) ?_)
        have HLI : Hid (Pr.defList tk f (([32, 40, 51]) ++ (x2 ++ x3 ++ x4)) r4 = ((([32, 40, 51]) ++ (x2 ++ x3 ++ x4)) ++ x6, r6)) := Lib.hid (by unfold Pr.defList Pr.params; rw [if_pos ⟨HE.out, B3.out⟩]; simp only [HX6.out])
        refine (qmust_calls Q6.out.1 Q6.out.2 HO.out [41]).mono ?_
        rintro e W7 ⟨rfl, h⟩
        have hf := Pr.must_fits HO.out.toks [41] r6 Q6.out.2
        obtain ⟨⟨x7, r7⟩, hx⟩ : ∃ q, Pr.must tk [41] r6 = q := ⟨_, rfl⟩
        rw [hx] at h hf ⊢
        have hb := HO.out.fits hf (by decide)
        have Q7 := Lib.hid (And.intro h hb.2)
        have HL7 := Lib.hid hb.1
        have HX7 := Lib.hid hx
        clear h hf hx hb
        dsimp only at Q7 HL7 ⊢
        go_wp2_with (refine wpList_cat rfl _ _ _ _ rfl rfl rfl (by have := HL2.out; have := HL3.out; have := HL4.out; have := HL6.out; have := HL7.out; (try simp only [List.length_append, List.length_cons, List.length_nil]); omega) ?_)
        refine (HT.out.1 _ _ Q7.out.1 Q7.out.2).mono ?_
        rintro e W8 ⟨rfl, h⟩
        have hf := HT.out.2 r7 Q7.out.2
        obtain ⟨⟨x8, r8⟩, hx⟩ : ∃ q, Pr.typed tk f r7 = q := ⟨_, rfl⟩
        rw [hx] at h hf ⊢
        have hb := HO.out.fits hf (by decide)
        have Q8 := Lib.hid (And.intro h hb.2)
        have HL8 := Lib.hid hb.1
        have HX8 := Lib.hid hx
        clear h hf hx hb
        dsimp only at Q8 HL8 ⊢
        go_wp2_with (refine wpList_cat rfl _ _ _ _ rfl rfl rfl (by have := HL2.out; have := HL3.out; have := HL4.out; have := HL6.out; have := HL7.out; have := HL8.out; (try simp only [List.length_append, List.length_cons, List.length_nil]); omega) ?_)
        refine (qmust_calls Q8.out.1 Q8.out.2 HO.out [61]).mono ?_
        rintro e W9 ⟨rfl, h⟩
        have hf := Pr.must_fits HO.out.toks [61] r8 Q8.out.2
        obtain ⟨⟨x9, r9⟩, hx⟩ : ∃ q, Pr.must tk [61] r8 = q := ⟨_, rfl⟩
        rw [hx] at h hf ⊢
        have hb := HO.out.fits hf (by decide)
        have Q9 := Lib.hid (And.intro h hb.2)
        have HL9 := Lib.hid hb.1
        have HX9 := Lib.hid hx
        clear h hf hx hb
        dsimp only at Q9 HL9 ⊢
        go_wp2_with (refine wpList_cat rfl _ _ _ _ rfl rfl rfl (by have := HL2.out; have := HL3.out; have := HL4.out; have := HL6.out; have := HL7.out; have := HL8.out; have := HL9.out; (try simp only [List.length_append, List.length_cons, List.length_nil]); omega) ?_)
        refine (HK.out.1 _ _ Q9.out.1 Q9.out.2).mono ?_
        rintro e W10 ⟨rfl, h⟩
        have hf := HK.out.2 r9 Q9.out.2
        obtain ⟨⟨x10, r10⟩, hx⟩ : ∃ q, f r9 = q := ⟨_, rfl⟩
        rw [hx] at h hf ⊢
        have hb := HO.out.fits hf (by decide)
        have Q10 := Lib.hid (And.intro h hb.2)
        have HL10 := Lib.hid hb.1
        have HX10 := Lib.hid hx
        clear h hf hx hb
        dsimp only at Q10 HL10 ⊢
        go_wp2_with (refine wpList_cat rfl _ _ _ _ rfl rfl rfl (by have := HL2.out; have := HL3.out; have := HL4.out; have := HL6.out; have := HL7.out; have := HL8.out; have := HL9.out; have := HL10.out; (try simp only [List.length_append, List.length_cons, List.length_nil]); omega) ?_)
        refine (qmust_calls Q10.out.1 Q10.out.2 HO.out [59]).mono ?_
        rintro e W11 ⟨rfl, h⟩
        have hf := Pr.must_fits HO.out.toks [59] r10 Q10.out.2
        obtain ⟨⟨x11, r11⟩, hx⟩ : ∃ q, Pr.must tk [59] r10 = q := ⟨_, rfl⟩
        rw [hx] at h hf ⊢
        have hb := HO.out.fits hf (by decide)
        have Q11 := Lib.hid (And.intro h hb.2)
        have HL11 := Lib.hid hb.1
        have HX11 := Lib.hid hx
        clear h hf hx hb
        dsimp only at Q11 HL11 ⊢
        go_wp2_with (refine wpList_cat rfl _ _ _ _ rfl rfl rfl (by have := HL2.out; have := HL3.out; have := HL4.out; have := HL6.out; have := HL7.out; have := HL8.out; have := HL9.out; have := HL10.out; have := HL11.out; (try simp only [List.length_append, List.length_cons, List.length_nil]); omega) ?_)
        go_ret
        have e1 : Pr.definition tk f r = (((([32, 40, 51]) ++ (x2 ++ x3 ++ x4)) ++ x6) ++ (x7 ++ x8 ++ x9) ++ x10 ++ x11 ++ [41], r11) := by
          unfold Pr.definition Pr.defn
          simp only [HH.out, HD.out, HLI.out]
          unfold Pr.defRest
          simp only [HX7.out, HX8.out, HX9.out, HX10.out, HX11.out]
        rw [e1]
        exact ⟨by simp [Pr.bin], Q11.out.1⟩
    · skip
      have he' : (r4.e == 0) = false := by simp [he]
      have HE := Lib.hid he
      clear he
      go_wp2_with (refine wpList_cat rfl _ _ _ _ rfl rfl rfl (by have := HL2.out; have := HL3.out; have := HL4.out; (try simp only [List.length_append, List.length_cons, List.length_nil]); omega) ?_)
      clear c4 he'
      have HLI : Hid (Pr.defList tk f (([32, 40, 51]) ++ (x2 ++ x3 ++ x4)) r4 = (([32, 40, 51]) ++ (x2 ++ x3 ++ x4), r4)) := Lib.hid (by unfold Pr.defList; rw [if_neg (fun h => HE.out h.1)])
      refine (qmust_calls Q4.out.1 Q4.out.2 HO.out [41]).mono ?_
      rintro e W5 ⟨rfl, h⟩
      have hf := Pr.must_fits HO.out.toks [41] r4 Q4.out.2
      obtain ⟨⟨x5, r5⟩, hx⟩ : ∃ q, Pr.must tk [41] r4 = q := ⟨_, rfl⟩
      rw [hx] at h hf ⊢
      have hb := HO.out.fits hf (by decide)
      have Q5 := Lib.hid (And.intro h hb.2)
      have HL5 := Lib.hid hb.1
      have HX5 := Lib.hid hx
      clear h hf hx hb
      dsimp only at Q5 HL5 ⊢
      go_wp2_with (refine wpList_cat rfl _ _ _ _ rfl rfl rfl (by have := HL2.out; have := HL3.out; have := HL4.out; have := HL5.out; (try simp only [List.length_append, List.length_cons, List.length_nil]); omega) ?_)
      refine (HT.out.1 _ _ Q5.out.1 Q5.out.2).mono ?_
      rintro e W6 ⟨rfl, h⟩
      have hf := HT.out.2 r5 Q5.out.2
      obtain ⟨⟨x6, r6⟩, hx⟩ : ∃ q, Pr.typed tk f r5 = q := ⟨_, rfl⟩
      rw [hx] at h hf ⊢
      have hb := HO.out.fits hf (by decide)
      have Q6 := Lib.hid (And.intro h hb.2)
      have HL6 := Lib.hid hb.1
      have HX6 := Lib.hid hx
      clear h hf hx hb
      dsimp only at Q6 HL6 ⊢
      go_wp2_with (refine wpList_cat rfl _ _ _ _ rfl rfl rfl (by have := HL2.out; have := HL3.out; have := HL4.out; have := HL5.out; have := HL6.out; (try simp only [List.length_append, List.length_cons, List.length_nil]); omega) ?_)
      refine (qmust_calls Q6.out.1 Q6.out.2 HO.out [61]).mono ?_
      rintro e W7 ⟨rfl, h⟩
      have hf := Pr.must_fits HO.out.toks [61] r6 Q6.out.2
      obtain ⟨⟨x7, r7⟩, hx⟩ : ∃ q, Pr.must tk [61] r6 = q := ⟨_, rfl⟩
      rw [hx] at h hf ⊢
      have hb := HO.out.fits hf (by decide)
      have Q7 := Lib.hid (And.intro h hb.2)
      have HL7 := Lib.hid hb.1
      have HX7 := Lib.hid hx
      clear h hf hx hb
      dsimp only at Q7 HL7 ⊢
      go_wp2_with (refine wpList_cat rfl _ _ _ _ rfl rfl rfl (by have := HL2.out; have := HL3.out; have := HL4.out; have := HL5.out; have := HL6.out; have := HL7.out; (try simp only [List.length_append, List.length_cons, List.length_nil]); omega) ?_)
      refine (HK.out.1 _ _ Q7.out.1 Q7.out.2).mono ?_
      rintro e W8 ⟨rfl, h⟩
      have hf := HK.out.2 r7 Q7.out.2
      obtain ⟨⟨x8, r8⟩, hx⟩ : ∃ q, f r7 = q := ⟨_, rfl⟩
      rw [hx] at h hf ⊢
      have hb := HO.out.fits hf (by decide)
      have Q8 := Lib.hid (And.intro h hb.2)
      have HL8 := Lib.hid hb.1
      have HX8 := Lib.hid hx
      clear h hf hx hb
      dsimp only at Q8 HL8 ⊢
      go_wp2_with (refine wpList_cat rfl _ _ _ _ rfl rfl rfl (by have := HL2.out; have := HL3.out; have := HL4.out; have := HL5.out; have := HL6.out; have := HL7.out; have := HL8.out; (try simp only [List.length_append, List.length_cons, List.length_nil]); omega) ?_)
      refine (qmust_calls Q8.out.1 Q8.out.2 HO.out [59]).mono ?_
      rintro e W9 ⟨rfl, h⟩
      have hf := Pr.must_fits HO.out.toks [59] r8 Q8.out.2
      obtain ⟨⟨x9, r9⟩, hx⟩ : ∃ q, Pr.must tk [59] r8 = q := ⟨_, rfl⟩
      rw [hx] at h hf ⊢
      have hb := HO.out.fits hf (by decide)
      have Q9 := Lib.hid (And.intro h hb.2)
      have HL9 := Lib.hid hb.1
      have HX9 := Lib.hid hx
      clear h hf hx hb
      dsimp only at Q9 HL9 ⊢
      go_wp2_with (refine wpList_cat rfl _ _ _ _ rfl rfl rfl (by have := HL2.out; have := HL3.out; have := HL4.out; have := HL5.out; have := HL6.out; have := HL7.out; have := HL8.out; have := HL9.out; (try simp only [List.length_append, List.length_cons, List.length_nil]); omega) ?_)
      go_ret
      have e1 : Pr.definition tk f r = ((([32, 40, 51]) ++ (x2 ++ x3 ++ x4)) ++ (x5 ++ x6 ++ x7) ++ x8 ++ x9 ++ [41], r9) := by
        unfold Pr.definition Pr.defn
        simp only [HH.out, HD.out, HLI.out]
        unfold Pr.defRest
        simp only [HX5.out, HX6.out, HX7.out, HX8.out, HX9.out]
      rw [e1]
      exact ⟨by simp [Pr.bin], Q9.out.1⟩
end
end Go.Proofs.YtpkhdlnlkeehhaaGreatDoor
/- Plain: the tokens of a text: the last one alone is the end; they stand one behind another. No program in sight. -/
namespace Go.Proofs.YtpkhdlnlkeehhaaGreatDoor.Pc
open Tr

def tkOf (t : Lx.Tok) : Tk := ⟨t.kind, t.lead, t.text, t.pos⟩
/-- Tokens that were read so far: none is the end; each stands no farther than the next one. -/
def SoFar (acc : List Lx.Tok) (p : Nat) : Prop := (∀ t ∈ acc, t.kind ≠ 5) ∧ acc.Pairwise (fun a b => a.pos ≤ b.pos) ∧ ∀ t ∈ acc, t.pos ≤ p
theorem SoFar.snoc {acc : List Lx.Tok} {p q : Nat} (h : SoFar acc p) {t : Lx.Tok} (hk : t.kind ≠ 5) (hp : p ≤ t.pos) (hq : t.pos ≤ q) : SoFar (acc ++ [t]) q := by
  refine ⟨fun x hx => ?_, ?_, fun x hx => ?_⟩
  · rcases List.mem_append.1 hx with hx | hx
    · exact h.1 x hx
    · rw [List.mem_singleton.1 hx]
      exact hk
  · rw [List.pairwise_append]
    refine ⟨h.2.1, by simp, fun a ha b hb => ?_⟩
    rw [List.mem_singleton.1 hb]
    exact Nat.le_trans (h.2.2 a ha) hp
  · rcases List.mem_append.1 hx with hx | hx
    · exact Nat.le_trans (h.2.2 x hx) (Nat.le_trans hp hq)
    · rw [List.mem_singleton.1 hx]
      exact hq
/-- A text's tokens. -/
structure LexedTo (ts : List Lx.Tok) : Prop where
  ends : ∃ (init : List Lx.Tok) (z : Lx.Tok), ts = init ++ [z] ∧ z.kind = 5 ∧ z.text = [] ∧ (∀ t ∈ init, t.kind ≠ 5)
  rising : ts.Pairwise fun a b => a.pos ≤ b.pos
theorem token_end {r : List UInt8} (he : (Lx.token r).2.2 = 0) (hk : (Lx.token r).1 = 5) : (Lx.token r).2.1 = [] := by
  have h := (Lx.token_text r he).2.1 hk
  rw [h]
  rfl
theorem lexGo_to : ∀ (n : Nat) (r : List UInt8) (p : Nat) (acc : List Lx.Tok), r.length < n → (Lx.lexGo n r p acc).2.1 = 0 → SoFar acc p → LexedTo (Lx.lexGo n r p acc).1
  | 0, _, _, _, h, _, _ => absurd h (by omega)
  | n + 1, r, p, acc, h, hz, hs => by
    by_cases he : (Lx.token (r.drop (Lx.between r).length)).2.2 = 0
    · have ht := Lx.token_text (r.drop (Lx.between r).length) he
      by_cases hk : (Lx.token (r.drop (Lx.between r).length)).1 = 5
      · rw [Lx.lexGo_end he hk]
        refine ⟨⟨acc, _, rfl, hk, token_end he hk, hs.1⟩, ?_⟩
        rw [List.pairwise_append]
        refine ⟨hs.2.1, by simp, fun a ha b hb => ?_⟩
        rw [List.mem_singleton.1 hb]
        exact Nat.le_trans (hs.2.2 a ha) (Nat.le_add_right _ _)
      · rw [Lx.lexGo_on he hk] at hz ⊢
        have h3 := ht.2.2 hk
        have h4 := ht.1.length_le
        simp only [List.length_drop] at h4
        exact lexGo_to n _ _ _ (by simp only [List.length_drop]; omega) hz (hs.snoc hk (Nat.le_add_right _ _) (Nat.le_add_right _ _))
    · rw [Lx.lexGo_bad he] at hz
      exact absurd hz he
theorem lex_to {l : List UInt8} (h : (Lx.lex l).2.1 = 0) : LexedTo (Lx.lex l).1 := by
  unfold Lx.lex at h ⊢
  split at h
  · exact absurd h (by simp)
  · rename_i hs
    rw [if_neg hs]
    exact lexGo_to _ _ _ _ (by omega) h ⟨fun t ht => (by cases ht), List.Pairwise.nil, fun t ht => (by cases ht)⟩
theorem LexedTo.toks {ts : List Lx.Tok} (h : LexedTo ts) : Toks (ts.map tkOf) := by
  obtain ⟨init, z, rfl, h1, h2, h3⟩ := h.ends
  refine ⟨by simp, fun k hk => ?_, fun i k hi hk => ?_⟩
  · simp only [List.length_map, List.length_append, List.length_singleton, Nat.add_sub_cancel, List.map_append] at hk
    rw [List.getElem?_append_right (by simp)] at hk
    simp only [List.length_map, Nat.sub_self, List.map_cons, List.map_nil, List.getElem?_cons_zero, Option.some.injEq] at hk
    subst hk
    exact ⟨by simp [tkOf, h1], h2⟩
  · simp only [List.length_map, List.length_append, List.length_singleton] at hi
    rw [List.map_append, List.getElem?_append_left (by simp; omega), List.getElem?_map] at hk
    cases hx : init[i]? with
    | none => rw [hx] at hk; cases hk
    | some t =>
      rw [hx] at hk
      simp only [Option.map_some, Option.some.injEq] at hk
      subst hk
      have := h3 t (List.mem_of_getElem? hx)
      simp only [tkOf]
      omega
theorem get_lt' {α : Type} {l : List α} {i : Nat} {x : α} (h : l[i]? = some x) : i < l.length := by
  rcases Nat.lt_or_ge i l.length with h1 | h1
  · exact h1
  · rw [List.getElem?_eq_none h1] at h; cases h
theorem LexedTo.pos {ts : List Lx.Tok} (h : LexedTo ts) {i j : Nat} {a b : Tk} (hij : i ≤ j) (ha : (ts.map tkOf)[i]? = some a) (hb : (ts.map tkOf)[j]? = some b) : a.pos ≤ b.pos := by
  rcases Nat.lt_or_ge i j with hlt | hge
  · rw [List.getElem?_map] at ha hb
    cases hx : ts[i]? with
    | none => rw [hx] at ha; cases ha
    | some x =>
      cases hy : ts[j]? with
      | none => rw [hy] at hb; cases hb
      | some y =>
        rw [hx] at ha
        rw [hy] at hb
        simp only [Option.map_some, Option.some.injEq] at ha hb
        subst ha hb
        have h1 := List.pairwise_iff_getElem.1 h.rising i j (get_lt' hx) (get_lt' hy) hlt
        rw [List.getElem?_eq_getElem (get_lt' hx)] at hx
        rw [List.getElem?_eq_getElem (get_lt' hy)] at hy
        simp only [Option.some.injEq] at hx hy
        rw [hx, hy] at h1
        simp only [tkOf]
        omega
  · obtain rfl : i = j := by omega
    rw [ha] at hb
    simp only [Option.some.injEq] at hb
    rw [hb]
    exact Int.le_refl _
end Go.Proofs.YtpkhdlnlkeehhaaGreatDoor.Pc
/- Plain law: a text's tokens are the text; at least one stands there, the last one the end. No program in sight. -/
namespace Go.Proofs.YtpkhdlnlkeehhaaGreatDoor.Lx

/-- The text of tokens. -/
def whole (l : List Tok) : List UInt8 := l.flatMap fun t => t.lead ++ t.text
theorem lexGo_whole : ∀ (n : Nat) (r : List UInt8) (p : Nat) (acc : List Tok), r.length < n → (lexGo n r p acc).2.1 = 0 → whole (lexGo n r p acc).1 = whole acc ++ r ∧ acc.length < (lexGo n r p acc).1.length ∧ (lexGo n r p acc).1.length ≤ acc.length + r.length + 1
  | 0, _, _, _, h, _ => absurd h (by omega)
  | n + 1, r, p, acc, h, hz => by
    have hb := between_take r
    by_cases he : (token (r.drop (between r).length)).2.2 = 0
    · have ht := token_text (r.drop (between r).length) he
      by_cases hk : (token (r.drop (between r).length)).1 = 5
      · rw [lexGo_end he hk]
        have h1 := ht.2.1 hk
        rw [h1] at hb
        have h2 : (token (r.drop (between r).length)).2.1 = [] := by
          have h3 := ht.1
          rw [h1] at h3 ⊢
          exact List.prefix_nil.1 h3
        have hb1 : between r = r := by
          have := hb.1
          rw [hb.2, List.append_nil] at this
          exact this
        refine ⟨?_, by simp, by simp⟩
        simp only [whole, List.flatMap_append, List.flatMap_cons, List.flatMap_nil, List.append_nil, h2]
        rw [hb1]
      · rw [lexGo_on he hk] at hz ⊢
        have h3 := ht.2.2 hk
        have h4 := ht.1.length_le
        simp only [List.length_drop] at h4
        have ih := lexGo_whole n _ _ _ (by simp only [List.length_drop]; omega) hz
        obtain ⟨i1, i2, i3⟩ := ih
        refine ⟨?_, ?_, ?_⟩
        · rw [i1]
          simp only [whole, List.flatMap_append, List.flatMap_cons, List.flatMap_nil, List.append_nil, List.append_assoc]
          congr 1
          obtain ⟨y, hy⟩ := ht.1
          have h5 : (token (r.drop (between r).length)).2.1 ++ (r.drop (between r).length).drop (token (r.drop (between r).length)).2.1.length = r.drop (between r).length := by
            generalize (token (r.drop (between r).length)).2.1 = z at hy
            rw [← hy]
            simp
          rw [h5]
          have := hb.1
          rw [hb.2] at this
          exact this
        · simp only [List.length_append, List.length_cons, List.length_nil] at i2
          omega
        · simp only [List.length_append, List.length_cons, List.length_nil, List.length_drop] at i3
          omega
    · rw [lexGo_bad he] at hz
      exact absurd hz he
theorem lex_whole {l : List UInt8} (h : (lex l).2.1 = 0) : whole (lex l).1 = l ∧ 0 < (lex l).1.length ∧ (lex l).1.length ≤ l.length + 1 := by
  unfold lex at h ⊢
  split at h
  · exact absurd h (by simp)
  · rename_i hs
    rw [if_neg hs]
    have := lexGo_whole (l.length + 1) l 0 [] (by omega) h
    simpa [whole] using this
end Go.Proofs.YtpkhdlnlkeehhaaGreatDoor.Lx
namespace Go.Proofs.YtpkhdlnlkeehhaaGreatDoor
theorem whole_toTk (l : List Lx.Tok) : wholeOf (l.map toTk) = Lx.whole l := by
  simp only [wholeOf, Lx.whole, List.flatMap_map]
  rfl
end Go.Proofs.YtpkhdlnlkeehhaaGreatDoor
