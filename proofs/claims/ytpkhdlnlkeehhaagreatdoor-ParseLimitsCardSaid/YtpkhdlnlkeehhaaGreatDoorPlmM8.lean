/- Contracts and plain laws, in one text. The document's parser: args, name, atom: the walks. -/
import Derived.Test.YtpkhdlnlkeehhaaGreatDoorPlmM7
/- The document's parser: args, name, atom: the walks. -/
namespace Go.Proofs.YtpkhdlnlkeehhaaGreatDoor
open Go.RowKit

theorem argsGo_on {tk : List Tr.Tk} {f : Pr.G} {n k : Nat} {a : List UInt8} {s : Pr.Rs} (h : Pr.is tk [44] s = true) :
    Pr.argsGo tk f (n + 1) k a s = Pr.argsGo tk f n (k + 1) (a ++ (Pr.leaf tk s).1 ++ (f (if k = 8 then Pr.fail tk 15 (Pr.leaf tk s).2 else (Pr.leaf tk s).2)).1) (f (if k = 8 then Pr.fail tk 15 (Pr.leaf tk s).2 else (Pr.leaf tk s).2)).2 := by
  rw [Pr.argsGo, if_pos h]
theorem argsGo_off {tk : List Tr.Tk} {f : Pr.G} (n : Nat) {k : Nat} {a : List UInt8} {s : Pr.Rs} (h : Pr.is tk [44] s = false) : Pr.argsGo tk f n k a s = (a, s) := by
  cases n with
  | zero => rfl
  | succ n => rw [Pr.argsGo, if_neg (by simp [h])]
theorem leaf_next {tk : List Tr.Tk} {s : Pr.Rs} (h : (Pr.tok tk s.i).kind ≠ 5) : (Pr.leaf tk s).2.i = s.i + 1 := by
  unfold Pr.leaf
  rw [if_neg h]
theorem name_fits {tk : List Tr.Tk} (ht : Pc.Toks tk) {f : Pr.G} (hx : Pr.Fit tk f 0) {s : Pr.Rs} (hs : s.i < tk.length) (hk : (Pr.tok tk s.i).kind ≠ 5) : Pr.Fits tk s (Pr.name tk f s) 0 := by
  have h : Pr.Fits tk s ((Pr.leaf tk s).1, (Pr.leaf tk s).2) (-11) := Pr.leaf_fits ht hs hk
  unfold Pr.name
  simp only
  split
  · exact (h.text (y := [32, 40, 49, 52] ++ (Pr.leaf tk s).1 ++ [41]) (d := 5) (by simp; omega)).mono (by omega)
  · exact (Pr.call_fits ht hx (Pr.callee_fits ht h)).mono (by omega)
section
variable {w0 : World} {p : Nat} {vt : Value} {tk : List Tr.Tk} {dp : Int}
theorem QI.kind {w0 W : World} {p g o L c : Nat} {tk : List Tr.Tk} {dp : Int} {r : Pr.Rs} (h : QI w0 W p (.slice (some ⟨g, o, none⟩) L c) tk dp r) (hi : r.i < tk.length) : W.cell? ⟨g, o + r.i * 4, none⟩ = some (.int .i64 (Pr.tok tk r.i).kind) := by
  obtain ⟨g', o', c', e, _, hrg⟩ := h.tok hi
  simp only [Value.slice.injEq, Option.some.injEq, Addr.mk.injEq] at e
  obtain ⟨⟨rfl, rfl, _⟩, _, rfl⟩ := e
  exact hrg 0 _ rfl
theorem QI.inn {w0 W : World} {p : Nat} {vt : Value} {tk : List Tr.Tk} {dp : Int} {r : Pr.Rs} (h : QI w0 W p vt tk dp r) (y : Bool) : QI w0 (W.setCell ⟨p, 3, none⟩ (.bool y)) p vt tk dp { r with inn := y } :=
  h.set rfl rfl rfl (by simp [World.setCell]) (setCell_row (j := 3) h.cell (.bool y)) (fun k hk => by rw [Below.heap_setCell _ _ _ _ hk])
theorem Fits_state {r : Pr.Rs} {x : List UInt8} {s s' : Pr.Rs} {c : Int} (h : Pr.Fits tk r (x, s) c) (hs : s'.i = s.i) : Pr.Fits tk r (x, s') c := h.state hs

set_option maxRecDepth 100000 in
set_option maxHeartbeats 4000000 in
theorem qargs_calls (ho : QOk tk) {n : Int} (hn0 : 0 ≤ n) (hn1 : n ≤ 300) {f : Pr.G} (hf : Pr.Fit tk f 0) (hk : QKnows w0 p vt tk dp 42 #[.pointer (some ⟨p, 0, none⟩), .int .i64 (n + 1)] f) : QKnows w0 p vt tk dp 152 #[.pointer (some ⟨p, 0, none⟩), .int .i64 n] (Pr.args tk f) := by
  intro W r h hi
  have HO := Lib.hid ho
  have Q0 := Lib.hid (And.intro h hi)
  have HK := Lib.hid hk
  have HFIT := Lib.hid hf
  clear ho h hi hf hk
  go_enter Tryz.func152, Tryz.ntmps152
  go_wp2_with (refine wpList_cat rfl _ _ _ _ rfl rfl rfl (by (try simp only [List.length_append, List.length_cons, List.length_nil]); omega) ?_)
  refine (HK.out _ _ Q0.out.1 Q0.out.2).mono ?_
  rintro e W1 ⟨rfl, h⟩
  have hf := HFIT.out r Q0.out.2
  obtain ⟨⟨x1, r1⟩, hx⟩ : ∃ q, f r = q := ⟨_, rfl⟩
  rw [hx] at h hf ⊢
  have hb := HO.out.fits hf (by decide)
  have Q1 := Lib.hid (And.intro h hb.2)
  have HL1 := Lib.hid hb.1
  have HX1 := Lib.hid hx
  clear h hf hx hb
  dsimp only at Q1 HL1 ⊢
  go_wp2_with (refine wpList_cat rfl _ _ _ _ rfl rfl rfl (by have := HL1.out; (try simp only [List.length_append, List.length_cons, List.length_nil]); omega) ?_)
  have HF : Hid (f r = (x1, r1)) := Lib.hid HX1.out
  have hf1 := HFIT.out r Q0.out.2
  rw [HF.out] at hf1
  have e0 : Pr.args tk f r = Pr.argsGo tk f tk.length 1 (x1) r1 := by unfold Pr.args; rw [HF.out]
  go_loopg [5, 6] tk.length (fun g v5 v6 wr => ∃ (m k : Nat) (a : List UInt8) (r2 : Pr.Rs), v5 = .string ⟨a.toArray⟩ ∧ v6 = .int .i64 k ∧ g = m ∧ QI w0 wr p vt tk dp r2 ∧ tk.length ≤ m + r2.i ∧ k ≤ r2.i + 1 ∧ Pr.Fits tk r (a, r2) 0 ∧ Pr.argsGo tk f m k a r2 = Pr.args tk f r)
  case atStart =>
    exact ⟨tk.length, 1, x1, r1, by simp, rfl, rfl, Q1.out.1, by omega, by omega, hf1, e0.symm⟩
  case round =>
    obtain ⟨m, kk, a, r2, rfl, rfl, hkm, h2, hm, hkk, hft, hgo⟩ := hrel
    have Q2 := Lib.hid (And.intro h2 hft.hi)
    have HM := Lib.hid (And.intro hkm (And.intro hm (And.intro hft (And.intro hgo hkk))))
    have HL2 : Hid (a.length ≤ 1000001000) := Lib.hid (HO.out.fits hft (by decide)).1
    have hk0 : (0 : Int) ≤ (kk : Int) := by omega
    have hk1 : (kk : Int) ≤ 2000000 := by have := hft.hi; have := HO.out.len; simp only at *; omega
    clear hkm h2 hm hft hgo e0 hf1 hkk HF
    by_cases b0 : Pr.is tk [44] r2 = true
    · have B0 := Lib.hid b0
      clear b0
      by_cases h8 : kk = 8
      · skip
        subst h8
        go_wp2_with (refine wpList_cat rfl _ _ _ _ rfl rfl rfl (by have := HL2.out; (try simp only [List.length_append, List.length_cons, List.length_nil]); omega) ?_)
        have hcall := qis_calls Q2.out.1 Q2.out.2 HO.out [44]
        rw [B0.out] at hcall
        refine hcall.mono ?_
        rintro e W21 ⟨rfl, h⟩
        have Q21 := Lib.hid (And.intro h Q2.out.2)
        clear h hcall
        dsimp only
        go_wp2_with (refine wpList_cat rfl _ _ _ _ rfl rfl rfl (by have := HL2.out; (try simp only [List.length_append, List.length_cons, List.length_nil]); omega) ?_)
        refine (qleaf_calls Q21.out.1 Q21.out.2 HO.out).mono ?_
        rintro e W22 ⟨rfl, h⟩
        have hf := Pr.leaf_fits HO.out.toks Q21.out.2 (Pr.is_kind B0.out).1
        obtain ⟨⟨x22, r22⟩, hx⟩ : ∃ q, Pr.leaf tk r2 = q := ⟨_, rfl⟩
        rw [hx] at h hf ⊢
        have hb := HO.out.fits hf (by decide)
        have Q22 := Lib.hid (And.intro h hb.2)
        have HL22 := Lib.hid hb.1
        have HX22 := Lib.hid hx
        clear h hf hx hb
        dsimp only at Q22 HL22 ⊢
        go_wp2_with (refine wpList_cat rfl _ _ _ _ rfl rfl rfl (by have := HL2.out; have := HL22.out; (try simp only [List.length_append, List.length_cons, List.length_nil]); omega) ?_)
        refine (qfail_calls Q22.out.1 Q22.out.2 HO.out 15).mono ?_
        rintro e W23 ⟨rfl, h⟩
        obtain ⟨r23, hx⟩ : ∃ q, Pr.fail tk 15 r22 = q := ⟨_, rfl⟩
        have hi := (by rw [Pr.fail_i]; exact Q22.out.2 : (Pr.fail tk 15 r22).i < tk.length)
        rw [hx] at h hi
        have Q23 := Lib.hid (And.intro h hi)
        have HX23 := Lib.hid hx
        clear h hi hx
        dsimp only
        go_wp2_with (refine wpList_cat rfl _ _ _ _ rfl rfl rfl (by have := HL2.out; have := HL22.out; (try simp only [List.length_append, List.length_cons, List.length_nil]); omega) ?_)
        refine (HK.out _ _ Q23.out.1 Q23.out.2).mono ?_
        rintro e W24 ⟨rfl, h⟩
        have hf := HFIT.out r23 Q23.out.2
        obtain ⟨⟨x24, r24⟩, hx⟩ : ∃ q, f r23 = q := ⟨_, rfl⟩
        rw [hx] at h hf ⊢
        have hb := HO.out.fits hf (by decide)
        have Q24 := Lib.hid (And.intro h hb.2)
        have HL24 := Lib.hid hb.1
        have HX24 := Lib.hid hx
        clear h hf hx hb
        dsimp only at Q24 HL24 ⊢
        go_wp2_with (refine wpList_cat rfl _ _ _ _ rfl rfl rfl (by have := HL2.out; have := HL22.out; have := HL24.out; (try simp only [List.length_append, List.length_cons, List.length_nil]); omega) ?_)
        have HF : Hid (f r23 = (x24, r24)) := Lib.hid HX24.out
        go_roundg (m - 1)
        case measure => have := HM.out.1; have := HM.out.2.1; have := Q2.out.2; omega
        case rel =>
          have hgo := HM.out.2.2.2.1
          have hm := HM.out.2.1
          have hi2 := Q2.out.2
          have hkk := HM.out.2.2.2.2
          obtain ⟨m2, hm2⟩ : ∃ m2, m = m2 + 1 := ⟨m - 1, by omega⟩
          rw [hm2, argsGo_on B0.out, HX22.out] at hgo
          rw [if_pos rfl, HX23.out, HF.out] at hgo
          have hl := Pr.leaf_fits HO.out.toks Q2.out.2 (Pr.is_kind B0.out).1
          have hn := leaf_next (Pr.is_kind B0.out).1
          rw [HX22.out] at hl hn
          have hp := HFIT.out r23 Q23.out.2
          rw [HF.out] at hp
          have h1 : r23.i ≤ r24.i := hp.lo
          have h2 : r22.i = r2.i + 1 := hn
          have h3 : r23.i = r22.i := by rw [← HX23.out]; exact Pr.fail_i _ _
          have hl2 : Pr.Fits tk r2 (x22, r23) (-11) := Fits_state hl h3
          have hfin := ((HM.out.2.2.1.then hl2).then hp).mono (d := 0) (by omega)
          refine ⟨m - 1, 8 + 1, a ++ x22 ++ (x24), r24, by simp, by go_num, rfl, Q24.out.1, by omega, by omega, hfin, ?_⟩
          rw [show m - 1 = m2 by omega]
          exact hgo
      · skip
        have h8n : ((kk : Int) == 8) = false := by simp; omega
        have H8 := Lib.hid h8
        clear h8
        go_wp2_with (refine wpList_cat rfl _ _ _ _ rfl rfl rfl (by have := HL2.out; (try simp only [List.length_append, List.length_cons, List.length_nil]); omega) ?_)
        have hcall := qis_calls Q2.out.1 Q2.out.2 HO.out [44]
        rw [B0.out] at hcall
        refine hcall.mono ?_
        rintro e W21 ⟨rfl, h⟩
        have Q21 := Lib.hid (And.intro h Q2.out.2)
        clear h hcall
        dsimp only
        go_wp2_with (refine wpList_cat rfl _ _ _ _ rfl rfl rfl (by have := HL2.out; (try simp only [List.length_append, List.length_cons, List.length_nil]); omega) ?_)
        refine (qleaf_calls Q21.out.1 Q21.out.2 HO.out).mono ?_
        rintro e W22 ⟨rfl, h⟩
        have hf := Pr.leaf_fits HO.out.toks Q21.out.2 (Pr.is_kind B0.out).1
        obtain ⟨⟨x22, r22⟩, hx⟩ : ∃ q, Pr.leaf tk r2 = q := ⟨_, rfl⟩
        rw [hx] at h hf ⊢
        have hb := HO.out.fits hf (by decide)
        have Q22 := Lib.hid (And.intro h hb.2)
        have HL22 := Lib.hid hb.1
        have HX22 := Lib.hid hx
        clear h hf hx hb
        dsimp only at Q22 HL22 ⊢
        go_wp2_with (refine wpList_cat rfl _ _ _ _ rfl rfl rfl (by have := HL2.out; have := HL22.out; (try simp only [List.length_append, List.length_cons, List.length_nil]); omega) ?_)
        refine (HK.out _ _ Q22.out.1 Q22.out.2).mono ?_
        rintro e W23 ⟨rfl, h⟩
        have hf := HFIT.out r22 Q22.out.2
        obtain ⟨⟨x23, r23⟩, hx⟩ : ∃ q, f r22 = q := ⟨_, rfl⟩
        rw [hx] at h hf ⊢
        have hb := HO.out.fits hf (by decide)
        have Q23 := Lib.hid (And.intro h hb.2)
        have HL23 := Lib.hid hb.1
        have HX23 := Lib.hid hx
        clear h hf hx hb
        dsimp only at Q23 HL23 ⊢
        go_wp2_with (refine wpList_cat rfl _ _ _ _ rfl rfl rfl (by have := HL2.out; have := HL22.out; have := HL23.out; (try simp only [List.length_append, List.length_cons, List.length_nil]); omega) ?_)
        have HF : Hid (f r22 = (x23, r23)) := Lib.hid HX23.out
        go_roundg (m - 1)
        case measure => have := HM.out.1; have := HM.out.2.1; have := Q2.out.2; omega
        case rel =>
          have hgo := HM.out.2.2.2.1
          have hm := HM.out.2.1
          have hi2 := Q2.out.2
          have hkk := HM.out.2.2.2.2
          obtain ⟨m2, hm2⟩ : ∃ m2, m = m2 + 1 := ⟨m - 1, by omega⟩
          rw [hm2, argsGo_on B0.out, HX22.out] at hgo
          rw [if_neg H8.out, HF.out] at hgo
          have hl := Pr.leaf_fits HO.out.toks Q2.out.2 (Pr.is_kind B0.out).1
          have hn := leaf_next (Pr.is_kind B0.out).1
          rw [HX22.out] at hl hn
          have hp := HFIT.out r22 Q22.out.2
          rw [HF.out] at hp
          have h1 : r22.i ≤ r23.i := hp.lo
          have h2 : r22.i = r2.i + 1 := hn
          have h3 : r22.i = r22.i := rfl
          have hl2 : Pr.Fits tk r2 (x22, r22) (-11) := hl
          have hfin := ((HM.out.2.2.1.then hl2).then hp).mono (d := 0) (by omega)
          refine ⟨m - 1, kk + 1, a ++ x22 ++ (x23), r23, by simp, by go_num, rfl, Q23.out.1, by omega, by omega, hfin, ?_⟩
          rw [show m - 1 = m2 by omega]
          exact hgo
    · skip
      rw [Bool.not_eq_true] at b0
      have B0 := Lib.hid b0
      clear b0
      go_wp2_with (refine wpList_cat rfl _ _ _ _ rfl rfl rfl (by have := HL2.out; (try simp only [List.length_append, List.length_cons, List.length_nil]); omega) ?_)
      have hcall := qis_calls Q2.out.1 Q2.out.2 HO.out [44]
      rw [B0.out] at hcall
      refine hcall.mono ?_
      rintro e W21 ⟨rfl, h⟩
      have Q21 := Lib.hid (And.intro h Q2.out.2)
      clear h hcall
      dsimp only
      go_wp2_with (refine wpList_cat rfl _ _ _ _ rfl rfl rfl (by have := HL2.out; (try simp only [List.length_append, List.length_cons, List.length_nil]); omega) ?_)
      go_ret
      have hgo := HM.out.2.2.2.1
      rw [argsGo_off _ B0.out] at hgo
      rw [← hgo]
      exact ⟨by simp, Q21.out.1⟩

set_option maxRecDepth 100000 in
set_option maxHeartbeats 4000000 in
theorem qname_calls (ho : QOk tk) {n : Int} (hn0 : 0 ≤ n) (hn1 : n ≤ 300) {f : Pr.G} (hf : Pr.Fit tk f 0) (hk : QKnows w0 p vt tk dp 42 #[.pointer (some ⟨p, 0, none⟩), .int .i64 (n + 1)] f) {W : World} {r : Pr.Rs} (h : QI w0 W p vt tk dp r) (hi : r.i < tk.length) (hkd : (Pr.tok tk r.i).kind ≠ 5) :
    Calls Tryz.prog 151 #[.pointer (some ⟨p, 0, none⟩), .int .i64 n] W (Gives w0 p vt tk dp (Pr.name tk f r)) := by
  have HO := Lib.hid ho
  have Q0 := Lib.hid (And.intro h hi)
  have HK := Lib.hid (And.intro (qargs_calls ho hn0 hn1 hf hk) (Pr.args_fits ho.toks (by decide) hf))
  have HKD := Lib.hid hkd
  clear ho h hi hf hk hkd
  obtain ⟨⟨x1, r1⟩, hx1⟩ : ∃ q, Pr.leaf tk r = q := ⟨_, rfl⟩
  have HXX := Lib.hid hx1
  clear hx1
  cases hcl : r1.inn
  · have HCL := Lib.hid hcl
    clear hcl
    by_cases bd : Pr.is tk [46] r1 = true
    · have BD := Lib.hid bd
      clear bd
      go_enter Tryz.func151, Tryz.ntmps151
      go_wp2_with (refine wpList_cat rfl _ _ _ _ rfl rfl rfl (by (try simp only [List.length_append, List.length_cons, List.length_nil]); omega) ?_)
      refine (qleaf_calls Q0.out.1 Q0.out.2 HO.out).mono ?_
      rintro e W1 ⟨rfl, h⟩
      have hf := Pr.leaf_fits HO.out.toks Q0.out.2 HKD.out
      rw [HXX.out] at h hf ⊢
      have hb := HO.out.fits hf (by decide)
      have Q1 := Lib.hid (And.intro h hb.2)
      have HL1 : Hid (x1.length ≤ 1000001000) := Lib.hid hb.1
      have c3 := h.c3
      clear h hf hb
      dsimp only at Q1 ⊢
      have HCL2 := HCL.out
      rw [HCL2] at c3
      clear HCL2
      go_wp2_with (refine wpList_cat rfl _ _ _ _ rfl rfl rfl (by have := HL1.out; (try simp only [List.length_append, List.length_cons, List.length_nil]); omega) ?_)
      clear c3
      have hcall := qis_calls Q1.out.1 Q1.out.2 HO.out [46]
      rw [BD.out] at hcall
      refine hcall.mono ?_
      rintro e W2 ⟨rfl, h⟩
      have Q2 := Lib.hid (And.intro h Q1.out.2)
      clear h hcall
      dsimp only
      go_wp2_with (refine wpList_cat rfl _ _ _ _ rfl rfl rfl (by have := HL1.out; (try simp only [List.length_append, List.length_cons, List.length_nil]); omega) ?_)
      have hcall := qis_calls Q2.out.1 Q2.out.2 HO.out [46]
      rw [BD.out] at hcall
      refine hcall.mono ?_
      rintro e W3 ⟨rfl, h⟩
      have Q3 := Lib.hid (And.intro h Q2.out.2)
      clear h hcall
      dsimp only
      go_wp2_with (refine wpList_cat rfl _ _ _ _ rfl rfl rfl (by have := HL1.out; (try simp only [List.length_append, List.length_cons, List.length_nil]); omega) ?_)
      refine (qleaf_calls Q3.out.1 Q3.out.2 HO.out).mono ?_
      rintro e W4 ⟨rfl, h⟩
      have hf := Pr.leaf_fits HO.out.toks Q3.out.2 (Pr.is_kind BD.out).1
      obtain ⟨⟨x4, r4⟩, hx⟩ : ∃ q, Pr.leaf tk r1 = q := ⟨_, rfl⟩
      rw [hx] at h hf ⊢
      have hb := HO.out.fits hf (by decide)
      have Q4 := Lib.hid (And.intro h hb.2)
      have HL4 := Lib.hid hb.1
      have HX4 := Lib.hid hx
      clear h hf hx hb
      dsimp only at Q4 HL4 ⊢
      go_wp2_with (refine wpList_cat rfl _ _ _ _ rfl rfl rfl (by have := HL1.out; have := HL4.out; (try simp only [List.length_append, List.length_cons, List.length_nil]); omega) ?_)
      refine (qkind_calls Q4.out.1 Q4.out.2 HO.out 1).mono ?_
      rintro e W5 ⟨rfl, h⟩
      have hf := Pr.kind_fits0 HO.out.toks (k := 1) (by decide) r4 Q4.out.2
      obtain ⟨⟨x5, r5⟩, hx⟩ : ∃ q, Pr.kind tk 1 r4 = q := ⟨_, rfl⟩
      rw [hx] at h hf ⊢
      have hb := HO.out.fits hf (by decide)
      have Q5 := Lib.hid (And.intro h hb.2)
      have HL5 := Lib.hid hb.1
      have HX5 := Lib.hid hx
      clear h hf hx hb
      dsimp only at Q5 HL5 ⊢
      go_wp2_with (refine wpList_cat rfl _ _ _ _ rfl rfl rfl (by have := HL1.out; have := HL4.out; have := HL5.out; (try simp only [List.length_append, List.length_cons, List.length_nil]); omega) ?_)
      refine (qmust_calls Q5.out.1 Q5.out.2 HO.out [40]).mono ?_
      rintro e W6 ⟨rfl, h⟩
      have hf := Pr.must_fits HO.out.toks [40] r5 Q5.out.2
      obtain ⟨⟨x6, r6⟩, hx⟩ : ∃ q, Pr.must tk [40] r5 = q := ⟨_, rfl⟩
      rw [hx] at h hf ⊢
      have hb := HO.out.fits hf (by decide)
      have Q6 := Lib.hid (And.intro h hb.2)
      have HL6 := Lib.hid hb.1
      have HX6 := Lib.hid hx
      clear h hf hx hb
      dsimp only at Q6 HL6 ⊢
      by_cases b3 : Pr.is tk [41] r6 = true
      · skip
        have B3 := Lib.hid b3
        clear b3
        go_wp2_with (refine wpList_cat rfl _ _ _ _ rfl rfl rfl (by have := HL1.out; have := HL4.out; have := HL5.out; have := HL6.out; (try simp only [List.length_append, List.length_cons, List.length_nil]); omega) ?_)
        have hcall := qis_calls Q6.out.1 Q6.out.2 HO.out [41]
        rw [B3.out] at hcall
        refine hcall.mono ?_
        rintro e W7 ⟨rfl, h⟩
        have Q7 := Lib.hid (And.intro h Q6.out.2)
        clear h hcall
        dsimp only
        go_wp2_with (refine wpList_cat rfl _ _ _ _ rfl rfl rfl (by have := HL1.out; have := HL4.out; have := HL5.out; have := HL6.out; (try simp only [List.length_append, List.length_cons, List.length_nil]); omega) ?_)
        refine (qmust_calls Q7.out.1 Q7.out.2 HO.out [41]).mono ?_
        rintro e W8 ⟨rfl, h⟩
        have hf := Pr.must_fits HO.out.toks [41] r6 Q7.out.2
        obtain ⟨⟨x8, r8⟩, hx⟩ : ∃ q, Pr.must tk [41] r6 = q := ⟨_, rfl⟩
        rw [hx] at h hf ⊢
        have hb := HO.out.fits hf (by decide)
        have Q8 := Lib.hid (And.intro h hb.2)
        have HL8 := Lib.hid hb.1
        have HX8 := Lib.hid hx
        clear h hf hx hb
        dsimp only at Q8 HL8 ⊢
        go_wp2_with (refine wpList_cat rfl _ _ _ _ rfl rfl rfl (by have := HL1.out; have := HL4.out; have := HL5.out; have := HL6.out; have := HL8.out; (try simp only [List.length_append, List.length_cons, List.length_nil]); omega) ?_)
        go_ret
        have e1 : Pr.name tk f r = ([32, 40, 49, 51] ++ ((x1 ++ (x4 ++ x5)) ++ x6) ++ x8 ++ [41], r8) := by
          unfold Pr.name
          simp only [HXX.out, HCL.out, BD.out, Bool.not_true, Bool.false_and, Bool.false_or, Bool.false_eq_true, if_false]
          unfold Pr.callee
          rw [if_pos BD.out]
          simp only [HX4.out, HX5.out]
          unfold Pr.call
          simp only [HX6.out]
          rw [if_pos B3.out]
          simp only [HX8.out]
        rw [e1]
        exact ⟨by simp [Pr.bin], Q8.out.1⟩
      · skip
        rw [Bool.not_eq_true] at b3
        have B3 := Lib.hid b3
        clear b3
        go_wp2_with (refine wpList_cat rfl _ _ _ _ rfl rfl rfl (by have := HL1.out; have := HL4.out; have := HL5.out; have := HL6.out; (try simp only [List.length_append, List.length_cons, List.length_nil]); omega) ?_)
        have hcall := qis_calls Q6.out.1 Q6.out.2 HO.out [41]
        rw [B3.out] at hcall
        refine hcall.mono ?_
        rintro e W7 ⟨rfl, h⟩
        have Q7 := Lib.hid (And.intro h Q6.out.2)
        clear h hcall
        dsimp only
        go_wp2_with (refine wpList_cat rfl _ _ _ _ rfl rfl rfl (by have := HL1.out; have := HL4.out; have := HL5.out; have := HL6.out; (try simp only [List.length_append, List.length_cons, List.length_nil]); omega) ?_)
        refine (HK.out.1 _ _ Q7.out.1 Q7.out.2).mono ?_
        rintro e W8 ⟨rfl, h⟩
        have hf := HK.out.2 r6 Q7.out.2
        obtain ⟨⟨x8, r8⟩, hx⟩ : ∃ q, Pr.args tk f r6 = q := ⟨_, rfl⟩
        rw [hx] at h hf ⊢
        have hb := HO.out.fits hf (by decide)
        have Q8 := Lib.hid (And.intro h hb.2)
        have HL8 := Lib.hid hb.1
        have HX8 := Lib.hid hx
        clear h hf hx hb
        dsimp only at Q8 HL8 ⊢
        go_wp2_with (refine wpList_cat rfl _ _ _ _ rfl rfl rfl (by have := HL1.out; have := HL4.out; have := HL5.out; have := HL6.out; have := HL8.out; (try simp only [List.length_append, List.length_cons, List.length_nil]); omega) ?_)
        refine (qmust_calls Q8.out.1 Q8.out.2 HO.out [41]).mono ?_
        rintro e W9 ⟨rfl, h⟩
        have hf := Pr.must_fits HO.out.toks [41] r8 Q8.out.2
        obtain ⟨⟨x9, r9⟩, hx⟩ : ∃ q, Pr.must tk [41] r8 = q := ⟨_, rfl⟩
        rw [hx] at h hf ⊢
        have hb := HO.out.fits hf (by decide)
        have Q9 := Lib.hid (And.intro h hb.2)
        have HL9 := Lib.hid hb.1
        have HX9 := Lib.hid hx
        clear h hf hx hb
        dsimp only at Q9 HL9 ⊢
        go_wp2_with (refine wpList_cat rfl _ _ _ _ rfl rfl rfl (by have := HL1.out; have := HL4.out; have := HL5.out; have := HL6.out; have := HL8.out; have := HL9.out; (try simp only [List.length_append, List.length_cons, List.length_nil]); omega) ?_)
        go_ret
        have e1 : Pr.name tk f r = ([32, 40, 49, 51] ++ (((x1 ++ (x4 ++ x5)) ++ x6) ++ x8) ++ x9 ++ [41], r9) := by
          unfold Pr.name
          simp only [HXX.out, HCL.out, BD.out, Bool.not_true, Bool.false_and, Bool.false_or, Bool.false_eq_true, if_false]
          unfold Pr.callee
          rw [if_pos BD.out]
          simp only [HX4.out, HX5.out]
          unfold Pr.call
          simp only [HX6.out]
          rw [if_neg (by rw [B3.out]; simp)]
          simp only [HX8.out, HX9.out]
        rw [e1]
        exact ⟨by simp [Pr.bin], Q9.out.1⟩
    · rw [Bool.not_eq_true] at bd
      have BD := Lib.hid bd
      clear bd
      by_cases bp : Pr.is tk [40] r1 = true
      · have BP := Lib.hid bp
        clear bp
        go_enter Tryz.func151, Tryz.ntmps151
        go_wp2_with (refine wpList_cat rfl _ _ _ _ rfl rfl rfl (by (try simp only [List.length_append, List.length_cons, List.length_nil]); omega) ?_)
        refine (qleaf_calls Q0.out.1 Q0.out.2 HO.out).mono ?_
        rintro e W1 ⟨rfl, h⟩
        have hf := Pr.leaf_fits HO.out.toks Q0.out.2 HKD.out
        rw [HXX.out] at h hf ⊢
        have hb := HO.out.fits hf (by decide)
        have Q1 := Lib.hid (And.intro h hb.2)
        have HL1 : Hid (x1.length ≤ 1000001000) := Lib.hid hb.1
        have c3 := h.c3
        clear h hf hb
        dsimp only at Q1 ⊢
        have HCL2 := HCL.out
        rw [HCL2] at c3
        clear HCL2
        go_wp2_with (refine wpList_cat rfl _ _ _ _ rfl rfl rfl (by have := HL1.out; (try simp only [List.length_append, List.length_cons, List.length_nil]); omega) ?_)
        clear c3
        have hcall := qis_calls Q1.out.1 Q1.out.2 HO.out [46]
        rw [BD.out] at hcall
        refine hcall.mono ?_
        rintro e W2 ⟨rfl, h⟩
        have Q2 := Lib.hid (And.intro h Q1.out.2)
        clear h hcall
        dsimp only
        go_wp2_with (refine wpList_cat rfl _ _ _ _ rfl rfl rfl (by have := HL1.out; (try simp only [List.length_append, List.length_cons, List.length_nil]); omega) ?_)
        have hcall := qis_calls Q2.out.1 Q2.out.2 HO.out [40]
        rw [BP.out] at hcall
        refine hcall.mono ?_
        rintro e W3 ⟨rfl, h⟩
        have Q3 := Lib.hid (And.intro h Q2.out.2)
        clear h hcall
        dsimp only
        go_wp2_with (refine wpList_cat rfl _ _ _ _ rfl rfl rfl (by have := HL1.out; (try simp only [List.length_append, List.length_cons, List.length_nil]); omega) ?_)
        have hcall := qis_calls Q3.out.1 Q3.out.2 HO.out [46]
        rw [BD.out] at hcall
        refine hcall.mono ?_
        rintro e W4 ⟨rfl, h⟩
        have Q4 := Lib.hid (And.intro h Q3.out.2)
        clear h hcall
        dsimp only
        go_wp2_with (refine wpList_cat rfl _ _ _ _ rfl rfl rfl (by have := HL1.out; (try simp only [List.length_append, List.length_cons, List.length_nil]); omega) ?_)
        refine (qmust_calls Q4.out.1 Q4.out.2 HO.out [40]).mono ?_
        rintro e W5 ⟨rfl, h⟩
        have hf := Pr.must_fits HO.out.toks [40] r1 Q4.out.2
        obtain ⟨⟨x5, r5⟩, hx⟩ : ∃ q, Pr.must tk [40] r1 = q := ⟨_, rfl⟩
        rw [hx] at h hf ⊢
        have hb := HO.out.fits hf (by decide)
        have Q5 := Lib.hid (And.intro h hb.2)
        have HL5 := Lib.hid hb.1
        have HX5 := Lib.hid hx
        clear h hf hx hb
        dsimp only at Q5 HL5 ⊢
        by_cases b3 : Pr.is tk [41] r5 = true
        · skip
          have B3 := Lib.hid b3
          clear b3
          go_wp2_with (refine wpList_cat rfl _ _ _ _ rfl rfl rfl (by have := HL1.out; have := HL5.out; (try simp only [List.length_append, List.length_cons, List.length_nil]); omega) ?_)
          have hcall := qis_calls Q5.out.1 Q5.out.2 HO.out [41]
          rw [B3.out] at hcall
          refine hcall.mono ?_
          rintro e W6 ⟨rfl, h⟩
          have Q6 := Lib.hid (And.intro h Q5.out.2)
          clear h hcall
          dsimp only
          go_wp2_with (refine wpList_cat rfl _ _ _ _ rfl rfl rfl (by have := HL1.out; have := HL5.out; (try simp only [List.length_append, List.length_cons, List.length_nil]); omega) ?_)
          refine (qmust_calls Q6.out.1 Q6.out.2 HO.out [41]).mono ?_
          rintro e W7 ⟨rfl, h⟩
          have hf := Pr.must_fits HO.out.toks [41] r5 Q6.out.2
          obtain ⟨⟨x7, r7⟩, hx⟩ : ∃ q, Pr.must tk [41] r5 = q := ⟨_, rfl⟩
          rw [hx] at h hf ⊢
          have hb := HO.out.fits hf (by decide)
          have Q7 := Lib.hid (And.intro h hb.2)
          have HL7 := Lib.hid hb.1
          have HX7 := Lib.hid hx
          clear h hf hx hb
          dsimp only at Q7 HL7 ⊢
          go_wp2_with (refine wpList_cat rfl _ _ _ _ rfl rfl rfl (by have := HL1.out; have := HL5.out; have := HL7.out; (try simp only [List.length_append, List.length_cons, List.length_nil]); omega) ?_)
          go_ret
          have e1 : Pr.name tk f r = ([32, 40, 49, 51] ++ ((x1) ++ x5) ++ x7 ++ [41], r7) := by
            unfold Pr.name
            simp only [HXX.out, HCL.out, BD.out, BP.out, Bool.not_false, Bool.not_true, Bool.and_false, Bool.false_or, Bool.false_eq_true, if_false]
            unfold Pr.callee
            rw [if_neg (by rw [BD.out]; simp)]
            unfold Pr.call
            simp only [HX5.out]
            rw [if_pos B3.out]
            simp only [HX7.out]
          rw [e1]
          exact ⟨by simp [Pr.bin], Q7.out.1⟩
        · skip
          rw [Bool.not_eq_true] at b3
          have B3 := Lib.hid b3
          clear b3
          go_wp2_with (refine wpList_cat rfl _ _ _ _ rfl rfl rfl (by have := HL1.out; have := HL5.out; (try simp only [List.length_append, List.length_cons, List.length_nil]); omega) ?_)
          have hcall := qis_calls Q5.out.1 Q5.out.2 HO.out [41]
          rw [B3.out] at hcall
          refine hcall.mono ?_
          rintro e W6 ⟨rfl, h⟩
          have Q6 := Lib.hid (And.intro h Q5.out.2)
          clear h hcall
          dsimp only
          go_wp2_with (refine wpList_cat rfl _ _ _ _ rfl rfl rfl (by have := HL1.out; have := HL5.out; (try simp only [List.length_append, List.length_cons, List.length_nil]); omega) ?_)
          refine (HK.out.1 _ _ Q6.out.1 Q6.out.2).mono ?_
          rintro e W7 ⟨rfl, h⟩
          have hf := HK.out.2 r5 Q6.out.2
          obtain ⟨⟨x7, r7⟩, hx⟩ : ∃ q, Pr.args tk f r5 = q := ⟨_, rfl⟩
          rw [hx] at h hf ⊢
          have hb := HO.out.fits hf (by decide)
          have Q7 := Lib.hid (And.intro h hb.2)
          have HL7 := Lib.hid hb.1
          have HX7 := Lib.hid hx
          clear h hf hx hb
          dsimp only at Q7 HL7 ⊢
          go_wp2_with (refine wpList_cat rfl _ _ _ _ rfl rfl rfl (by have := HL1.out; have := HL5.out; have := HL7.out; (try simp only [List.length_append, List.length_cons, List.length_nil]); omega) ?_)
          refine (qmust_calls Q7.out.1 Q7.out.2 HO.out [41]).mono ?_
          rintro e W8 ⟨rfl, h⟩
          have hf := Pr.must_fits HO.out.toks [41] r7 Q7.out.2
          obtain ⟨⟨x8, r8⟩, hx⟩ : ∃ q, Pr.must tk [41] r7 = q := ⟨_, rfl⟩
          rw [hx] at h hf ⊢
          have hb := HO.out.fits hf (by decide)
          have Q8 := Lib.hid (And.intro h hb.2)
          have HL8 := Lib.hid hb.1
          have HX8 := Lib.hid hx
          clear h hf hx hb
          dsimp only at Q8 HL8 ⊢
          go_wp2_with (refine wpList_cat rfl _ _ _ _ rfl rfl rfl (by have := HL1.out; have := HL5.out; have := HL7.out; have := HL8.out; (try simp only [List.length_append, List.length_cons, List.length_nil]); omega) ?_)
          go_ret
          have e1 : Pr.name tk f r = ([32, 40, 49, 51] ++ (((x1) ++ x5) ++ x7) ++ x8 ++ [41], r8) := by
            unfold Pr.name
            simp only [HXX.out, HCL.out, BD.out, BP.out, Bool.not_false, Bool.not_true, Bool.and_false, Bool.false_or, Bool.false_eq_true, if_false]
            unfold Pr.callee
            rw [if_neg (by rw [BD.out]; simp)]
            unfold Pr.call
            simp only [HX5.out]
            rw [if_neg (by rw [B3.out]; simp)]
            simp only [HX7.out, HX8.out]
          rw [e1]
          exact ⟨by simp [Pr.bin], Q8.out.1⟩
      · rw [Bool.not_eq_true] at bp
        have BP := Lib.hid bp
        clear bp
        go_enter Tryz.func151, Tryz.ntmps151
        go_wp2_with (refine wpList_cat rfl _ _ _ _ rfl rfl rfl (by (try simp only [List.length_append, List.length_cons, List.length_nil]); omega) ?_)
        refine (qleaf_calls Q0.out.1 Q0.out.2 HO.out).mono ?_
        rintro e W1 ⟨rfl, h⟩
        have hf := Pr.leaf_fits HO.out.toks Q0.out.2 HKD.out
        rw [HXX.out] at h hf ⊢
        have hb := HO.out.fits hf (by decide)
        have Q1 := Lib.hid (And.intro h hb.2)
        have HL1 : Hid (x1.length ≤ 1000001000) := Lib.hid hb.1
        have c3 := h.c3
        clear h hf hb
        dsimp only at Q1 ⊢
        have HCL2 := HCL.out
        rw [HCL2] at c3
        clear HCL2
        go_wp2_with (refine wpList_cat rfl _ _ _ _ rfl rfl rfl (by have := HL1.out; (try simp only [List.length_append, List.length_cons, List.length_nil]); omega) ?_)
        clear c3
        have hcall := qis_calls Q1.out.1 Q1.out.2 HO.out [46]
        rw [BD.out] at hcall
        refine hcall.mono ?_
        rintro e W2 ⟨rfl, h⟩
        have Q2 := Lib.hid (And.intro h Q1.out.2)
        clear h hcall
        dsimp only
        go_wp2_with (refine wpList_cat rfl _ _ _ _ rfl rfl rfl (by have := HL1.out; (try simp only [List.length_append, List.length_cons, List.length_nil]); omega) ?_)
        have hcall := qis_calls Q2.out.1 Q2.out.2 HO.out [40]
        rw [BP.out] at hcall
        refine hcall.mono ?_
        rintro e W3 ⟨rfl, h⟩
        have Q3 := Lib.hid (And.intro h Q2.out.2)
        clear h hcall
        dsimp only
        go_wp2_with (refine wpList_cat rfl _ _ _ _ rfl rfl rfl (by have := HL1.out; (try simp only [List.length_append, List.length_cons, List.length_nil]); omega) ?_)
        go_ret
        have e1 : Pr.name tk f r = ([32, 40, 49, 52] ++ x1 ++ [41], r1) := by
          unfold Pr.name
          simp only [HXX.out, HCL.out, BD.out, BP.out, Bool.not_false, Bool.and_self, Bool.false_or, if_true]
        rw [e1]
        exact ⟨by simp [Pr.bin], Q3.out.1⟩
  · have HCL := Lib.hid hcl
    clear hcl
    go_enter Tryz.func151, Tryz.ntmps151
    go_wp2_with (refine wpList_cat rfl _ _ _ _ rfl rfl rfl (by (try simp only [List.length_append, List.length_cons, List.length_nil]); omega) ?_)
    refine (qleaf_calls Q0.out.1 Q0.out.2 HO.out).mono ?_
    rintro e W1 ⟨rfl, h⟩
    have hf := Pr.leaf_fits HO.out.toks Q0.out.2 HKD.out
    rw [HXX.out] at h hf ⊢
    have hb := HO.out.fits hf (by decide)
    have Q1 := Lib.hid (And.intro h hb.2)
    have HL1 : Hid (x1.length ≤ 1000001000) := Lib.hid hb.1
    have c3 := h.c3
    clear h hf hb
    dsimp only at Q1 ⊢
    have HCL2 := HCL.out
    rw [HCL2] at c3
    clear HCL2
    go_wp2_with (refine wpList_cat rfl _ _ _ _ rfl rfl rfl (by have := HL1.out; (try simp only [List.length_append, List.length_cons, List.length_nil]); omega) ?_)
    clear c3
    go_ret
    have e1 : Pr.name tk f r = ([32, 40, 49, 52] ++ x1 ++ [41], r1) := by
      unfold Pr.name
      simp only [HXX.out, HCL.out, Bool.true_or, if_true]
    rw [e1]
    exact ⟨by simp [Pr.bin], Q1.out.1⟩

set_option maxRecDepth 100000 in
set_option maxHeartbeats 4000000 in
theorem qatom_calls (ho : QOk tk) {n : Int} (hn0 : 0 ≤ n) (hn1 : n ≤ 300) {f : Pr.G} (hf : Pr.Fit tk f 0) (hk : QKnows w0 p vt tk dp 42 #[.pointer (some ⟨p, 0, none⟩), .int .i64 (n + 1)] f) : QKnows w0 p vt tk dp 150 #[.pointer (some ⟨p, 0, none⟩), .int .i64 n] (Pr.atom tk f) := by
  intro W r h hi
  obtain ⟨g, o, c, rfl, _, _⟩ := h.tok hi
  have HO := Lib.hid ho
  have Q0 := Lib.hid (And.intro h hi)
  have HK := Lib.hid (And.intro hk hf)
  have HN := Lib.hid (fun W2 (h2 : QI w0 W2 p (.slice (some ⟨g, o, none⟩) tk.length c) tk dp r) hkd => qname_calls ho hn0 hn1 hf hk h2 hi hkd)
  have c4 := h.c4
  have hi' : (r.i : Int) < (tk.length : Int) := by omega
  have hi0 : (0 : Int) ≤ (r.i : Int) := by omega
  have hl' : (tk.length : Int) ≤ 1000000 := by have := ho.len; omega
  obtain ⟨kd, hkd⟩ : ∃ kd, (Pr.tok tk r.i).kind = kd := ⟨_, rfl⟩
  have HD := Lib.hid hkd
  clear ho h hi hf hk hkd
  by_cases he : r.e = 0
  · have he' : (r.e != 0) = false := by simp [he]
    have HE := Lib.hid he
    clear he
    by_cases h3 : kd = 3
    · have h3' : (kd == 3) = true := by simp [h3]
      have H3 := Lib.hid h3
      clear h3
      have c0 := Q0.out.1.c0
      have c1 := Q0.out.1.c1
      have q0 := Q0.out.1.kind Q0.out.2
      rw [HD.out] at q0
      go_enter Tryz.func150, Tryz.ntmps150
      go_wp2_with (refine wpList_cat rfl _ _ _ _ rfl rfl rfl (by (try simp only [List.length_append, List.length_cons, List.length_nil]); omega) ?_)
      go_region
      have Q1 := Lib.hid (And.intro Q0.out.1.drew Q0.out.2)
      clear c0 c1 q0 c4
      go_wp2_with (refine wpList_cat rfl _ _ _ _ rfl rfl rfl (by (try simp only [List.length_append, List.length_cons, List.length_nil]); omega) ?_)
      refine (qleaf_calls Q1.out.1 Q1.out.2 HO.out).mono ?_
      rintro e W2 ⟨rfl, h⟩
      have hf := Pr.leaf_fits HO.out.toks Q1.out.2 (by rw [HD.out, H3.out]; decide)
      obtain ⟨⟨x2, r2⟩, hx⟩ : ∃ q, Pr.leaf tk r = q := ⟨_, rfl⟩
      rw [hx] at h hf ⊢
      have hb := HO.out.fits hf (by decide)
      have Q2 := Lib.hid (And.intro h hb.2)
      have HL2 := Lib.hid hb.1
      have HX2 := Lib.hid hx
      clear h hf hx hb
      dsimp only at Q2 HL2 ⊢
      go_wp2_with (refine wpList_cat rfl _ _ _ _ rfl rfl rfl (by have := HL2.out; (try simp only [List.length_append, List.length_cons, List.length_nil]); omega) ?_)
      go_ret
      have e1 : Pr.atom tk f r = ([32, 40, 49, 53] ++ x2 ++ [41], r2) := by
        unfold Pr.atom
        rw [if_pos HE.out, HD.out]
        rw [if_pos H3.out]
        simp only [HX2.out]
      rw [e1]
      exact ⟨by simp [Pr.bin], Q2.out.1⟩
    · have h3' : (kd == 3) = false := by simp [h3]
      have H3 := Lib.hid h3
      clear h3
      by_cases b0 : Pr.is tk Ps.tTrue r = true
      · have B0 := Lib.hid b0
        clear b0
        have c0 := Q0.out.1.c0
        have c1 := Q0.out.1.c1
        have q0 := Q0.out.1.kind Q0.out.2
        rw [HD.out] at q0
        go_enter Tryz.func150, Tryz.ntmps150
        go_wp2_with (refine wpList_cat rfl _ _ _ _ rfl rfl rfl (by (try simp only [List.length_append, List.length_cons, List.length_nil]); omega) ?_)
        go_region
        have Q1 := Lib.hid (And.intro Q0.out.1.drew Q0.out.2)
        clear c0 c1 q0 c4
        go_wp2_with (refine wpList_cat rfl _ _ _ _ rfl rfl rfl (by (try simp only [List.length_append, List.length_cons, List.length_nil]); omega) ?_)
        have hcall := qis_calls Q1.out.1 Q1.out.2 HO.out Ps.tTrue
        rw [B0.out] at hcall
        refine hcall.mono ?_
        rintro e W2 ⟨rfl, h⟩
        have Q2 := Lib.hid (And.intro h Q1.out.2)
        clear h hcall
        dsimp only
        go_wp2_with (refine wpList_cat rfl _ _ _ _ rfl rfl rfl (by (try simp only [List.length_append, List.length_cons, List.length_nil]); omega) ?_)
        refine (qleaf_calls Q2.out.1 Q2.out.2 HO.out).mono ?_
        rintro e W3 ⟨rfl, h⟩
        have hf := Pr.leaf_fits HO.out.toks Q2.out.2 (Pr.is_kind B0.out).1
        obtain ⟨⟨x3, r3⟩, hx⟩ : ∃ q, Pr.leaf tk r = q := ⟨_, rfl⟩
        rw [hx] at h hf ⊢
        have hb := HO.out.fits hf (by decide)
        have Q3 := Lib.hid (And.intro h hb.2)
        have HL3 := Lib.hid hb.1
        have HX3 := Lib.hid hx
        clear h hf hx hb
        dsimp only at Q3 HL3 ⊢
        go_wp2_with (refine wpList_cat rfl _ _ _ _ rfl rfl rfl (by have := HL3.out; (try simp only [List.length_append, List.length_cons, List.length_nil]); omega) ?_)
        go_ret
        have e1 : Pr.atom tk f r = ([32, 40, 49, 54] ++ x3 ++ [41], r3) := by
          unfold Pr.atom
          rw [if_pos HE.out, HD.out]
          rw [if_neg H3.out]
          rw [if_pos (by rw [B0.out]; simp)]
          simp only [HX3.out]
        rw [e1]
        exact ⟨by simp [Pr.bin], Q3.out.1⟩
      · rw [Bool.not_eq_true] at b0
        have B0 := Lib.hid b0
        clear b0
        by_cases b1 : Pr.is tk Ps.tFalse r = true
        · have B1 := Lib.hid b1
          clear b1
          have c0 := Q0.out.1.c0
          have c1 := Q0.out.1.c1
          have q0 := Q0.out.1.kind Q0.out.2
          rw [HD.out] at q0
          go_enter Tryz.func150, Tryz.ntmps150
          go_wp2_with (refine wpList_cat rfl _ _ _ _ rfl rfl rfl (by (try simp only [List.length_append, List.length_cons, List.length_nil]); omega) ?_)
          go_region
          have Q1 := Lib.hid (And.intro Q0.out.1.drew Q0.out.2)
          clear c0 c1 q0 c4
          go_wp2_with (refine wpList_cat rfl _ _ _ _ rfl rfl rfl (by (try simp only [List.length_append, List.length_cons, List.length_nil]); omega) ?_)
          have hcall := qis_calls Q1.out.1 Q1.out.2 HO.out Ps.tTrue
          rw [B0.out] at hcall
          refine hcall.mono ?_
          rintro e W2 ⟨rfl, h⟩
          have Q2 := Lib.hid (And.intro h Q1.out.2)
          clear h hcall
          dsimp only
          go_wp2_with (refine wpList_cat rfl _ _ _ _ rfl rfl rfl (by (try simp only [List.length_append, List.length_cons, List.length_nil]); omega) ?_)
          have hcall := qis_calls Q2.out.1 Q2.out.2 HO.out Ps.tFalse
          rw [B1.out] at hcall
          refine hcall.mono ?_
          rintro e W3 ⟨rfl, h⟩
          have Q3 := Lib.hid (And.intro h Q2.out.2)
          clear h hcall
          dsimp only
          go_wp2_with (refine wpList_cat rfl _ _ _ _ rfl rfl rfl (by (try simp only [List.length_append, List.length_cons, List.length_nil]); omega) ?_)
          refine (qleaf_calls Q3.out.1 Q3.out.2 HO.out).mono ?_
          rintro e W4 ⟨rfl, h⟩
          have hf := Pr.leaf_fits HO.out.toks Q3.out.2 (Pr.is_kind B1.out).1
          obtain ⟨⟨x4, r4⟩, hx⟩ : ∃ q, Pr.leaf tk r = q := ⟨_, rfl⟩
          rw [hx] at h hf ⊢
          have hb := HO.out.fits hf (by decide)
          have Q4 := Lib.hid (And.intro h hb.2)
          have HL4 := Lib.hid hb.1
          have HX4 := Lib.hid hx
          clear h hf hx hb
          dsimp only at Q4 HL4 ⊢
          go_wp2_with (refine wpList_cat rfl _ _ _ _ rfl rfl rfl (by have := HL4.out; (try simp only [List.length_append, List.length_cons, List.length_nil]); omega) ?_)
          go_ret
          have e1 : Pr.atom tk f r = ([32, 40, 49, 54] ++ x4 ++ [41], r4) := by
            unfold Pr.atom
            rw [if_pos HE.out, HD.out]
            rw [if_neg H3.out]
            rw [if_pos (by rw [B1.out]; simp)]
            simp only [HX4.out]
          rw [e1]
          exact ⟨by simp [Pr.bin], Q4.out.1⟩
        · rw [Bool.not_eq_true] at b1
          have B1 := Lib.hid b1
          clear b1
          cases hcl : r.inn
          · skip
            have HCL := Lib.hid hcl
            clear hcl
            by_cases b4 : Pr.is tk [40] r = true
            · have B4 := Lib.hid b4
              clear b4
              have c0 := Q0.out.1.c0
              have c1 := Q0.out.1.c1
              have q0 := Q0.out.1.kind Q0.out.2
              rw [HD.out] at q0
              go_enter Tryz.func150, Tryz.ntmps150
              go_wp2_with (refine wpList_cat rfl _ _ _ _ rfl rfl rfl (by (try simp only [List.length_append, List.length_cons, List.length_nil]); omega) ?_)
              go_region
              have Q1 := Lib.hid (And.intro Q0.out.1.drew Q0.out.2)
              clear c0 c1 q0 c4
              go_wp2_with (refine wpList_cat rfl _ _ _ _ rfl rfl rfl (by (try simp only [List.length_append, List.length_cons, List.length_nil]); omega) ?_)
              have hcall := qis_calls Q1.out.1 Q1.out.2 HO.out Ps.tTrue
              rw [B0.out] at hcall
              refine hcall.mono ?_
              rintro e W2 ⟨rfl, h⟩
              have Q2 := Lib.hid (And.intro h Q1.out.2)
              clear h hcall
              dsimp only
              go_wp2_with (refine wpList_cat rfl _ _ _ _ rfl rfl rfl (by (try simp only [List.length_append, List.length_cons, List.length_nil]); omega) ?_)
              have hcall := qis_calls Q2.out.1 Q2.out.2 HO.out Ps.tFalse
              rw [B1.out] at hcall
              refine hcall.mono ?_
              rintro e W3 ⟨rfl, h⟩
              have Q3 := Lib.hid (And.intro h Q2.out.2)
              clear h hcall
              dsimp only
              have c3 := Q3.out.1.c3
              have HCL2 := HCL.out
              rw [HCL2] at c3
              clear HCL2
              go_wp2_with (refine wpList_cat rfl _ _ _ _ rfl rfl rfl (by (try simp only [List.length_append, List.length_cons, List.length_nil]); omega) ?_)
              clear c3
              have hcall := qis_calls Q3.out.1 Q3.out.2 HO.out [40]
              rw [B4.out] at hcall
              refine hcall.mono ?_
              rintro e W4 ⟨rfl, h⟩
              have Q4 := Lib.hid (And.intro h Q3.out.2)
              clear h hcall
              dsimp only
              go_wp2_with (refine wpList_cat rfl _ _ _ _ rfl rfl rfl (by (try simp only [List.length_append, List.length_cons, List.length_nil]); omega) ?_)
              refine (qleaf_calls Q4.out.1 Q4.out.2 HO.out).mono ?_
              rintro e W5 ⟨rfl, h⟩
              have hf := Pr.leaf_fits HO.out.toks Q4.out.2 (Pr.is_kind B4.out).1
              obtain ⟨⟨x5, r5⟩, hx⟩ : ∃ q, Pr.leaf tk r = q := ⟨_, rfl⟩
              rw [hx] at h hf ⊢
              have hb := HO.out.fits hf (by decide)
              have Q5 := Lib.hid (And.intro h hb.2)
              have HL5 := Lib.hid hb.1
              have HX5 := Lib.hid hx
              clear h hf hx hb
              dsimp only at Q5 HL5 ⊢
              go_wp2_with (refine wpList_cat rfl _ _ _ _ rfl rfl rfl (by have := HL5.out; (try simp only [List.length_append, List.length_cons, List.length_nil]); omega) ?_)
              refine (HK.out.1 _ _ Q5.out.1 Q5.out.2).mono ?_
              rintro e W6 ⟨rfl, h⟩
              have hf := HK.out.2 r5 Q5.out.2
              obtain ⟨⟨x6, r6⟩, hx⟩ : ∃ q, f r5 = q := ⟨_, rfl⟩
              rw [hx] at h hf ⊢
              have hb := HO.out.fits hf (by decide)
              have Q6 := Lib.hid (And.intro h hb.2)
              have HL6 := Lib.hid hb.1
              have HX6 := Lib.hid hx
              clear h hf hx hb
              dsimp only at Q6 HL6 ⊢
              go_wp2_with (refine wpList_cat rfl _ _ _ _ rfl rfl rfl (by have := HL5.out; have := HL6.out; (try simp only [List.length_append, List.length_cons, List.length_nil]); omega) ?_)
              refine (qmust_calls Q6.out.1 Q6.out.2 HO.out [41]).mono ?_
              rintro e W7 ⟨rfl, h⟩
              have hf := Pr.must_fits HO.out.toks [41] r6 Q6.out.2
              obtain ⟨⟨x7, r7⟩, hx⟩ : ∃ q, Pr.must tk [41] r6 = q := ⟨_, rfl⟩
              rw [hx] at h hf ⊢
              have hb := HO.out.fits hf (by decide)
              have Q7 := Lib.hid (And.intro h hb.2)
              have HL7 := Lib.hid hb.1
              have HX7 := Lib.hid hx
              clear h hf hx hb
              dsimp only at Q7 HL7 ⊢
              go_wp2_with (refine wpList_cat rfl _ _ _ _ rfl rfl rfl (by have := HL5.out; have := HL6.out; have := HL7.out; (try simp only [List.length_append, List.length_cons, List.length_nil]); omega) ?_)
              go_ret
              have e1 : Pr.atom tk f r = ([32, 40, 49, 50] ++ x5 ++ x6 ++ x7 ++ [41], r7) := by
                unfold Pr.atom
                rw [if_pos HE.out, HD.out]
                rw [if_neg H3.out]
                rw [if_neg (by rw [B0.out, B1.out]; simp)]
                rw [if_neg (by rw [HCL.out]; simp)]
                rw [if_pos B4.out]
                simp only [HX5.out, HX6.out, HX7.out]
              rw [e1]
              exact ⟨by simp [Pr.bin], Q7.out.1⟩
            · rw [Bool.not_eq_true] at b4
              have B4 := Lib.hid b4
              clear b4
              by_cases h1 : kd = 1
              · have h1' : (kd == 1) = true := by simp [h1]
                have H1 := Lib.hid h1
                clear h1
                have c0 := Q0.out.1.c0
                have c1 := Q0.out.1.c1
                have q0 := Q0.out.1.kind Q0.out.2
                rw [HD.out] at q0
                go_enter Tryz.func150, Tryz.ntmps150
                go_wp2_with (refine wpList_cat rfl _ _ _ _ rfl rfl rfl (by (try simp only [List.length_append, List.length_cons, List.length_nil]); omega) ?_)
                go_region
                have Q1 := Lib.hid (And.intro Q0.out.1.drew Q0.out.2)
                clear c0 c1 q0 c4
                go_wp2_with (refine wpList_cat rfl _ _ _ _ rfl rfl rfl (by (try simp only [List.length_append, List.length_cons, List.length_nil]); omega) ?_)
                have hcall := qis_calls Q1.out.1 Q1.out.2 HO.out Ps.tTrue
                rw [B0.out] at hcall
                refine hcall.mono ?_
                rintro e W2 ⟨rfl, h⟩
                have Q2 := Lib.hid (And.intro h Q1.out.2)
                clear h hcall
                dsimp only
                go_wp2_with (refine wpList_cat rfl _ _ _ _ rfl rfl rfl (by (try simp only [List.length_append, List.length_cons, List.length_nil]); omega) ?_)
                have hcall := qis_calls Q2.out.1 Q2.out.2 HO.out Ps.tFalse
                rw [B1.out] at hcall
                refine hcall.mono ?_
                rintro e W3 ⟨rfl, h⟩
                have Q3 := Lib.hid (And.intro h Q2.out.2)
                clear h hcall
                dsimp only
                have c3 := Q3.out.1.c3
                have HCL2 := HCL.out
                rw [HCL2] at c3
                clear HCL2
                go_wp2_with (refine wpList_cat rfl _ _ _ _ rfl rfl rfl (by (try simp only [List.length_append, List.length_cons, List.length_nil]); omega) ?_)
                clear c3
                have hcall := qis_calls Q3.out.1 Q3.out.2 HO.out [40]
                rw [B4.out] at hcall
                refine hcall.mono ?_
                rintro e W4 ⟨rfl, h⟩
                have Q4 := Lib.hid (And.intro h Q3.out.2)
                clear h hcall
                dsimp only
                have c0 := Q4.out.1.c0
                have c1 := Q4.out.1.c1
                have q0 := Q4.out.1.kind Q4.out.2
                rw [HD.out] at q0
                go_wp2_with (refine wpList_cat rfl _ _ _ _ rfl rfl rfl (by (try simp only [List.length_append, List.length_cons, List.length_nil]); omega) ?_)
                go_region
                have Q30 := Lib.hid (And.intro Q4.out.1.drew Q4.out.2)
                clear c0 c1 q0
                go_wp2_with (refine wpList_cat rfl _ _ _ _ rfl rfl rfl (by (try simp only [List.length_append, List.length_cons, List.length_nil]); omega) ?_)
                refine (HN.out _ Q30.out.1 (by rw [HD.out, H1.out]; decide)).mono ?_
                rintro e W31 ⟨rfl, h⟩
                have hf := name_fits HO.out.toks HK.out.2 Q0.out.2 (by rw [HD.out, H1.out]; decide)
                obtain ⟨⟨x31, r31⟩, hx⟩ : ∃ q, Pr.name tk f r = q := ⟨_, rfl⟩
                rw [hx] at h hf ⊢
                have hb := HO.out.fits hf (by decide)
                have Q31 := Lib.hid (And.intro h hb.2)
                have HL31 := Lib.hid hb.1
                have HX31 := Lib.hid hx
                clear h hf hx hb
                dsimp only at Q31 HL31 ⊢
                go_wp2_with (refine wpList_cat rfl _ _ _ _ rfl rfl rfl (by have := HL31.out; (try simp only [List.length_append, List.length_cons, List.length_nil]); omega) ?_)
                go_ret
                have e1 : Pr.atom tk f r = (x31, r31) := by
                  unfold Pr.atom
                  rw [if_pos HE.out, HD.out]
                  rw [if_neg H3.out]
                  rw [if_neg (by rw [B0.out, B1.out]; simp)]
                  rw [if_neg (by rw [HCL.out]; simp)]
                  rw [if_neg (by rw [B4.out]; simp)]
                  rw [if_pos H1.out]
                  exact HX31.out
                rw [e1]
                exact ⟨by simp [Pr.bin], Q31.out.1⟩
              · have h1' : (kd == 1) = false := by simp [h1]
                have H1 := Lib.hid h1
                clear h1
                have c0 := Q0.out.1.c0
                have c1 := Q0.out.1.c1
                have q0 := Q0.out.1.kind Q0.out.2
                rw [HD.out] at q0
                go_enter Tryz.func150, Tryz.ntmps150
                go_wp2_with (refine wpList_cat rfl _ _ _ _ rfl rfl rfl (by (try simp only [List.length_append, List.length_cons, List.length_nil]); omega) ?_)
                go_region
                have Q1 := Lib.hid (And.intro Q0.out.1.drew Q0.out.2)
                clear c0 c1 q0 c4
                go_wp2_with (refine wpList_cat rfl _ _ _ _ rfl rfl rfl (by (try simp only [List.length_append, List.length_cons, List.length_nil]); omega) ?_)
                have hcall := qis_calls Q1.out.1 Q1.out.2 HO.out Ps.tTrue
                rw [B0.out] at hcall
                refine hcall.mono ?_
                rintro e W2 ⟨rfl, h⟩
                have Q2 := Lib.hid (And.intro h Q1.out.2)
                clear h hcall
                dsimp only
                go_wp2_with (refine wpList_cat rfl _ _ _ _ rfl rfl rfl (by (try simp only [List.length_append, List.length_cons, List.length_nil]); omega) ?_)
                have hcall := qis_calls Q2.out.1 Q2.out.2 HO.out Ps.tFalse
                rw [B1.out] at hcall
                refine hcall.mono ?_
                rintro e W3 ⟨rfl, h⟩
                have Q3 := Lib.hid (And.intro h Q2.out.2)
                clear h hcall
                dsimp only
                have c3 := Q3.out.1.c3
                have HCL2 := HCL.out
                rw [HCL2] at c3
                clear HCL2
                go_wp2_with (refine wpList_cat rfl _ _ _ _ rfl rfl rfl (by (try simp only [List.length_append, List.length_cons, List.length_nil]); omega) ?_)
                clear c3
                have hcall := qis_calls Q3.out.1 Q3.out.2 HO.out [40]
                rw [B4.out] at hcall
                refine hcall.mono ?_
                rintro e W4 ⟨rfl, h⟩
                have Q4 := Lib.hid (And.intro h Q3.out.2)
                clear h hcall
                dsimp only
                have c0 := Q4.out.1.c0
                have c1 := Q4.out.1.c1
                have q0 := Q4.out.1.kind Q4.out.2
                rw [HD.out] at q0
                go_wp2_with (refine wpList_cat rfl _ _ _ _ rfl rfl rfl (by (try simp only [List.length_append, List.length_cons, List.length_nil]); omega) ?_)
                go_region
                have Q30 := Lib.hid (And.intro Q4.out.1.drew Q4.out.2)
                clear c0 c1 q0
                go_wp2_with (refine wpList_cat rfl _ _ _ _ rfl rfl rfl (by (try simp only [List.length_append, List.length_cons, List.length_nil]); omega) ?_)
                refine (qfail_calls Q30.out.1 Q30.out.2 HO.out 22).mono ?_
                rintro e W31 ⟨rfl, h⟩
                obtain ⟨r31, hx⟩ : ∃ q, Pr.fail tk 22 r = q := ⟨_, rfl⟩
                have hi := (by rw [Pr.fail_i]; exact Q30.out.2 : (Pr.fail tk 22 r).i < tk.length)
                rw [hx] at h hi
                have Q31 := Lib.hid (And.intro h hi)
                have HX31 := Lib.hid hx
                clear h hi hx
                dsimp only
                go_wp2_with (refine wpList_cat rfl _ _ _ _ rfl rfl rfl (by (try simp only [List.length_append, List.length_cons, List.length_nil]); omega) ?_)
                go_ret
                have e1 : Pr.atom tk f r = ([], r31) := by
                  unfold Pr.atom
                  rw [if_pos HE.out, HD.out]
                  rw [if_neg H3.out]
                  rw [if_neg (by rw [B0.out, B1.out]; simp)]
                  rw [if_neg (by rw [HCL.out]; simp)]
                  rw [if_neg (by rw [B4.out]; simp)]
                  rw [if_neg H1.out, HX31.out]
                rw [e1]
                exact ⟨by simp [Pr.bin], Q31.out.1⟩
          · skip
            have HCL := Lib.hid hcl
            clear hcl
            by_cases b2 : Pr.is tk Ps.tRes r = true
            · have B2 := Lib.hid b2
              clear b2
              have c0 := Q0.out.1.c0
              have c1 := Q0.out.1.c1
              have q0 := Q0.out.1.kind Q0.out.2
              rw [HD.out] at q0
              go_enter Tryz.func150, Tryz.ntmps150
              go_wp2_with (refine wpList_cat rfl _ _ _ _ rfl rfl rfl (by (try simp only [List.length_append, List.length_cons, List.length_nil]); omega) ?_)
              go_region
              have Q1 := Lib.hid (And.intro Q0.out.1.drew Q0.out.2)
              clear c0 c1 q0 c4
              go_wp2_with (refine wpList_cat rfl _ _ _ _ rfl rfl rfl (by (try simp only [List.length_append, List.length_cons, List.length_nil]); omega) ?_)
              have hcall := qis_calls Q1.out.1 Q1.out.2 HO.out Ps.tTrue
              rw [B0.out] at hcall
              refine hcall.mono ?_
              rintro e W2 ⟨rfl, h⟩
              have Q2 := Lib.hid (And.intro h Q1.out.2)
              clear h hcall
              dsimp only
              go_wp2_with (refine wpList_cat rfl _ _ _ _ rfl rfl rfl (by (try simp only [List.length_append, List.length_cons, List.length_nil]); omega) ?_)
              have hcall := qis_calls Q2.out.1 Q2.out.2 HO.out Ps.tFalse
              rw [B1.out] at hcall
              refine hcall.mono ?_
              rintro e W3 ⟨rfl, h⟩
              have Q3 := Lib.hid (And.intro h Q2.out.2)
              clear h hcall
              dsimp only
              have c3 := Q3.out.1.c3
              have HCL2 := HCL.out
              rw [HCL2] at c3
              clear HCL2
              go_wp2_with (refine wpList_cat rfl _ _ _ _ rfl rfl rfl (by (try simp only [List.length_append, List.length_cons, List.length_nil]); omega) ?_)
              clear c3
              have hcall := qis_calls Q3.out.1 Q3.out.2 HO.out Ps.tRes
              rw [B2.out] at hcall
              refine hcall.mono ?_
              rintro e W4 ⟨rfl, h⟩
              have Q4 := Lib.hid (And.intro h Q3.out.2)
              clear h hcall
              dsimp only
              go_wp2_with (refine wpList_cat rfl _ _ _ _ rfl rfl rfl (by (try simp only [List.length_append, List.length_cons, List.length_nil]); omega) ?_)
              refine (qleaf_calls Q4.out.1 Q4.out.2 HO.out).mono ?_
              rintro e W5 ⟨rfl, h⟩
              have hf := Pr.leaf_fits HO.out.toks Q4.out.2 (Pr.is_kind B2.out).1
              obtain ⟨⟨x5, r5⟩, hx⟩ : ∃ q, Pr.leaf tk r = q := ⟨_, rfl⟩
              rw [hx] at h hf ⊢
              have hb := HO.out.fits hf (by decide)
              have Q5 := Lib.hid (And.intro h hb.2)
              have HL5 := Lib.hid hb.1
              have HX5 := Lib.hid hx
              clear h hf hx hb
              dsimp only at Q5 HL5 ⊢
              go_wp2_with (refine wpList_cat rfl _ _ _ _ rfl rfl rfl (by have := HL5.out; (try simp only [List.length_append, List.length_cons, List.length_nil]); omega) ?_)
              go_ret
              have e1 : Pr.atom tk f r = ([32, 40, 49, 55] ++ x5 ++ [41], r5) := by
                unfold Pr.atom
                rw [if_pos HE.out, HD.out]
                rw [if_neg H3.out]
                rw [if_neg (by rw [B0.out, B1.out]; simp)]
                rw [if_pos (by rw [HCL.out, B2.out]; rfl)]
                simp only [HX5.out]
              rw [e1]
              exact ⟨by simp [Pr.bin], Q5.out.1⟩
            · rw [Bool.not_eq_true] at b2
              have B2 := Lib.hid b2
              clear b2
              by_cases b4 : Pr.is tk [40] r = true
              · have B4 := Lib.hid b4
                clear b4
                have c0 := Q0.out.1.c0
                have c1 := Q0.out.1.c1
                have q0 := Q0.out.1.kind Q0.out.2
                rw [HD.out] at q0
                go_enter Tryz.func150, Tryz.ntmps150
                go_wp2_with (refine wpList_cat rfl _ _ _ _ rfl rfl rfl (by (try simp only [List.length_append, List.length_cons, List.length_nil]); omega) ?_)
                go_region
                have Q1 := Lib.hid (And.intro Q0.out.1.drew Q0.out.2)
                clear c0 c1 q0 c4
                go_wp2_with (refine wpList_cat rfl _ _ _ _ rfl rfl rfl (by (try simp only [List.length_append, List.length_cons, List.length_nil]); omega) ?_)
                have hcall := qis_calls Q1.out.1 Q1.out.2 HO.out Ps.tTrue
                rw [B0.out] at hcall
                refine hcall.mono ?_
                rintro e W2 ⟨rfl, h⟩
                have Q2 := Lib.hid (And.intro h Q1.out.2)
                clear h hcall
                dsimp only
                go_wp2_with (refine wpList_cat rfl _ _ _ _ rfl rfl rfl (by (try simp only [List.length_append, List.length_cons, List.length_nil]); omega) ?_)
                have hcall := qis_calls Q2.out.1 Q2.out.2 HO.out Ps.tFalse
                rw [B1.out] at hcall
                refine hcall.mono ?_
                rintro e W3 ⟨rfl, h⟩
                have Q3 := Lib.hid (And.intro h Q2.out.2)
                clear h hcall
                dsimp only
                have c3 := Q3.out.1.c3
                have HCL2 := HCL.out
                rw [HCL2] at c3
                clear HCL2
                go_wp2_with (refine wpList_cat rfl _ _ _ _ rfl rfl rfl (by (try simp only [List.length_append, List.length_cons, List.length_nil]); omega) ?_)
                clear c3
                have hcall := qis_calls Q3.out.1 Q3.out.2 HO.out Ps.tRes
                rw [B2.out] at hcall
                refine hcall.mono ?_
                rintro e W4 ⟨rfl, h⟩
                have Q4 := Lib.hid (And.intro h Q3.out.2)
                clear h hcall
                dsimp only
                go_wp2_with (refine wpList_cat rfl _ _ _ _ rfl rfl rfl (by (try simp only [List.length_append, List.length_cons, List.length_nil]); omega) ?_)
                have hcall := qis_calls Q4.out.1 Q4.out.2 HO.out [40]
                rw [B4.out] at hcall
                refine hcall.mono ?_
                rintro e W5 ⟨rfl, h⟩
                have Q5 := Lib.hid (And.intro h Q4.out.2)
                clear h hcall
                dsimp only
                go_wp2_with (refine wpList_cat rfl _ _ _ _ rfl rfl rfl (by (try simp only [List.length_append, List.length_cons, List.length_nil]); omega) ?_)
                refine (qleaf_calls Q5.out.1 Q5.out.2 HO.out).mono ?_
                rintro e W6 ⟨rfl, h⟩
                have hf := Pr.leaf_fits HO.out.toks Q5.out.2 (Pr.is_kind B4.out).1
                obtain ⟨⟨x6, r6⟩, hx⟩ : ∃ q, Pr.leaf tk r = q := ⟨_, rfl⟩
                rw [hx] at h hf ⊢
                have hb := HO.out.fits hf (by decide)
                have Q6 := Lib.hid (And.intro h hb.2)
                have HL6 := Lib.hid hb.1
                have HX6 := Lib.hid hx
                clear h hf hx hb
                dsimp only at Q6 HL6 ⊢
                go_wp2_with (refine wpList_cat rfl _ _ _ _ rfl rfl rfl (by have := HL6.out; (try simp only [List.length_append, List.length_cons, List.length_nil]); omega) ?_)
                refine (HK.out.1 _ _ Q6.out.1 Q6.out.2).mono ?_
                rintro e W7 ⟨rfl, h⟩
                have hf := HK.out.2 r6 Q6.out.2
                obtain ⟨⟨x7, r7⟩, hx⟩ : ∃ q, f r6 = q := ⟨_, rfl⟩
                rw [hx] at h hf ⊢
                have hb := HO.out.fits hf (by decide)
                have Q7 := Lib.hid (And.intro h hb.2)
                have HL7 := Lib.hid hb.1
                have HX7 := Lib.hid hx
                clear h hf hx hb
                dsimp only at Q7 HL7 ⊢
                go_wp2_with (refine wpList_cat rfl _ _ _ _ rfl rfl rfl (by have := HL6.out; have := HL7.out; (try simp only [List.length_append, List.length_cons, List.length_nil]); omega) ?_)
                refine (qmust_calls Q7.out.1 Q7.out.2 HO.out [41]).mono ?_
                rintro e W8 ⟨rfl, h⟩
                have hf := Pr.must_fits HO.out.toks [41] r7 Q7.out.2
                obtain ⟨⟨x8, r8⟩, hx⟩ : ∃ q, Pr.must tk [41] r7 = q := ⟨_, rfl⟩
                rw [hx] at h hf ⊢
                have hb := HO.out.fits hf (by decide)
                have Q8 := Lib.hid (And.intro h hb.2)
                have HL8 := Lib.hid hb.1
                have HX8 := Lib.hid hx
                clear h hf hx hb
                dsimp only at Q8 HL8 ⊢
                go_wp2_with (refine wpList_cat rfl _ _ _ _ rfl rfl rfl (by have := HL6.out; have := HL7.out; have := HL8.out; (try simp only [List.length_append, List.length_cons, List.length_nil]); omega) ?_)
                go_ret
                have e1 : Pr.atom tk f r = ([32, 40, 49, 50] ++ x6 ++ x7 ++ x8 ++ [41], r8) := by
                  unfold Pr.atom
                  rw [if_pos HE.out, HD.out]
                  rw [if_neg H3.out]
                  rw [if_neg (by rw [B0.out, B1.out]; simp)]
                  rw [if_neg (by rw [HCL.out, B2.out]; simp)]
                  rw [if_pos B4.out]
                  simp only [HX6.out, HX7.out, HX8.out]
                rw [e1]
                exact ⟨by simp [Pr.bin], Q8.out.1⟩
              · rw [Bool.not_eq_true] at b4
                have B4 := Lib.hid b4
                clear b4
                by_cases h1 : kd = 1
                · have h1' : (kd == 1) = true := by simp [h1]
                  have H1 := Lib.hid h1
                  clear h1
                  have c0 := Q0.out.1.c0
                  have c1 := Q0.out.1.c1
                  have q0 := Q0.out.1.kind Q0.out.2
                  rw [HD.out] at q0
                  go_enter Tryz.func150, Tryz.ntmps150
                  go_wp2_with (refine wpList_cat rfl _ _ _ _ rfl rfl rfl (by (try simp only [List.length_append, List.length_cons, List.length_nil]); omega) ?_)
                  go_region
                  have Q1 := Lib.hid (And.intro Q0.out.1.drew Q0.out.2)
                  clear c0 c1 q0 c4
                  go_wp2_with (refine wpList_cat rfl _ _ _ _ rfl rfl rfl (by (try simp only [List.length_append, List.length_cons, List.length_nil]); omega) ?_)
                  have hcall := qis_calls Q1.out.1 Q1.out.2 HO.out Ps.tTrue
                  rw [B0.out] at hcall
                  refine hcall.mono ?_
                  rintro e W2 ⟨rfl, h⟩
                  have Q2 := Lib.hid (And.intro h Q1.out.2)
                  clear h hcall
                  dsimp only
                  go_wp2_with (refine wpList_cat rfl _ _ _ _ rfl rfl rfl (by (try simp only [List.length_append, List.length_cons, List.length_nil]); omega) ?_)
                  have hcall := qis_calls Q2.out.1 Q2.out.2 HO.out Ps.tFalse
                  rw [B1.out] at hcall
                  refine hcall.mono ?_
                  rintro e W3 ⟨rfl, h⟩
                  have Q3 := Lib.hid (And.intro h Q2.out.2)
                  clear h hcall
                  dsimp only
                  have c3 := Q3.out.1.c3
                  have HCL2 := HCL.out
                  rw [HCL2] at c3
                  clear HCL2
                  go_wp2_with (refine wpList_cat rfl _ _ _ _ rfl rfl rfl (by (try simp only [List.length_append, List.length_cons, List.length_nil]); omega) ?_)
                  clear c3
                  have hcall := qis_calls Q3.out.1 Q3.out.2 HO.out Ps.tRes
                  rw [B2.out] at hcall
                  refine hcall.mono ?_
                  rintro e W4 ⟨rfl, h⟩
                  have Q4 := Lib.hid (And.intro h Q3.out.2)
                  clear h hcall
                  dsimp only
                  go_wp2_with (refine wpList_cat rfl _ _ _ _ rfl rfl rfl (by (try simp only [List.length_append, List.length_cons, List.length_nil]); omega) ?_)
                  have hcall := qis_calls Q4.out.1 Q4.out.2 HO.out [40]
                  rw [B4.out] at hcall
                  refine hcall.mono ?_
                  rintro e W5 ⟨rfl, h⟩
                  have Q5 := Lib.hid (And.intro h Q4.out.2)
                  clear h hcall
                  dsimp only
                  have c0 := Q5.out.1.c0
                  have c1 := Q5.out.1.c1
                  have q0 := Q5.out.1.kind Q5.out.2
                  rw [HD.out] at q0
                  go_wp2_with (refine wpList_cat rfl _ _ _ _ rfl rfl rfl (by (try simp only [List.length_append, List.length_cons, List.length_nil]); omega) ?_)
                  go_region
                  have Q30 := Lib.hid (And.intro Q5.out.1.drew Q5.out.2)
                  clear c0 c1 q0
                  go_wp2_with (refine wpList_cat rfl _ _ _ _ rfl rfl rfl (by (try simp only [List.length_append, List.length_cons, List.length_nil]); omega) ?_)
                  refine (HN.out _ Q30.out.1 (by rw [HD.out, H1.out]; decide)).mono ?_
                  rintro e W31 ⟨rfl, h⟩
                  have hf := name_fits HO.out.toks HK.out.2 Q0.out.2 (by rw [HD.out, H1.out]; decide)
                  obtain ⟨⟨x31, r31⟩, hx⟩ : ∃ q, Pr.name tk f r = q := ⟨_, rfl⟩
                  rw [hx] at h hf ⊢
                  have hb := HO.out.fits hf (by decide)
                  have Q31 := Lib.hid (And.intro h hb.2)
                  have HL31 := Lib.hid hb.1
                  have HX31 := Lib.hid hx
                  clear h hf hx hb
                  dsimp only at Q31 HL31 ⊢
                  go_wp2_with (refine wpList_cat rfl _ _ _ _ rfl rfl rfl (by have := HL31.out; (try simp only [List.length_append, List.length_cons, List.length_nil]); omega) ?_)
                  go_ret
                  have e1 : Pr.atom tk f r = (x31, r31) := by
                    unfold Pr.atom
                    rw [if_pos HE.out, HD.out]
                    rw [if_neg H3.out]
                    rw [if_neg (by rw [B0.out, B1.out]; simp)]
                    rw [if_neg (by rw [HCL.out, B2.out]; simp)]
                    rw [if_neg (by rw [B4.out]; simp)]
                    rw [if_pos H1.out]
                    exact HX31.out
                  rw [e1]
                  exact ⟨by simp [Pr.bin], Q31.out.1⟩
                · have h1' : (kd == 1) = false := by simp [h1]
                  have H1 := Lib.hid h1
                  clear h1
                  have c0 := Q0.out.1.c0
                  have c1 := Q0.out.1.c1
                  have q0 := Q0.out.1.kind Q0.out.2
                  rw [HD.out] at q0
                  go_enter Tryz.func150, Tryz.ntmps150
                  go_wp2_with (refine wpList_cat rfl _ _ _ _ rfl rfl rfl (by (try simp only [List.length_append, List.length_cons, List.length_nil]); omega) ?_)
                  go_region
                  have Q1 := Lib.hid (And.intro Q0.out.1.drew Q0.out.2)
                  clear c0 c1 q0 c4
                  go_wp2_with (refine wpList_cat rfl _ _ _ _ rfl rfl rfl (by (try simp only [List.length_append, List.length_cons, List.length_nil]); omega) ?_)
                  have hcall := qis_calls Q1.out.1 Q1.out.2 HO.out Ps.tTrue
                  rw [B0.out] at hcall
                  refine hcall.mono ?_
                  rintro e W2 ⟨rfl, h⟩
                  have Q2 := Lib.hid (And.intro h Q1.out.2)
                  clear h hcall
                  dsimp only
                  go_wp2_with (refine wpList_cat rfl _ _ _ _ rfl rfl rfl (by (try simp only [List.length_append, List.length_cons, List.length_nil]); omega) ?_)
                  have hcall := qis_calls Q2.out.1 Q2.out.2 HO.out Ps.tFalse
                  rw [B1.out] at hcall
                  refine hcall.mono ?_
                  rintro e W3 ⟨rfl, h⟩
                  have Q3 := Lib.hid (And.intro h Q2.out.2)
                  clear h hcall
                  dsimp only
                  have c3 := Q3.out.1.c3
                  have HCL2 := HCL.out
                  rw [HCL2] at c3
                  clear HCL2
                  go_wp2_with (refine wpList_cat rfl _ _ _ _ rfl rfl rfl (by (try simp only [List.length_append, List.length_cons, List.length_nil]); omega) ?_)
                  clear c3
                  have hcall := qis_calls Q3.out.1 Q3.out.2 HO.out Ps.tRes
                  rw [B2.out] at hcall
                  refine hcall.mono ?_
                  rintro e W4 ⟨rfl, h⟩
                  have Q4 := Lib.hid (And.intro h Q3.out.2)
                  clear h hcall
                  dsimp only
                  go_wp2_with (refine wpList_cat rfl _ _ _ _ rfl rfl rfl (by (try simp only [List.length_append, List.length_cons, List.length_nil]); omega) ?_)
                  have hcall := qis_calls Q4.out.1 Q4.out.2 HO.out [40]
                  rw [B4.out] at hcall
                  refine hcall.mono ?_
                  rintro e W5 ⟨rfl, h⟩
                  have Q5 := Lib.hid (And.intro h Q4.out.2)
                  clear h hcall
                  dsimp only
                  have c0 := Q5.out.1.c0
                  have c1 := Q5.out.1.c1
                  have q0 := Q5.out.1.kind Q5.out.2
                  rw [HD.out] at q0
                  go_wp2_with (refine wpList_cat rfl _ _ _ _ rfl rfl rfl (by (try simp only [List.length_append, List.length_cons, List.length_nil]); omega) ?_)
                  go_region
                  have Q30 := Lib.hid (And.intro Q5.out.1.drew Q5.out.2)
                  clear c0 c1 q0
                  go_wp2_with (refine wpList_cat rfl _ _ _ _ rfl rfl rfl (by (try simp only [List.length_append, List.length_cons, List.length_nil]); omega) ?_)
                  refine (qfail_calls Q30.out.1 Q30.out.2 HO.out 22).mono ?_
                  rintro e W31 ⟨rfl, h⟩
                  obtain ⟨r31, hx⟩ : ∃ q, Pr.fail tk 22 r = q := ⟨_, rfl⟩
                  have hi := (by rw [Pr.fail_i]; exact Q30.out.2 : (Pr.fail tk 22 r).i < tk.length)
                  rw [hx] at h hi
                  have Q31 := Lib.hid (And.intro h hi)
                  have HX31 := Lib.hid hx
                  clear h hi hx
                  dsimp only
                  go_wp2_with (refine wpList_cat rfl _ _ _ _ rfl rfl rfl (by (try simp only [List.length_append, List.length_cons, List.length_nil]); omega) ?_)
                  go_ret
                  have e1 : Pr.atom tk f r = ([], r31) := by
                    unfold Pr.atom
                    rw [if_pos HE.out, HD.out]
                    rw [if_neg H3.out]
                    rw [if_neg (by rw [B0.out, B1.out]; simp)]
                    rw [if_neg (by rw [HCL.out, B2.out]; simp)]
                    rw [if_neg (by rw [B4.out]; simp)]
                    rw [if_neg H1.out, HX31.out]
                  rw [e1]
                  exact ⟨by simp [Pr.bin], Q31.out.1⟩
  · have he' : (r.e != 0) = true := by simp [he]
    have HE := Lib.hid he
    clear he
    go_enter Tryz.func150, Tryz.ntmps150
    go_wp2_with (refine wpList_cat rfl _ _ _ _ rfl rfl rfl (by (try simp only [List.length_append, List.length_cons, List.length_nil]); omega) ?_)
    go_ret
    have e1 : Pr.atom tk f r = ([], r) := by
      unfold Pr.atom
      rw [if_neg HE.out]
    rw [e1]
    exact ⟨by simp [Pr.bin], Q0.out.1⟩
