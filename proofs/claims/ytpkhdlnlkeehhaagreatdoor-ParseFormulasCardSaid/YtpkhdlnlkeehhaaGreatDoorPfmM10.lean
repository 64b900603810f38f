/- Contracts and plain laws, in one text. parse: ok, fail, next, must, kind, node, deep: the walks. | Plain: the two parsers, level by level. No program in sight. | Plain: definitions and programs: the two parsers side by side; a parsed tree is right. No program in sight. | Plain: a parsed tree is right. No program in sight. | Plain: whole programs: what the program's parser says is what the document's says. No program in sight. | Plain: what each of the parser's functions keeps. No program in sight. | parse: a level's signs; parts and rows; unary; negation, factor: the walks. -/
import Derived.Test.YtpkhdlnlkeehhaaGreatDoorPfmM4
import Derived.Test.YtpkhdlnlkeehhaaGreatDoorPfmM9
import Derived.Test.YtpkhdlnlkeehhaaGreatDoorPfmM3
/- parse: ok, fail, next, must, kind, node, deep: the walks. -/
namespace Go.Proofs.YtpkhdlnlkeehhaaGreatDoor
open Go.RowKit

section
variable {Q : Nat → Prop}

/-- What the walks ask of a state. -/
def Wk (tk : List Tr.Tk) (s : Ps.St) : Prop := 0 < tk.length ∧ tk.length ≤ 1000000 ∧ s.used ≤ tk.length ∧ s.nodes.length ≤ 5000000

theorem anc_peek {w0 W : World} {b u : Nat} {tk : List Tr.Tk} {ns : List Tr.Nd} (h : Anc Q w0 W b ⟨tk, ns⟩ u) (h0 : 0 < tk.length) (h1 : tk.length ≤ 1000000) (hu : u ≤ tk.length) :
    Calls Tryz.prog 68 #[.pointer (some ⟨b, 0, none⟩)] W fun e W' => e = .returned (.agg #[.int .i64 (Ps.peek tk u).kind, .string ⟨(Ps.peek tk u).lead.toArray⟩, .string ⟨(Ps.peek tk u).text.toArray⟩, .int .i64 (Ps.peek tk u).pos]) ∧ Below W.heap.size W W' := by
  obtain ⟨B, vt, vn, _, hB, _⟩ := h
  refine peek_calls hB (by show tk.length ≤ _; omega) hu ?_
  show tk[min u (tk.length - 1)]? = _
  unfold Ps.peek
  rw [List.getElem?_eq_getElem (by omega)]
  rfl

theorem tok_field0 (k : Int) (l t : ByteArray) (q : Int) (w : World) : (Instr.field 85 (.agg #[.int .i64 k, .string l, .string t, .int .i64 q]) 0).run Tryz.prog w = .ok (.int .i64 k) w := by kernel_rfl
theorem tok_field3 (k : Int) (l t : ByteArray) (q : Int) (w : World) : (Instr.field 85 (.agg #[.int .i64 k, .string l, .string t, .int .i64 q]) 3).run Tryz.prog w = .ok (.int .i64 q) w := by kernel_rfl
section
variable {w0 W : World} {p b : Nat} {tk : List Tr.Tk} {dp : Int} {s : Ps.St}

set_option maxRecDepth 100000 in
set_option maxHeartbeats 2000000 in
theorem pok_calls (h : PI Q w0 W p b tk dp s) : Calls Tryz.prog 33 #[.pointer (some ⟨p, 0, none⟩)] W fun e W' => e = .returned (.bool (decide (s.e = 0))) ∧ W = W' := by
  have c3 := h.c3
  clear h
  go_enter Tryz.func33, Tryz.ntmps33
  go_wp2
  go_ret
  exact ⟨rfl, rfl⟩

set_option maxRecDepth 100000 in
set_option maxHeartbeats 2000000 in
theorem pfail_calls (h : PI Q w0 W p b tk dp s) (hw : Wk tk s) (x : Int) : Calls Tryz.prog 61 #[.pointer (some ⟨p, 0, none⟩), .int .i64 x] W (Does Q w0 p b tk dp (0, Ps.fail tk x s) W) := by
  have HP := Lib.hid h
  have HW := Lib.hid hw
  have hok := pok_calls h
  by_cases he : s.e = 0
  · rw [decide_eq_true he] at hok
    have HOK := Lib.hid hok
    have HF := Lib.hid (show Ps.fail tk x s = { s with e := x, pos := (Ps.peek tk s.used).pos } by unfold Ps.fail; rw [if_pos he])
    have c0 := h.c0
    clear h hw hok he
    go_enter Tryz.func61, Tryz.ntmps61
    go_wp2_with fail
    refine HOK.out.mono ?_
    rintro e W1 ⟨rfl, rfl⟩
    dsimp only
    go_wp2_with fail
    refine (anc_peek HP.out.anc HW.out.1 HW.out.2.1 HW.out.2.2.1).mono ?_
    rintro e W2 ⟨rfl, hb2⟩
    have hc2 := anc_box HP.out.cell hb2
    have d3 := (HP.out.past hb2).c3
    have d4 := (HP.out.past hb2).c4
    have f3 := frozen_of_heap hc2 3
    have f4 := frozen_of_heap hc2 4
    have H2 := Lib.hid (And.intro hb2 hc2)
    have t3 := tok_field3 (Ps.peek tk s.used).kind ⟨(Ps.peek tk s.used).lead.toArray⟩ ⟨(Ps.peek tk s.used).text.toArray⟩ (Ps.peek tk s.used).pos W2
    clear hb2 hc2 c0
    dsimp only
    go_wp2_with fail
    go_ret
    have h1 := setCell_row (j := 3) H2.out.2 (.int .i64 x)
    have h2 := setCell_row (j := 4) h1 (.int .i64 (Ps.peek tk s.used).pos)
    have h3 := (HP.out.past H2.out.1).set (s' := { s with e := x, pos := (Ps.peek tk s.used).pos }) ⟨rfl, rfl⟩ (W' := (W2.setCell ⟨p, 3, none⟩ (.int .i64 x)).setCell ⟨p, 4, none⟩ (.int .i64 (Ps.peek tk s.used).pos)) rfl rfl rfl (by simp [World.setCell]) h2 (fun k hk => by rw [Below.heap_setCell _ _ _ _ hk, Below.heap_setCell _ _ _ _ hk])
    refine ⟨rfl, ?_, (FrT.of H2.out.1).trans h3.2⟩
    rw [HF.out]
    exact h3.1
  · rw [decide_eq_false he] at hok
    have HOK := Lib.hid hok
    have HF := Lib.hid (show Ps.fail tk x s = s by unfold Ps.fail; rw [if_neg he])
    clear h hw hok he
    go_enter Tryz.func61, Tryz.ntmps61
    go_wp2_with fail
    refine HOK.out.mono ?_
    rintro e W1 ⟨rfl, rfl⟩
    dsimp only
    go_wp2_with fail
    go_ret
    exact ⟨rfl, by rw [HF.out]; exact HP.out, FrT.refl _ _⟩

set_option maxRecDepth 100000 in
set_option maxHeartbeats 2000000 in
/-- Does the next token stand among some texts? -/
theorem pnext_calls (h : PI Q w0 W p b tk dp s) (hw : Wk tk s) {ts : List (List UInt8)} {P : Nat → Prop} {v : Value} (hv : RdS W P 1 v ts.length (strCells ts)) (hP : ∀ k, P k → k < W.heap.size) (hl : ts.length ≤ 1000) :
    Calls Tryz.prog 60 #[.pointer (some ⟨p, 0, none⟩), v] W fun e W' => e = .returned (.bool (Ps.nextB tk ts s.used)) ∧ Below W.heap.size W W' := by
  have HP := Lib.hid h
  have HW := Lib.hid hw
  have HV := Lib.hid (And.intro hv (And.intro hP hl))
  obtain ⟨av, cv, rfl⟩ := hv.form
  have c0 := h.c0
  have hn : Ps.nextB tk ts s.used = ((decide ((Ps.peek tk s.used).kind = 2) || decide ((Ps.peek tk s.used).kind = 4)) && ts.contains (Ps.peek tk s.used).text) := rfl
  have hpk := anc_peek h.anc hw.1 hw.2.1 hw.2.2.1
  rw [hn]
  generalize Ps.peek tk s.used = t at *
  obtain ⟨kd, ld, tx, ps⟩ := t
  dsimp only at hpk ⊢
  have HPK := Lib.hid hpk
  clear h hw hv hP hn hpk
  by_cases hk : kd = 2 ∨ kd = 4
  · have e1 : (decide (kd = 2) || decide (kd = 4)) = true := by simpa using hk
    rw [e1, Bool.true_and]
    obtain ⟨y, hy⟩ : ∃ y, ts.contains tx = y := ⟨_, rfl⟩
    have hc0 : ∀ W', Below W.heap.size W W' → Calls Tryz.prog 92 #[.slice av ts.length cv, .string ⟨tx.toArray⟩] W' fun e w' => e = .returned (.bool y) ∧ W' = w' := fun W' hb => by
      have := contains_str (x := tx) (HV.out.1.keep (w' := W') (Keeps.of hb HV.out.2.1)) (by have := HV.out.2.2; omega)
      rwa [hy] at this
    have HC := Lib.hid hc0
    clear hc0
    rw [hy]
    clear hy
    rcases hk with rfl | rfl
    all_goals
      clear e1
      go_enter Tryz.func60, Tryz.ntmps60
      go_wp2_with fail
      refine HPK.out.mono ?_
      rintro e W2 ⟨rfl, hb2⟩
      have H2 := Lib.hid hb2
      clear hb2 c0
      dsimp only
      go_wp2_with fail
      refine (HC.out _ (H2.out.alloc H2.out.size _)).mono ?_
      rintro e W3 ⟨rfl, rfl⟩
      dsimp only
      go_wp2_with fail
      go_ret
      exact ⟨rfl, H2.out.alloc H2.out.size _⟩
  · have e1 : (decide (kd = 2) || decide (kd = 4)) = false := by simpa using hk
    rw [e1, Bool.false_and]
    have k1 : (kd == 2) = false := by simp; omega
    have k2 : (kd == 4) = false := by simp; omega
    clear hk e1
    go_enter Tryz.func60, Tryz.ntmps60
    go_wp2_with fail
    refine HPK.out.mono ?_
    rintro e W2 ⟨rfl, hb2⟩
    have H2 := Lib.hid hb2
    clear hb2 c0
    dsimp only
    go_wp2_with fail
    go_ret
    exact ⟨rfl, H2.out.alloc H2.out.size _⟩

set_option maxRecDepth 100000 in
set_option maxHeartbeats 2000000 in
/-- A leaf of the builder's. -/
theorem pleaf_calls (h : PI Q w0 W p b tk dp s) (hw : Wk tk s) : Calls Tryz.prog 62 #[.pointer (some ⟨b, 0, none⟩)] W (Does Q w0 p b tk dp (Ps.leaf tk s) W) := by
  unfold Ps.leaf
  by_cases hu : s.used = tk.length
  · rw [if_pos hu]
    have ha := h.anc
    rw [hu] at ha
    refine (anc_leaf_end (t := ⟨tk, s.nodes⟩) ha (by have := hw.2.2.2; show s.nodes.length ≤ _; omega) (by have := hw.2.1; show tk.length ≤ _; omega)).mono ?_
    rintro e W1 ⟨rfl, h1, h2⟩
    have h3 := h.step h1 h2
    refine ⟨rfl, ?_, h3.2⟩
    have h4 := h3.1
    have e1 : ({ s with nodes := s.nodes, used := tk.length } : Ps.St) = s := by rw [← hu]
    rw [e1] at h4
    exact h4
  · rw [if_neg hu]
    refine (anc_leaf (t := ⟨tk, s.nodes⟩) h.anc (by have := hw.2.2.2; show s.nodes.length ≤ _; omega) (by have := hw.2.1; show tk.length ≤ _; omega) (by have := hw.2.2.1; show s.used < tk.length; omega)).mono ?_
    rintro e W1 ⟨rfl, h1, h2⟩
    exact ⟨rfl, h.step h1 h2⟩
set_option maxRecDepth 100000 in
set_option maxHeartbeats 2000000 in
/-- A node of the builder's. -/
theorem pbnode_calls (h : PI Q w0 W p b tk dp s) (hw : Wk tk s) (he : s.e = 0) {P : Nat → Prop} {v : Value} {l : List Int} (hk : RdS W P 1 v l.length (intCells l)) (hP : ∀ k, P k → k < W.heap.size) (hl : l.length ≤ 1000000) (hQ : Up Q W) (k : Int) :
    Calls Tryz.prog 67 #[.pointer (some ⟨b, 0, none⟩), .int .i64 k, v] W (Does Q w0 p b tk dp (Ps.node k l s) W) := by
  have hbk : (l.any fun x => decide (x < 0) || decide ((s.nodes.length : Int) ≤ x)) = l.any (badKid s.nodes.length) := rfl
  unfold Ps.node
  rw [if_pos he, hbk]
  by_cases hb : l.any (badKid s.nodes.length) = true
  · rw [if_pos hb]
    refine (anc_node_bad (t := ⟨tk, s.nodes⟩) h.anc (by have := hw.2.2.2; show s.nodes.length ≤ _; omega) hk hP (by omega) hQ k hb).mono ?_
    rintro e W1 ⟨rfl, h1, h2⟩
    exact ⟨rfl, h.step h1 h2⟩
  · rw [if_neg hb]
    refine (anc_node (t := ⟨tk, s.nodes⟩) h.anc (by have := hw.2.2.2; show s.nodes.length ≤ _; omega) hk hP (by omega) hQ k (by simpa using hb)).mono ?_
    rintro e W1 ⟨rfl, h1, h2⟩
    exact ⟨rfl, h.step h1 h2⟩
theorem Wk.fail (hw : Wk tk s) (x : Int) : Wk tk (Ps.fail tk x s) := by
  unfold Ps.fail
  split
  · exact hw
  · exact hw

set_option maxRecDepth 100000 in
set_option maxHeartbeats 2000000 in
theorem pmust_calls (h : PI Q w0 W p b tk dp s) (hw : Wk tk s) {ts : List (List UInt8)} {P : Nat → Prop} {v : Value} (hv : RdS W P 1 v ts.length (strCells ts)) (hP : ∀ k, P k → k < W.heap.size) (hl : ts.length ≤ 1000) :
    Calls Tryz.prog 63 #[.pointer (some ⟨p, 0, none⟩), v] W (Does Q w0 p b tk dp (Ps.must tk ts s) W) := by
  have HP := Lib.hid h
  have HW := Lib.hid hw
  have hok := pok_calls h
  by_cases he : s.e = 0
  · rw [decide_eq_true he] at hok
    have HOK := Lib.hid hok
    have hnx := pnext_calls h hw hv hP hl
    obtain ⟨av, cv, rfl⟩ := hv.form
    unfold Ps.must
    by_cases hn : Ps.nextB tk ts s.used = true
    · rw [if_pos ⟨he, hn⟩]
      rw [hn] at hnx
      have HNX := Lib.hid hnx
      clear h hw hok he hn hnx hv hP
      go_enter Tryz.func63, Tryz.ntmps63
      go_wp2_with fail
      refine HOK.out.mono ?_
      rintro e W1 ⟨rfl, rfl⟩
      dsimp only
      go_wp2_with fail
      refine HNX.out.mono ?_
      rintro e W2 ⟨rfl, hb2⟩
      have c0 := (HP.out.past hb2).c0
      have H2 := Lib.hid hb2
      clear hb2
      dsimp only
      go_wp2_with fail
      refine (pleaf_calls (HP.out.past H2.out) HW.out).mono ?_
      rintro e W3 ⟨rfl, h3, h4⟩
      have H3 := Lib.hid (And.intro h3 h4)
      clear h3 h4 c0
      dsimp only
      go_wp2_with fail
      go_ret
      exact ⟨rfl, H3.out.1, (FrT.of H2.out).trans H3.out.2⟩
    · rw [if_neg (by simp [hn])]
      rw [Bool.not_eq_true] at hn
      rw [hn] at hnx
      have HNX := Lib.hid hnx
      clear h hw hok he hn hnx hv hP
      go_enter Tryz.func63, Tryz.ntmps63
      go_wp2_with fail
      refine HOK.out.mono ?_
      rintro e W1 ⟨rfl, rfl⟩
      dsimp only
      go_wp2_with fail
      refine HNX.out.mono ?_
      rintro e W2 ⟨rfl, hb2⟩
      have H2 := Lib.hid hb2
      clear hb2
      dsimp only
      go_wp2_with fail
      refine (pfail_calls (HP.out.past H2.out) HW.out 22).mono ?_
      rintro e W3 ⟨rfl, h3, h4⟩
      have H3 := Lib.hid (And.intro h3 h4)
      clear h3 h4
      dsimp only
      go_wp2_with fail
      go_ret
      exact ⟨rfl, H3.out.1, (FrT.of H2.out).trans H3.out.2⟩
  · rw [decide_eq_false he] at hok
    have HOK := Lib.hid hok
    obtain ⟨av, cv, rfl⟩ := hv.form
    unfold Ps.must
    rw [if_neg (by simp [he])]
    clear h hw hok he hv hP
    go_enter Tryz.func63, Tryz.ntmps63
    go_wp2_with fail
    refine HOK.out.mono ?_
    rintro e W1 ⟨rfl, rfl⟩
    dsimp only
    go_wp2_with fail
    refine (pfail_calls HP.out HW.out 22).mono ?_
    rintro e W3 ⟨rfl, h3, h4⟩
    have H3 := Lib.hid (And.intro h3 h4)
    clear h3 h4
    dsimp only
    go_wp2_with fail
    go_ret
    exact ⟨rfl, H3.out.1, H3.out.2⟩

set_option maxRecDepth 100000 in
set_option maxHeartbeats 2000000 in
theorem pkind_calls (h : PI Q w0 W p b tk dp s) (hw : Wk tk s) (k : Int) :
    Calls Tryz.prog 39 #[.pointer (some ⟨p, 0, none⟩), .int .i64 k] W (Does Q w0 p b tk dp (Ps.kind tk k s) W) := by
  have HP := Lib.hid h
  have HW := Lib.hid hw
  have hok := pok_calls h
  unfold Ps.kind
  by_cases he : s.e = 0
  · rw [decide_eq_true he] at hok
    have HOK := Lib.hid hok
    have hpk := anc_peek h.anc hw.1 hw.2.1 hw.2.2.1
    have c0 := h.c0
    by_cases hn : (Ps.peek tk s.used).kind = k
    · rw [if_pos ⟨he, hn⟩]
      rw [hn] at hpk
      have HPK := Lib.hid hpk
      clear h hw hok he hn hpk
      go_enter Tryz.func39, Tryz.ntmps39
      go_wp2_with fail
      refine HOK.out.mono ?_
      rintro e W1 ⟨rfl, rfl⟩
      dsimp only
      go_wp2_with fail
      refine HPK.out.mono ?_
      rintro e W2 ⟨rfl, hb2⟩
      have d0 := (HP.out.past hb2).c0
      have H2 := Lib.hid hb2
      have t0 := tok_field0 k ⟨(Ps.peek tk s.used).lead.toArray⟩ ⟨(Ps.peek tk s.used).text.toArray⟩ (Ps.peek tk s.used).pos W2
      clear hb2 c0
      dsimp only
      go_wp2_with fail
      refine (pleaf_calls (HP.out.past H2.out) HW.out).mono ?_
      rintro e W3 ⟨rfl, h3, h4⟩
      have H3 := Lib.hid (And.intro h3 h4)
      clear h3 h4 d0
      dsimp only
      go_wp2_with fail
      go_ret
      exact ⟨rfl, H3.out.1, (FrT.of H2.out).trans H3.out.2⟩
    · rw [if_neg (by simp [hn])]
      generalize (Ps.peek tk s.used).kind = kd at *
      have hn1 : (kd == k) = false := by simpa using hn
      have hn2 : (kd != k) = true := by simpa using hn
      have HPK := Lib.hid hpk
      clear h hw hok he hn hpk
      go_enter Tryz.func39, Tryz.ntmps39
      go_wp2_with fail
      refine HOK.out.mono ?_
      rintro e W1 ⟨rfl, rfl⟩
      dsimp only
      go_wp2_with fail
      refine HPK.out.mono ?_
      rintro e W2 ⟨rfl, hb2⟩
      have H2 := Lib.hid hb2
      have t0 := tok_field0 kd ⟨(Ps.peek tk s.used).lead.toArray⟩ ⟨(Ps.peek tk s.used).text.toArray⟩ (Ps.peek tk s.used).pos W2
      clear hb2 c0
      dsimp only
      go_wp2_with fail
      refine (pfail_calls (HP.out.past H2.out) HW.out 22).mono ?_
      rintro e W3 ⟨rfl, h3, h4⟩
      have H3 := Lib.hid (And.intro h3 h4)
      clear h3 h4
      dsimp only
      go_wp2_with fail
      go_ret
      exact ⟨rfl, H3.out.1, (FrT.of H2.out).trans H3.out.2⟩
  · rw [decide_eq_false he] at hok
    have HOK := Lib.hid hok
    rw [if_neg (by simp [he])]
    clear h hw hok he
    go_enter Tryz.func39, Tryz.ntmps39
    go_wp2_with fail
    refine HOK.out.mono ?_
    rintro e W1 ⟨rfl, rfl⟩
    dsimp only
    go_wp2_with fail
    refine (pfail_calls HP.out HW.out 22).mono ?_
    rintro e W3 ⟨rfl, h3, h4⟩
    have H3 := Lib.hid (And.intro h3 h4)
    clear h3 h4
    dsimp only
    go_wp2_with fail
    go_ret
    exact ⟨rfl, H3.out.1, H3.out.2⟩

set_option maxRecDepth 100000 in
set_option maxHeartbeats 2000000 in
theorem pnode_calls (h : PI Q w0 W p b tk dp s) (hw : Wk tk s) {P : Nat → Prop} {v : Value} {l : List Int} (hk : RdS W P 1 v l.length (intCells l)) (hP : ∀ k, P k → k < W.heap.size) (hl : l.length ≤ 1000000) (hQ : Up Q W) (k : Int) :
    Calls Tryz.prog 38 #[.pointer (some ⟨p, 0, none⟩), .int .i64 k, v] W (Does Q w0 p b tk dp (Ps.node k l s) W) := by
  have HP := Lib.hid h
  have hok := pok_calls h
  obtain ⟨av, cv, rfl⟩ := hk.form
  by_cases he : s.e = 0
  · have HN := Lib.hid (pbnode_calls h hw he hk hP hl hQ k)
    rw [decide_eq_true he] at hok
    have HOK := Lib.hid hok
    have c0 := h.c0
    clear h hw hok he hk hP hQ
    go_enter Tryz.func38, Tryz.ntmps38
    go_wp2_with fail
    refine HOK.out.mono ?_
    rintro e W1 ⟨rfl, rfl⟩
    dsimp only
    go_wp2_with fail
    refine HN.out.mono ?_
    rintro e W3 ⟨rfl, h3, h4⟩
    have H3 := Lib.hid (And.intro h3 h4)
    clear h3 h4 c0
    dsimp only
    go_wp2_with fail
    go_ret
    exact ⟨rfl, H3.out.1, H3.out.2⟩
  · rw [decide_eq_false he] at hok
    have HOK := Lib.hid hok
    have HE := Lib.hid he
    clear h hw hok he hk hP hQ
    go_enter Tryz.func38, Tryz.ntmps38
    go_wp2_with fail
    refine HOK.out.mono ?_
    rintro e W1 ⟨rfl, rfl⟩
    dsimp only
    go_wp2_with fail
    go_ret
    have e1 : Ps.node k l s = (0, s) := by unfold Ps.node; rw [if_neg HE.out]
    rw [e1]
    exact ⟨rfl, HP.out, FrT.refl _ _⟩

set_option maxRecDepth 100000 in
set_option maxHeartbeats 2000000 in
/-- Where d more may be nested. -/
theorem pdeep_calls (h : PI Q w0 W p b tk dp s) (hw : Wk tk s) {n : Int} {d : Nat} (hd : n + d = dp + 1) :
    Calls Tryz.prog 80 #[.pointer (some ⟨p, 0, none⟩), .int .i64 n] W fun e W' => e = .returned (.bool (decide ((Ps.deep tk d s).e ≠ 0))) ∧ PI Q w0 W' p b tk dp (Ps.deep tk d s) ∧ FrT PTs W W' := by
  have HP := Lib.hid h
  have HW := Lib.hid hw
  have c1 := h.c1
  unfold Ps.deep
  by_cases hz : d = 0
  · have hd1 : decide (dp < n) = true := decide_eq_true (by omega)
    rw [if_pos hz]
    clear h hw hz hd
    go_enter Tryz.func80, Tryz.ntmps80
    go_wp2_with fail
    refine (pfail_calls HP.out HW.out 23).mono ?_
    rintro e W3 ⟨rfl, h3, h4⟩
    have H3 := Lib.hid (And.intro h3 h4)
    clear h3 h4 c1
    dsimp only
    go_wp2_with fail
    refine (pok_calls H3.out.1).mono ?_
    rintro e W4 ⟨rfl, rfl⟩
    dsimp only
    go_wp2_with fail
    go_ret
    exact ⟨by simp, H3.out.1, H3.out.2⟩
  · have hd1 : decide (dp < n) = false := decide_eq_false (by omega)
    rw [if_neg hz]
    clear h hw hz hd
    go_enter Tryz.func80, Tryz.ntmps80
    go_wp2_with fail
    refine (pok_calls HP.out).mono ?_
    rintro e W4 ⟨rfl, rfl⟩
    dsimp only
    go_wp2_with fail
    go_ret
    exact ⟨by simp, HP.out, FrT.refl _ _⟩
end
end
end Go.Proofs.YtpkhdlnlkeehhaaGreatDoor
/- Plain: the two parsers, level by level. No program in sight. -/
namespace Go.Proofs.YtpkhdlnlkeehhaaGreatDoor.Pc
open Tr Ps

theorem dig1 : Lib.decDigits (1 : Int).toNat = [49] := by decide +kernel
theorem dig2 : Lib.decDigits (2 : Int).toNat = [50] := by decide +kernel
theorem dig3 : Lib.decDigits (3 : Int).toNat = [51] := by decide +kernel
theorem dig4 : Lib.decDigits (4 : Int).toNat = [52] := by decide +kernel
theorem dig5 : Lib.decDigits (5 : Int).toNat = [53] := by decide +kernel
theorem dig6 : Lib.decDigits (6 : Int).toNat = [54] := by decide +kernel
theorem dig7 : Lib.decDigits (7 : Int).toNat = [55] := by decide +kernel
theorem dig8 : Lib.decDigits (8 : Int).toNat = [56] := by decide +kernel
theorem dig9 : Lib.decDigits (9 : Int).toNat = [57] := by decide +kernel
theorem dig10 : Lib.decDigits (10 : Int).toNat = [49, 48] := by decide +kernel
theorem dig11 : Lib.decDigits (11 : Int).toNat = [49, 49] := by decide +kernel
theorem dig12 : Lib.decDigits (12 : Int).toNat = [49, 50] := by decide +kernel
theorem dig13 : Lib.decDigits (13 : Int).toNat = [49, 51] := by decide +kernel
theorem dig14 : Lib.decDigits (14 : Int).toNat = [49, 52] := by decide +kernel
theorem dig15 : Lib.decDigits (15 : Int).toNat = [49, 53] := by decide +kernel
theorem dig16 : Lib.decDigits (16 : Int).toNat = [49, 54] := by decide +kernel
theorem dig17 : Lib.decDigits (17 : Int).toNat = [49, 55] := by decide +kernel
theorem dig18 : Lib.decDigits (18 : Int).toNat = [49, 56] := by decide +kernel

section
variable {tk : List Tk}

theorem out_if {p : Prop} [Decidable p] {q : Bool} {s0 : St} {f1 f2 : List Int × St} {g1 g2 : List UInt8 × Pr.Rs} (hpq : p ↔ q = true) (h1 : p → Out tk s0 f1.2 f1.1 g1.2 g1.1) (h2 : ¬ p → Out tk s0 f2.2 f2.1 g2.2 g2.1) :
    Out tk s0 (if p then f1 else f2).2 (if p then f1 else f2).1 (if q = true then g1 else g2).2 (if q = true then g1 else g2).1 := by
  by_cases h : p
  · rw [if_pos h, if_pos (hpq.1 h)]
    exact h1 h
  · rw [if_neg h, if_neg (fun e => h (hpq.2 e))]
    exact h2 h

/-- Things with commas between them: behind the first of so many. -/
theorem sim_listGo (ht : Toks tk) {one : F} {gone : Pr.G} (ho : Sim tk one gone) : ∀ (n k c : Nat) {s0 s : St} {l : List Int} {r : Pr.Rs} {x : List UInt8}, c + k = 8 → tk.length ≤ n + s.used → Out tk s0 s l r x →
    Out tk s0 (if s.e = 0 ∧ nextB tk [[44]] s.used = true then listGo tk one k (l ++ [(leaf tk s).1]) (leaf tk s).2 else (l, s)).2 (if s.e = 0 ∧ nextB tk [[44]] s.used = true then listGo tk one k (l ++ [(leaf tk s).1]) (leaf tk s).2 else (l, s)).1 (Pr.argsGo tk gone n c x r).2 (Pr.argsGo tk gone n c x r).1
  | 0, k, c, s0, s, l, r, x, _, hn, o => by
    have := o.2.1.1
    omega
  | n + 1, k, c, s0, s, l, r, x, hc, hn, o => by
    have hb := both_is o [44]
    unfold Pr.argsGo
    refine out_if hb (fun h => ?_) (fun _ => o)
    obtain ⟨o1, e1⟩ := o.leaf ht h.1 (next_kind h.2)
    cases k with
    | zero =>
      obtain rfl : c = 8 := by omega
      unfold listGo
      simp only [if_true]
      have o2 := o1.fail (e := 15) (by decide) (l ++ [(leaf tk s).1]) (x ++ (Pr.leaf tk r).1)
      have hd : (Pr.fail tk 15 (Pr.leaf tk r).2).e ≠ 0 := by
        rw [o2.2.2.1.1]
        unfold fail
        rw [if_pos e1]
        show (15 : Int) ≠ 0
        decide
      rw [ho.dg _ hd]
      have hg : ∀ (m c : Nat) (y : List UInt8), (Pr.argsGo tk gone m c y (Pr.fail tk 15 (Pr.leaf tk r).2)).2 = Pr.fail tk 15 (Pr.leaf tk r).2 := by
        intro m c y
        cases m with
        | zero => rfl
        | succ m => unfold Pr.argsGo; rw [is_dead hd, if_neg (by simp)]
      rw [hg]
      have hd2 : (fail tk 15 (leaf tk s).2).e ≠ 0 := by rw [← o2.2.2.1.1]; exact hd
      exact o2.dead hd2 _ _
    | succ k =>
      have hc8 : c ≠ 8 := by omega
      unfold listGo
      simp only [if_neg hc8, if_pos e1]
      have o2 := o1.then ho
      have hu : (leaf tk s).2.used = s.used + 1 := by
        obtain ⟨t, h1, _⟩ := o.2.1.get
        exact (got_leaf o.2.1.2.2 h1).2.1
      have hm : (leaf tk s).2.used ≤ (one (leaf tk s).2).2.used ∨ (one (leaf tk s).2).2.e ≠ 0 := by
        by_cases he : (one (leaf tk s).2).2.e = 0
        · obtain ⟨_, _, _, h4⟩ := ho.go (leaf tk s).2 (Pr.leaf tk r).2 e1 o1.2.1 o1.2.2.1
          exact Or.inl (h4 he).used
        · exact Or.inr he
      rcases hm with hm | hm
      · have := sim_listGo ht ho n k (c + 1) (by omega) (by rw [hu] at hm; show tk.length ≤ n + (one (leaf tk s).2).2.used; omega) o2
        simp only [lift, List.append_assoc, List.cons_append, List.nil_append] at this ⊢
        exact this
      · simp only [lift] at o2
        rw [if_neg (by simp [hm])]
        have hd : (gone (Pr.leaf tk r).2).2.e ≠ 0 := by rw [o2.2.2.1.1]; exact hm
        have hg : ∀ (m c : Nat) (y : List UInt8), (Pr.argsGo tk gone m c y (gone (Pr.leaf tk r).2).2).2 = (gone (Pr.leaf tk r).2).2 := by
          intro m c y
          cases m with
          | zero => rfl
          | succ m => unfold Pr.argsGo; rw [is_dead hd, if_neg (by simp)]
        rw [hg]
        exact o2.dead hm _ _
theorem rargs_dead {gone : Pr.G} {r : Pr.Rs} (he : r.e ≠ 0) : ∀ (n c : Nat) (x : List UInt8), (Pr.argsGo tk gone n c x r).2 = r
  | 0, _, _ => rfl
  | n + 1, c, x => by unfold Pr.argsGo; rw [is_dead he, if_neg (by simp)]
/-- The list behind a parenthesis, where none is shut at once. -/
theorem sim_list (ht : Toks tk) {one : F} {gone : Pr.G} (ho : Sim tk one gone) {s0 s : St} {l : List Int} {r : Pr.Rs} {x : List UInt8} (o : Out tk s0 s l r x) :
    Out tk s0 (list tk one s).2 (l ++ (list tk one s).1) (if r.e = 0 ∧ Pr.is tk [41] r = false then (x ++ (Pr.args tk gone r).1, (Pr.args tk gone r).2) else (x, r)).2 (if r.e = 0 ∧ Pr.is tk [41] r = false then (x ++ (Pr.args tk gone r).1, (Pr.args tk gone r).2) else (x, r)).1 := by
  by_cases he : s.e = 0
  · have hb := is_eq o.2.1 o.2.2.1 he [41]
    unfold list
    by_cases hn : nextB tk [[41]] s.used = true
    · rw [if_pos hn, if_neg (by rw [hb, hn]; simp), List.append_nil]
      exact o
    · rw [if_neg hn, if_pos ⟨o.2.2.1.1.trans he, by rw [hb]; simpa using hn⟩]
      have hf : Out tk s (one s).2 [(one s).1] (gone r).2 (gone r).1 := ho.go s r he o.2.1 o.2.2.1
      unfold listGo Pr.args
      rw [if_pos he]
      have hm : s.used ≤ (one s).2.used ∨ (one s).2.e ≠ 0 := by
        by_cases h2 : (one s).2.e = 0
        · exact Or.inl (hf.2.2.2 h2).used
        · exact Or.inr h2
      have h4 : Out tk s (if (one s).2.e = 0 ∧ nextB tk [[44]] (one s).2.used = true then listGo tk one 7 ([(one s).1] ++ [(leaf tk (one s).2).1]) (leaf tk (one s).2).2 else ([(one s).1], (one s).2)).2 (if (one s).2.e = 0 ∧ nextB tk [[44]] (one s).2.used = true then listGo tk one 7 ([(one s).1] ++ [(leaf tk (one s).2).1]) (leaf tk (one s).2).2 else ([(one s).1], (one s).2)).1 (Pr.argsGo tk gone tk.length 1 (gone r).1 (gone r).2).2 (Pr.argsGo tk gone tk.length 1 (gone r).1 (gone r).2).1 := by
        by_cases h2 : (one s).2.e = 0
        · exact sim_listGo ht ho tk.length 7 1 (by omega) (by omega) hf
        · rw [if_neg (by simp [h2]), rargs_dead (by rw [hf.2.2.1.1]; exact h2)]
          exact hf.dead h2 _ _
      simp only [List.nil_append, List.singleton_append] at h4 ⊢
      exact ⟨o.1, h4.2.1, h4.2.2.1, fun e2 => (o.2.2.2 he).trans o.2.1.2.2 (h4.2.2.2 e2)⟩
  · have h1 : list tk one s = ([], s) := by
      unfold list
      split
      · rfl
      · unfold listGo; rw [if_neg he]
    rw [h1, if_neg (by rw [o.2.2.1.1]; simp [he])]
    exact o.dead he _ _
theorem list_dead {one : F} {s : St} (he : s.e ≠ 0) : list tk one s = ([], s) := by
  unfold list
  split
  · rfl
  · unfold listGo; rw [if_neg he]

theorem lift_dead {f : F} {s : St} (h : (lift f s).2 = s) : (f s).2 = s := h

/-- Once there is a fault nothing is turned. -/
theorem must_dead {ts : List (List UInt8)} {s : St} (he : s.e ≠ 0) : must tk ts s = (0, s) := by
  unfold must
  rw [if_neg (by simp [he]), fail_dead he]
theorem kind_dead {k : Int} {s : St} (he : s.e ≠ 0) : kind tk k s = (0, s) := by
  unfold kind
  rw [if_neg (by simp [he]), fail_dead he]
theorem rmust_dead {y : List UInt8} {r : Pr.Rs} (he : r.e ≠ 0) : Pr.must tk y r = ([], r) := by
  unfold Pr.must
  rw [is_dead he, if_neg (by simp), rfail_dead he]
theorem rkind_dead {k : Int} {r : Pr.Rs} (he : r.e ≠ 0) : Pr.kind tk k r = ([], r) := by
  unfold Pr.kind
  rw [if_neg (by simp [he]), rfail_dead he]

/-- A level's four. -/
structure SimV (tk : List Tk) (d : Nat) (lo : Ps.Lv) (glo : Pr.Lv) : Prop where
  ex : Sim tk lo.ex glo.ex
  rest : d ≠ 0 → Sim tk lo.fo glo.fo ∧ Sim tk lo.ne glo.ne ∧ Sim tk lo.fa glo.fa

theorem sim_unary (ht : Toks tk) {d : Nat} {f : F} {g : Pr.G} (hf : d ≠ 0 → Sim tk f g) {s : St} {r : Pr.Rs} (he : s.e = 0) (hi : Inv tk s) (hr : Rel s r) (hk : (peek tk s.used).kind ≠ 5) :
    Out tk s (unary tk d f s).2 [(unary tk d f s).1] (Pr.unary tk d g r).2 (Pr.unary tk d g r).1 := by
  obtain ⟨o, e1⟩ := (Out.nil hi hr).leaf ht he hk
  have re1 : (Pr.leaf tk r).2.e = 0 := o.2.2.1.1.trans e1
  unfold unary Pr.unary deep Pr.nest
  by_cases hd : d = 0
  · simp only [if_pos hd]
    have o2 := o.fail (e := 23) (by decide) [0] []
    have h1 : (fail tk 23 (leaf tk s).2).e ≠ 0 := by unfold fail; rw [if_pos e1]; show (23 : Int) ≠ 0; decide
    rw [if_neg h1, if_neg (by rw [o2.2.2.1.1]; exact h1)]
    exact o2
  · simp only [if_neg hd, if_pos e1, if_pos re1]
    exact ((o.then (hf hd)).node (k := 11) (by decide) (fun _ => by simp [lift])).cast (by rw [dig11]; simp)

theorem sim_list' (ht : Toks tk) {one : F} {gone : Pr.G} (ho : Sim tk one gone) {s0 s : St} {l : List Int} {r : Pr.Rs} {x : List UInt8} (o : Out tk s0 s l r x) :
    Out tk s0 (list tk one s).2 (l ++ (list tk one s).1) (if Pr.is tk [41] r then (x, r) else (x ++ (Pr.args tk gone r).1, (Pr.args tk gone r).2)).2 (if Pr.is tk [41] r then (x, r) else (x ++ (Pr.args tk gone r).1, (Pr.args tk gone r).2)).1 := by
  have o1 := sim_list ht ho o
  by_cases he : r.e = 0
  · cases h : Pr.is tk [41] r
    · rw [h, if_pos ⟨he, rfl⟩] at o1
      rw [if_neg (by simp)]
      exact o1
    · rw [h, if_neg (by simp)] at o1
      rw [if_pos rfl]
      exact o1
  · have hs : s.e ≠ 0 := by rw [← o.2.2.1.1]; exact he
    rw [list_dead hs, is_dead he, if_neg (by simp)]
    have hd : (Pr.args tk gone r).2 = r := by
      unfold Pr.args
      rw [ho.dg _ he, rargs_dead he]
    rw [hd]
    exact o.dead hs _ _
theorem sim_call (ht : Toks tk) {ex : F} {g : Pr.G} (hx : Sim tk ex g) {s0 s : St} {l : List Int} {r : Pr.Rs} {x : List UInt8} (hl : 1 ≤ l.length) (o : Out tk s0 s l r x) :
    Out tk s0 (call tk ex l s).2 [(call tk ex l s).1] (Pr.call tk g x r).2 (Pr.call tk g x r).1 :=
  (((sim_list' ht hx (o.then (sim_must ht [40]))).then (sim_must ht [41])).node (k := 13) (by decide) (fun _ => by simp [lift]; omega)).cast (by rw [dig13]; simp [Pr.call])
theorem sim_callee (ht : Toks tk) {s0 s : St} {a : Int} {r : Pr.Rs} {x : List UInt8} (he : s.e = 0) (o : Out tk s0 s [a] r x) :
    Out tk s0 (callee tk s a).2 (callee tk s a).1 (Pr.callee tk x r).2 (Pr.callee tk x r).1 ∧ 1 ≤ (callee tk s a).1.length := by
  have hb := is_eq o.2.1 o.2.2.1 he [46]
  unfold callee Pr.callee
  by_cases h : nextB tk [[46]] s.used = true
  · rw [if_pos h, if_pos (by rw [hb]; exact h)]
    exact ⟨((o.leaf ht he (next_kind h)).1.then (sim_kind ht (k := 1) (by decide))).cast (by simp), by simp⟩
  · rw [if_neg h, if_neg (by rw [hb]; exact h)]
    exact ⟨o, by simp⟩
theorem sim_name (ht : Toks tk) {ex : F} {g : Pr.G} (hx : Sim tk ex g) {s : St} {r : Pr.Rs} (he : s.e = 0) (hi : Inv tk s) (hr : Rel s r) (hk : (peek tk s.used).kind ≠ 5) :
    Out tk s (name tk ex s).2 [(name tk ex s).1] (Pr.name tk g r).2 (Pr.name tk g r).1 := by
  obtain ⟨o, e1⟩ := (Out.nil hi hr).leaf ht he hk
  have hc : (Pr.leaf tk r).2.inn = (leaf tk s).2.clause := (o.2.2.1.2.2 e1).2
  have h1 := is_eq o.2.1 o.2.2.1 e1 [46]
  have h2 := is_eq o.2.1 o.2.2.1 e1 [40]
  have h3 : nextB tk [[46], [40]] (leaf tk s).2.used = (nextB tk [[46]] (leaf tk s).2.used || nextB tk [[40]] (leaf tk s).2.used) := by
    have q := any_eq o.2.1 o.2.2.1 e1 [[46], [40]]
    rw [← q, ← h1, ← h2]
    simp [Pr.any]
  unfold name Pr.name
  simp only
  rw [hc, h1, h2, h3, Bool.not_or]
  by_cases h : ((leaf tk s).2.clause || (!nextB tk [[46]] (leaf tk s).2.used && !nextB tk [[40]] (leaf tk s).2.used)) = true
  · rw [if_pos h, if_pos h]
    exact (Out.one ht hi hr he hk (k := 14) (by decide)).cast (by rw [dig14]; simp)
  · rw [if_neg h, if_neg h]
    rw [List.nil_append, List.nil_append] at o
    have o2 := sim_callee ht e1 o
    exact sim_call ht hx o2.2 o2.1
theorem sim_atom (ht : Toks tk) {ex : F} {g : Pr.G} (hx : Sim tk ex g) : Sim tk (atom tk ex) (Pr.atom tk g) := by
  refine ⟨fun s r he hi hr => ?_, fun s he => ?_, fun r he => ?_⟩
  · have o := Out.nil hi hr
    have hp := peek_tok hi hr he
    have b1 := is_eq hi hr he tTrue
    have b2 := is_eq hi hr he tFalse
    have b3 := is_eq hi hr he tRes
    have b4 := is_eq hi hr he [40]
    have b5 : nextB tk [tTrue, tFalse] s.used = (nextB tk [tTrue] s.used || nextB tk [tFalse] s.used) := by
      have q := any_eq hi hr he [tTrue, tFalse]
      rw [← q, ← b1, ← b2]
      simp [Pr.any]
    have hc := (hr.2.2 he).2
    unfold lift atom Pr.atom
    simp only [if_pos he, if_pos (hr.1.trans he)]
    rw [hp, b1, b2, b3, b4, hc, b5]
    by_cases h1 : (peek tk s.used).kind = 3
    · rw [if_pos h1, if_pos h1]
      exact (Out.one ht hi hr he (by omega) (k := 15) (by decide)).cast (by rw [dig15]; simp)
    · rw [if_neg h1, if_neg h1]
      by_cases h2 : (nextB tk [tTrue] s.used || nextB tk [tFalse] s.used) = true
      · rw [if_pos h2, if_pos h2]
        exact (Out.one ht hi hr he (next_kind (b5.trans h2)) (k := 16) (by decide)).cast (by rw [dig16]; simp)
      · rw [if_neg h2, if_neg h2]
        by_cases h3 : (s.clause && nextB tk [tRes] s.used) = true
        · rw [if_pos h3, if_pos h3]
          exact (Out.one ht hi hr he (next_kind (by simp only [Bool.and_eq_true] at h3; exact h3.2)) (k := 17) (by decide)).cast (by rw [dig17]; simp)
        · rw [if_neg h3, if_neg h3]
          by_cases h4 : nextB tk [[40]] s.used = true
          · rw [if_pos h4, if_pos h4]
            exact ((((o.leaf ht he (next_kind h4)).1.then hx).then (sim_must ht [41])).node (k := 12) (by decide) (fun _ => by simp [lift])).cast (by rw [dig12]; simp)
          · rw [if_neg h4, if_neg h4]
            by_cases h5 : (peek tk s.used).kind = 1
            · rw [if_pos h5, if_pos h5]
              exact sim_name ht hx he hi hr (by omega)
            · rw [if_neg h5, if_neg h5]
              exact o.fail (by decide) _ _
  · unfold lift atom
    rw [if_neg he]
  · unfold Pr.atom
    rw [if_neg he]
theorem sim_factor (ht : Toks tk) {d : Nat} {lo : Ps.Lv} {glo : Pr.Lv} (h : SimV tk d lo glo) : Sim tk (factor tk d lo) (Pr.factor tk d glo) := by
  have ha := sim_atom ht h.ex
  refine ⟨fun s r he hi hr => ?_, fun s he => ?_, fun r he => ?_⟩
  · have hb := is_eq hi hr he [45]
    unfold lift factor Pr.factor
    by_cases hn : nextB tk [[45]] s.used = true
    · rw [if_pos ⟨he, hn⟩, if_pos (by rw [hb]; exact hn)]
      exact sim_unary ht (fun hd => (h.rest hd).2.2) he hi hr (next_kind hn)
    · rw [if_neg (by simp [hn]), if_neg (by rw [hb]; exact hn)]
      exact ha.go s r he hi hr
  · unfold lift factor
    rw [if_neg (by simp [he])]
    exact ha.df s he
  · unfold Pr.factor
    rw [is_dead he, if_neg (by simp)]
    exact ha.dg r he
theorem sim_comparison (ht : Toks tk) {d : Nat} {lo : Ps.Lv} {glo : Pr.Lv} (h : SimV tk d lo glo) : Sim tk (comparison tk d lo) (fun r => if Pr.any tk sCmp (Pr.sum tk d glo r).2 then (Pr.bin (Pr.sum tk d glo r).1 (Pr.leaf tk (Pr.sum tk d glo r).2).1 (Pr.sum tk d glo (Pr.leaf tk (Pr.sum tk d glo r).2).2).1, (Pr.sum tk d glo (Pr.leaf tk (Pr.sum tk d glo r).2).2).2) else Pr.sum tk d glo r) := by
  have hs : Sim tk (sum tk d lo) (Pr.sum tk d glo) := sim_row ht (sim_row ht (sim_factor ht h) sMul) sSum
  obtain ⟨n, hn⟩ : ∃ n, tk.length = n + 1 := ⟨tk.length - 1, by have := ht.pos; omega⟩
  refine ⟨fun s r he hi hr => ?_, fun s he => ?_, fun r he => ?_⟩
  · have o : Out tk s (sum tk d lo s).2 [(sum tk d lo s).1] (Pr.sum tk d glo r).2 (Pr.sum tk d glo r).1 := hs.go s r he hi hr
    have hb := both_any o sCmp
    unfold lift comparison row
    rw [hn]
    unfold rowGo
    by_cases hx : (sum tk d lo s).2.e = 0 ∧ nextB tk sCmp (sum tk d lo s).2.used = true
    · simp only [if_pos hx, if_pos (hb.1 hx), if_true]
      exact (((o.leaf ht hx.1 (next_kind hx.2)).1.then hs).node (k := 10) (by decide) (fun _ => by simp [lift])).cast (by rw [dig10]; simp [Pr.bin])
    · simp only [if_neg hx, if_neg (fun e => hx (hb.2 e))]
      exact o
  · unfold lift comparison row
    have h1 : (sum tk d lo s).2 = s := hs.df s he
    rw [h1]
    exact rowGo_dead he _ _
  · have h1 : (Pr.sum tk d glo r).2 = r := hs.dg r he
    rw [h1, any_dead he, if_neg (by simp)]
    exact h1
theorem sim_negation (ht : Toks tk) {d : Nat} {lo : Ps.Lv} {glo : Pr.Lv} (h : SimV tk d lo glo) : Sim tk (negation tk d lo) (Pr.not tk d glo) := by
  have ha := sim_comparison ht h
  refine ⟨fun s r he hi hr => ?_, fun s he => ?_, fun r he => ?_⟩
  · have hb := is_eq hi hr he tNot
    unfold lift negation Pr.not
    by_cases hn : nextB tk [tNot] s.used = true
    · rw [if_pos ⟨he, hn⟩, if_pos (by rw [hb]; exact hn)]
      exact sim_unary ht (fun hd => (h.rest hd).2.1) he hi hr (next_kind hn)
    · rw [if_neg (by simp [hn]), if_neg (by rw [hb]; exact hn)]
      exact ha.go s r he hi hr
  · unfold lift negation
    rw [if_neg (by simp [he])]
    exact ha.df s he
  · unfold Pr.not
    rw [is_dead he, if_neg (by simp)]
    exact ha.dg r he
theorem sim_formula (ht : Toks tk) {d : Nat} {lo : Ps.Lv} {glo : Pr.Lv} (h : SimV tk d lo glo) : Sim tk (formula tk d lo) (Pr.formula tk d glo) := by
  have hs : Sim tk (disjunction tk d lo) (Pr.or tk d glo) := sim_row ht (sim_row ht (sim_negation ht h) sAnd) sOr
  refine ⟨fun s r he hi hr => ?_, fun s he => ?_, fun r he => ?_⟩
  · have o : Out tk s (disjunction tk d lo s).2 [(disjunction tk d lo s).1] (Pr.or tk d glo r).2 (Pr.or tk d glo r).1 := hs.go s r he hi hr
    have hb := both_is o [61, 62]
    unfold lift formula Pr.formula
    simp only
    by_cases hx : (disjunction tk d lo s).2.e = 0 ∧ nextB tk [[61, 62]] (disjunction tk d lo s).2.used = true
    · rw [if_pos hx, if_pos (hb.1 hx)]
      obtain ⟨o1, e1⟩ := o.leaf ht hx.1 (next_kind hx.2)
      have re1 := o1.2.2.1.1.trans e1
      unfold deep Pr.nest
      by_cases hd : d = 0
      · simp only [if_pos hd]
        have o2 := o1.fail (e := 23) (by decide) [0] []
        have h1 : (fail tk 23 (leaf tk (disjunction tk d lo s).2).2).e ≠ 0 := by unfold fail; rw [if_pos e1]; show (23 : Int) ≠ 0; decide
        rw [if_neg h1, if_neg (by rw [o2.2.2.1.1]; exact h1)]
        exact o2
      · simp only [if_neg hd, if_pos e1, if_pos re1]
        exact ((o1.then (h.rest hd).1).node (k := 10) (by decide) (fun _ => by simp [lift])).cast (by rw [dig10]; simp [Pr.bin])
    · rw [if_neg hx, if_neg (fun e => hx (hb.2 e))]
      exact o
  · unfold lift formula
    have h1 : (disjunction tk d lo s).2 = s := hs.df s he
    simp only
    rw [h1, if_neg (by simp [he])]
    exact h1
  · unfold Pr.formula
    have h1 : (Pr.or tk d glo r).2 = r := hs.dg r he
    simp only
    rw [h1, is_dead he, if_neg (by simp)]
    exact h1
theorem sim_express (ht : Toks tk) {d : Nat} {lo : Ps.Lv} {glo : Pr.Lv} (h : SimV tk d lo glo) : Sim tk (express tk d lo) (Pr.express tk d glo) := by
  have hf := sim_formula ht h
  have hx := h.ex
  refine ⟨fun s r he hi hr => ?_, fun s he => ?_, fun r he => ?_⟩
  · have o := Out.nil hi hr
    have b1 := is_eq hi hr he tLet
    have b2 := is_eq hi hr he tIf
    have b3 := is_eq hi hr he tAssert
    have hc := (hr.2.2 he).2
    unfold lift express Pr.express
    simp only [if_pos he, if_pos (hr.1.trans he)]
    rw [b1, b2, b3, hc]
    cases hcl : s.clause with
    | true => simpa [lift] using hf.go s r he hi hr
    | false =>
      simp only [Bool.not_false, Bool.true_and, Bool.false_eq_true, if_false]
      by_cases h1 : nextB tk [tLet] s.used = true
      · rw [if_pos h1, if_pos h1]
        exact (((((((o.leaf ht he (next_kind h1)).1.then (sim_kind ht (k := 1) (by decide))).then (sim_must ht [61])).then hx).then (sim_must ht tIn)).then hx).node (k := 7) (by decide) (fun _ => by simp [lift])).cast (by rw [dig7]; simp [Pr.exLet])
      · rw [if_neg h1, if_neg h1]
        by_cases h2 : nextB tk [tIf] s.used = true
        · rw [if_pos h2, if_pos h2]
          exact (((((((o.leaf ht he (next_kind h2)).1.then hx).then (sim_must ht tThen)).then hx).then (sim_must ht tElse)).then hx).node (k := 8) (by decide) (fun _ => by simp [lift])).cast (by rw [dig8]; simp [Pr.exIf])
        · rw [if_neg h2, if_neg h2]
          by_cases h3 : nextB tk [tAssert] s.used = true
          · rw [if_pos h3, if_pos h3]
            exact (((((o.leaf ht he (next_kind h3)).1.then hx).then (sim_must ht tIn)).then hx).node (k := 9) (by decide) (fun _ => by simp [lift])).cast (by rw [dig9]; simp [Pr.exAssert])
          · rw [if_neg h3, if_neg h3]
            exact hf.go s r he hi hr
  · unfold lift express
    rw [if_neg he]
  · unfold Pr.express
    rw [if_neg he]
/-- All levels. -/
theorem sim_lv (ht : Toks tk) : ∀ d : Nat, SimV tk d (Ps.lv tk d) (Pr.lv tk d)
  | 0 => by
    refine ⟨⟨fun s r he hi hr => (Out.nil hi hr).fail (by decide) _ _, fun s he => ?_, fun r he => ?_⟩, fun h => absurd rfl h⟩
    · unfold lift Ps.lv
      exact fail_dead he
    · unfold Pr.lv
      exact rfail_dead he
  | d + 1 => by
    have h := sim_lv ht d
    exact ⟨sim_express ht h, fun _ => ⟨sim_formula ht h, sim_negation ht h, sim_factor ht h⟩⟩
end
end Go.Proofs.YtpkhdlnlkeehhaaGreatDoor.Pc
/- Plain: definitions and programs: the two parsers side by side; a parsed tree is right. No program in sight. -/
namespace Go.Proofs.YtpkhdlnlkeehhaaGreatDoor.Pc
open Tr Ps

section
variable {tk : List Tk}

theorem sim_base (ht : Toks tk) {s0 s : St} {l : List Int} {r : Pr.Rs} {x : List UInt8} (o : Out tk s0 s l r x) :
    Out tk s0 (node 5 [(must tk [tInt, tBool] s).1] (must tk [tInt, tBool] s).2).2 (l ++ [(node 5 [(must tk [tInt, tBool] s).1] (must tk [tInt, tBool] s).2).1]) (Pr.base tk x r).2 (Pr.base tk x r).1 := by
  by_cases he : s.e = 0
  · have b1 := is_eq o.2.1 o.2.2.1 he tInt
    have b2 := is_eq o.2.1 o.2.2.1 he tBool
    have b3 : nextB tk [tInt, tBool] s.used = (nextB tk [tInt] s.used || nextB tk [tBool] s.used) := by
      have q := any_eq o.2.1 o.2.2.1 he [tInt, tBool]
      rw [← q, ← b1, ← b2]
      simp [Pr.any]
    unfold must Pr.base
    rw [b1, b2, ← b3]
    by_cases h : nextB tk [tInt, tBool] s.used = true
    · rw [if_pos ⟨he, h⟩, if_pos h]
      have o1 := Out.one ht o.2.1 o.2.2.1 he (next_kind h) (k := 5) (by decide)
      refine ⟨o.1, o1.2.1, o1.2.2.1, fun e2 => ?_⟩
      have h2 := (o.2.2.2 he).trans o.2.1.2.2 (o1.2.2.2 e2)
      rw [dig5] at h2
      simpa using h2
    · rw [if_neg (by simp [h]), if_neg h]
      have o2 := o.fail (e := 22) (by decide) (l ++ [(node 5 [0] (fail tk 22 s)).1]) x
      have h1 : (fail tk 22 s).e ≠ 0 := by unfold fail; rw [if_pos he]; show (22 : Int) ≠ 0; decide
      simp only
      rw [node_dead h1] at o2 ⊢
      exact o2
  · have hr : r.e ≠ 0 := by rw [o.2.2.1.1]; exact he
    rw [must_dead he, node_dead he]
    unfold Pr.base
    rw [is_dead hr, is_dead hr, if_neg (by simp), rfail_dead hr]
    exact o.dead he _ _

theorem Out.clause {s0 s : St} {l : List Int} {r : Pr.Rs} {x : List UInt8} (o : Out tk s0 s l r x) (b : Bool) : Inv tk { s with clause := b } ∧ Rel { s with clause := b } { r with inn := b } := by
  refine ⟨o.2.1, o.2.2.1.1, o.2.2.1.2.1, fun e => ⟨(o.2.2.1.2.2 e).1, rfl⟩⟩
theorem Got.unclause {s0 s : St} {l : List Int} {x : List UInt8} {b c : Bool} (h : Got tk { s0 with clause := b } s l x) : Got tk s0 { s with clause := c } l x :=
  ⟨h.nodes, h.used, h.lvs, h.text, h.room⟩
/-- A formula in braces. -/
theorem sim_clause (ht : Toks tk) {ex : F} {g : Pr.G} (hx : Sim tk ex g) {s0 s : St} {l : List Int} {r : Pr.Rs} {x : List UInt8} (o : Out tk s0 s l r x) (he : s.e = 0) (hk : nextB tk [[123]] s.used = true) :
    Out tk s0 (node 6 [(leaf tk s).1, (ex { (leaf tk s).2 with clause := true }).1, (must tk [[125]] { (ex { (leaf tk s).2 with clause := true }).2 with clause := false }).1] (must tk [[125]] { (ex { (leaf tk s).2 with clause := true }).2 with clause := false }).2).2
      (l ++ [(node 6 [(leaf tk s).1, (ex { (leaf tk s).2 with clause := true }).1, (must tk [[125]] { (ex { (leaf tk s).2 with clause := true }).2 with clause := false }).1] (must tk [[125]] { (ex { (leaf tk s).2 with clause := true }).2 with clause := false }).2).1])
      (Pr.must tk [125] { (g { (Pr.leaf tk r).2 with inn := true }).2 with inn := false }).2
      (x ++ ([32, 40, 54] ++ (Pr.leaf tk r).1 ++ (g { (Pr.leaf tk r).2 with inn := true }).1 ++ (Pr.must tk [125] { (g { (Pr.leaf tk r).2 with inn := true }).2 with inn := false }).1 ++ [41])) := by
  obtain ⟨o1, e1⟩ := (Out.nil o.2.1 o.2.2.1).leaf ht he (next_kind hk)
  obtain ⟨i2, r2⟩ := o1.clause true
  have o2 : Out tk _ (ex _).2 [(ex _).1] (g _).2 (g _).1 := hx.go { (leaf tk s).2 with clause := true } { (Pr.leaf tk r).2 with inn := true } e1 i2 r2
  obtain ⟨i3, r3⟩ := o2.clause false
  have o3 : Out tk s { (ex { (leaf tk s).2 with clause := true }).2 with clause := false } ([(leaf tk s).1] ++ [(ex { (leaf tk s).2 with clause := true }).1]) { (g { (Pr.leaf tk r).2 with inn := true }).2 with inn := false } ((Pr.leaf tk r).1 ++ (g { (Pr.leaf tk r).2 with inn := true }).1) := by
    refine ⟨o.2.1, i3, r3, fun e2 => ?_⟩
    have h1 := o1.2.2.2 e1
    have h2 : Got tk (leaf tk s).2 { (ex { (leaf tk s).2 with clause := true }).2 with clause := false } _ _ := (o2.2.2.2 e2).unclause
    exact h1.trans o1.2.1.2.2 h2
  have o4 := (o3.then (sim_must ht [125])).node (k := 6) (by decide) (fun _ => by simp [lift])
  refine ⟨o.1, o4.2.1, o4.2.2.1, fun e2 => ?_⟩
  have h5 := (o.2.2.2 he).trans o.2.1.2.2 (o4.2.2.2 e2)
  rw [dig6] at h5
  simpa [lift] using h5
theorem typed_dead {ex : F} {l : List Int} {s : St} (he : s.e ≠ 0) : (typed tk ex l s).2 = s := by
  simp only [typed, must_dead he, node_dead he]
  rw [if_neg (by simp [he])]
theorem sim_typed (ht : Toks tk) {ex : F} {g : Pr.G} (hx : Sim tk ex g) {s0 s : St} {l : List Int} {r : Pr.Rs} {x : List UInt8} (o : Out tk s0 s l r x) :
    Out tk s0 (typed tk ex l s).2 (typed tk ex l s).1 (Pr.typed tk g r).2 (x ++ (Pr.typed tk g r).1) := by
  have o1 := sim_base ht ((Out.nil o.2.1 o.2.2.1).then (sim_must ht [58]))
  rw [List.nil_append, List.nil_append] at o1
  have hb := both_is o1 [123]
  have h : Out tk s (typed tk ex [] s).2 (typed tk ex [] s).1 (Pr.typed tk g r).2 (Pr.typed tk g r).1 := by
    unfold typed Pr.typed
    simp only [List.nil_append]
    refine out_if hb (fun h => ?_) (fun _ => o1)
    exact sim_clause ht hx o1 h.1 h.2
  have hl : (typed tk ex l s).2 = (typed tk ex [] s).2 ∧ (typed tk ex l s).1 = l ++ (typed tk ex [] s).1 := by
    unfold typed
    simp only
    split <;> simp
  rw [hl.1, hl.2]
  by_cases he : s.e = 0
  · exact ⟨o.1, h.2.1, h.2.2.1, fun e2 => (o.2.2.2 he).trans o.2.1.2.2 (h.2.2.2 e2)⟩
  · refine ⟨o.1, h.2.1, h.2.2.1, fun e2 => ?_⟩
    exfalso
    have h3 : (typed tk ex [] s).2 = s := typed_dead he
    rw [h3] at e2
    exact he e2
theorem rtyped_dead {g : Pr.G} {r : Pr.Rs} (he : r.e ≠ 0) : Pr.typed tk g r = ([], r) := by
  simp only [Pr.typed, Pr.base, rmust_dead he, is_dead he, rfail_dead he, Bool.or_self, Bool.false_eq_true, if_false]
end
end Go.Proofs.YtpkhdlnlkeehhaaGreatDoor.Pc
/- Plain: a parsed tree is right. No program in sight. -/
namespace Go.Proofs.YtpkhdlnlkeehhaaGreatDoor.Pc
open Tr Ps

theorem getD_set' (l : List Bool) (i j : Nat) (h : i < l.length) : (l.set i true).getD j false = (l.getD j false || decide (j = i)) := by
  simp only [List.getD]
  by_cases e : i = j
  · subst e
    rw [List.getElem?_set_self h]
    simp
  · rw [List.getElem?_set_ne e, decide_eq_false (fun h => e h.symm), Bool.or_false]
theorem marks_ok : ∀ (ks : List Int) (kid : List Bool), ks.Nodup → (∀ k ∈ ks, 0 ≤ k ∧ k.toNat < kid.length ∧ kid.getD k.toNat false = false) →
    ∃ kid', marks kid ks = some kid' ∧ kid'.length = kid.length ∧ ∀ j : Nat, kid'.getD j false = (kid.getD j false || decide ((j : Int) ∈ ks))
  | [], kid, _, _ => ⟨kid, rfl, rfl, fun j => by simp⟩
  | k :: ks, kid, hn, hk => by
    have h0 := hk k (by simp)
    rw [List.nodup_cons] at hn
    obtain ⟨kid', h1, h2, h3⟩ := marks_ok ks (kid.set k.toNat true) hn.2 (fun x hx => by
      have hx1 := hk x (by simp [hx])
      refine ⟨hx1.1, by rw [List.length_set]; exact hx1.2.1, ?_⟩
      rw [getD_set' _ _ _ h0.2.1, hx1.2.2, Bool.false_or, decide_eq_false]
      intro e
      have : x = k := by omega
      exact hn.1 (this ▸ hx))
    refine ⟨kid', ?_, by rw [h2, List.length_set], fun j => ?_⟩
    · unfold marks
      rw [h0.2.2, if_neg (by simp)]
      exact h1
    · rw [h3, getD_set' _ _ _ h0.2.1, Bool.or_assoc]
      congr 1
      rw [Bool.eq_iff_iff]
      simp only [Bool.or_eq_true, decide_eq_true_eq, List.mem_cons]
      constructor
      · rintro (h | h)
        · exact Or.inl (by omega)
        · exact Or.inr h
      · rintro (h | h)
        · exact Or.inl (by omega)
        · exact Or.inr h
theorem rightGo_ok {t : T} : ∀ (l : List Nd) (i : Nat) (kid : List Bool), t.nodes.drop i = l → (∀ j n, t.nodes[j]? = some n → formed t j n = true) → (l.flatMap (·.kids)).Nodup → (∀ k ∈ l.flatMap (·.kids), 0 ≤ k ∧ k.toNat < kid.length ∧ kid.getD k.toNat false = false) →
    ∃ kid', rightGo t i l kid = some kid' ∧ kid'.length = kid.length ∧ ∀ j : Nat, kid'.getD j false = (kid.getD j false || decide ((j : Int) ∈ l.flatMap (·.kids)))
  | [], i, kid, _, _, _, _ => ⟨kid, rfl, rfl, fun j => by simp⟩
  | n :: l, i, kid, hl, hf, hn, hk => by
    have hlt : i < t.nodes.length := by
      rcases Nat.lt_or_ge i t.nodes.length with h1 | h1
      · exact h1
      · rw [List.drop_eq_nil_of_le h1] at hl; cases hl
    have hl2 := List.drop_eq_getElem_cons hlt
    rw [hl] at hl2
    injection hl2 with e1 e2
    have hni : t.nodes[i]? = some n := by rw [List.getElem?_eq_getElem hlt, ← e1]
    rw [List.flatMap_cons, List.nodup_append] at hn
    obtain ⟨hn1, hn2, hn3⟩ := hn
    obtain ⟨k1, a1, a2, a3⟩ := marks_ok n.kids kid hn1 (fun x hx => hk x (by rw [List.flatMap_cons]; exact List.mem_append_left _ hx))
    obtain ⟨k2, b1, b2, b3⟩ := rightGo_ok l (i + 1) k1 e2.symm hf hn2 (fun x hx => by
      have hx1 := hk x (by rw [List.flatMap_cons]; exact List.mem_append_right _ hx)
      refine ⟨hx1.1, by rw [a2]; exact hx1.2.1, ?_⟩
      rw [a3, hx1.2.2, Bool.false_or, decide_eq_false]
      intro h
      rw [Int.toNat_of_nonneg hx1.1] at h
      exact hn3 x h x hx rfl)
    refine ⟨k2, ?_, by rw [b2, a2], fun j => ?_⟩
    · unfold rightGo
      rw [if_pos (hf i n hni), a1]
      exact b1
    · rw [b3, a3, Bool.or_assoc, List.flatMap_cons]
      congr 1
      rw [Bool.eq_iff_iff]
      simp only [Bool.or_eq_true, decide_eq_true_eq, List.mem_append]

/-- A parsed tree is right, its root the last node, its text what was told. -/
theorem right_of_got {tk : List Tk} {s : St} {root : Int} {x : List UInt8} (hf : Fm tk s.nodes) (hu : s.used = tk.length) (h : Got tk St.first s [root] x) :
    right ⟨tk, s.nodes⟩ = true ∧ 0 < s.nodes.length ∧ root = ((s.nodes.length - 1 : Nat) : Int) ∧ 32 :: dump ⟨tk, s.nodes⟩ (s.nodes.length - 1) = x := by
  obtain ⟨m, hm, hp⟩ := h.nodes
  have hm2 : s.nodes = m := by rw [hm]; rfl
  subst hm2
  have hz : St.first.nodes.length = 0 := rfl
  rw [hz] at hp
  have hlow := hf.low
  have hr : root ∈ ints 0 s.nodes.length := hp.mem_iff.1 (by simp)
  rw [mem_ints] at hr
  have h0 : 0 < s.nodes.length := by omega
  have hkid : ∀ k ∈ s.nodes.flatMap (·.kids), 0 ≤ k ∧ k < ((s.nodes.length - 1 : Nat) : Int) := by
    intro k hk
    rw [List.mem_flatMap] at hk
    obtain ⟨n, hn, hk⟩ := hk
    obtain ⟨j, hj⟩ := List.getElem?_of_mem hn
    have h1 := (hlow j n hj).1 k hk
    have h2 := get_lt hj
    omega
  have hroot : root = ((s.nodes.length - 1 : Nat) : Int) := by
    have h1 : ((s.nodes.length - 1 : Nat) : Int) ∈ s.nodes.flatMap (·.kids) ++ [root] := hp.mem_iff.2 (by rw [mem_ints]; omega)
    rw [List.mem_append, List.mem_singleton] at h1
    rcases h1 with h1 | h1
    · have := hkid _ h1
      omega
    · exact h1.symm
  have hnd : (s.nodes.flatMap (·.kids) ++ [root]).Nodup := hp.nodup_iff.2 (by
    unfold ints
    exact List.Pairwise.map _ (fun a b hab => fun e => hab (Int.ofNat.inj e)) List.nodup_range')
  rw [List.nodup_append] at hnd
  obtain ⟨kid, b1, b2, b3⟩ := rightGo_ok (t := ⟨tk, s.nodes⟩) s.nodes 0 (List.replicate s.nodes.length false) (by simp) hf hnd.1 (fun k hk => by
    have := hkid k hk
    refine ⟨this.1, by rw [List.length_replicate]; omega, ?_⟩
    simp only [List.getD, List.getElem?_replicate]
    split <;> rfl)
  rw [List.length_replicate] at b2
  have htx := h.text
  have hlv := h.lvs
  simp only [List.flatMap_cons, List.flatMap_nil, List.append_nil, hroot, Int.toNat_natCast] at htx hlv
  refine ⟨?_, h0, hroot, htx⟩
  rw [right_some b1]
  simp only [Bool.and_eq_true, Bool.not_eq_true', beq_iff_eq]
  refine ⟨⟨?_, ?_⟩, ?_⟩
  · cases kid with
    | nil => simp only [List.length_nil] at b2; omega
    | cons _ _ => rfl
  · rw [← Bool.not_eq_true, List.contains_iff_mem]
    intro hmem
    obtain ⟨j, hj⟩ := List.getElem?_of_mem hmem
    rw [List.getElem?_take] at hj
    split at hj
    · rename_i hj1
      have h1 := b3 j
      simp only [List.getD, hj, Option.getD_some, List.getElem?_replicate] at h1
      have h2 : (j : Int) ∈ s.nodes.flatMap (·.kids) ++ [root] := hp.mem_iff.2 (by rw [mem_ints]; omega)
      rw [List.mem_append, List.mem_singleton] at h2
      rcases h2 with h2 | h2
      · rw [decide_eq_true h2, Bool.or_true] at h1
        cases h1
      · omega
    · cases hj
  · show leafs s.nodes (s.nodes.length - 1) = _
    rw [hlv, hu]
    show (List.range' 0 (tk.length - 0)).map Int.ofNat = _
    rw [Nat.sub_zero, ← List.range_eq_range']
    rfl
end Go.Proofs.YtpkhdlnlkeehhaaGreatDoor.Pc
/- Plain: whole programs: what the program's parser says is what the document's says. No program in sight. -/
namespace Go.Proofs.YtpkhdlnlkeehhaaGreatDoor.Pc
open Tr Ps

section
variable {tk : List Tk}

theorem rargs_dead' {g : Pr.G} {r : Pr.Rs} (hg : (g r).2 = r) (he : r.e ≠ 0) : (Pr.args tk g r).2 = r := by
  unfold Pr.args
  rw [hg, rargs_dead he]
theorem sim_param (ht : Toks tk) {ex : F} {g : Pr.G} (hx : Sim tk ex g) : Sim tk (param tk ex) (Pr.param tk g) := by
  refine ⟨fun s r he hi hr => ?_, fun s he => ?_, fun r he => ?_⟩
  · have o1 := sim_typed ht hx ((Out.nil hi hr).then (sim_kind ht (k := 1) (by decide)))
    have hl : (typed tk ex [(kind tk 1 s).1] (kind tk 1 s).2).2.e = 0 → 2 ≤ (typed tk ex [(kind tk 1 s).1] (kind tk 1 s).2).1.length := by
      intro _
      unfold typed
      simp only
      split <;> simp
    exact (o1.node (k := 4) (by decide) hl).cast (by rw [dig4]; simp [Pr.param])
  · simp only [lift, param, kind_dead he]
    have h := typed_dead (tk := tk) (ex := ex) (l := [0]) he
    rw [node_dead (by rw [h]; exact he)]
    exact h
  · simp only [Pr.param, rkind_dead he, rtyped_dead he]
theorem sim_imported (ht : Toks tk) {s0 s : St} {l : List Int} {r : Pr.Rs} {x : List UInt8} (o : Out tk s0 s l r x) (he : s.e = 0) (hk : nextB tk [tImport] s.used = true) :
    Out tk s0 (imported tk s).2 (l ++ [(imported tk s).1]) (Pr.must tk [59] (Pr.kind tk 1 (Pr.leaf tk r).2).2).2 (x ++ ([32, 40, 50] ++ (Pr.leaf tk r).1 ++ (Pr.kind tk 1 (Pr.leaf tk r).2).1 ++ (Pr.must tk [59] (Pr.kind tk 1 (Pr.leaf tk r).2).2).1 ++ [41])) := by
  have o1 := ((((Out.nil o.2.1 o.2.2.1).leaf ht he (next_kind hk)).1.then (sim_kind ht (k := 1) (by decide))).then (sim_must ht [59])).node (k := 2) (by decide) (fun _ => by simp [lift])
  refine ⟨o.1, o1.2.1, o1.2.2.1, fun e2 => ?_⟩
  have h := (o.2.2.2 he).trans o.2.1.2.2 (o1.2.2.2 e2)
  rw [dig2] at h
  simpa [lift, imported] using h
theorem sim_importsGo (ht : Toks tk) : ∀ (n : Nat) {s0 s : St} {l : List Int} {r : Pr.Rs} {x : List UInt8}, Out tk s0 s l r x →
    Out tk s0 (severalGo tk (imported tk) [tImport] n l s).2 (severalGo tk (imported tk) [tImport] n l s).1 (Pr.importsGo tk n x r).2.1 (Pr.importsGo tk n x r).1 ∧
    ((Pr.importsGo tk n x r).2.2 = false → (severalGo tk (imported tk) [tImport] n l s).2.e ≠ 0)
  | 0, s0, s, l, r, x, o => by
    have hb := both_is o tImport
    unfold severalGo Pr.importsGo
    by_cases h : s.e = 0 ∧ nextB tk [tImport] s.used = true
    · rw [if_pos h, if_pos (hb.1 h)]
      refine ⟨o.fail (by decide) _ _, fun _ => ?_⟩
      unfold fail
      rw [if_pos h.1]
      show (15 : Int) ≠ 0
      decide
    · rw [if_neg h, if_neg (fun e => h (hb.2 e))]
      exact ⟨o, fun e => by cases e⟩
  | n + 1, s0, s, l, r, x, o => by
    have hb := both_is o tImport
    unfold severalGo Pr.importsGo
    by_cases h : s.e = 0 ∧ nextB tk [tImport] s.used = true
    · rw [if_pos h, if_pos (hb.1 h)]
      exact sim_importsGo ht n (sim_imported ht o h.1 h.2)
    · rw [if_neg h, if_neg (fun e => h (hb.2 e))]
      exact ⟨o, fun e => by cases e⟩
theorem sim_defHead (ht : Toks tk) {s0 s : St} {l : List Int} {r : Pr.Rs} {x : List UInt8} (o : Out tk s0 s l r x) :
    Out tk s0 (defHead tk l s).2 (defHead tk l s).1 (Pr.defHead tk x r).2 (Pr.defHead tk x r).1 := by
  have o1 := ((o.then (sim_must ht tFun)).then (sim_kind ht (k := 1) (by decide))).then (sim_must ht [40])
  have e1 : (defHead tk l s).1 = l ++ (lift (must tk [tFun]) s).1 ++ (lift (kind tk 1) (lift (must tk [tFun]) s).2).1 ++ (lift (must tk [[40]]) (lift (kind tk 1) (lift (must tk [tFun]) s).2).2).1 := by simp [lift, defHead]
  rw [e1]
  exact o1.cast (by simp [Pr.defHead])
theorem sim_defList (ht : Toks tk) {ex : F} {g : Pr.G} (hx : Sim tk ex g) {s0 s : St} {l : List Int} {r : Pr.Rs} {x : List UInt8} (o : Out tk s0 s l r x) :
    Out tk s0 (list tk (param tk ex) s).2 (l ++ (list tk (param tk ex) s).1) (Pr.defList tk g x r).2 (Pr.defList tk g x r).1 := sim_list ht (sim_param ht hx) o
theorem sim_defRest (ht : Toks tk) {ex : F} {g : Pr.G} (hx : Sim tk ex g) {s0 s : St} {l : List Int} {r : Pr.Rs} {x : List UInt8} (o : Out tk s0 s l r x) :
    Out tk s0 (defRest tk ex l s).2 [(defRest tk ex l s).1] (Pr.defRest tk g x r).2 ([32, 40, 51] ++ (Pr.defRest tk g x r).1) := by
  have o1 := sim_typed ht hx (o.then (sim_must ht [41]))
  have o2 := (((o1.then (sim_must ht [61])).then hx).then (sim_must ht [59])).node (k := 3) (by decide) (fun _ => by simp [lift])
  have e1 : defRest tk ex l s = node 3 ((typed tk ex (l ++ (lift (must tk [[41]]) s).1) (lift (must tk [[41]]) s).2).1 ++ (lift (must tk [[61]]) (typed tk ex (l ++ (lift (must tk [[41]]) s).1) (lift (must tk [[41]]) s).2).2).1 ++ (lift ex (lift (must tk [[61]]) (typed tk ex (l ++ (lift (must tk [[41]]) s).1) (lift (must tk [[41]]) s).2).2).2).1 ++ (lift (must tk [[59]]) (lift ex (lift (must tk [[61]]) (typed tk ex (l ++ (lift (must tk [[41]]) s).1) (lift (must tk [[41]]) s).2).2).2).2).1) (lift (must tk [[59]]) (lift ex (lift (must tk [[61]]) (typed tk ex (l ++ (lift (must tk [[41]]) s).1) (lift (must tk [[41]]) s).2).2).2).2).2 := by
    simp [lift, defRest]
  rw [e1]
  exact o2.cast (by rw [dig3]; simp [Pr.defRest])
theorem sim_defn (ht : Toks tk) {ex : F} {g : Pr.G} (hx : Sim tk ex g) {s0 s : St} {l : List Int} {r : Pr.Rs} {x : List UInt8} (o : Out tk s0 s l r x) :
    Out tk s0 (defn tk ex l s).2 [(defn tk ex l s).1] (Pr.defn tk g x r).2 ([32, 40, 51] ++ (Pr.defn tk g x r).1) :=
  sim_defRest ht hx (sim_defList ht hx (sim_defHead ht o))
theorem rdef_pre {g : Pr.G} (p x : List UInt8) (r : Pr.Rs) : (Pr.defn tk g (p ++ x) r).2 = (Pr.defn tk g x r).2 ∧ (Pr.defn tk g (p ++ x) r).1 = p ++ (Pr.defn tk g x r).1 := by
  have h1 : Pr.defHead tk (p ++ x) r = (p ++ (Pr.defHead tk x r).1, (Pr.defHead tk x r).2) := by simp [Pr.defHead]
  have h2 : ∀ (y : List UInt8) (q : Pr.Rs), Pr.defList tk g (p ++ y) q = (p ++ (Pr.defList tk g y q).1, (Pr.defList tk g y q).2) := by
    intro y q
    unfold Pr.defList
    split <;> simp
  unfold Pr.defn
  simp only [h1, h2]
  unfold Pr.defRest
  simp
theorem sim_definition (ht : Toks tk) {ex : F} {g : Pr.G} (hx : Sim tk ex g) {s0 s : St} {l : List Int} {r : Pr.Rs} {x : List UInt8} (o : Out tk s0 s l r x) (he : s.e = 0) :
    Out tk s0 (definition tk ex s).2 (l ++ [(definition tk ex s).1]) (Pr.definition tk g r).2 (x ++ (Pr.definition tk g r).1) := by
  have hb := is_eq o.2.1 o.2.2.1 he tPub
  have h : Out tk s (definition tk ex s).2 [(definition tk ex s).1] (Pr.definition tk g r).2 (Pr.definition tk g r).1 := by
    have o0 := Out.nil o.2.1 o.2.2.1
    unfold definition Pr.definition Pr.head
    by_cases h : nextB tk [tPub] s.used = true
    · rw [if_pos h, if_pos (by rw [hb]; exact h)]
      have := rdef_pre (tk := tk) (g := g) [32, 40, 51] (Pr.leaf tk r).1 (Pr.leaf tk r).2
      simp only
      rw [this.1, this.2]
      exact sim_defn ht hx ((o0.leaf ht he (next_kind h)).1)
    · rw [if_neg h, if_neg (by rw [hb]; exact h)]
      have := rdef_pre (tk := tk) (g := g) [32, 40, 51] [] r
      simp only [List.append_nil] at this ⊢
      rw [this.1, this.2]
      exact sim_defn ht hx o0
  exact ⟨o.1, h.2.1, h.2.2.1, fun e2 => (o.2.2.2 he).trans o.2.1.2.2 (h.2.2.2 e2)⟩
theorem sim_defsGo (ht : Toks tk) {ex : F} {g : Pr.G} (hx : Sim tk ex g) : ∀ (n : Nat) {s0 s : St} {l ks : List Int} {r : Pr.Rs} {x : List UInt8}, Out tk s0 s (l ++ ks) r x →
    Out tk s0 (severalGo tk (definition tk ex) [tPub, tFun] n ks s).2 (l ++ (severalGo tk (definition tk ex) [tPub, tFun] n ks s).1) (Pr.defsGo tk g n x r).2.1 (Pr.defsGo tk g n x r).1 ∧
    ((Pr.defsGo tk g n x r).2.2 = false → (severalGo tk (definition tk ex) [tPub, tFun] n ks s).2.e ≠ 0)
  | 0, s0, s, l, ks, r, x, o => by
    have hb : (s.e = 0 ∧ nextB tk [tPub, tFun] s.used = true) ↔ (Pr.is tk tPub r || Pr.is tk tFun r) = true := by
      rw [both_any o]; simp [Pr.any]
    unfold severalGo Pr.defsGo
    by_cases h : s.e = 0 ∧ nextB tk [tPub, tFun] s.used = true
    · rw [if_pos h, if_pos (hb.1 h)]
      refine ⟨o.fail (by decide) _ _, fun _ => ?_⟩
      unfold fail
      rw [if_pos h.1]
      show (15 : Int) ≠ 0
      decide
    · rw [if_neg h, if_neg (fun e => h (hb.2 e))]
      exact ⟨o, fun e => by cases e⟩
  | n + 1, s0, s, l, ks, r, x, o => by
    have hb : (s.e = 0 ∧ nextB tk [tPub, tFun] s.used = true) ↔ (Pr.is tk tPub r || Pr.is tk tFun r) = true := by
      rw [both_any o]; simp [Pr.any]
    unfold severalGo Pr.defsGo
    by_cases h : s.e = 0 ∧ nextB tk [tPub, tFun] s.used = true
    · rw [if_pos h, if_pos (hb.1 h)]
      refine sim_defsGo ht hx n ?_
      rw [← List.append_assoc]
      exact sim_definition ht hx o h.1
    · rw [if_neg h, if_neg (fun e => h (hb.2 e))]
      exact ⟨o, fun e => by cases e⟩

/-- The end, and the root. -/
theorem sim_end (ht : Toks tk) {s : St} {l : List Int} {r : Pr.Rs} {x : List UInt8} (o : Out tk St.first s l r x) {k : Int} (hk : 1 ≤ k ∧ k ≤ 18) :
    (Pr.kind tk 5 r).2.e = (node k (l ++ [(kind tk 5 s).1]) (kind tk 5 s).2).2.e ∧
    ((node k (l ++ [(kind tk 5 s).1]) (kind tk 5 s).2).2.e ≠ 0 → (Pr.kind tk 5 r).2.pos = (node k (l ++ [(kind tk 5 s).1]) (kind tk 5 s).2).2.pos) ∧
    ((node k (l ++ [(kind tk 5 s).1]) (kind tk 5 s).2).2.e = 0 → Fm tk (node k (l ++ [(kind tk 5 s).1]) (kind tk 5 s).2).2.nodes ∧ (node k (l ++ [(kind tk 5 s).1]) (kind tk 5 s).2).2.used = tk.length ∧
      Got tk St.first (node k (l ++ [(kind tk 5 s).1]) (kind tk 5 s).2).2 [(node k (l ++ [(kind tk 5 s).1]) (kind tk 5 s).2).1] ([32, 40] ++ Lib.decDigits k.toNat ++ (x ++ (Pr.kind tk 5 r).1) ++ [41]) ∧
      ((node k (l ++ [(kind tk 5 s).1]) (kind tk 5 s).2).2.nodes[(node k (l ++ [(kind tk 5 s).1]) (kind tk 5 s).2).2.nodes.length - 1]?).map (·.kind) = some k) := by
  by_cases he : s.e = 0
  · obtain ⟨t, h1, h2, h3⟩ := o.2.1.get
    have hp := peek_tok o.2.1 o.2.2.1 he
    by_cases h5 : (peek tk s.used).kind = 5
    · have hu : s.used + 1 = tk.length := by
        have q := o.2.1.1
        rcases Nat.lt_or_ge (s.used + 1) tk.length with h4 | h4
        · exact absurd (h2 ▸ h5) (ht.other _ _ h4 h1)
        · omega
      have htx : t.text = [] := (ht.last t (by rw [← h1]; congr 1; omega)).2
      obtain ⟨g1, g2, g3, g4, _, g5⟩ := got_leaf o.2.1.2.2 h1
      have e1 : kind tk 5 s = leaf tk s := by unfold kind; rw [if_pos ⟨he, h5⟩]
      have e2 : Pr.kind tk 5 r = ([32, 36], r) := by
        unfold Pr.kind
        rw [if_pos ⟨o.2.2.1.1.trans he, by rw [hp]; exact h5⟩]
        unfold Pr.leaf
        rw [hp, if_pos h5]
      rw [e1, e2]
      rw [h2] at h5
      rw [if_pos h5, htx] at g5
      have hg := (o.2.2.2 he).trans o.2.1.2.2 g5
      have hroom := (o.2.2.2 he).room
      have z1 : St.first.nodes.length = 0 := rfl
      have z2 : St.first.used = 0 := rfl
      obtain ⟨k1, k2, k3, k4, _, k5⟩ := got_node g1 hg (g3.trans he) hk (by rw [g4, g2]; omega)
      refine ⟨by rw [k3]; exact o.2.2.1.1.trans he, fun h => absurd k3 h, fun _ => ⟨k1, by rw [k2, g2, hu], k5, ?_⟩⟩
      have hm : ¬ ((l ++ [(leaf tk s).1]).any (fun x => decide (x < 0) || decide (((leaf tk s).2.nodes.length : Int) ≤ x)) = true) := by
        simp only [List.any_eq_true, Bool.or_eq_true, decide_eq_true_eq, not_exists, not_and]
        intro y hy
        have := hg.mem hy
        omega
      have e3 : node k (l ++ [(leaf tk s).1]) (leaf tk s).2 = (((leaf tk s).2.nodes.length : Int), { (leaf tk s).2 with nodes := (leaf tk s).2.nodes ++ [⟨k, -1, l ++ [(leaf tk s).1]⟩] }) := by
        unfold node
        rw [if_pos (g3.trans he), if_neg hm]
      rw [e3]
      simp
    · have e1 : kind tk 5 s = (0, fail tk 22 s) := by unfold kind; rw [if_neg (by simp [h5])]
      have e2 : Pr.kind tk 5 r = ([], Pr.fail tk 22 r) := by unfold Pr.kind; rw [if_neg (by rw [hp]; simp [h5])]
      have o2 := o.fail (e := 22) (by decide) [] []
      have h6 : (fail tk 22 s).e ≠ 0 := by unfold fail; rw [if_pos he]; show (22 : Int) ≠ 0; decide
      rw [e1, e2]
      simp only
      rw [node_dead h6]
      exact ⟨o2.2.2.1.1, o2.2.2.1.2.1, fun h => absurd h h6⟩
  · have hr : r.e ≠ 0 := by rw [o.2.2.1.1]; exact he
    rw [kind_dead he, rkind_dead hr]
    simp only
    rw [node_dead he]
    exact ⟨o.2.2.1.1, o.2.2.1.2.1, fun h => absurd h he⟩

theorem several_dead {one : F} {ts : List (List UInt8)} {s : St} (he : s.e ≠ 0) (n : Nat) (ks : List Int) : (severalGo tk one ts n ks s).2 = s := by
  cases n <;> (unfold severalGo; rw [if_neg (by simp [he])])
/-- What both say of a whole text. -/
structure Same (tk : List Tk) (k : Int) (s : St) (r : Pr.Rs) (x : List UInt8) : Prop where
  e : r.e = s.e
  pos : s.e ≠ 0 → r.pos = s.pos
  right : s.e = 0 → Tr.right ⟨tk, s.nodes⟩ = true ∧ 0 < s.nodes.length ∧ dump ⟨tk, s.nodes⟩ (s.nodes.length - 1) = x ∧ (s.nodes[s.nodes.length - 1]?).map (·.kind) = some k
  used : s.e = 0 → s.used = tk.length
  small : s.e = 0 → s.nodes.length ≤ 3 * tk.length ∧ ∀ n ∈ s.nodes, n.kids.length ≤ s.nodes.length
theorem small_of_got {s : St} {l : List Int} {x : List UInt8} (hu : s.used = tk.length) (h : Got tk St.first s l x) : s.nodes.length ≤ 3 * tk.length ∧ ∀ n ∈ s.nodes, n.kids.length ≤ s.nodes.length := by
  have hr := h.room
  obtain ⟨m, hm, hp⟩ := h.nodes
  have hm2 : s.nodes = m := by rw [hm]; rfl
  subst hm2
  have hz : St.first.nodes.length = 0 := rfl
  have hz2 : St.first.used = 0 := rfl
  rw [hz, hz2] at hr
  have hl := hp.length_eq
  simp only [List.length_append, ints, List.length_map, List.length_range'] at hl
  refine ⟨by omega, fun n hn => ?_⟩
  have h1 : n.kids.length ≤ (s.nodes.flatMap (·.kids)).length := by
    obtain ⟨a, b, hab⟩ := List.append_of_mem hn
    rw [hab]
    simp only [List.flatMap_append, List.flatMap_cons, List.length_append]
    omega
  omega
theorem same_of_end (ht : Toks tk) {s : St} {l : List Int} {r : Pr.Rs} {x : List UInt8} (o : Out tk St.first s l r x) {k : Int} (hk : 1 ≤ k ∧ k ≤ 18) :
    Same tk k (node k (l ++ [(kind tk 5 s).1]) (kind tk 5 s).2).2 (Pr.kind tk 5 r).2 ([40] ++ Lib.decDigits k.toNat ++ (x ++ (Pr.kind tk 5 r).1) ++ [41]) := by
  obtain ⟨h1, h2, h3⟩ := sim_end ht o hk
  refine ⟨h1, h2, fun h => ?_, fun h => (h3 h).2.1, fun h => small_of_got (h3 h).2.1 (h3 h).2.2.1⟩
  obtain ⟨g1, g2, g3, g4⟩ := h3 h
  obtain ⟨r1, r2, _, r4⟩ := right_of_got g1 g2 g3
  refine ⟨r1, r2, ?_, g4⟩
  simpa using r4
theorem first_out (ht : Toks tk) : Inv tk St.first ∧ Rel St.first Pr.Rs.first := by
  refine ⟨⟨ht.pos, Nat.zero_le _, fun j n hj => by cases hj⟩, rfl, fun h => absurd rfl h, fun _ => ⟨rfl, rfl⟩⟩
theorem same_program (ht : Toks tk) (d : Nat) : Same tk 1 (Ps.program tk (Ps.lv tk d).ex St.first).2 (Pr.program tk (Pr.lv tk d).ex Pr.Rs.first).2 (Pr.program tk (Pr.lv tk d).ex Pr.Rs.first).1 := by
  have hx := (sim_lv ht d).ex
  obtain ⟨hi, hr⟩ := first_out ht
  obtain ⟨o1, n1⟩ := sim_importsGo ht 16 (x := []) (Out.nil hi hr)
  have hpre : ∀ (n : Nat) (p x : List UInt8) (r : Pr.Rs), (Pr.importsGo tk n (p ++ x) r).2 = (Pr.importsGo tk n x r).2 ∧ ((Pr.importsGo tk n x r).2.2 = true → (Pr.importsGo tk n (p ++ x) r).1 = p ++ (Pr.importsGo tk n x r).1) := by
    intro n
    induction n with
    | zero =>
      intro p x r
      unfold Pr.importsGo
      split <;> simp
    | succ n ih =>
      intro p x r
      unfold Pr.importsGo
      split
      · simp only
        rw [List.append_assoc]
        exact ih _ _ _
      · simp
  have hpre2 : ∀ (n : Nat) (p x : List UInt8) (r : Pr.Rs), (Pr.defsGo tk (Pr.lv tk d).ex n (p ++ x) r).2 = (Pr.defsGo tk (Pr.lv tk d).ex n x r).2 ∧ ((Pr.defsGo tk (Pr.lv tk d).ex n x r).2.2 = true → (Pr.defsGo tk (Pr.lv tk d).ex n (p ++ x) r).1 = p ++ (Pr.defsGo tk (Pr.lv tk d).ex n x r).1) := by
    intro n
    induction n with
    | zero =>
      intro p x r
      unfold Pr.defsGo
      split <;> simp
    | succ n ih =>
      intro p x r
      unfold Pr.defsGo
      split
      · rw [List.append_assoc]
        exact ih _ _ _
      · simp
  have p1 := hpre 16 [40, 49] [] Pr.Rs.first
  rw [List.append_nil] at p1
  unfold Ps.program Pr.program
  simp only
  rw [p1.1]
  have o1' := o1
  rw [← List.append_nil (severalGo tk (imported tk) [tImport] 16 [] St.first).1] at o1'
  obtain ⟨o2, n2⟩ := sim_defsGo ht hx 64 o1'
  have ss := same_of_end ht o2 (k := 1) (by decide)
  by_cases hb : (Pr.importsGo tk 16 [] Pr.Rs.first).2.2 = true
  · rw [if_pos hb, p1.2 hb]
    have p2 := hpre2 64 [40, 49] (Pr.importsGo tk 16 [] Pr.Rs.first).1 (Pr.importsGo tk 16 [] Pr.Rs.first).2.1
    rw [p2.1]
    by_cases hb2 : (Pr.defsGo tk (Pr.lv tk d).ex 64 (Pr.importsGo tk 16 [] Pr.Rs.first).1 (Pr.importsGo tk 16 [] Pr.Rs.first).2.1).2.2 = true
    · rw [if_pos hb2, p2.2 hb2]
      refine ⟨ss.e, ss.pos, fun h => ?_, ss.used, ss.small⟩
      obtain ⟨q1, q2, q3, q4⟩ := ss.right h
      refine ⟨q1, q2, ?_, q4⟩
      rw [q3, dig1]
      simp
    · have hd := n2 (by simpa using hb2)
      rw [if_neg hb2, kind_dead hd]
      simp only
      rw [node_dead hd]
      exact ⟨o2.2.2.1.1, o2.2.2.1.2.1, fun h => absurd h hd, fun h => absurd h hd, fun h => absurd h hd⟩
  · have hd := n1 (by simpa using hb)
    have hd2 := fun (n : Nat) (ks : List Int) => several_dead (tk := tk) (one := definition tk (Ps.lv tk d).ex) (ts := [tPub, tFun]) hd n ks
    rw [if_neg hb, hd2, kind_dead hd]
    simp only
    rw [node_dead hd]
    exact ⟨o1.2.2.1.1, o1.2.2.1.2.1, fun h => absurd h hd, fun h => absurd h hd, fun h => absurd h hd⟩
theorem same_alone (ht : Toks tk) (d : Nat) : Same tk 18 (alone tk (Ps.lv tk d).ex St.first).2 (Pr.alone tk (Pr.lv tk d).ex Pr.Rs.first).2 (Pr.alone tk (Pr.lv tk d).ex Pr.Rs.first).1 := by
  have hx := (sim_lv ht d).ex
  obtain ⟨hi, hr⟩ := first_out ht
  obtain ⟨i2, r2⟩ := (Out.nil hi hr).clause true
  have o1 : Out tk { St.first with clause := true } _ [((Ps.lv tk d).ex { St.first with clause := true }).1] _ _ := hx.go { St.first with clause := true } { Pr.Rs.first with inn := true } rfl i2 r2
  have o2 : Out tk St.first ((Ps.lv tk d).ex { St.first with clause := true }).2 [((Ps.lv tk d).ex { St.first with clause := true }).1] ((Pr.lv tk d).ex { Pr.Rs.first with inn := true }).2 ((Pr.lv tk d).ex { Pr.Rs.first with inn := true }).1 :=
    ⟨hi, o1.2.1, o1.2.2.1, fun e2 => ⟨(o1.2.2.2 e2).nodes, (o1.2.2.2 e2).used, (o1.2.2.2 e2).lvs, (o1.2.2.2 e2).text, (o1.2.2.2 e2).room⟩⟩
  have ss := same_of_end ht o2 (k := 18) (by decide)
  unfold alone Pr.alone
  refine ⟨ss.e, ss.pos, fun h => ?_, ss.used, ss.small⟩
  obtain ⟨q1, q2, q3, q4⟩ := ss.right h
  refine ⟨q1, q2, ?_, q4⟩
  simp only
  rw [show (node 18 [((Ps.lv tk d).ex { St.first with clause := true }).1, (kind tk 5 ((Ps.lv tk d).ex { St.first with clause := true }).2).1] (kind tk 5 ((Ps.lv tk d).ex { St.first with clause := true }).2).2) = (node 18 ([((Ps.lv tk d).ex { St.first with clause := true }).1] ++ [(kind tk 5 ((Ps.lv tk d).ex { St.first with clause := true }).2).1]) (kind tk 5 ((Ps.lv tk d).ex { St.first with clause := true }).2).2) from rfl, q3, dig18]
  simp
end
end Go.Proofs.YtpkhdlnlkeehhaaGreatDoor.Pc
/- Plain: what each of the parser's functions keeps. No program in sight. -/
namespace Go.Proofs.YtpkhdlnlkeehhaaGreatDoor.Pc
open Tr Ps

section
variable {tk : List Tk}
/-- A document's state beside a program's. -/
def beside (s : St) : Pr.Rs := ⟨s.used, s.clause, s.e, s.pos⟩
theorem rel_beside (s : St) : Rel s (beside s) := ⟨rfl, fun _ => rfl, fun _ => ⟨rfl, rfl⟩⟩
theorem SimL.keep {f : St → List Int × St} {g : Pr.G} (h : SimL tk f g) {s : St} (hi : Inv tk s) : Inv tk (f s).2 := by
  by_cases he : s.e = 0
  · exact (h.go s (beside s) he hi (rel_beside s)).2.1
  · rw [h.df s he]
    exact hi
theorem SimL.used {f : St → List Int × St} {g : Pr.G} (h : SimL tk f g) {s : St} (hi : Inv tk s) (he : s.e = 0) (he2 : (f s).2.e = 0) : s.used ≤ (f s).2.used :=
  ((h.go s (beside s) he hi (rel_beside s)).2.2.2 he2).used
theorem Sim.keep {f : F} {g : Pr.G} (h : Sim tk f g) {s : St} (hi : Inv tk s) : Inv tk (f s).2 := SimL.keep h hi
theorem Out.inv {s0 s : St} {l : List Int} {r : Pr.Rs} {x : List UInt8} (o : Out tk s0 s l r x) : Inv tk s := o.2.1
/-- What a state and roots have come of. -/
def Og (tk : List Tk) (s : St) (l : List Int) : Prop := ∃ s0 r x, Out tk s0 s l r x
theorem Og.nil {s : St} (hi : Inv tk s) : Og tk s [] := ⟨s, beside s, [], Out.nil hi (rel_beside s)⟩
theorem Og.inv {s : St} {l : List Int} (h : Og tk s l) : Inv tk s := by
  obtain ⟨s0, r, x, o⟩ := h
  exact o.2.1
theorem Og.then {s : St} {l : List Int} (h : Og tk s l) {f : F} {g : Pr.G} (k : Sim tk f g) : Og tk (f s).2 (l ++ [(f s).1]) := by
  obtain ⟨s0, r, x, o⟩ := h
  exact ⟨s0, _, _, o.then k⟩
theorem Og.leaf (ht : Toks tk) {s : St} {l : List Int} (h : Og tk s l) (he : s.e = 0) (hk : (peek tk s.used).kind ≠ 5) : Og tk (Ps.leaf tk s).2 (l ++ [(Ps.leaf tk s).1]) ∧ (Ps.leaf tk s).2.e = 0 := by
  obtain ⟨s0, r, x, o⟩ := h
  exact ⟨⟨s0, _, _, (o.leaf ht he hk).1⟩, (o.leaf ht he hk).2⟩
theorem Og.node {s : St} {l : List Int} (h : Og tk s l) {k : Int} (hk : 1 ≤ k ∧ k ≤ 18) (hl : s.e = 0 → 2 ≤ l.length) : Og tk (Ps.node k l s).2 [(Ps.node k l s).1] := by
  obtain ⟨s0, r, x, o⟩ := h
  exact ⟨s0, _, _, o.node hk hl⟩
theorem Og.clause {s : St} {l : List Int} (h : Og tk s l) (b : Bool) : Og tk { s with clause := b } [] := Og.nil h.inv
theorem inv_room {s : St} (h : Inv tk s) (hl : tk.length ≤ 1000000) : 0 < tk.length ∧ tk.length ≤ 1000000 ∧ s.used ≤ tk.length ∧ s.nodes.length ≤ 5000000 := by
  have h1 := h.1
  have h2 := h.2.1
  omega
theorem node_used (k : Int) (l : List Int) (s : St) : (Ps.node k l s).2.used = s.used := by
  unfold Ps.node
  by_cases h : s.e = 0
  · rw [if_pos h]
    by_cases h2 : (l.any fun x => decide (x < 0) || decide ((s.nodes.length : Int) ≤ x)) = true
    · rw [if_pos h2]
    · rw [if_neg h2]
  · rw [if_neg h]
theorem leaf_used {s : St} (hi : Inv tk s) : (Ps.leaf tk s).2.used = s.used + 1 := by
  obtain ⟨t, h1, _⟩ := hi.get
  exact (got_leaf hi.2.2 h1).2.1
end
end Go.Proofs.YtpkhdlnlkeehhaaGreatDoor.Pc
/- parse: a level's signs; parts and rows; unary; negation, factor: the walks. -/
namespace Go.Proofs.YtpkhdlnlkeehhaaGreatDoor
open Go.RowKit

theorem rds_newS (w : World) (l : List (List UInt8)) {r : Nat} (hr : r = w.heap.size) : RdS (w.alloc (.cells (strCells l).toArray 9)) (fun k => k = w.heap.size) 1 (.slice (some ⟨r, 0, none⟩) l.length l.length) l.length (strCells l) := by
  subst hr
  refine ⟨by simp [strCells], _, _, rfl, Nat.le_refl _, Or.inr ⟨_, _, rfl, Or.inr rfl, ?_⟩⟩
  intro j v hj
  rw [Nat.zero_add]
  exact cell_of_heap (new_at _ _ _ rfl) j (by simpa using hj)
def SignsSay (ts : List (List UInt8)) (W : World) (e : Ending) (W' : World) : Prop := ∃ v, e = .returned v ∧ RdS W' (fun k => W.heap.size ≤ k ∧ k < W'.heap.size) 1 v ts.length (strCells ts) ∧ Below W.heap.size W W'
theorem signs_say (W : World) (l : List (List UInt8)) : SignsSay l W (.returned (.slice (some ⟨W.heap.size, 0, none⟩) l.length l.length)) (W.alloc (.cells (strCells l).toArray 9)) :=
  ⟨_, rfl, (rds_newS W l rfl).imp fun k hk => ⟨by omega, by rw [hk, ← size_alloc1]; omega⟩, (Below.refl _ _).alloc (Nat.le_refl _) _⟩
theorem signs0_calls (W : World) : Calls Tryz.prog 116 #[.int .i64 0] W (SignsSay Ps.sOr W) := by
  go_enter Tryz.func116, Tryz.ntmps116
  go_wp2
  go_ret
  exact signs_say W Ps.sOr
theorem signs1_calls (W : World) : Calls Tryz.prog 116 #[.int .i64 1] W (SignsSay Ps.sAnd W) := by
  go_enter Tryz.func116, Tryz.ntmps116
  go_wp2
  go_ret
  exact signs_say W Ps.sAnd
theorem signs2_calls (W : World) : Calls Tryz.prog 116 #[.int .i64 2] W (SignsSay Ps.sCmp W) := by
  go_enter Tryz.func116, Tryz.ntmps116
  go_wp2
  go_ret
  exact signs_say W Ps.sCmp
theorem signs3_calls (W : World) : Calls Tryz.prog 116 #[.int .i64 3] W (SignsSay Ps.sSum W) := by
  go_enter Tryz.func116, Tryz.ntmps116
  go_wp2
  go_ret
  exact signs_say W Ps.sSum
theorem signs4_calls (W : World) : Calls Tryz.prog 116 #[.int .i64 4] W (SignsSay Ps.sMul W) := by
  go_enter Tryz.func116, Tryz.ntmps116
  go_wp2
  go_ret
  exact signs_say W Ps.sMul

section
variable {w0 : World} {p b : Nat} {tk : List Tr.Tk} {dp : Int}
/-- What is known of a function of the parser's: at any state, in any world. -/
def Knows (w0 : World) (p b : Nat) (tk : List Tr.Tk) (dp : Int) (k : FuncId) (args : Array Value) (f : Ps.F) : Prop :=
  ∀ (Q : Nat → Prop) (W : World) (s : Ps.St), Up Q W → PI Q w0 W p b tk dp s → Pc.Inv tk s → Calls Tryz.prog k args W (Does Q w0 p b tk dp (f s) W)

set_option maxRecDepth 100000 in
set_option maxHeartbeats 2000000 in
theorem prow_calls (ht : Pc.Toks tk) (hl : tk.length ≤ 1000000) {lv : Int} (hlv : (lv == 2) = false) {ts : List (List UInt8)} (hts : ts.length ≤ 1000) (hsg : ∀ W, Calls Tryz.prog 116 #[.int .i64 lv] W (SignsSay ts W)) {n : Int} {f : Ps.F} {g : Pr.G} (hf : Pc.Sim tk f g)
    (hpart : Knows w0 p b tk dp 115 #[.pointer (some ⟨p, 0, none⟩), .int .i64 lv, .int .i64 n] f) :
    Knows w0 p b tk dp 98 #[.pointer (some ⟨p, 0, none⟩), .int .i64 lv, .int .i64 n] (Ps.row tk f ts false) := by
  intro Q W s hQ h hi
  have H := Lib.hid (And.intro ht (And.intro hl (And.intro hts (And.intro hsg (And.intro hf hpart)))))
  have HI := Lib.hid (And.intro h (And.intro hi hQ))
  have HO := Lib.hid ((Pc.Og.nil hi).then hf)
  clear ht hl hts hsg hf hpart h hi hQ
  go_enter Tryz.func98, Tryz.ntmps98
  go_wp2_with fail
  refine (H.out.2.2.2.2.2 Q W s HI.out.2.2 HI.out.1 HI.out.2.1).mono ?_
  rintro e W1 ⟨rfl, h1, h2⟩
  have H1 := Lib.hid (And.intro h1 (h2))
  clear h1 h2
  dsimp only
  go_wp2_with fail
  go_loopg [7] tk.length (fun k v7 wr => ∃ (a : Int) (s1 : Ps.St), v7 = .int .i64 a ∧ PI Q w0 wr p b tk dp s1 ∧ Pc.Og tk s1 [a] ∧ (s1.e = 0 → tk.length ≤ k + s1.used) ∧ Ps.rowGo tk f ts false k a s1 = Ps.row tk f ts false s ∧ FrT PTs W wr)
  case atStart => exact ⟨_, _, rfl, H1.out.1, HO.out, fun _ => Nat.le_add_right _ _, rfl, H1.out.2⟩
  case round =>
    obtain ⟨a, s1, rfl, hp, hog, hfu, hgo, hfr⟩ := hrel
    have HR := Lib.hid (And.intro hp (And.intro hog (And.intro hfu (And.intro hgo hfr))))
    have hok := pok_calls hp
    by_cases he : s1.e = 0
    · rw [decide_eq_true he] at hok
      have HOK := Lib.hid hok
      have HE := Lib.hid he
      clear hp hog hfu hgo hfr hok he
      by_cases hn : Ps.nextB tk ts s1.used = true
      · have HN := Lib.hid hn
        clear hn
        go_wp2_with fail
        refine (HOK.out).mono ?_
        rintro e W2 ⟨rfl, rfl⟩
        dsimp only
        go_wp2_with fail
        refine (H.out.2.2.2.1 _).mono ?_
        rintro e W3 ⟨v3, rfl, hr3, hb3⟩
        obtain ⟨a3, c3, rfl⟩ := hr3.form
        have hnx := pnext_calls (HR.out.1.past hb3) (Pc.inv_room HR.out.2.1.inv H.out.2.1) hr3 (fun k hk => hk.2) H.out.2.2.1
        rw [HN.out] at hnx
        have HNX := Lib.hid hnx
        have H3 := Lib.hid hb3
        clear hr3 hb3 hnx
        dsimp only
        go_wp2_with fail
        refine HNX.out.mono ?_
        rintro e W4 ⟨rfl, hb4⟩
        have H4 := Lib.hid (H3.out.trans (hb4.mono H3.out.size))
        have c0 := (HR.out.1.past H4.out).c0
        clear hb4
        dsimp only
        go_wp2_with fail
        refine (pleaf_calls (HR.out.1.past H4.out) (Pc.inv_room HR.out.2.1.inv H.out.2.1)).mono ?_
        rintro e W5 ⟨rfl, h5, g5⟩
        have hol := HR.out.2.1.leaf H.out.1 HE.out (Pc.next_kind HN.out)
        have H5 := Lib.hid (And.intro h5 (And.intro ((FrT.of H4.out).trans g5) hol))
        clear h5 g5 hol c0
        dsimp only
        go_wp2_with fail
        refine (H.out.2.2.2.2.2 Q _ _ (HI.out.2.2.frt (HR.out.2.2.2.2.trans H5.out.2.1)) H5.out.1 H5.out.2.2.1.inv).mono ?_
        rintro e W6 ⟨rfl, h6, g6⟩
        have hon := ((H5.out.2.2.1.then H.out.2.2.2.2.1).node (k := 10) (by decide) (fun _ => by simp))
        have H6 := Lib.hid (And.intro h6 (And.intro (H5.out.2.1.trans g6) hon))
        clear h6 g6 hon
        dsimp only
        go_wp2_with fail
        have hal : Below W6.heap.size W6 (W6.alloc (.cells (intCells [a, (Ps.leaf tk s1).1, (f (Ps.leaf tk s1).2).1]).toArray 3)) := (Below.refl _ _).alloc (Nat.le_refl _) _
        refine (pnode_calls (l := [a, (Ps.leaf tk s1).1, (f (Ps.leaf tk s1).2).1]) (H6.out.1.past hal) (Pc.inv_room (H5.out.2.2.1.then H.out.2.2.2.2.1).inv H.out.2.1) (rds_new W6 _ rfl) (fun k hk => by rw [hk, ← size_alloc1]; omega) (by simp) (HI.out.2.2.frt ((HR.out.2.2.2.2.trans H6.out.2.1).trans (FrT.of hal))) 10).mono ?_
        rintro e W7 ⟨rfl, h7, g7⟩
        have H7 := Lib.hid (And.intro h7 (H6.out.2.1.trans ((FrT.of hal).trans g7)))
        clear h7 g7 hal
        dsimp only
        go_wp2_with fail
        obtain ⟨m, hm⟩ : ∃ m, gk = m + 1 := ⟨gk - 1, by have q1 := HR.out.2.2.1 HE.out; have q2 := HR.out.2.1.inv.1; omega⟩
        go_roundg m
        case measure => omega
        case rel =>
          have hgo := HR.out.2.2.2.1
          rw [hm] at hgo
          unfold Ps.rowGo at hgo
          rw [if_pos ⟨HE.out, HN.out⟩, if_neg (by simp)] at hgo
          refine ⟨_, _, rfl, H7.out.1, H6.out.2.2, fun he7 => ?_, hgo, HR.out.2.2.2.2.trans H7.out.2⟩
          have q1 := HR.out.2.2.1 HE.out
          have q2 := Pc.leaf_used HR.out.2.1.inv
          have q3 : (f (Ps.leaf tk s1).2).2.e = 0 := by
            by_cases h0 : (f (Ps.leaf tk s1).2).2.e = 0
            · exact h0
            · rw [Pc.node_dead h0] at he7
              exact absurd he7 h0
          have q4 := Pc.SimL.used H.out.2.2.2.2.1 H5.out.2.2.1.inv H5.out.2.2.2 q3
          have q5 := Pc.node_used 10 [a, (Ps.leaf tk s1).1, (f (Ps.leaf tk s1).2).1] (f (Ps.leaf tk s1).2).2
          rw [q5]
          simp only [Pc.lift] at q4
          omega
      · rw [Bool.not_eq_true] at hn
        have HN := Lib.hid hn
        clear hn
        go_wp2_with fail
        refine (HOK.out).mono ?_
        rintro e W2 ⟨rfl, rfl⟩
        dsimp only
        go_wp2_with fail
        refine (H.out.2.2.2.1 _).mono ?_
        rintro e W3 ⟨v3, rfl, hr3, hb3⟩
        obtain ⟨a3, c3, rfl⟩ := hr3.form
        have hnx := pnext_calls (HR.out.1.past hb3) (Pc.inv_room HR.out.2.1.inv H.out.2.1) hr3 (fun k hk => hk.2) H.out.2.2.1
        rw [HN.out] at hnx
        have HNX := Lib.hid hnx
        have H3 := Lib.hid hb3
        clear hr3 hb3 hnx
        dsimp only
        go_wp2_with fail
        refine HNX.out.mono ?_
        rintro e W4 ⟨rfl, hb4⟩
        have H4 := Lib.hid (H3.out.trans (hb4.mono H3.out.size))
        clear hb4
        dsimp only
        go_wp2_with fail
        go_ret
        have hgo := HR.out.2.2.2.1
        have e1 : ∀ m, Ps.rowGo tk f ts false m a s1 = (a, s1) := by
          intro m
          cases m with
          | zero => rfl
          | succ m => unfold Ps.rowGo; rw [if_neg (by rw [HN.out]; simp)]
        rw [e1] at hgo
        rw [← hgo]
        exact ⟨rfl, HR.out.1.past H4.out, HR.out.2.2.2.2.trans (FrT.of H4.out)⟩
    · rw [decide_eq_false he] at hok
      have HOK := Lib.hid hok
      have HE := Lib.hid he
      clear hp hog hfu hgo hfr hok he
      go_wp2_with fail
      refine (HOK.out).mono ?_
      rintro e W2 ⟨rfl, rfl⟩
      dsimp only
      go_wp2_with fail
      go_ret
      have hgo := HR.out.2.2.2.1
      have e1 : ∀ m, Ps.rowGo tk f ts false m a s1 = (a, s1) := by
        intro m
        cases m with
        | zero => rfl
        | succ m => unfold Ps.rowGo; rw [if_neg (by simp [HE.out])]
      rw [e1] at hgo
      rw [← hgo]
      exact ⟨rfl, HR.out.1, HR.out.2.2.2.2⟩

set_option maxRecDepth 100000 in
set_option maxHeartbeats 2000000 in
theorem prow_once (ht : Pc.Toks tk) (hl : tk.length ≤ 1000000) {ts : List (List UInt8)} (hts : ts.length ≤ 1000) (hsg : ∀ W, Calls Tryz.prog 116 #[.int .i64 2] W (SignsSay ts W)) {n : Int} {f : Ps.F} {g : Pr.G} (hf : Pc.Sim tk f g)
    (hpart : Knows w0 p b tk dp 115 #[.pointer (some ⟨p, 0, none⟩), .int .i64 2, .int .i64 n] f) :
    Knows w0 p b tk dp 98 #[.pointer (some ⟨p, 0, none⟩), .int .i64 2, .int .i64 n] (Ps.row tk f ts true) := by
  intro Q W s hQ h hi
  have H := Lib.hid (And.intro ht (And.intro hl (And.intro hts (And.intro hsg (And.intro hf hpart)))))
  have HI := Lib.hid (And.intro h (And.intro hi hQ))
  have HO := Lib.hid ((Pc.Og.nil hi).then hf)
  clear ht hl hts hsg hf hpart h hi hQ
  go_enter Tryz.func98, Tryz.ntmps98
  go_wp2_with fail
  refine (H.out.2.2.2.2.2 Q W s HI.out.2.2 HI.out.1 HI.out.2.1).mono ?_
  rintro e W1 ⟨rfl, h1, h2⟩
  have H1 := Lib.hid (And.intro h1 (h2))
  clear h1 h2
  dsimp only
  go_wp2_with fail
  go_loopg [7] tk.length (fun k v7 wr => ∃ (a : Int) (s1 : Ps.St), v7 = .int .i64 a ∧ PI Q w0 wr p b tk dp s1 ∧ Pc.Og tk s1 [a] ∧ (s1.e = 0 → tk.length ≤ k + s1.used) ∧ Ps.rowGo tk f ts true k a s1 = Ps.row tk f ts true s ∧ FrT PTs W wr)
  case atStart => exact ⟨_, _, rfl, H1.out.1, HO.out, fun _ => Nat.le_add_right _ _, rfl, H1.out.2⟩
  case round =>
    obtain ⟨a, s1, rfl, hp, hog, hfu, hgo, hfr⟩ := hrel
    have HR := Lib.hid (And.intro hp (And.intro hog (And.intro hfu (And.intro hgo hfr))))
    have hok := pok_calls hp
    by_cases he : s1.e = 0
    · rw [decide_eq_true he] at hok
      have HOK := Lib.hid hok
      have HE := Lib.hid he
      clear hp hog hfu hgo hfr hok he
      by_cases hn : Ps.nextB tk ts s1.used = true
      · have HN := Lib.hid hn
        clear hn
        go_wp2_with fail
        refine (HOK.out).mono ?_
        rintro e W2 ⟨rfl, rfl⟩
        dsimp only
        go_wp2_with fail
        refine (H.out.2.2.2.1 _).mono ?_
        rintro e W3 ⟨v3, rfl, hr3, hb3⟩
        obtain ⟨a3, c3, rfl⟩ := hr3.form
        have hnx := pnext_calls (HR.out.1.past hb3) (Pc.inv_room HR.out.2.1.inv H.out.2.1) hr3 (fun k hk => hk.2) H.out.2.2.1
        rw [HN.out] at hnx
        have HNX := Lib.hid hnx
        have H3 := Lib.hid hb3
        clear hr3 hb3 hnx
        dsimp only
        go_wp2_with fail
        refine HNX.out.mono ?_
        rintro e W4 ⟨rfl, hb4⟩
        have H4 := Lib.hid (H3.out.trans (hb4.mono H3.out.size))
        have c0 := (HR.out.1.past H4.out).c0
        clear hb4
        dsimp only
        go_wp2_with fail
        refine (pleaf_calls (HR.out.1.past H4.out) (Pc.inv_room HR.out.2.1.inv H.out.2.1)).mono ?_
        rintro e W5 ⟨rfl, h5, g5⟩
        have hol := HR.out.2.1.leaf H.out.1 HE.out (Pc.next_kind HN.out)
        have H5 := Lib.hid (And.intro h5 (And.intro ((FrT.of H4.out).trans g5) hol))
        clear h5 g5 hol c0
        dsimp only
        go_wp2_with fail
        refine (H.out.2.2.2.2.2 Q _ _ (HI.out.2.2.frt (HR.out.2.2.2.2.trans H5.out.2.1)) H5.out.1 H5.out.2.2.1.inv).mono ?_
        rintro e W6 ⟨rfl, h6, g6⟩
        have hon := ((H5.out.2.2.1.then H.out.2.2.2.2.1).node (k := 10) (by decide) (fun _ => by simp))
        have H6 := Lib.hid (And.intro h6 (And.intro (H5.out.2.1.trans g6) hon))
        clear h6 g6 hon
        dsimp only
        go_wp2_with fail
        have hal : Below W6.heap.size W6 (W6.alloc (.cells (intCells [a, (Ps.leaf tk s1).1, (f (Ps.leaf tk s1).2).1]).toArray 3)) := (Below.refl _ _).alloc (Nat.le_refl _) _
        refine (pnode_calls (l := [a, (Ps.leaf tk s1).1, (f (Ps.leaf tk s1).2).1]) (H6.out.1.past hal) (Pc.inv_room (H5.out.2.2.1.then H.out.2.2.2.2.1).inv H.out.2.1) (rds_new W6 _ rfl) (fun k hk => by rw [hk, ← size_alloc1]; omega) (by simp) (HI.out.2.2.frt ((HR.out.2.2.2.2.trans H6.out.2.1).trans (FrT.of hal))) 10).mono ?_
        rintro e W7 ⟨rfl, h7, g7⟩
        have H7 := Lib.hid (And.intro h7 (H6.out.2.1.trans ((FrT.of hal).trans g7)))
        clear h7 g7 hal
        dsimp only
        go_wp2_with fail
        go_ret
        obtain ⟨m, hm⟩ : ∃ m, gk = m + 1 := ⟨gk - 1, by have q1 := HR.out.2.2.1 HE.out; have q2 := HR.out.2.1.inv.1; omega⟩
        have hgo := HR.out.2.2.2.1
        rw [hm] at hgo
        unfold Ps.rowGo at hgo
        rw [if_pos ⟨HE.out, HN.out⟩, if_pos rfl] at hgo
        rw [← hgo]
        exact ⟨rfl, H7.out.1, HR.out.2.2.2.2.trans H7.out.2⟩
      · rw [Bool.not_eq_true] at hn
        have HN := Lib.hid hn
        clear hn
        go_wp2_with fail
        refine (HOK.out).mono ?_
        rintro e W2 ⟨rfl, rfl⟩
        dsimp only
        go_wp2_with fail
        refine (H.out.2.2.2.1 _).mono ?_
        rintro e W3 ⟨v3, rfl, hr3, hb3⟩
        obtain ⟨a3, c3, rfl⟩ := hr3.form
        have hnx := pnext_calls (HR.out.1.past hb3) (Pc.inv_room HR.out.2.1.inv H.out.2.1) hr3 (fun k hk => hk.2) H.out.2.2.1
        rw [HN.out] at hnx
        have HNX := Lib.hid hnx
        have H3 := Lib.hid hb3
        clear hr3 hb3 hnx
        dsimp only
        go_wp2_with fail
        refine HNX.out.mono ?_
        rintro e W4 ⟨rfl, hb4⟩
        have H4 := Lib.hid (H3.out.trans (hb4.mono H3.out.size))
        clear hb4
        dsimp only
        go_wp2_with fail
        go_ret
        have hgo := HR.out.2.2.2.1
        have e1 : ∀ m, Ps.rowGo tk f ts true m a s1 = (a, s1) := by
          intro m
          cases m with
          | zero => rfl
          | succ m => unfold Ps.rowGo; rw [if_neg (by rw [HN.out]; simp)]
        rw [e1] at hgo
        rw [← hgo]
        exact ⟨rfl, HR.out.1.past H4.out, HR.out.2.2.2.2.trans (FrT.of H4.out)⟩
    · rw [decide_eq_false he] at hok
      have HOK := Lib.hid hok
      have HE := Lib.hid he
      clear hp hog hfu hgo hfr hok he
      go_wp2_with fail
      refine (HOK.out).mono ?_
      rintro e W2 ⟨rfl, rfl⟩
      dsimp only
      go_wp2_with fail
      go_ret
      have hgo := HR.out.2.2.2.1
      have e1 : ∀ m, Ps.rowGo tk f ts true m a s1 = (a, s1) := by
        intro m
        cases m with
        | zero => rfl
        | succ m => unfold Ps.rowGo; rw [if_neg (by simp [HE.out])]
      rw [e1] at hgo
      rw [← hgo]
      exact ⟨rfl, HR.out.1, HR.out.2.2.2.2⟩

/-- A part that is a row of the next level. -/
theorem ppart_row {lv : Int} (h1 : (lv == 1) = false) (h4 : (lv == 4) = false) (hb : 0 ≤ lv ∧ lv ≤ 3) {n : Int} {f : Ps.F} (hr : Knows w0 p b tk dp 98 #[.pointer (some ⟨p, 0, none⟩), .int .i64 (lv + 1), .int .i64 n] f) :
    Knows w0 p b tk dp 115 #[.pointer (some ⟨p, 0, none⟩), .int .i64 lv, .int .i64 n] f := by
  intro Q W s hQ h hi
  obtain ⟨b1, b2⟩ := hb
  have HC := Lib.hid (hr Q W s hQ h hi)
  clear h hi hr hQ
  go_enter Tryz.func115, Tryz.ntmps115
  go_wp2_with fail
  refine (HC.out).mono ?_
  rintro e W1 ⟨rfl, h1, h2⟩
  have H1 := Lib.hid (And.intro h1 (h2))
  clear h1 h2
  dsimp only
  go_wp2_with fail
  go_ret
  exact ⟨rfl, H1.out.1, H1.out.2⟩
theorem ppart_neg {n : Int} {f : Ps.F} (hr : Knows w0 p b tk dp 132 #[.pointer (some ⟨p, 0, none⟩), .int .i64 n] f) :
    Knows w0 p b tk dp 115 #[.pointer (some ⟨p, 0, none⟩), .int .i64 1, .int .i64 n] f := by
  intro Q W s hQ h hi
  have HC := Lib.hid (hr Q W s hQ h hi)
  clear h hi hr hQ
  go_enter Tryz.func115, Tryz.ntmps115
  go_wp2_with fail
  refine (HC.out).mono ?_
  rintro e W1 ⟨rfl, h1, h2⟩
  have H1 := Lib.hid (And.intro h1 (h2))
  clear h1 h2
  dsimp only
  go_wp2_with fail
  go_ret
  exact ⟨rfl, H1.out.1, H1.out.2⟩
theorem ppart_fac {n : Int} {f : Ps.F} (hr : Knows w0 p b tk dp 133 #[.pointer (some ⟨p, 0, none⟩), .int .i64 n] f) :
    Knows w0 p b tk dp 115 #[.pointer (some ⟨p, 0, none⟩), .int .i64 4, .int .i64 n] f := by
  intro Q W s hQ h hi
  have HC := Lib.hid (hr Q W s hQ h hi)
  clear h hi hr hQ
  go_enter Tryz.func115, Tryz.ntmps115
  go_wp2_with fail
  refine (HC.out).mono ?_
  rintro e W1 ⟨rfl, h1, h2⟩
  have H1 := Lib.hid (And.intro h1 (h2))
  clear h1 h2
  dsimp only
  go_wp2_with fail
  go_ret
  exact ⟨rfl, H1.out.1, H1.out.2⟩
end
end Go.Proofs.YtpkhdlnlkeehhaaGreatDoor
