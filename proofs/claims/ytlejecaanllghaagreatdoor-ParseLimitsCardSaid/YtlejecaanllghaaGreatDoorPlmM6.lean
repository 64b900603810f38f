/- Contracts and plain laws, in one text. parse: ok, fail, next, must, kind, node, deep: the walks. | Plain: what each of the parser's functions keeps. No program in sight. | parse: a level's signs; parts and rows; unary; negation, factor: the walks. | parse: unary, factor, negation, formula: the walks. | append(own row, slice...): the slice may be of none. | append(own row, slice...) in a plain region: the slice may be of none. | parse: list: the walk, at each of the functions that it is handed. -/
import Derived.Test.YtlejecaanllghaaGreatDoorPlmM4
import Derived.Test.YtlejecaanllghaaGreatDoorPlmM5
import Derived.Test.YtlejecaanllghaaGreatDoorPlmM2
import Derived.Test.YtlejecaanllghaaGreatDoorPlmM1
import Derived.Deep.Upon
import Derived.Deep.AppendLies
/- parse: ok, fail, next, must, kind, node, deep: the walks. -/
namespace Go.Proofs.YtlejecaanllghaaGreatDoor
open Go.RowKit

section
variable {Q : Nat → Prop}

/-- What the walks ask of a state. -/
def Wk (tk : List Tr.Tk) (s : Ps.St) : Prop := 0 < tk.length ∧ tk.length ≤ 1000000 ∧ s.used ≤ tk.length ∧ s.nodes.length ≤ 5000000

theorem anc_peek {w0 W : World} {b u : Nat} {tk : List Tr.Tk} {ns : List Tr.Nd} (h : Anc Q w0 W b ⟨tk, ns⟩ u) (h0 : 0 < tk.length) (h1 : tk.length ≤ 1000000) (hu : u ≤ tk.length) :
    Calls Tryz.prog 144 #[.pointer (some ⟨b, 0, none⟩)] W fun e W' => e = .returned (.agg #[.int .i64 (Ps.peek tk u).kind, .string ⟨(Ps.peek tk u).lead.toArray⟩, .string ⟨(Ps.peek tk u).text.toArray⟩, .int .i64 (Ps.peek tk u).pos]) ∧ Below W.heap.size W W' := by
  obtain ⟨B, vt, vn, _, hB, _⟩ := h
  refine peek_calls hB (by show tk.length ≤ _; omega) hu ?_
  show tk[min u (tk.length - 1)]? = _
  unfold Ps.peek
  rw [List.getElem?_eq_getElem (by omega)]
  rfl

theorem tok_field0 (k : Int) (l t : ByteArray) (q : Int) (w : World) : (Instr.field 169 (.agg #[.int .i64 k, .string l, .string t, .int .i64 q]) 0).run Tryz.prog w = .ok (.int .i64 k) w := by kernel_rfl
theorem tok_field3 (k : Int) (l t : ByteArray) (q : Int) (w : World) : (Instr.field 169 (.agg #[.int .i64 k, .string l, .string t, .int .i64 q]) 3).run Tryz.prog w = .ok (.int .i64 q) w := by kernel_rfl
section
variable {w0 W : World} {p b : Nat} {tk : List Tr.Tk} {dp : Int} {s : Ps.St}

set_option maxRecDepth 100000 in
set_option maxHeartbeats 2000000 in
theorem pok_calls (h : PI Q w0 W p b tk dp s) : Calls Tryz.prog 91 #[.pointer (some ⟨p, 0, none⟩)] W fun e W' => e = .returned (.bool (decide (s.e = 0))) ∧ W = W' := by
  have c3 := h.c3
  clear h
  go_enter Tryz.func91, Tryz.ntmps91
  go_wp2
  go_ret
  exact ⟨rfl, rfl⟩

set_option maxRecDepth 100000 in
set_option maxHeartbeats 2000000 in
theorem pfail_calls (h : PI Q w0 W p b tk dp s) (hw : Wk tk s) (x : Int) : Calls Tryz.prog 136 #[.pointer (some ⟨p, 0, none⟩), .int .i64 x] W (Does Q w0 p b tk dp (0, Ps.fail tk x s) W) := by
  have HP := Lib.hid h
  have HW := Lib.hid hw
  have hok := pok_calls h
  by_cases he : s.e = 0
  · rw [decide_eq_true he] at hok
    have HOK := Lib.hid hok
    have HF := Lib.hid (show Ps.fail tk x s = { s with e := x, pos := (Ps.peek tk s.used).pos } by unfold Ps.fail; rw [if_pos he])
    have c0 := h.c0
    clear h hw hok he
    go_enter Tryz.func136, Tryz.ntmps136
    go_wp2_with fail
    refine HOK.out.mono ?_
    rintro e W1 ⟨rfl, rfl⟩
    dsimp only
    go_wp2_with fail
    refine (anc_peek HP.out.anc HW.out.1 HW.out.2.1 HW.out.2.2.1).mono ?_
    rintro e W2 ⟨rfl, hb2⟩
    have hc2 := anc_box HP.out.cell hb2
    have d3 := (HP.out.past hb2).c3
    have d4 := (HP.out.past hb2).c4
    have f3 := frozen_of_heap hc2 3
    have f4 := frozen_of_heap hc2 4
    have H2 := Lib.hid (And.intro hb2 hc2)
    have t3 := tok_field3 (Ps.peek tk s.used).kind ⟨(Ps.peek tk s.used).lead.toArray⟩ ⟨(Ps.peek tk s.used).text.toArray⟩ (Ps.peek tk s.used).pos W2
    clear hb2 hc2 c0
    dsimp only
    go_wp2_with fail
    go_ret
    have h1 := setCell_row (j := 3) H2.out.2 (.int .i64 x)
    have h2 := setCell_row (j := 4) h1 (.int .i64 (Ps.peek tk s.used).pos)
    have h3 := (HP.out.past H2.out.1).set (s' := { s with e := x, pos := (Ps.peek tk s.used).pos }) ⟨rfl, rfl⟩ (W' := (W2.setCell ⟨p, 3, none⟩ (.int .i64 x)).setCell ⟨p, 4, none⟩ (.int .i64 (Ps.peek tk s.used).pos)) rfl rfl rfl (by simp [World.setCell]) h2 (fun k hk => by rw [Below.heap_setCell _ _ _ _ hk, Below.heap_setCell _ _ _ _ hk])
    refine ⟨rfl, ?_, (FrT.of H2.out.1).trans h3.2⟩
    rw [HF.out]
    exact h3.1
  · rw [decide_eq_false he] at hok
    have HOK := Lib.hid hok
    have HF := Lib.hid (show Ps.fail tk x s = s by unfold Ps.fail; rw [if_neg he])
    clear h hw hok he
    go_enter Tryz.func136, Tryz.ntmps136
    go_wp2_with fail
    refine HOK.out.mono ?_
    rintro e W1 ⟨rfl, rfl⟩
    dsimp only
    go_wp2_with fail
    go_ret
    exact ⟨rfl, by rw [HF.out]; exact HP.out, FrT.refl _ _⟩

set_option maxRecDepth 100000 in
set_option maxHeartbeats 2000000 in
/-- Does the next token stand among some texts? -/
theorem pnext_calls (h : PI Q w0 W p b tk dp s) (hw : Wk tk s) {ts : List (List UInt8)} {P : Nat → Prop} {v : Value} (hv : RdS W P 1 v ts.length (strCells ts)) (hP : ∀ k, P k → k < W.heap.size) (hl : ts.length ≤ 1000) :
    Calls Tryz.prog 135 #[.pointer (some ⟨p, 0, none⟩), v] W fun e W' => e = .returned (.bool (Ps.nextB tk ts s.used)) ∧ Below W.heap.size W W' := by
  have HP := Lib.hid h
  have HW := Lib.hid hw
  have HV := Lib.hid (And.intro hv (And.intro hP hl))
  obtain ⟨av, cv, rfl⟩ := hv.form
  have c0 := h.c0
  have hn : Ps.nextB tk ts s.used = ((decide ((Ps.peek tk s.used).kind = 2) || decide ((Ps.peek tk s.used).kind = 4)) && ts.contains (Ps.peek tk s.used).text) := rfl
  have hpk := anc_peek h.anc hw.1 hw.2.1 hw.2.2.1
  rw [hn]
  generalize Ps.peek tk s.used = t at *
  obtain ⟨kd, ld, tx, ps⟩ := t
  dsimp only at hpk ⊢
  have HPK := Lib.hid hpk
  clear h hw hv hP hn hpk
  by_cases hk : kd = 2 ∨ kd = 4
  · have e1 : (decide (kd = 2) || decide (kd = 4)) = true := by simpa using hk
    rw [e1, Bool.true_and]
    obtain ⟨y, hy⟩ : ∃ y, ts.contains tx = y := ⟨_, rfl⟩
    have hc0 : ∀ W', Below W.heap.size W W' → Calls Tryz.prog 180 #[.slice av ts.length cv, .string ⟨tx.toArray⟩] W' fun e w' => e = .returned (.bool y) ∧ W' = w' := fun W' hb => by
      have := contains_str (x := tx) (HV.out.1.keep (w' := W') (Keeps.of hb HV.out.2.1)) (by have := HV.out.2.2; omega)
      rwa [hy] at this
    have HC := Lib.hid hc0
    clear hc0
    rw [hy]
    clear hy
    rcases hk with rfl | rfl
    all_goals
      clear e1
      go_enter Tryz.func135, Tryz.ntmps135
      go_wp2_with fail
      refine HPK.out.mono ?_
      rintro e W2 ⟨rfl, hb2⟩
      have H2 := Lib.hid hb2
      clear hb2 c0
      dsimp only
      go_wp2_with fail
      refine (HC.out _ (H2.out.alloc H2.out.size _)).mono ?_
      rintro e W3 ⟨rfl, rfl⟩
      dsimp only
      go_wp2_with fail
      go_ret
      exact ⟨rfl, H2.out.alloc H2.out.size _⟩
  · have e1 : (decide (kd = 2) || decide (kd = 4)) = false := by simpa using hk
    rw [e1, Bool.false_and]
    have k1 : (kd == 2) = false := by simp; omega
    have k2 : (kd == 4) = false := by simp; omega
    clear hk e1
    go_enter Tryz.func135, Tryz.ntmps135
    go_wp2_with fail
    refine HPK.out.mono ?_
    rintro e W2 ⟨rfl, hb2⟩
    have H2 := Lib.hid hb2
    clear hb2 c0
    dsimp only
    go_wp2_with fail
    go_ret
    exact ⟨rfl, H2.out.alloc H2.out.size _⟩

set_option maxRecDepth 100000 in
set_option maxHeartbeats 2000000 in
/-- A leaf of the builder's. -/
theorem pleaf_calls (h : PI Q w0 W p b tk dp s) (hw : Wk tk s) : Calls Tryz.prog 137 #[.pointer (some ⟨b, 0, none⟩)] W (Does Q w0 p b tk dp (Ps.leaf tk s) W) := by
  unfold Ps.leaf
  by_cases hu : s.used = tk.length
  · rw [if_pos hu]
    have ha := h.anc
    rw [hu] at ha
    refine (anc_leaf_end (t := ⟨tk, s.nodes⟩) ha (by have := hw.2.2.2; show s.nodes.length ≤ _; omega) (by have := hw.2.1; show tk.length ≤ _; omega)).mono ?_
    rintro e W1 ⟨rfl, h1, h2⟩
    have h3 := h.step h1 h2
    refine ⟨rfl, ?_, h3.2⟩
    have h4 := h3.1
    have e1 : ({ s with nodes := s.nodes, used := tk.length } : Ps.St) = s := by rw [← hu]
    rw [e1] at h4
    exact h4
  · rw [if_neg hu]
    refine (anc_leaf (t := ⟨tk, s.nodes⟩) h.anc (by have := hw.2.2.2; show s.nodes.length ≤ _; omega) (by have := hw.2.1; show tk.length ≤ _; omega) (by have := hw.2.2.1; show s.used < tk.length; omega)).mono ?_
    rintro e W1 ⟨rfl, h1, h2⟩
    exact ⟨rfl, h.step h1 h2⟩
set_option maxRecDepth 100000 in
set_option maxHeartbeats 2000000 in
/-- A node of the builder's. -/
theorem pbnode_calls (h : PI Q w0 W p b tk dp s) (hw : Wk tk s) (he : s.e = 0) {P : Nat → Prop} {v : Value} {l : List Int} (hk : RdS W P 1 v l.length (intCells l)) (hP : ∀ k, P k → k < W.heap.size) (hl : l.length ≤ 1000000) (hQ : Up Q W) (k : Int) :
    Calls Tryz.prog 143 #[.pointer (some ⟨b, 0, none⟩), .int .i64 k, v] W (Does Q w0 p b tk dp (Ps.node k l s) W) := by
  have hbk : (l.any fun x => decide (x < 0) || decide ((s.nodes.length : Int) ≤ x)) = l.any (badKid s.nodes.length) := rfl
  unfold Ps.node
  rw [if_pos he, hbk]
  by_cases hb : l.any (badKid s.nodes.length) = true
  · rw [if_pos hb]
    refine (anc_node_bad (t := ⟨tk, s.nodes⟩) h.anc (by have := hw.2.2.2; show s.nodes.length ≤ _; omega) hk hP (by omega) hQ k hb).mono ?_
    rintro e W1 ⟨rfl, h1, h2⟩
    exact ⟨rfl, h.step h1 h2⟩
  · rw [if_neg hb]
    refine (anc_node (t := ⟨tk, s.nodes⟩) h.anc (by have := hw.2.2.2; show s.nodes.length ≤ _; omega) hk hP (by omega) hQ k (by simpa using hb)).mono ?_
    rintro e W1 ⟨rfl, h1, h2⟩
    exact ⟨rfl, h.step h1 h2⟩
theorem Wk.fail (hw : Wk tk s) (x : Int) : Wk tk (Ps.fail tk x s) := by
  unfold Ps.fail
  split
  · exact hw
  · exact hw

set_option maxRecDepth 100000 in
set_option maxHeartbeats 2000000 in
theorem pmust_calls (h : PI Q w0 W p b tk dp s) (hw : Wk tk s) {ts : List (List UInt8)} {P : Nat → Prop} {v : Value} (hv : RdS W P 1 v ts.length (strCells ts)) (hP : ∀ k, P k → k < W.heap.size) (hl : ts.length ≤ 1000) :
    Calls Tryz.prog 138 #[.pointer (some ⟨p, 0, none⟩), v] W (Does Q w0 p b tk dp (Ps.must tk ts s) W) := by
  have HP := Lib.hid h
  have HW := Lib.hid hw
  have hok := pok_calls h
  by_cases he : s.e = 0
  · rw [decide_eq_true he] at hok
    have HOK := Lib.hid hok
    have hnx := pnext_calls h hw hv hP hl
    obtain ⟨av, cv, rfl⟩ := hv.form
    unfold Ps.must
    by_cases hn : Ps.nextB tk ts s.used = true
    · rw [if_pos ⟨he, hn⟩]
      rw [hn] at hnx
      have HNX := Lib.hid hnx
      clear h hw hok he hn hnx hv hP
      go_enter Tryz.func138, Tryz.ntmps138
      go_wp2_with fail
      refine HOK.out.mono ?_
      rintro e W1 ⟨rfl, rfl⟩
      dsimp only
      go_wp2_with fail
      refine HNX.out.mono ?_
      rintro e W2 ⟨rfl, hb2⟩
      have c0 := (HP.out.past hb2).c0
      have H2 := Lib.hid hb2
      clear hb2
      dsimp only
      go_wp2_with fail
      refine (pleaf_calls (HP.out.past H2.out) HW.out).mono ?_
      rintro e W3 ⟨rfl, h3, h4⟩
      have H3 := Lib.hid (And.intro h3 h4)
      clear h3 h4 c0
      dsimp only
      go_wp2_with fail
      go_ret
      exact ⟨rfl, H3.out.1, (FrT.of H2.out).trans H3.out.2⟩
    · rw [if_neg (by simp [hn])]
      rw [Bool.not_eq_true] at hn
      rw [hn] at hnx
      have HNX := Lib.hid hnx
      clear h hw hok he hn hnx hv hP
      go_enter Tryz.func138, Tryz.ntmps138
      go_wp2_with fail
      refine HOK.out.mono ?_
      rintro e W1 ⟨rfl, rfl⟩
      dsimp only
      go_wp2_with fail
      refine HNX.out.mono ?_
      rintro e W2 ⟨rfl, hb2⟩
      have H2 := Lib.hid hb2
      clear hb2
      dsimp only
      go_wp2_with fail
      refine (pfail_calls (HP.out.past H2.out) HW.out 22).mono ?_
      rintro e W3 ⟨rfl, h3, h4⟩
      have H3 := Lib.hid (And.intro h3 h4)
      clear h3 h4
      dsimp only
      go_wp2_with fail
      go_ret
      exact ⟨rfl, H3.out.1, (FrT.of H2.out).trans H3.out.2⟩
  · rw [decide_eq_false he] at hok
    have HOK := Lib.hid hok
    obtain ⟨av, cv, rfl⟩ := hv.form
    unfold Ps.must
    rw [if_neg (by simp [he])]
    clear h hw hok he hv hP
    go_enter Tryz.func138, Tryz.ntmps138
    go_wp2_with fail
    refine HOK.out.mono ?_
    rintro e W1 ⟨rfl, rfl⟩
    dsimp only
    go_wp2_with fail
    refine (pfail_calls HP.out HW.out 22).mono ?_
    rintro e W3 ⟨rfl, h3, h4⟩
    have H3 := Lib.hid (And.intro h3 h4)
    clear h3 h4
    dsimp only
    go_wp2_with fail
    go_ret
    exact ⟨rfl, H3.out.1, H3.out.2⟩

set_option maxRecDepth 100000 in
set_option maxHeartbeats 2000000 in
theorem pkind_calls (h : PI Q w0 W p b tk dp s) (hw : Wk tk s) (k : Int) :
    Calls Tryz.prog 97 #[.pointer (some ⟨p, 0, none⟩), .int .i64 k] W (Does Q w0 p b tk dp (Ps.kind tk k s) W) := by
  have HP := Lib.hid h
  have HW := Lib.hid hw
  have hok := pok_calls h
  unfold Ps.kind
  by_cases he : s.e = 0
  · rw [decide_eq_true he] at hok
    have HOK := Lib.hid hok
    have hpk := anc_peek h.anc hw.1 hw.2.1 hw.2.2.1
    have c0 := h.c0
    by_cases hn : (Ps.peek tk s.used).kind = k
    · rw [if_pos ⟨he, hn⟩]
      rw [hn] at hpk
      have HPK := Lib.hid hpk
      clear h hw hok he hn hpk
      go_enter Tryz.func97, Tryz.ntmps97
      go_wp2_with fail
      refine HOK.out.mono ?_
      rintro e W1 ⟨rfl, rfl⟩
      dsimp only
      go_wp2_with fail
      refine HPK.out.mono ?_
      rintro e W2 ⟨rfl, hb2⟩
      have d0 := (HP.out.past hb2).c0
      have H2 := Lib.hid hb2
      have t0 := tok_field0 k ⟨(Ps.peek tk s.used).lead.toArray⟩ ⟨(Ps.peek tk s.used).text.toArray⟩ (Ps.peek tk s.used).pos W2
      clear hb2 c0
      dsimp only
      go_wp2_with fail
      refine (pleaf_calls (HP.out.past H2.out) HW.out).mono ?_
      rintro e W3 ⟨rfl, h3, h4⟩
      have H3 := Lib.hid (And.intro h3 h4)
      clear h3 h4 d0
      dsimp only
      go_wp2_with fail
      go_ret
      exact ⟨rfl, H3.out.1, (FrT.of H2.out).trans H3.out.2⟩
    · rw [if_neg (by simp [hn])]
      generalize (Ps.peek tk s.used).kind = kd at *
      have hn1 : (kd == k) = false := by simpa using hn
      have hn2 : (kd != k) = true := by simpa using hn
      have HPK := Lib.hid hpk
      clear h hw hok he hn hpk
      go_enter Tryz.func97, Tryz.ntmps97
      go_wp2_with fail
      refine HOK.out.mono ?_
      rintro e W1 ⟨rfl, rfl⟩
      dsimp only
      go_wp2_with fail
      refine HPK.out.mono ?_
      rintro e W2 ⟨rfl, hb2⟩
      have H2 := Lib.hid hb2
      have t0 := tok_field0 kd ⟨(Ps.peek tk s.used).lead.toArray⟩ ⟨(Ps.peek tk s.used).text.toArray⟩ (Ps.peek tk s.used).pos W2
      clear hb2 c0
      dsimp only
      go_wp2_with fail
      refine (pfail_calls (HP.out.past H2.out) HW.out 22).mono ?_
      rintro e W3 ⟨rfl, h3, h4⟩
      have H3 := Lib.hid (And.intro h3 h4)
      clear h3 h4
      dsimp only
      go_wp2_with fail
      go_ret
      exact ⟨rfl, H3.out.1, (FrT.of H2.out).trans H3.out.2⟩
  · rw [decide_eq_false he] at hok
    have HOK := Lib.hid hok
    rw [if_neg (by simp [he])]
    clear h hw hok he
    go_enter Tryz.func97, Tryz.ntmps97
    go_wp2_with fail
    refine HOK.out.mono ?_
    rintro e W1 ⟨rfl, rfl⟩
    dsimp only
    go_wp2_with fail
    refine (pfail_calls HP.out HW.out 22).mono ?_
    rintro e W3 ⟨rfl, h3, h4⟩
    have H3 := Lib.hid (And.intro h3 h4)
    clear h3 h4
    dsimp only
    go_wp2_with fail
    go_ret
    exact ⟨rfl, H3.out.1, H3.out.2⟩

set_option maxRecDepth 100000 in
set_option maxHeartbeats 2000000 in
theorem pnode_calls (h : PI Q w0 W p b tk dp s) (hw : Wk tk s) {P : Nat → Prop} {v : Value} {l : List Int} (hk : RdS W P 1 v l.length (intCells l)) (hP : ∀ k, P k → k < W.heap.size) (hl : l.length ≤ 1000000) (hQ : Up Q W) (k : Int) :
    Calls Tryz.prog 96 #[.pointer (some ⟨p, 0, none⟩), .int .i64 k, v] W (Does Q w0 p b tk dp (Ps.node k l s) W) := by
  have HP := Lib.hid h
  have hok := pok_calls h
  obtain ⟨av, cv, rfl⟩ := hk.form
  by_cases he : s.e = 0
  · have HN := Lib.hid (pbnode_calls h hw he hk hP hl hQ k)
    rw [decide_eq_true he] at hok
    have HOK := Lib.hid hok
    have c0 := h.c0
    clear h hw hok he hk hP hQ
    go_enter Tryz.func96, Tryz.ntmps96
    go_wp2_with fail
    refine HOK.out.mono ?_
    rintro e W1 ⟨rfl, rfl⟩
    dsimp only
    go_wp2_with fail
    refine HN.out.mono ?_
    rintro e W3 ⟨rfl, h3, h4⟩
    have H3 := Lib.hid (And.intro h3 h4)
    clear h3 h4 c0
    dsimp only
    go_wp2_with fail
    go_ret
    exact ⟨rfl, H3.out.1, H3.out.2⟩
  · rw [decide_eq_false he] at hok
    have HOK := Lib.hid hok
    have HE := Lib.hid he
    clear h hw hok he hk hP hQ
    go_enter Tryz.func96, Tryz.ntmps96
    go_wp2_with fail
    refine HOK.out.mono ?_
    rintro e W1 ⟨rfl, rfl⟩
    dsimp only
    go_wp2_with fail
    go_ret
    have e1 : Ps.node k l s = (0, s) := by unfold Ps.node; rw [if_neg HE.out]
    rw [e1]
    exact ⟨rfl, HP.out, FrT.refl _ _⟩

set_option maxRecDepth 100000 in
set_option maxHeartbeats 2000000 in
/-- Where d more may be nested. -/
theorem pdeep_calls (h : PI Q w0 W p b tk dp s) (hw : Wk tk s) {n : Int} {d : Nat} (hd : n + d = dp + 1) :
    Calls Tryz.prog 182 #[.pointer (some ⟨p, 0, none⟩), .int .i64 n] W fun e W' => e = .returned (.bool (decide ((Ps.deep tk d s).e ≠ 0))) ∧ PI Q w0 W' p b tk dp (Ps.deep tk d s) ∧ FrT PTs W W' := by
  have HP := Lib.hid h
  have HW := Lib.hid hw
  have c1 := h.c1
  unfold Ps.deep
  by_cases hz : d = 0
  · have hd1 : decide (dp < n) = true := decide_eq_true (by omega)
    rw [if_pos hz]
    clear h hw hz hd
    go_enter Tryz.func182, Tryz.ntmps182
    go_wp2_with fail
    refine (pfail_calls HP.out HW.out 23).mono ?_
    rintro e W3 ⟨rfl, h3, h4⟩
    have H3 := Lib.hid (And.intro h3 h4)
    clear h3 h4 c1
    dsimp only
    go_wp2_with fail
    refine (pok_calls H3.out.1).mono ?_
    rintro e W4 ⟨rfl, rfl⟩
    dsimp only
    go_wp2_with fail
    go_ret
    exact ⟨by simp, H3.out.1, H3.out.2⟩
  · have hd1 : decide (dp < n) = false := decide_eq_false (by omega)
    rw [if_neg hz]
    clear h hw hz hd
    go_enter Tryz.func182, Tryz.ntmps182
    go_wp2_with fail
    refine (pok_calls HP.out).mono ?_
    rintro e W4 ⟨rfl, rfl⟩
    dsimp only
    go_wp2_with fail
    go_ret
    exact ⟨by simp, HP.out, FrT.refl _ _⟩
end
end
end Go.Proofs.YtlejecaanllghaaGreatDoor
/- Plain: what each of the parser's functions keeps. No program in sight. -/
namespace Go.Proofs.YtlejecaanllghaaGreatDoor.Pc
open Tr Ps

section
variable {tk : List Tk}
/-- A document's state beside a program's. -/
def beside (s : St) : Pr.Rs := ⟨s.used, s.clause, s.e, s.pos⟩
theorem rel_beside (s : St) : Rel s (beside s) := ⟨rfl, fun _ => rfl, fun _ => ⟨rfl, rfl⟩⟩
theorem SimL.keep {f : St → List Int × St} {g : Pr.G} (h : SimL tk f g) {s : St} (hi : Inv tk s) : Inv tk (f s).2 := by
  by_cases he : s.e = 0
  · exact (h.go s (beside s) he hi (rel_beside s)).2.1
  · rw [h.df s he]
    exact hi
theorem SimL.used {f : St → List Int × St} {g : Pr.G} (h : SimL tk f g) {s : St} (hi : Inv tk s) (he : s.e = 0) (he2 : (f s).2.e = 0) : s.used ≤ (f s).2.used :=
  ((h.go s (beside s) he hi (rel_beside s)).2.2.2 he2).used
theorem Sim.keep {f : F} {g : Pr.G} (h : Sim tk f g) {s : St} (hi : Inv tk s) : Inv tk (f s).2 := SimL.keep h hi
theorem Out.inv {s0 s : St} {l : List Int} {r : Pr.Rs} {x : List UInt8} (o : Out tk s0 s l r x) : Inv tk s := o.2.1
/-- What a state and roots have come of. -/
def Og (tk : List Tk) (s : St) (l : List Int) : Prop := ∃ s0 r x, Out tk s0 s l r x
theorem Og.nil {s : St} (hi : Inv tk s) : Og tk s [] := ⟨s, beside s, [], Out.nil hi (rel_beside s)⟩
theorem Og.inv {s : St} {l : List Int} (h : Og tk s l) : Inv tk s := by
  obtain ⟨s0, r, x, o⟩ := h
  exact o.2.1
theorem Og.then {s : St} {l : List Int} (h : Og tk s l) {f : F} {g : Pr.G} (k : Sim tk f g) : Og tk (f s).2 (l ++ [(f s).1]) := by
  obtain ⟨s0, r, x, o⟩ := h
  exact ⟨s0, _, _, o.then k⟩
theorem Og.leaf (ht : Toks tk) {s : St} {l : List Int} (h : Og tk s l) (he : s.e = 0) (hk : (peek tk s.used).kind ≠ 5) : Og tk (Ps.leaf tk s).2 (l ++ [(Ps.leaf tk s).1]) ∧ (Ps.leaf tk s).2.e = 0 := by
  obtain ⟨s0, r, x, o⟩ := h
  exact ⟨⟨s0, _, _, (o.leaf ht he hk).1⟩, (o.leaf ht he hk).2⟩
theorem Og.node {s : St} {l : List Int} (h : Og tk s l) {k : Int} (hk : 1 ≤ k ∧ k ≤ 18) (hl : s.e = 0 → 2 ≤ l.length) : Og tk (Ps.node k l s).2 [(Ps.node k l s).1] := by
  obtain ⟨s0, r, x, o⟩ := h
  exact ⟨s0, _, _, o.node hk hl⟩
theorem Og.clause {s : St} {l : List Int} (h : Og tk s l) (b : Bool) : Og tk { s with clause := b } [] := Og.nil h.inv
theorem inv_room {s : St} (h : Inv tk s) (hl : tk.length ≤ 1000000) : 0 < tk.length ∧ tk.length ≤ 1000000 ∧ s.used ≤ tk.length ∧ s.nodes.length ≤ 5000000 := by
  have h1 := h.1
  have h2 := h.2.1
  omega
theorem node_used (k : Int) (l : List Int) (s : St) : (Ps.node k l s).2.used = s.used := by
  unfold Ps.node
  by_cases h : s.e = 0
  · rw [if_pos h]
    by_cases h2 : (l.any fun x => decide (x < 0) || decide ((s.nodes.length : Int) ≤ x)) = true
    · rw [if_pos h2]
    · rw [if_neg h2]
  · rw [if_neg h]
theorem leaf_used {s : St} (hi : Inv tk s) : (Ps.leaf tk s).2.used = s.used + 1 := by
  obtain ⟨t, h1, _⟩ := hi.get
  exact (got_leaf hi.2.2 h1).2.1
end
end Go.Proofs.YtlejecaanllghaaGreatDoor.Pc
/- parse: a level's signs; parts and rows; unary; negation, factor: the walks. -/
namespace Go.Proofs.YtlejecaanllghaaGreatDoor
open Go.RowKit

theorem rds_newS (w : World) (l : List (List UInt8)) {r : Nat} (hr : r = w.heap.size) : RdS (w.alloc (.cells (strCells l).toArray 9)) (fun k => k = w.heap.size) 1 (.slice (some ⟨r, 0, none⟩) l.length l.length) l.length (strCells l) := by
  subst hr
  refine ⟨by simp [strCells], _, _, rfl, Nat.le_refl _, Or.inr ⟨_, _, rfl, Or.inr rfl, ?_⟩⟩
  intro j v hj
  rw [Nat.zero_add]
  exact cell_of_heap (new_at _ _ _ rfl) j (by simpa using hj)
def SignsSay (ts : List (List UInt8)) (W : World) (e : Ending) (W' : World) : Prop := ∃ v, e = .returned v ∧ RdS W' (fun k => W.heap.size ≤ k ∧ k < W'.heap.size) 1 v ts.length (strCells ts) ∧ Below W.heap.size W W'
theorem signs_say (W : World) (l : List (List UInt8)) : SignsSay l W (.returned (.slice (some ⟨W.heap.size, 0, none⟩) l.length l.length)) (W.alloc (.cells (strCells l).toArray 9)) :=
  ⟨_, rfl, (rds_newS W l rfl).imp fun k hk => ⟨by omega, by rw [hk, ← size_alloc1]; omega⟩, (Below.refl _ _).alloc (Nat.le_refl _) _⟩
theorem signs0_calls (W : World) : Calls Tryz.prog 252 #[.int .i64 0] W (SignsSay Ps.sOr W) := by
  go_enter Tryz.func252, Tryz.ntmps252
  go_wp2
  go_ret
  exact signs_say W Ps.sOr
theorem signs1_calls (W : World) : Calls Tryz.prog 252 #[.int .i64 1] W (SignsSay Ps.sAnd W) := by
  go_enter Tryz.func252, Tryz.ntmps252
  go_wp2
  go_ret
  exact signs_say W Ps.sAnd
theorem signs2_calls (W : World) : Calls Tryz.prog 252 #[.int .i64 2] W (SignsSay Ps.sCmp W) := by
  go_enter Tryz.func252, Tryz.ntmps252
  go_wp2
  go_ret
  exact signs_say W Ps.sCmp
theorem signs3_calls (W : World) : Calls Tryz.prog 252 #[.int .i64 3] W (SignsSay Ps.sSum W) := by
  go_enter Tryz.func252, Tryz.ntmps252
  go_wp2
  go_ret
  exact signs_say W Ps.sSum
theorem signs4_calls (W : World) : Calls Tryz.prog 252 #[.int .i64 4] W (SignsSay Ps.sMul W) := by
  go_enter Tryz.func252, Tryz.ntmps252
  go_wp2
  go_ret
  exact signs_say W Ps.sMul

section
variable {w0 : World} {p b : Nat} {tk : List Tr.Tk} {dp : Int}
/-- What is known of a function of the parser's: at any state, in any world. -/
def Knows (w0 : World) (p b : Nat) (tk : List Tr.Tk) (dp : Int) (k : FuncId) (args : Array Value) (f : Ps.F) : Prop :=
  ∀ (Q : Nat → Prop) (W : World) (s : Ps.St), Up Q W → PI Q w0 W p b tk dp s → Pc.Inv tk s → Calls Tryz.prog k args W (Does Q w0 p b tk dp (f s) W)

set_option maxRecDepth 100000 in
set_option maxHeartbeats 2000000 in
theorem prow_calls (ht : Pc.Toks tk) (hl : tk.length ≤ 1000000) {lv : Int} (hlv : (lv == 2) = false) {ts : List (List UInt8)} (hts : ts.length ≤ 1000) (hsg : ∀ W, Calls Tryz.prog 252 #[.int .i64 lv] W (SignsSay ts W)) {n : Int} {f : Ps.F} {g : Pr.G} (hf : Pc.Sim tk f g)
    (hpart : Knows w0 p b tk dp 251 #[.pointer (some ⟨p, 0, none⟩), .int .i64 lv, .int .i64 n] f) :
    Knows w0 p b tk dp 224 #[.pointer (some ⟨p, 0, none⟩), .int .i64 lv, .int .i64 n] (Ps.row tk f ts false) := by
  intro Q W s hQ h hi
  have H := Lib.hid (And.intro ht (And.intro hl (And.intro hts (And.intro hsg (And.intro hf hpart)))))
  have HI := Lib.hid (And.intro h (And.intro hi hQ))
  have HO := Lib.hid ((Pc.Og.nil hi).then hf)
  clear ht hl hts hsg hf hpart h hi hQ
  go_enter Tryz.func224, Tryz.ntmps224
  go_wp2_with fail
  refine (H.out.2.2.2.2.2 Q W s HI.out.2.2 HI.out.1 HI.out.2.1).mono ?_
  rintro e W1 ⟨rfl, h1, h2⟩
  have H1 := Lib.hid (And.intro h1 (h2))
  clear h1 h2
  dsimp only
  go_wp2_with fail
  go_loopg [7] tk.length (fun k v7 wr => ∃ (a : Int) (s1 : Ps.St), v7 = .int .i64 a ∧ PI Q w0 wr p b tk dp s1 ∧ Pc.Og tk s1 [a] ∧ (s1.e = 0 → tk.length ≤ k + s1.used) ∧ Ps.rowGo tk f ts false k a s1 = Ps.row tk f ts false s ∧ FrT PTs W wr)
  case atStart => exact ⟨_, _, rfl, H1.out.1, HO.out, fun _ => Nat.le_add_right _ _, rfl, H1.out.2⟩
  case round =>
    obtain ⟨a, s1, rfl, hp, hog, hfu, hgo, hfr⟩ := hrel
    have HR := Lib.hid (And.intro hp (And.intro hog (And.intro hfu (And.intro hgo hfr))))
    have hok := pok_calls hp
    by_cases he : s1.e = 0
    · rw [decide_eq_true he] at hok
      have HOK := Lib.hid hok
      have HE := Lib.hid he
      clear hp hog hfu hgo hfr hok he
      by_cases hn : Ps.nextB tk ts s1.used = true
      · have HN := Lib.hid hn
        clear hn
        go_wp2_with fail
        refine (HOK.out).mono ?_
        rintro e W2 ⟨rfl, rfl⟩
        dsimp only
        go_wp2_with fail
        refine (H.out.2.2.2.1 _).mono ?_
        rintro e W3 ⟨v3, rfl, hr3, hb3⟩
        obtain ⟨a3, c3, rfl⟩ := hr3.form
        have hnx := pnext_calls (HR.out.1.past hb3) (Pc.inv_room HR.out.2.1.inv H.out.2.1) hr3 (fun k hk => hk.2) H.out.2.2.1
        rw [HN.out] at hnx
        have HNX := Lib.hid hnx
        have H3 := Lib.hid hb3
        clear hr3 hb3 hnx
        dsimp only
        go_wp2_with fail
        refine HNX.out.mono ?_
        rintro e W4 ⟨rfl, hb4⟩
        have H4 := Lib.hid (H3.out.trans (hb4.mono H3.out.size))
        have c0 := (HR.out.1.past H4.out).c0
        clear hb4
        dsimp only
        go_wp2_with fail
        refine (pleaf_calls (HR.out.1.past H4.out) (Pc.inv_room HR.out.2.1.inv H.out.2.1)).mono ?_
        rintro e W5 ⟨rfl, h5, g5⟩
        have hol := HR.out.2.1.leaf H.out.1 HE.out (Pc.next_kind HN.out)
        have H5 := Lib.hid (And.intro h5 (And.intro ((FrT.of H4.out).trans g5) hol))
        clear h5 g5 hol c0
        dsimp only
        go_wp2_with fail
        refine (H.out.2.2.2.2.2 Q _ _ (HI.out.2.2.frt (HR.out.2.2.2.2.trans H5.out.2.1)) H5.out.1 H5.out.2.2.1.inv).mono ?_
        rintro e W6 ⟨rfl, h6, g6⟩
        have hon := ((H5.out.2.2.1.then H.out.2.2.2.2.1).node (k := 10) (by decide) (fun _ => by simp))
        have H6 := Lib.hid (And.intro h6 (And.intro (H5.out.2.1.trans g6) hon))
        clear h6 g6 hon
        dsimp only
        go_wp2_with fail
        have hal : Below W6.heap.size W6 (W6.alloc (.cells (intCells [a, (Ps.leaf tk s1).1, (f (Ps.leaf tk s1).2).1]).toArray 3)) := (Below.refl _ _).alloc (Nat.le_refl _) _
        refine (pnode_calls (l := [a, (Ps.leaf tk s1).1, (f (Ps.leaf tk s1).2).1]) (H6.out.1.past hal) (Pc.inv_room (H5.out.2.2.1.then H.out.2.2.2.2.1).inv H.out.2.1) (rds_new W6 _ rfl) (fun k hk => by rw [hk, ← size_alloc1]; omega) (by simp) (HI.out.2.2.frt ((HR.out.2.2.2.2.trans H6.out.2.1).trans (FrT.of hal))) 10).mono ?_
        rintro e W7 ⟨rfl, h7, g7⟩
        have H7 := Lib.hid (And.intro h7 (H6.out.2.1.trans ((FrT.of hal).trans g7)))
        clear h7 g7 hal
        dsimp only
        go_wp2_with fail
        obtain ⟨m, hm⟩ : ∃ m, gk = m + 1 := ⟨gk - 1, by have q1 := HR.out.2.2.1 HE.out; have q2 := HR.out.2.1.inv.1; omega⟩
        go_roundg m
        case measure => omega
        case rel =>
          have hgo := HR.out.2.2.2.1
          rw [hm] at hgo
          unfold Ps.rowGo at hgo
          rw [if_pos ⟨HE.out, HN.out⟩, if_neg (by simp)] at hgo
          refine ⟨_, _, rfl, H7.out.1, H6.out.2.2, fun he7 => ?_, hgo, HR.out.2.2.2.2.trans H7.out.2⟩
          have q1 := HR.out.2.2.1 HE.out
          have q2 := Pc.leaf_used HR.out.2.1.inv
          have q3 : (f (Ps.leaf tk s1).2).2.e = 0 := by
            by_cases h0 : (f (Ps.leaf tk s1).2).2.e = 0
            · exact h0
            · rw [Pc.node_dead h0] at he7
              exact absurd he7 h0
          have q4 := Pc.SimL.used H.out.2.2.2.2.1 H5.out.2.2.1.inv H5.out.2.2.2 q3
          have q5 := Pc.node_used 10 [a, (Ps.leaf tk s1).1, (f (Ps.leaf tk s1).2).1] (f (Ps.leaf tk s1).2).2
          rw [q5]
          simp only [Pc.lift] at q4
          omega
      · rw [Bool.not_eq_true] at hn
        have HN := Lib.hid hn
        clear hn
        go_wp2_with fail
        refine (HOK.out).mono ?_
        rintro e W2 ⟨rfl, rfl⟩
        dsimp only
        go_wp2_with fail
        refine (H.out.2.2.2.1 _).mono ?_
        rintro e W3 ⟨v3, rfl, hr3, hb3⟩
        obtain ⟨a3, c3, rfl⟩ := hr3.form
        have hnx := pnext_calls (HR.out.1.past hb3) (Pc.inv_room HR.out.2.1.inv H.out.2.1) hr3 (fun k hk => hk.2) H.out.2.2.1
        rw [HN.out] at hnx
        have HNX := Lib.hid hnx
        have H3 := Lib.hid hb3
        clear hr3 hb3 hnx
        dsimp only
        go_wp2_with fail
        refine HNX.out.mono ?_
        rintro e W4 ⟨rfl, hb4⟩
        have H4 := Lib.hid (H3.out.trans (hb4.mono H3.out.size))
        clear hb4
        dsimp only
        go_wp2_with fail
        go_ret
        have hgo := HR.out.2.2.2.1
        have e1 : ∀ m, Ps.rowGo tk f ts false m a s1 = (a, s1) := by
          intro m
          cases m with
          | zero => rfl
          | succ m => unfold Ps.rowGo; rw [if_neg (by rw [HN.out]; simp)]
        rw [e1] at hgo
        rw [← hgo]
        exact ⟨rfl, HR.out.1.past H4.out, HR.out.2.2.2.2.trans (FrT.of H4.out)⟩
    · rw [decide_eq_false he] at hok
      have HOK := Lib.hid hok
      have HE := Lib.hid he
      clear hp hog hfu hgo hfr hok he
      go_wp2_with fail
      refine (HOK.out).mono ?_
      rintro e W2 ⟨rfl, rfl⟩
      dsimp only
      go_wp2_with fail
      go_ret
      have hgo := HR.out.2.2.2.1
      have e1 : ∀ m, Ps.rowGo tk f ts false m a s1 = (a, s1) := by
        intro m
        cases m with
        | zero => rfl
        | succ m => unfold Ps.rowGo; rw [if_neg (by simp [HE.out])]
      rw [e1] at hgo
      rw [← hgo]
      exact ⟨rfl, HR.out.1, HR.out.2.2.2.2⟩

set_option maxRecDepth 100000 in
set_option maxHeartbeats 2000000 in
theorem prow_once (ht : Pc.Toks tk) (hl : tk.length ≤ 1000000) {ts : List (List UInt8)} (hts : ts.length ≤ 1000) (hsg : ∀ W, Calls Tryz.prog 252 #[.int .i64 2] W (SignsSay ts W)) {n : Int} {f : Ps.F} {g : Pr.G} (hf : Pc.Sim tk f g)
    (hpart : Knows w0 p b tk dp 251 #[.pointer (some ⟨p, 0, none⟩), .int .i64 2, .int .i64 n] f) :
    Knows w0 p b tk dp 224 #[.pointer (some ⟨p, 0, none⟩), .int .i64 2, .int .i64 n] (Ps.row tk f ts true) := by
  intro Q W s hQ h hi
  have H := Lib.hid (And.intro ht (And.intro hl (And.intro hts (And.intro hsg (And.intro hf hpart)))))
  have HI := Lib.hid (And.intro h (And.intro hi hQ))
  have HO := Lib.hid ((Pc.Og.nil hi).then hf)
  clear ht hl hts hsg hf hpart h hi hQ
  go_enter Tryz.func224, Tryz.ntmps224
  go_wp2_with fail
  refine (H.out.2.2.2.2.2 Q W s HI.out.2.2 HI.out.1 HI.out.2.1).mono ?_
  rintro e W1 ⟨rfl, h1, h2⟩
  have H1 := Lib.hid (And.intro h1 (h2))
  clear h1 h2
  dsimp only
  go_wp2_with fail
  go_loopg [7] tk.length (fun k v7 wr => ∃ (a : Int) (s1 : Ps.St), v7 = .int .i64 a ∧ PI Q w0 wr p b tk dp s1 ∧ Pc.Og tk s1 [a] ∧ (s1.e = 0 → tk.length ≤ k + s1.used) ∧ Ps.rowGo tk f ts true k a s1 = Ps.row tk f ts true s ∧ FrT PTs W wr)
  case atStart => exact ⟨_, _, rfl, H1.out.1, HO.out, fun _ => Nat.le_add_right _ _, rfl, H1.out.2⟩
  case round =>
    obtain ⟨a, s1, rfl, hp, hog, hfu, hgo, hfr⟩ := hrel
    have HR := Lib.hid (And.intro hp (And.intro hog (And.intro hfu (And.intro hgo hfr))))
    have hok := pok_calls hp
    by_cases he : s1.e = 0
    · rw [decide_eq_true he] at hok
      have HOK := Lib.hid hok
      have HE := Lib.hid he
      clear hp hog hfu hgo hfr hok he
      by_cases hn : Ps.nextB tk ts s1.used = true
      · have HN := Lib.hid hn
        clear hn
        go_wp2_with fail
        refine (HOK.out).mono ?_
        rintro e W2 ⟨rfl, rfl⟩
        dsimp only
        go_wp2_with fail
        refine (H.out.2.2.2.1 _).mono ?_
        rintro e W3 ⟨v3, rfl, hr3, hb3⟩
        obtain ⟨a3, c3, rfl⟩ := hr3.form
        have hnx := pnext_calls (HR.out.1.past hb3) (Pc.inv_room HR.out.2.1.inv H.out.2.1) hr3 (fun k hk => hk.2) H.out.2.2.1
        rw [HN.out] at hnx
        have HNX := Lib.hid hnx
        have H3 := Lib.hid hb3
        clear hr3 hb3 hnx
        dsimp only
        go_wp2_with fail
        refine HNX.out.mono ?_
        rintro e W4 ⟨rfl, hb4⟩
        have H4 := Lib.hid (H3.out.trans (hb4.mono H3.out.size))
        have c0 := (HR.out.1.past H4.out).c0
        clear hb4
        dsimp only
        go_wp2_with fail
        refine (pleaf_calls (HR.out.1.past H4.out) (Pc.inv_room HR.out.2.1.inv H.out.2.1)).mono ?_
        rintro e W5 ⟨rfl, h5, g5⟩
        have hol := HR.out.2.1.leaf H.out.1 HE.out (Pc.next_kind HN.out)
        have H5 := Lib.hid (And.intro h5 (And.intro ((FrT.of H4.out).trans g5) hol))
        clear h5 g5 hol c0
        dsimp only
        go_wp2_with fail
        refine (H.out.2.2.2.2.2 Q _ _ (HI.out.2.2.frt (HR.out.2.2.2.2.trans H5.out.2.1)) H5.out.1 H5.out.2.2.1.inv).mono ?_
        rintro e W6 ⟨rfl, h6, g6⟩
        have hon := ((H5.out.2.2.1.then H.out.2.2.2.2.1).node (k := 10) (by decide) (fun _ => by simp))
        have H6 := Lib.hid (And.intro h6 (And.intro (H5.out.2.1.trans g6) hon))
        clear h6 g6 hon
        dsimp only
        go_wp2_with fail
        have hal : Below W6.heap.size W6 (W6.alloc (.cells (intCells [a, (Ps.leaf tk s1).1, (f (Ps.leaf tk s1).2).1]).toArray 3)) := (Below.refl _ _).alloc (Nat.le_refl _) _
        refine (pnode_calls (l := [a, (Ps.leaf tk s1).1, (f (Ps.leaf tk s1).2).1]) (H6.out.1.past hal) (Pc.inv_room (H5.out.2.2.1.then H.out.2.2.2.2.1).inv H.out.2.1) (rds_new W6 _ rfl) (fun k hk => by rw [hk, ← size_alloc1]; omega) (by simp) (HI.out.2.2.frt ((HR.out.2.2.2.2.trans H6.out.2.1).trans (FrT.of hal))) 10).mono ?_
        rintro e W7 ⟨rfl, h7, g7⟩
        have H7 := Lib.hid (And.intro h7 (H6.out.2.1.trans ((FrT.of hal).trans g7)))
        clear h7 g7 hal
        dsimp only
        go_wp2_with fail
        go_ret
        obtain ⟨m, hm⟩ : ∃ m, gk = m + 1 := ⟨gk - 1, by have q1 := HR.out.2.2.1 HE.out; have q2 := HR.out.2.1.inv.1; omega⟩
        have hgo := HR.out.2.2.2.1
        rw [hm] at hgo
        unfold Ps.rowGo at hgo
        rw [if_pos ⟨HE.out, HN.out⟩, if_pos rfl] at hgo
        rw [← hgo]
        exact ⟨rfl, H7.out.1, HR.out.2.2.2.2.trans H7.out.2⟩
      · rw [Bool.not_eq_true] at hn
        have HN := Lib.hid hn
        clear hn
        go_wp2_with fail
        refine (HOK.out).mono ?_
        rintro e W2 ⟨rfl, rfl⟩
        dsimp only
        go_wp2_with fail
        refine (H.out.2.2.2.1 _).mono ?_
        rintro e W3 ⟨v3, rfl, hr3, hb3⟩
        obtain ⟨a3, c3, rfl⟩ := hr3.form
        have hnx := pnext_calls (HR.out.1.past hb3) (Pc.inv_room HR.out.2.1.inv H.out.2.1) hr3 (fun k hk => hk.2) H.out.2.2.1
        rw [HN.out] at hnx
        have HNX := Lib.hid hnx
        have H3 := Lib.hid hb3
        clear hr3 hb3 hnx
        dsimp only
        go_wp2_with fail
        refine HNX.out.mono ?_
        rintro e W4 ⟨rfl, hb4⟩
        have H4 := Lib.hid (H3.out.trans (hb4.mono H3.out.size))
        clear hb4
        dsimp only
        go_wp2_with fail
        go_ret
        have hgo := HR.out.2.2.2.1
        have e1 : ∀ m, Ps.rowGo tk f ts true m a s1 = (a, s1) := by
          intro m
          cases m with
          | zero => rfl
          | succ m => unfold Ps.rowGo; rw [if_neg (by rw [HN.out]; simp)]
        rw [e1] at hgo
        rw [← hgo]
        exact ⟨rfl, HR.out.1.past H4.out, HR.out.2.2.2.2.trans (FrT.of H4.out)⟩
    · rw [decide_eq_false he] at hok
      have HOK := Lib.hid hok
      have HE := Lib.hid he
      clear hp hog hfu hgo hfr hok he
      go_wp2_with fail
      refine (HOK.out).mono ?_
      rintro e W2 ⟨rfl, rfl⟩
      dsimp only
      go_wp2_with fail
      go_ret
      have hgo := HR.out.2.2.2.1
      have e1 : ∀ m, Ps.rowGo tk f ts true m a s1 = (a, s1) := by
        intro m
        cases m with
        | zero => rfl
        | succ m => unfold Ps.rowGo; rw [if_neg (by simp [HE.out])]
      rw [e1] at hgo
      rw [← hgo]
      exact ⟨rfl, HR.out.1, HR.out.2.2.2.2⟩

/-- A part that is a row of the next level. -/
theorem ppart_row {lv : Int} (h1 : (lv == 1) = false) (h4 : (lv == 4) = false) (hb : 0 ≤ lv ∧ lv ≤ 3) {n : Int} {f : Ps.F} (hr : Knows w0 p b tk dp 224 #[.pointer (some ⟨p, 0, none⟩), .int .i64 (lv + 1), .int .i64 n] f) :
    Knows w0 p b tk dp 251 #[.pointer (some ⟨p, 0, none⟩), .int .i64 lv, .int .i64 n] f := by
  intro Q W s hQ h hi
  obtain ⟨b1, b2⟩ := hb
  have HC := Lib.hid (hr Q W s hQ h hi)
  clear h hi hr hQ
  go_enter Tryz.func251, Tryz.ntmps251
  go_wp2_with fail
  refine (HC.out).mono ?_
  rintro e W1 ⟨rfl, h1, h2⟩
  have H1 := Lib.hid (And.intro h1 (h2))
  clear h1 h2
  dsimp only
  go_wp2_with fail
  go_ret
  exact ⟨rfl, H1.out.1, H1.out.2⟩
theorem ppart_neg {n : Int} {f : Ps.F} (hr : Knows w0 p b tk dp 261 #[.pointer (some ⟨p, 0, none⟩), .int .i64 n] f) :
    Knows w0 p b tk dp 251 #[.pointer (some ⟨p, 0, none⟩), .int .i64 1, .int .i64 n] f := by
  intro Q W s hQ h hi
  have HC := Lib.hid (hr Q W s hQ h hi)
  clear h hi hr hQ
  go_enter Tryz.func251, Tryz.ntmps251
  go_wp2_with fail
  refine (HC.out).mono ?_
  rintro e W1 ⟨rfl, h1, h2⟩
  have H1 := Lib.hid (And.intro h1 (h2))
  clear h1 h2
  dsimp only
  go_wp2_with fail
  go_ret
  exact ⟨rfl, H1.out.1, H1.out.2⟩
theorem ppart_fac {n : Int} {f : Ps.F} (hr : Knows w0 p b tk dp 262 #[.pointer (some ⟨p, 0, none⟩), .int .i64 n] f) :
    Knows w0 p b tk dp 251 #[.pointer (some ⟨p, 0, none⟩), .int .i64 4, .int .i64 n] f := by
  intro Q W s hQ h hi
  have HC := Lib.hid (hr Q W s hQ h hi)
  clear h hi hr hQ
  go_enter Tryz.func251, Tryz.ntmps251
  go_wp2_with fail
  refine (HC.out).mono ?_
  rintro e W1 ⟨rfl, h1, h2⟩
  have H1 := Lib.hid (And.intro h1 (h2))
  clear h1 h2
  dsimp only
  go_wp2_with fail
  go_ret
  exact ⟨rfl, H1.out.1, H1.out.2⟩
end
end Go.Proofs.YtlejecaanllghaaGreatDoor
/- parse: unary, factor, negation, formula: the walks. -/
namespace Go.Proofs.YtlejecaanllghaaGreatDoor
open Go.RowKit

section
variable {w0 : World} {p b : Nat} {tk : List Tr.Tk} {dp : Int}
set_option maxRecDepth 100000 in
set_option maxHeartbeats 2000000 in
theorem punary_fac (ht : Pc.Toks tk) (hl : tk.length ≤ 1000000) {n : Int} {d : Nat} (hn0 : 0 ≤ n) (hn1 : n ≤ 300) (hd : n + 1 + d = dp + 1) {f : Ps.F} {g : Pr.G} (hf : d ≠ 0 → Pc.Sim tk f g) (hk : d ≠ 0 → Knows w0 p b tk dp 262 #[.pointer (some ⟨p, 0, none⟩), .int .i64 (n + 1)] f)
    {Q : Nat → Prop} {W : World} {s : Ps.St} (hQ : Up Q W) (h : PI Q w0 W p b tk dp s) (hi : Pc.Inv tk s) (he : s.e = 0) (h5 : (Ps.peek tk s.used).kind ≠ 5) :
    Calls Tryz.prog 265 #[.pointer (some ⟨p, 0, none⟩), .int .i64 n, .func (.func 262) #[.pointer (some ⟨p, 0, none⟩)] #[]] W (Does Q w0 p b tk dp (Ps.unary tk d f s) W) := by
  have HI := Lib.hid (And.intro h (And.intro hi hQ))
  have HL := Lib.hid hl
  have hlf := (Pc.Og.nil hi).leaf ht he h5
  have hde := hlf.2
  have c0 := h.c0
  have HF := Lib.hid (And.intro hd (And.intro hf (And.intro hk hlf)))
  have hun : Ps.unary tk d f s = if (Ps.deep tk d (Ps.leaf tk s).2).e = 0 then Ps.node 11 [(Ps.leaf tk s).1, (f (Ps.deep tk d (Ps.leaf tk s).2)).1] (f (Ps.deep tk d (Ps.leaf tk s).2)).2 else (0, Ps.deep tk d (Ps.leaf tk s).2) := rfl
  have hw1 := Pc.inv_room hlf.1.inv hl
  have HLF := Lib.hid (pleaf_calls h (Pc.inv_room hi hl))
  rw [hun]
  have HDP := Lib.hid (fun (V : World) hV => pdeep_calls (Q := Q) (W := V) (p := p) (b := b) (w0 := w0) hV hw1 hd)
  by_cases hz : d = 0
  · have hds : (Ps.deep tk d (Ps.leaf tk s).2).e ≠ 0 := by
      unfold Ps.deep Ps.fail
      rw [if_pos hz, if_pos hde]
      show (23 : Int) ≠ 0
      decide
    have hdb : decide ((Ps.deep tk d (Ps.leaf tk s).2).e ≠ 0) = true := decide_eq_true hds
    rw [if_neg hds]
    rw [hdb] at HDP
    clear hQ h hi hl hlf hde hun hw1 hd hf hk ht he h5 hz hds hdb
    go_enter Tryz.func265, Tryz.ntmps265
    go_wp2_with fail
    refine (HLF.out).mono ?_
    rintro e W1 ⟨rfl, h1, g1⟩
    have H1 := Lib.hid (And.intro h1 (g1))
    clear h1 g1 c0
    dsimp only
    go_wp2_with fail
    refine (HDP.out _ H1.out.1).mono ?_
    rintro e W2 ⟨rfl, h2, g2⟩
    have H2 := Lib.hid (And.intro h2 (g2))
    clear h2 g2
    dsimp only
    go_wp2_with fail
    go_ret
    exact ⟨rfl, H2.out.1, H1.out.2.trans H2.out.2⟩
  · have hds : Ps.deep tk d (Ps.leaf tk s).2 = (Ps.leaf tk s).2 := by unfold Ps.deep; rw [if_neg hz]
    have hdb : decide ((Ps.leaf tk s).2.e ≠ 0) = false := decide_eq_false (by simp [hde])
    rw [hds] at HDP ⊢
    rw [hdb] at HDP
    rw [if_pos hde]
    have HZ := Lib.hid hz
    clear hQ h hi hl hlf hde hun hw1 hd hf hk ht he h5 hz hds hdb
    go_enter Tryz.func265, Tryz.ntmps265
    go_wp2_with fail
    refine (HLF.out).mono ?_
    rintro e W1 ⟨rfl, h1, g1⟩
    have H1 := Lib.hid (And.intro h1 (g1))
    clear h1 g1 c0
    dsimp only
    go_wp2_with fail
    refine (HDP.out _ H1.out.1).mono ?_
    rintro e W2 ⟨rfl, h2, g2⟩
    have H2 := Lib.hid (And.intro h2 (g2))
    clear h2 g2
    dsimp only
    go_wp2_with fail
    refine (HF.out.2.2.1 HZ.out Q _ _ (HI.out.2.2.frt (H1.out.2.trans H2.out.2)) H2.out.1 HF.out.2.2.2.1.inv).mono ?_
    rintro e W3 ⟨rfl, h3, g3⟩
    have H3 := Lib.hid (And.intro h3 g3)
    clear h3 g3
    dsimp only
    go_wp2_with fail
    have hal : Below W3.heap.size W3 (W3.alloc (.cells (intCells [(Ps.leaf tk s).1, (f (Ps.leaf tk s).2).1]).toArray 3)) := (Below.refl _ _).alloc (Nat.le_refl _) _
    refine (pnode_calls (l := [(Ps.leaf tk s).1, (f (Ps.leaf tk s).2).1]) (H3.out.1.past hal) (Pc.inv_room (HF.out.2.2.2.1.then (HF.out.2.1 HZ.out)).inv HL.out) (rds_new W3 _ rfl) (fun k hk => by rw [hk, ← size_alloc1]; omega) (by simp) (HI.out.2.2.frt (((H1.out.2.trans H2.out.2).trans H3.out.2).trans (FrT.of hal))) 11).mono ?_
    rintro e W4 ⟨rfl, h4, g4⟩
    have H4 := Lib.hid (And.intro h4 (((H1.out.2.trans H2.out.2).trans H3.out.2).trans ((FrT.of hal).trans g4)))
    clear h4 g4 hal
    dsimp only
    go_wp2_with fail
    go_ret
    exact ⟨rfl, H4.out.1, H4.out.2⟩
set_option maxRecDepth 100000 in
set_option maxHeartbeats 2000000 in
theorem punary_neg (ht : Pc.Toks tk) (hl : tk.length ≤ 1000000) {n : Int} {d : Nat} (hn0 : 0 ≤ n) (hn1 : n ≤ 300) (hd : n + 1 + d = dp + 1) {f : Ps.F} {g : Pr.G} (hf : d ≠ 0 → Pc.Sim tk f g) (hk : d ≠ 0 → Knows w0 p b tk dp 261 #[.pointer (some ⟨p, 0, none⟩), .int .i64 (n + 1)] f)
    {Q : Nat → Prop} {W : World} {s : Ps.St} (hQ : Up Q W) (h : PI Q w0 W p b tk dp s) (hi : Pc.Inv tk s) (he : s.e = 0) (h5 : (Ps.peek tk s.used).kind ≠ 5) :
    Calls Tryz.prog 265 #[.pointer (some ⟨p, 0, none⟩), .int .i64 n, .func (.func 261) #[.pointer (some ⟨p, 0, none⟩)] #[]] W (Does Q w0 p b tk dp (Ps.unary tk d f s) W) := by
  have HI := Lib.hid (And.intro h (And.intro hi hQ))
  have HL := Lib.hid hl
  have hlf := (Pc.Og.nil hi).leaf ht he h5
  have hde := hlf.2
  have c0 := h.c0
  have HF := Lib.hid (And.intro hd (And.intro hf (And.intro hk hlf)))
  have hun : Ps.unary tk d f s = if (Ps.deep tk d (Ps.leaf tk s).2).e = 0 then Ps.node 11 [(Ps.leaf tk s).1, (f (Ps.deep tk d (Ps.leaf tk s).2)).1] (f (Ps.deep tk d (Ps.leaf tk s).2)).2 else (0, Ps.deep tk d (Ps.leaf tk s).2) := rfl
  have hw1 := Pc.inv_room hlf.1.inv hl
  have HLF := Lib.hid (pleaf_calls h (Pc.inv_room hi hl))
  rw [hun]
  have HDP := Lib.hid (fun (V : World) hV => pdeep_calls (Q := Q) (W := V) (p := p) (b := b) (w0 := w0) hV hw1 hd)
  by_cases hz : d = 0
  · have hds : (Ps.deep tk d (Ps.leaf tk s).2).e ≠ 0 := by
      unfold Ps.deep Ps.fail
      rw [if_pos hz, if_pos hde]
      show (23 : Int) ≠ 0
      decide
    have hdb : decide ((Ps.deep tk d (Ps.leaf tk s).2).e ≠ 0) = true := decide_eq_true hds
    rw [if_neg hds]
    rw [hdb] at HDP
    clear hQ h hi hl hlf hde hun hw1 hd hf hk ht he h5 hz hds hdb
    go_enter Tryz.func265, Tryz.ntmps265
    go_wp2_with fail
    refine (HLF.out).mono ?_
    rintro e W1 ⟨rfl, h1, g1⟩
    have H1 := Lib.hid (And.intro h1 (g1))
    clear h1 g1 c0
    dsimp only
    go_wp2_with fail
    refine (HDP.out _ H1.out.1).mono ?_
    rintro e W2 ⟨rfl, h2, g2⟩
    have H2 := Lib.hid (And.intro h2 (g2))
    clear h2 g2
    dsimp only
    go_wp2_with fail
    go_ret
    exact ⟨rfl, H2.out.1, H1.out.2.trans H2.out.2⟩
  · have hds : Ps.deep tk d (Ps.leaf tk s).2 = (Ps.leaf tk s).2 := by unfold Ps.deep; rw [if_neg hz]
    have hdb : decide ((Ps.leaf tk s).2.e ≠ 0) = false := decide_eq_false (by simp [hde])
    rw [hds] at HDP ⊢
    rw [hdb] at HDP
    rw [if_pos hde]
    have HZ := Lib.hid hz
    clear hQ h hi hl hlf hde hun hw1 hd hf hk ht he h5 hz hds hdb
    go_enter Tryz.func265, Tryz.ntmps265
    go_wp2_with fail
    refine (HLF.out).mono ?_
    rintro e W1 ⟨rfl, h1, g1⟩
    have H1 := Lib.hid (And.intro h1 (g1))
    clear h1 g1 c0
    dsimp only
    go_wp2_with fail
    refine (HDP.out _ H1.out.1).mono ?_
    rintro e W2 ⟨rfl, h2, g2⟩
    have H2 := Lib.hid (And.intro h2 (g2))
    clear h2 g2
    dsimp only
    go_wp2_with fail
    refine (HF.out.2.2.1 HZ.out Q _ _ (HI.out.2.2.frt (H1.out.2.trans H2.out.2)) H2.out.1 HF.out.2.2.2.1.inv).mono ?_
    rintro e W3 ⟨rfl, h3, g3⟩
    have H3 := Lib.hid (And.intro h3 g3)
    clear h3 g3
    dsimp only
    go_wp2_with fail
    have hal : Below W3.heap.size W3 (W3.alloc (.cells (intCells [(Ps.leaf tk s).1, (f (Ps.leaf tk s).2).1]).toArray 3)) := (Below.refl _ _).alloc (Nat.le_refl _) _
    refine (pnode_calls (l := [(Ps.leaf tk s).1, (f (Ps.leaf tk s).2).1]) (H3.out.1.past hal) (Pc.inv_room (HF.out.2.2.2.1.then (HF.out.2.1 HZ.out)).inv HL.out) (rds_new W3 _ rfl) (fun k hk => by rw [hk, ← size_alloc1]; omega) (by simp) (HI.out.2.2.frt (((H1.out.2.trans H2.out.2).trans H3.out.2).trans (FrT.of hal))) 11).mono ?_
    rintro e W4 ⟨rfl, h4, g4⟩
    have H4 := Lib.hid (And.intro h4 (((H1.out.2.trans H2.out.2).trans H3.out.2).trans ((FrT.of hal).trans g4)))
    clear h4 g4 hal
    dsimp only
    go_wp2_with fail
    go_ret
    exact ⟨rfl, H4.out.1, H4.out.2⟩

set_option maxRecDepth 100000 in
set_option maxHeartbeats 2000000 in
theorem pfactor_calls (ht : Pc.Toks tk) (hl : tk.length ≤ 1000000) {n : Int} {d : Nat} (hn0 : 0 ≤ n) (hn1 : n ≤ 300) (hd : n + 1 + d = dp + 1) {lo : Ps.Lv} {glo : Pr.Lv} (hs : Pc.SimV tk d lo glo) (hk : d ≠ 0 → Knows w0 p b tk dp 262 #[.pointer (some ⟨p, 0, none⟩), .int .i64 (n + 1)] lo.fa)
    (ha : Knows w0 p b tk dp 266 #[.pointer (some ⟨p, 0, none⟩), .int .i64 n] (Ps.atom tk lo.ex)) :
    Knows w0 p b tk dp 262 #[.pointer (some ⟨p, 0, none⟩), .int .i64 n] (Ps.factor tk d lo) := by
  intro Q W s hQ h hi
  have hok := pok_calls h
  have HU := Lib.hid (fun (V : World) hq hV he h5 => punary_fac (Q := Q) (W := V) (s := s) ht hl hn0 hn1 hd (fun z => (hs.rest z).2.2) hk hq hV hi he h5)
  have HA := Lib.hid (fun (V : World) hq hV => ha Q V s hq hV hi)
  have HQ := Lib.hid hQ
  have HNX := Lib.hid (fun (V : World) (hV : PI Q w0 V p b tk dp s) {P v} hv hP => pnext_calls (ts := [[45]]) (P := P) (v := v) hV (Pc.inv_room hi hl) hv hP (by simp))
  have HP := Lib.hid h
  unfold Ps.factor
  by_cases he : s.e = 0
  · rw [decide_eq_true he] at hok
    have HOK := Lib.hid hok
    have hal : Below W.heap.size W (W.alloc (.cells (strCells [[45]]).toArray 9)) := (Below.refl _ _).alloc (Nat.le_refl _) _
    have hnx := HNX.out _ (h.past hal) (rds_newS W [[45]] rfl) (fun k hk => by rw [hk, ← size_alloc1]; omega)
    by_cases hn : Ps.nextB tk [[45]] s.used = true
    · rw [if_pos ⟨he, hn⟩]
      rw [hn] at hnx
      have HN := Lib.hid hnx
      have HE := Lib.hid (And.intro he (And.intro (Pc.next_kind hn) hal))
      clear hQ h hi hl hs hk ha ht hd hok he hn hnx hal HNX
      go_enter Tryz.func262, Tryz.ntmps262
      go_wp2_with fail
      refine (HOK.out).mono ?_
      rintro e W1 ⟨rfl, rfl⟩
      dsimp only
      go_wp2_with fail
      refine HN.out.mono ?_
      rintro e W2 ⟨rfl, hb2⟩
      have H2 := Lib.hid (HE.out.2.2.trans (hb2.mono HE.out.2.2.size))
      clear hb2
      dsimp only
      go_wp2_with fail
      refine (HU.out _ (HQ.out.size H2.out.size) (HP.out.past H2.out) HE.out.1 HE.out.2.1).mono ?_
      rintro e W3 ⟨rfl, h3, g3⟩
      have H3 := Lib.hid (And.intro h3 ((FrT.of H2.out).trans g3))
      clear h3 g3
      dsimp only
      go_wp2_with fail
      go_ret
      exact ⟨rfl, H3.out.1, H3.out.2⟩
    · rw [if_neg (by simp [hn])]
      rw [Bool.not_eq_true] at hn
      rw [hn] at hnx
      have HN := Lib.hid hnx
      have HE := Lib.hid hal
      clear hQ h hi hl hs hk ha ht hd hok he hn hnx hal HNX HU
      go_enter Tryz.func262, Tryz.ntmps262
      go_wp2_with fail
      refine (HOK.out).mono ?_
      rintro e W1 ⟨rfl, rfl⟩
      dsimp only
      go_wp2_with fail
      refine HN.out.mono ?_
      rintro e W2 ⟨rfl, hb2⟩
      have H2 := Lib.hid (HE.out.trans (hb2.mono HE.out.size))
      clear hb2
      dsimp only
      go_wp2_with fail
      refine (HA.out _ (HQ.out.size H2.out.size) (HP.out.past H2.out)).mono ?_
      rintro e W3 ⟨rfl, h3, g3⟩
      have H3 := Lib.hid (And.intro h3 ((FrT.of H2.out).trans g3))
      clear h3 g3
      dsimp only
      go_wp2_with fail
      go_ret
      exact ⟨rfl, H3.out.1, H3.out.2⟩
  · rw [decide_eq_false he] at hok
    have HOK := Lib.hid hok
    rw [if_neg (by simp [he])]
    clear hQ h hi hl hs hk ha ht hd hok he HNX HU
    go_enter Tryz.func262, Tryz.ntmps262
    go_wp2_with fail
    refine (HOK.out).mono ?_
    rintro e W1 ⟨rfl, rfl⟩
    dsimp only
    go_wp2_with fail
    refine (HA.out _ HQ.out HP.out).mono ?_
    rintro e W3 ⟨rfl, h3, g3⟩
    have H3 := Lib.hid (And.intro h3 g3)
    clear h3 g3
    dsimp only
    go_wp2_with fail
    go_ret
    exact ⟨rfl, H3.out.1, H3.out.2⟩

set_option maxRecDepth 100000 in
set_option maxHeartbeats 2000000 in
theorem pnegation_calls (ht : Pc.Toks tk) (hl : tk.length ≤ 1000000) {n : Int} {d : Nat} (hn0 : 0 ≤ n) (hn1 : n ≤ 300) (hd : n + 1 + d = dp + 1) {lo : Ps.Lv} {glo : Pr.Lv} (hs : Pc.SimV tk d lo glo) (hk : d ≠ 0 → Knows w0 p b tk dp 261 #[.pointer (some ⟨p, 0, none⟩), .int .i64 (n + 1)] lo.ne)
    (ha : Knows w0 p b tk dp 224 #[.pointer (some ⟨p, 0, none⟩), .int .i64 2, .int .i64 n] (Ps.comparison tk d lo)) :
    Knows w0 p b tk dp 261 #[.pointer (some ⟨p, 0, none⟩), .int .i64 n] (Ps.negation tk d lo) := by
  intro Q W s hQ h hi
  have hok := pok_calls h
  have HU := Lib.hid (fun (V : World) hq hV he h5 => punary_neg (Q := Q) (W := V) (s := s) ht hl hn0 hn1 hd (fun z => (hs.rest z).2.1) hk hq hV hi he h5)
  have HA := Lib.hid (fun (V : World) hq hV => ha Q V s hq hV hi)
  have HQ := Lib.hid hQ
  have HNX := Lib.hid (fun (V : World) (hV : PI Q w0 V p b tk dp s) {P v} hv hP => pnext_calls (ts := [Ps.tNot]) (P := P) (v := v) hV (Pc.inv_room hi hl) hv hP (by simp))
  have HP := Lib.hid h
  unfold Ps.negation
  by_cases he : s.e = 0
  · rw [decide_eq_true he] at hok
    have HOK := Lib.hid hok
    have hal : Below W.heap.size W (W.alloc (.cells (strCells [Ps.tNot]).toArray 9)) := (Below.refl _ _).alloc (Nat.le_refl _) _
    have hnx := HNX.out _ (h.past hal) (rds_newS W [Ps.tNot] rfl) (fun k hk => by rw [hk, ← size_alloc1]; omega)
    by_cases hn : Ps.nextB tk [Ps.tNot] s.used = true
    · rw [if_pos ⟨he, hn⟩]
      rw [hn] at hnx
      have HN := Lib.hid hnx
      have HE := Lib.hid (And.intro he (And.intro (Pc.next_kind hn) hal))
      clear hQ h hi hl hs hk ha ht hd hok he hn hnx hal HNX
      go_enter Tryz.func261, Tryz.ntmps261
      go_wp2_with fail
      refine (HOK.out).mono ?_
      rintro e W1 ⟨rfl, rfl⟩
      dsimp only
      go_wp2_with fail
      refine HN.out.mono ?_
      rintro e W2 ⟨rfl, hb2⟩
      have H2 := Lib.hid (HE.out.2.2.trans (hb2.mono HE.out.2.2.size))
      clear hb2
      dsimp only
      go_wp2_with fail
      refine (HU.out _ (HQ.out.size H2.out.size) (HP.out.past H2.out) HE.out.1 HE.out.2.1).mono ?_
      rintro e W3 ⟨rfl, h3, g3⟩
      have H3 := Lib.hid (And.intro h3 ((FrT.of H2.out).trans g3))
      clear h3 g3
      dsimp only
      go_wp2_with fail
      go_ret
      exact ⟨rfl, H3.out.1, H3.out.2⟩
    · rw [if_neg (by simp [hn])]
      rw [Bool.not_eq_true] at hn
      rw [hn] at hnx
      have HN := Lib.hid hnx
      have HE := Lib.hid hal
      clear hQ h hi hl hs hk ha ht hd hok he hn hnx hal HNX HU
      go_enter Tryz.func261, Tryz.ntmps261
      go_wp2_with fail
      refine (HOK.out).mono ?_
      rintro e W1 ⟨rfl, rfl⟩
      dsimp only
      go_wp2_with fail
      refine HN.out.mono ?_
      rintro e W2 ⟨rfl, hb2⟩
      have H2 := Lib.hid (HE.out.trans (hb2.mono HE.out.size))
      clear hb2
      dsimp only
      go_wp2_with fail
      refine (HA.out _ (HQ.out.size H2.out.size) (HP.out.past H2.out)).mono ?_
      rintro e W3 ⟨rfl, h3, g3⟩
      have H3 := Lib.hid (And.intro h3 ((FrT.of H2.out).trans g3))
      clear h3 g3
      dsimp only
      go_wp2_with fail
      go_ret
      exact ⟨rfl, H3.out.1, H3.out.2⟩
  · rw [decide_eq_false he] at hok
    have HOK := Lib.hid hok
    rw [if_neg (by simp [he])]
    clear hQ h hi hl hs hk ha ht hd hok he HNX HU
    go_enter Tryz.func261, Tryz.ntmps261
    go_wp2_with fail
    refine (HOK.out).mono ?_
    rintro e W1 ⟨rfl, rfl⟩
    dsimp only
    go_wp2_with fail
    refine (HA.out _ HQ.out HP.out).mono ?_
    rintro e W3 ⟨rfl, h3, g3⟩
    have H3 := Lib.hid (And.intro h3 g3)
    clear h3 g3
    dsimp only
    go_wp2_with fail
    go_ret
    exact ⟨rfl, H3.out.1, H3.out.2⟩

set_option maxRecDepth 100000 in
set_option maxHeartbeats 2000000 in
theorem pformula_calls (ht : Pc.Toks tk) (hl : tk.length ≤ 1000000) {n : Int} {d : Nat} (hn0 : 0 ≤ n) (hn1 : n ≤ 300) (hd : n + 1 + d = dp + 1) {lo : Ps.Lv} {glo : Pr.Lv} (hs : Pc.SimV tk d lo glo) (hk : d ≠ 0 → Knows w0 p b tk dp 183 #[.pointer (some ⟨p, 0, none⟩), .int .i64 (n + 1)] lo.fo)
    (ha : Knows w0 p b tk dp 224 #[.pointer (some ⟨p, 0, none⟩), .int .i64 0, .int .i64 n] (Ps.disjunction tk d lo)) :
    Knows w0 p b tk dp 183 #[.pointer (some ⟨p, 0, none⟩), .int .i64 n] (Ps.formula tk d lo) := by
  intro Q W s hQ h hi
  have hsj : Pc.Sim tk (Ps.disjunction tk d lo) (Pr.or tk d glo) := Pc.sim_row ht (Pc.sim_row ht (Pc.sim_negation ht hs) Ps.sAnd) Ps.sOr
  have hog := (Pc.Og.nil hi).then hsj
  have HA := Lib.hid (ha Q W s hQ h hi)
  have HQ := Lib.hid hQ
  have HL := Lib.hid (And.intro ht (And.intro hl (And.intro hd (And.intro hs hk))))
  have hfo : Ps.formula tk d lo s = if (Ps.disjunction tk d lo s).2.e = 0 ∧ Ps.nextB tk [[61, 62]] (Ps.disjunction tk d lo s).2.used = true then (if (Ps.deep tk d (Ps.leaf tk (Ps.disjunction tk d lo s).2).2).e = 0 then Ps.node 10 [(Ps.disjunction tk d lo s).1, (Ps.leaf tk (Ps.disjunction tk d lo s).2).1, (lo.fo (Ps.deep tk d (Ps.leaf tk (Ps.disjunction tk d lo s).2).2)).1] (lo.fo (Ps.deep tk d (Ps.leaf tk (Ps.disjunction tk d lo s).2).2)).2 else (0, Ps.deep tk d (Ps.leaf tk (Ps.disjunction tk d lo s).2).2)) else Ps.disjunction tk d lo s := rfl
  rw [hfo]
  obtain ⟨r, hr⟩ : ∃ r, Ps.disjunction tk d lo s = r := ⟨_, rfl⟩
  obtain ⟨a, s1⟩ := r
  rw [hr] at HA hog ⊢
  simp only [List.nil_append] at hog
  have HO := Lib.hid hog
  clear hQ h hi hl hs hk ha ht hd hsj hfo hr hog
  dsimp only at HA HO ⊢
  by_cases he : s1.e = 0
  · by_cases hn : Ps.nextB tk [[61, 62]] s1.used = true
    · rw [if_pos ⟨he, hn⟩]
      have hlf := HO.out.leaf HL.out.1 he (Pc.next_kind hn)
      have hde := hlf.2
      have HE := Lib.hid (And.intro he (And.intro hn hlf))
      have hw1 := Pc.inv_room hlf.1.inv HL.out.2.1
      have HDP := Lib.hid (fun (V : World) hV => pdeep_calls (Q := Q) (W := V) (p := p) (b := b) (w0 := w0) hV hw1 HL.out.2.2.1)
      clear he hn hlf hw1
      by_cases hz : d = 0
      · have hds : (Ps.deep tk d (Ps.leaf tk s1).2).e ≠ 0 := by
          unfold Ps.deep Ps.fail
          rw [if_pos hz, if_pos hde]
          show (23 : Int) ≠ 0
          decide
        have hdb : decide ((Ps.deep tk d (Ps.leaf tk s1).2).e ≠ 0) = true := decide_eq_true hds
        rw [if_neg hds]
        rw [hdb] at HDP
        clear hde hz hds hdb
        go_enter Tryz.func183, Tryz.ntmps183
        go_wp2_with fail
        refine (HA.out).mono ?_
        rintro e W1 ⟨rfl, h1, g1⟩
        have H1 := Lib.hid (And.intro h1 (g1))
        clear h1 g1
        have hok := pok_calls H1.out.1
        rw [decide_eq_true HE.out.1] at hok
        have HOK := Lib.hid hok
        clear hok
        dsimp only
        go_wp2_with fail
        refine (HOK.out).mono ?_
        rintro e W2 ⟨rfl, rfl⟩
        dsimp only
        go_wp2_with fail
        have hal : Below W1.heap.size W1 (W1.alloc (.cells (strCells [[61, 62]]).toArray 9)) := (Below.refl _ _).alloc (Nat.le_refl _) _
        have hnx := pnext_calls (ts := [[61, 62]]) (H1.out.1.past hal) (Pc.inv_room HO.out.inv HL.out.2.1) (rds_newS W1 [[61, 62]] rfl) (fun k hk => by rw [hk, ← size_alloc1]; omega) (by simp)
        rw [HE.out.2.1] at hnx
        refine hnx.mono ?_
        rintro e W3 ⟨rfl, hb3⟩
        have H3 := Lib.hid (hal.trans (hb3.mono hal.size))
        clear hb3 hnx hal
        have c0 := (H1.out.1.past H3.out).c0
        dsimp only
        go_wp2_with fail
        refine (pleaf_calls (H1.out.1.past H3.out) (Pc.inv_room HO.out.inv HL.out.2.1)).mono ?_
        rintro e W4 ⟨rfl, h4, g4⟩
        have H4 := Lib.hid (And.intro h4 (H1.out.2.trans ((FrT.of H3.out).trans g4)))
        clear h4 g4 c0
        dsimp only
        go_wp2_with fail
        refine (HDP.out _ H4.out.1).mono ?_
        rintro e W5 ⟨rfl, h5, g5⟩
        have H5 := Lib.hid (And.intro h5 (g5))
        clear h5 g5
        dsimp only
        go_wp2_with fail
        go_ret
        exact ⟨rfl, H5.out.1, H4.out.2.trans H5.out.2⟩
      · have hds : Ps.deep tk d (Ps.leaf tk s1).2 = (Ps.leaf tk s1).2 := by unfold Ps.deep; rw [if_neg hz]
        have hdb : decide ((Ps.leaf tk s1).2.e ≠ 0) = false := decide_eq_false (by simp [hde])
        rw [hds] at HDP ⊢
        rw [hdb] at HDP
        rw [if_pos hde]
        have HZ := Lib.hid hz
        clear hde hz hds hdb
        go_enter Tryz.func183, Tryz.ntmps183
        go_wp2_with fail
        refine (HA.out).mono ?_
        rintro e W1 ⟨rfl, h1, g1⟩
        have H1 := Lib.hid (And.intro h1 (g1))
        clear h1 g1
        have hok := pok_calls H1.out.1
        rw [decide_eq_true HE.out.1] at hok
        have HOK := Lib.hid hok
        clear hok
        dsimp only
        go_wp2_with fail
        refine (HOK.out).mono ?_
        rintro e W2 ⟨rfl, rfl⟩
        dsimp only
        go_wp2_with fail
        have hal : Below W1.heap.size W1 (W1.alloc (.cells (strCells [[61, 62]]).toArray 9)) := (Below.refl _ _).alloc (Nat.le_refl _) _
        have hnx := pnext_calls (ts := [[61, 62]]) (H1.out.1.past hal) (Pc.inv_room HO.out.inv HL.out.2.1) (rds_newS W1 [[61, 62]] rfl) (fun k hk => by rw [hk, ← size_alloc1]; omega) (by simp)
        rw [HE.out.2.1] at hnx
        refine hnx.mono ?_
        rintro e W3 ⟨rfl, hb3⟩
        have H3 := Lib.hid (hal.trans (hb3.mono hal.size))
        clear hb3 hnx hal
        have c0 := (H1.out.1.past H3.out).c0
        dsimp only
        go_wp2_with fail
        refine (pleaf_calls (H1.out.1.past H3.out) (Pc.inv_room HO.out.inv HL.out.2.1)).mono ?_
        rintro e W4 ⟨rfl, h4, g4⟩
        have H4 := Lib.hid (And.intro h4 (H1.out.2.trans ((FrT.of H3.out).trans g4)))
        clear h4 g4 c0
        dsimp only
        go_wp2_with fail
        refine (HDP.out _ H4.out.1).mono ?_
        rintro e W5 ⟨rfl, h5, g5⟩
        have H5 := Lib.hid (And.intro h5 (g5))
        clear h5 g5
        dsimp only
        go_wp2_with fail
        refine (HL.out.2.2.2.2 HZ.out Q _ _ (HQ.out.frt (H4.out.2.trans H5.out.2)) H5.out.1 HE.out.2.2.1.inv).mono ?_
        rintro e W6 ⟨rfl, h6, g6⟩
        have H6 := Lib.hid (And.intro h6 (H4.out.2.trans (H5.out.2.trans g6)))
        clear h6 g6
        dsimp only
        go_wp2_with fail
        have hal : Below W6.heap.size W6 (W6.alloc (.cells (intCells [a, (Ps.leaf tk s1).1, (lo.fo (Ps.leaf tk s1).2).1]).toArray 3)) := (Below.refl _ _).alloc (Nat.le_refl _) _
        refine (pnode_calls (l := [a, (Ps.leaf tk s1).1, (lo.fo (Ps.leaf tk s1).2).1]) (H6.out.1.past hal) (Pc.inv_room (HE.out.2.2.1.then (HL.out.2.2.2.1.rest HZ.out).1).inv HL.out.2.1) (rds_new W6 _ rfl) (fun k hk => by rw [hk, ← size_alloc1]; omega) (by simp) (HQ.out.frt (H6.out.2.trans (FrT.of hal))) 10).mono ?_
        rintro e W7 ⟨rfl, h7, g7⟩
        have H7 := Lib.hid (And.intro h7 (H6.out.2.trans ((FrT.of hal).trans g7)))
        clear h7 g7 hal
        dsimp only
        go_wp2_with fail
        go_ret
        exact ⟨rfl, H7.out.1, H7.out.2⟩
    · rw [if_neg (by simp [hn])]
      rw [Bool.not_eq_true] at hn
      have HE := Lib.hid (And.intro he (And.intro hn hn))
      clear he hn
      go_enter Tryz.func183, Tryz.ntmps183
      go_wp2_with fail
      refine (HA.out).mono ?_
      rintro e W1 ⟨rfl, h1, g1⟩
      have H1 := Lib.hid (And.intro h1 (g1))
      clear h1 g1
      have hok := pok_calls H1.out.1
      rw [decide_eq_true HE.out.1] at hok
      have HOK := Lib.hid hok
      clear hok
      dsimp only
      go_wp2_with fail
      refine (HOK.out).mono ?_
      rintro e W2 ⟨rfl, rfl⟩
      dsimp only
      go_wp2_with fail
      have hal : Below W1.heap.size W1 (W1.alloc (.cells (strCells [[61, 62]]).toArray 9)) := (Below.refl _ _).alloc (Nat.le_refl _) _
      have hnx := pnext_calls (ts := [[61, 62]]) (H1.out.1.past hal) (Pc.inv_room HO.out.inv HL.out.2.1) (rds_newS W1 [[61, 62]] rfl) (fun k hk => by rw [hk, ← size_alloc1]; omega) (by simp)
      rw [HE.out.2.1] at hnx
      refine hnx.mono ?_
      rintro e W3 ⟨rfl, hb3⟩
      have H3 := Lib.hid (hal.trans (hb3.mono hal.size))
      clear hb3 hnx hal
      dsimp only
      go_wp2_with fail
      go_ret
      exact ⟨rfl, H1.out.1.past H3.out, H1.out.2.trans (FrT.of H3.out)⟩
  · rw [if_neg (by simp [he])]
    have HE := Lib.hid he
    clear he
    go_enter Tryz.func183, Tryz.ntmps183
    go_wp2_with fail
    refine (HA.out).mono ?_
    rintro e W1 ⟨rfl, h1, g1⟩
    have H1 := Lib.hid (And.intro h1 (g1))
    clear h1 g1
    have hok := pok_calls H1.out.1
    rw [decide_eq_false HE.out] at hok
    have HOK := Lib.hid hok
    clear hok
    dsimp only
    go_wp2_with fail
    refine (HOK.out).mono ?_
    rintro e W2 ⟨rfl, rfl⟩
    dsimp only
    go_wp2_with fail
    go_ret
    exact ⟨rfl, H1.out.1, H1.out.2⟩
end
end Go.Proofs.YtlejecaanllghaaGreatDoor
/- append(own row, slice...): the slice may be of none. -/
namespace Go.Proofs.YtlejecaanllghaaGreatDoor
open Go.RowKit

theorem run_append_row {P : Program} (w : World) (t ty : TypeId) (base : Nat) (e : TypeId) (i : TypeInfo) (z : Value) (size bytes : Nat) (ht : P.underlying t = some (.slice e)) (hi : P.info? e = some i) (hz : i.zero = some z)
    (hsize : i.size = size) (hby : i.bytes = bytes) (hzs : z.cells.size = size) (hsz : 0 < size)
    (v : Value) (n : Nat) (xs : List Value) (hown : w.ownsRow base e size v n xs) {Q : Nat → Prop} {x : Value} {m : Nat} {news : List Value} (hx : RdS w Q size x m news) (h1 : ∀ u ∈ news, u.oneCell' = true)
    (h63 : n + m ≤ maxLen) (hbytes : (n + m) * bytes ≤ 140737488355328) (hbase : base ≤ w.heap.size) :
    ∃ a cap w', (Builtin.append_ #[t, t] ty #[v, x]).run P w = .ok (.slice a (n + m) cap) w' ∧
      w'.ownsRow base e size (.slice a (n + m) cap) (n + m) (xs ++ news) ∧ w.grownBy w' v.ownBlock ∧ (∀ k, (Value.slice a (n + m) cap).ownBlock = some k → v.ownBlock = some k ∨ k = w.heap.size) := by
  obtain ⟨hl, ax, cx, rfl, hmc, hr⟩ := hx
  rcases Nat.eq_zero_or_pos m with h0 | h0
  · subst h0
    obtain rfl : news = [] := List.eq_nil_of_length_eq_zero (by simpa using hl)
    have hs : Src P i.size t (.slice ax 0 cx) 0 [] w := by
      rcases ax with _ | ad
      · exact Src.ofNil w ht cx
      · exact Src.ofSlice w ht ad 0 cx [] (by simp) (fun j u h => by simp at h) (fun u h => by cases h)
    have key : ∃ a c, v = .slice a n c ∧ n ≤ c := by
      rcases hown.2 with ⟨rfl, rfl⟩ | ⟨g, cap, cur, rfl, _, _, hn, _⟩
      · exact ⟨none, 0, rfl, Nat.le_refl _⟩
      · exact ⟨_, cap, rfl, hn⟩
    obtain ⟨a, c, rfl, hnc⟩ := key
    refine ⟨a, c, w, run_append_nothing (P := P) w t t ty e i ht hi a n c hnc _ hs, by simpa using hown, ⟨rfl, rfl, rfl, Nat.le_refl _, fun _ _ _ => rfl⟩, fun k hk => Or.inl hk⟩
  · rcases hr with ⟨_, h⟩ | ⟨b, off, rfl, _, hrg⟩
    · omega
    · obtain ⟨g, cap, w', hr, h2, h3, h4, h5⟩ := run_append_lies (P := P) w t ty base e i z size bytes ht hi hz hsize hby hzs hsz v n xs hown ⟨b, off, none⟩ m cx news hl (fun j u hj => by
        have := hrg j u hj
        rwa [Addr.add_mid]) h1 h0 h63 hbytes hbase w.heap.size rfl
      refine ⟨some ⟨g, 0, none⟩, cap, w', hr, h2, h3, fun k hk => ?_⟩
      simp only [Value.ownBlock, Option.some.injEq] at hk
      subst hk
      exact h4

/-- At a step of a region that draws its order. -/
theorem step_append_row {P : Program} {w : World} {ops : Array Oper} {o : Oper} {a : Act} {K : Act → World → Prop} {Q : Exit → Act → World → Prop} {E : Prop} (hgd : o.guard = none) (s x : Operand) (t : TypeId)
    (ho : o.op = .call { callee := .builtin .append, args := #[s, x], argTypes := #[t, t] })
    (base : Nat) (e : TypeId) (i : TypeInfo) (z : Value) (size bytes : Nat) (ht : P.underlying t = some (.slice e)) (hi : P.info? e = some i) (hz : i.zero = some z)
    (hsize : i.size = size) (hby : i.bytes = bytes) (hzs : z.cells.size = size) (hsz : 0 < size)
    (v : Value) (n : Nat) (xs : List Value) (hs : a.eval s = v) (hown : w.ownsRow base e size v n xs) {R : Nat → Prop} {xv : Value} {m : Nat} {news : List Value} (hxv : a.eval x = xv) (hx : RdS w R size xv m news) (h1 : ∀ u ∈ news, u.oneCell' = true)
    (h63 : n + m ≤ maxLen) (hbytes : (n + m) * bytes ≤ 140737488355328) (hbase : base ≤ w.heap.size)
    (h : ∀ a2 cap w', w'.ownsRow base e size (.slice a2 (n + m) cap) (n + m) (xs ++ news) → w.grownBy w' v.ownBlock → (∀ k, (Value.slice a2 (n + m) cap).ownBlock = some k → v.ownBlock = some k ∨ k = w.heap.size) → K (a.put o.dst (.slice a2 (n + m) cap)) w') :
    if Region.wanted o (yielded ops a.tmps) = true then Oper.wp P o a w K Q else E := by
  have hw : Region.wanted o (yielded ops a.tmps) = true := by simp [Region.wanted, hgd]
  rw [if_pos hw]
  obtain ⟨a2, cap, w', hr, h2, h3, h4⟩ := run_append_row (P := P) w t o.type base e i z size bytes ht hi hz hsize hby hzs hsz v n xs hown hx h1 h63 hbytes hbase
  unfold Oper.wp execOp
  simp only [ho, resolve, invoke, builtin, Sem.run_bind, Sem.run_pure, Result.andThen_ok, List.map_toArray, List.map_cons, List.map_nil, hs, hxv, hr]
  exact h a2 cap w' h2 h3 h4
end Go.Proofs.YtlejecaanllghaaGreatDoor
/- append(own row, slice...) in a plain region: the slice may be of none. -/
namespace Go.Proofs.YtlejecaanllghaaGreatDoor
open Go.RowKit

theorem wpList_append_row {P : Program} {ops : Array Oper} {rest : List Oper} {o : Oper} {a : Act} {Q : Exit → Act → World → Prop} {w : World} (hgd : o.guard = none) (s x : Operand) (t : TypeId)
    (ho : o.op = .call { callee := .builtin .append, args := #[s, x], argTypes := #[t, t] })
    (base : Nat) (e : TypeId) (i : TypeInfo) (z : Value) (size bytes : Nat) (ht : P.underlying t = some (.slice e)) (hi : P.info? e = some i) (hz : i.zero = some z)
    (hsize : i.size = size) (hby : i.bytes = bytes) (hzs : z.cells.size = size) (hsz : 0 < size)
    (v : Value) (n : Nat) (xs : List Value) (hs : a.eval s = v) (hown : w.ownsRow base e size v n xs) {R : Nat → Prop} {xv : Value} {m : Nat} {news : List Value} (hxv : a.eval x = xv) (hx : RdS w R size xv m news) (h1 : ∀ u ∈ news, u.oneCell' = true)
    (h63 : n + m ≤ maxLen) (hbytes : (n + m) * bytes ≤ 140737488355328) (hbase : base ≤ w.heap.size)
    (h : ∀ a2 cap w', w'.ownsRow base e size (.slice a2 (n + m) cap) (n + m) (xs ++ news) → w.grownBy w' v.ownBlock → (∀ k, (Value.slice a2 (n + m) cap).ownBlock = some k → v.ownBlock = some k ∨ k = w.heap.size) → wpList P ops Q rest (a.put o.dst (.slice a2 (n + m) cap)) w') :
    wpList P ops Q (o :: rest) a w := by
  refine wpList_plain hgd fun K hK => ?_
  obtain ⟨a2, cap, w', hr, h2, h3, h4⟩ := run_append_row (P := P) w t o.type base e i z size bytes ht hi hz hsize hby hzs hsz v n xs hown hx h1 h63 hbytes hbase
  unfold Oper.wp execOp
  simp only [ho, resolve, invoke, builtin, Sem.run_bind, Sem.run_pure, Result.andThen_ok, List.map_toArray, List.map_cons, List.map_nil, hs, hxv, hr]
  exact hK _ _ (h a2 cap w' h2 h3 h4)

/-- Q, but for an own row. -/
def Off (Q : Nat → Prop) (v : Value) (k : Nat) : Prop := Q k ∧ v.ownBlock ≠ some k
theorem Off.up {Q : Nat → Prop} {v : Value} {W : World} (h : Up Q W) {base n size : Nat} {e : TypeId} {xs : List Value} (ho : W.ownsRow base e size v n xs) : Up (Off Q v) W := fun k hk => ⟨h k hk, fun e => by
  have := (ho.lt k e).2
  omega⟩
theorem FrT.grown {ts : List TypeId} {W Wr W3 : World} {v : Value} (h : FrT ts W Wr) (hg : Wr.grownBy W3 v.ownBlock) (hv : ∀ k, v.ownBlock = some k → W.heap.size ≤ k) : FrT ts W W3 := by
  refine ⟨hg.os.trans h.os, hg.tape.trans h.tape, hg.output.trans h.output, Nat.le_trans h.size hg.size, fun k o hk hn => ?_⟩
  have h1 := h.block k o hk hn
  rw [hg.block k (lt_heap h1) fun e => ?_, h1]
  have := hv k e.symm
  have := lt_heap hk
  omega
/-- Behind an append onto the own row. -/
theorem PI.appended {Q : Nat → Prop} {w0 W W3 : World} {p b base n : Nat} {tk : List Tr.Tk} {dp : Int} {s : Ps.St} {v v3 : Value} {xs : List Value} (h : PI (Off Q v) w0 W p b tk dp s) (ho : W.ownsRow base 3 1 v n xs) (hbase : w0.heap.size ≤ base)
    (hg : W.grownBy W3 v.ownBlock) (hat : ∀ k, v3.ownBlock = some k → v.ownBlock = some k ∨ k = W.heap.size) : PI (Off Q v3) w0 W3 p b tk dp s := by
  have h1 : PI (fun k => Off Q v k ∧ k ≠ W.heap.size) w0 W p b tk dp s := h.imp fun k hk hq => ⟨hq, by omega⟩
  refine (h1.grown ho hbase (fun k hk hq => hq.1.2 hk) hg).imp fun k _ hq => ⟨hq.1.1, fun e => ?_⟩
  rcases hat k e with h2 | h2
  · exact hq.1.2 h2
  · exact hq.2 h2
end Go.Proofs.YtlejecaanllghaaGreatDoor
/- parse: list: the walk, at each of the functions that it is handed. -/
namespace Go.Proofs.YtlejecaanllghaaGreatDoor
open Go.RowKit

theorem info_int2 : (Tryz.prog.info? 3).map (fun i => (i.zero, i.size, i.bytes)) = some (some (.int .i64 0), 1, 8) := by kernel_rfl
section
variable {w0 : World} {p b : Nat} {tk : List Tr.Tk} {dp : Int}
/-- .. where some of the caller's stands. -/
def KnowsB (Box : World → Prop) (w0 : World) (p b : Nat) (tk : List Tr.Tk) (dp : Int) (k : FuncId) (args : Array Value) (f : Ps.F) : Prop :=
  ∀ (Q : Nat → Prop) (W : World) (s : Ps.St), Up Q W → PI Q w0 W p b tk dp s → Pc.Inv tk s → Box W → Calls Tryz.prog k args W (Does Q w0 p b tk dp (f s) W)
/-- What list gives: a row of its own. -/
def Lists (Q : Nat → Prop) (w0 : World) (p b : Nat) (tk : List Tr.Tk) (dp : Int) (r : List Int × Ps.St) (W : World) (e : Ending) (W' : World) : Prop :=
  ∃ v, e = .returned v ∧ W'.ownsRow W.heap.size 3 1 v r.1.length (intCells r.1) ∧ PI (Off Q v) w0 W' p b tk dp r.2 ∧ FrT PTs W W'
theorem listGo_dead {f : Ps.F} {s : Ps.St} (he : s.e ≠ 0) (m : Nat) (ks : List Int) : Ps.listGo tk f m ks s = (ks, s) := by
  cases m with
  | zero => unfold Ps.listGo; rw [Pc.fail_dead he]
  | succ m => unfold Ps.listGo; rw [if_neg he]
theorem own_new (w : World) (l : List Int) (hl : l.length ≤ 1000) : (w.alloc (.cells (intCells l).toArray 3)).ownsRow w.heap.size 3 1 (.slice (some ⟨w.heap.size, 0, none⟩) l.length l.length) l.length (intCells l) := by
  refine ⟨by simp [intCells], Or.inr ⟨w.heap.size, l.length, (intCells l).toArray, rfl, Nat.le_refl _, heap_alloc_new _ _, Nat.le_refl _, by unfold maxLen; omega, by simp [intCells], by rw [Nat.mul_one]; exact List.take_of_length_le (by simp [intCells])⟩⟩

def ListRel (Q : Nat → Prop) (w0 W : World) (p b : Nat) (tk : List Tr.Tk) (dp : Int) (f : Ps.F) (s : Ps.St) (k : Nat) (v5 v6 : Value) (wr : World) : Prop :=
  ∃ (ks : List Int) (a : Option Addr) (c j : Nat) (s1 : Ps.St), v5 = .slice a ks.length c ∧ v6 = .int .i64 j ∧ 1 ≤ j ∧ j ≤ 9 ∧ k = 9 - j ∧ ks.length ≤ 2 * j ∧ wr.ownsRow W.heap.size 3 1 (.slice a ks.length c) ks.length (intCells ks) ∧
    PI (Off Q (.slice a ks.length c)) w0 wr p b tk dp s1 ∧ Pc.Inv tk s1 ∧ Ps.listGo tk f (9 - j) ks s1 = Ps.list tk f s ∧ FrT PTs W wr

set_option maxRecDepth 100000 in
set_option maxHeartbeats 4000000 in
theorem plist_param (ht : Pc.Toks tk) (hl : tk.length ≤ 1000000) {f : Ps.F} {g : Pr.G} (hf : Pc.Sim tk f g) {Box : World → Prop} (hbox : ∀ V V', Box V → FrT PTs V V' → Box V')
    (hone : KnowsB Box w0 p b tk dp 140 #[.pointer (some ⟨p, 0, none⟩)] f) :
    ∀ (Q : Nat → Prop) (W : World) (s : Ps.St), Up Q W → PI Q w0 W p b tk dp s → Pc.Inv tk s → Box W →
      Calls Tryz.prog 139 #[.pointer (some ⟨p, 0, none⟩), .func (.func 140) #[.pointer (some ⟨p, 0, none⟩)] #[]] W (Lists Q w0 p b tk dp (Ps.list tk f s) W) := by
  intro Q W s hQ h hi hB
  have H := Lib.hid (And.intro ht (And.intro hl (And.intro hf (And.intro hbox hone))))
  have HI := Lib.hid (And.intro h (And.intro hi (And.intro hQ hB)))
  have hal : Below W.heap.size W (W.alloc (.cells (strCells [[41]]).toArray 9)) := (Below.refl _ _).alloc (Nat.le_refl _) _
  have hnx := pnext_calls (ts := [[41]]) (h.past hal) (Pc.inv_room hi hl) (rds_newS W [[41]] rfl) (fun k hk => by rw [hk, ← size_alloc1]; omega) (by simp)
  have hdef : Ps.list tk f s = if Ps.nextB tk [[41]] s.used = true then ([], s) else Ps.listGo tk f 8 [] s := rfl
  by_cases hn : Ps.nextB tk [[41]] s.used = true
  · rw [if_pos hn] at hdef
    rw [hdef]
    rw [hn] at hnx
    have HN := Lib.hid (And.intro hnx hal)
    clear ht hl hf hbox hone hQ h hi hB hal hnx hdef hn
    go_enter Tryz.func139, Tryz.ntmps139
    go_wp2_with fail
    refine HN.out.1.mono ?_
    rintro e W2 ⟨rfl, hb2⟩
    have H2 := Lib.hid (HN.out.2.trans (hb2.mono HN.out.2.size))
    clear hb2
    dsimp only
    go_wp2_with fail
    go_ret
    exact ⟨_, rfl, World.ownsRow_nil _ _ _ _, (HI.out.1.past H2.out).imp fun k _ hq => ⟨hq, by simp [Value.ownBlock]⟩, FrT.of H2.out⟩
  · rw [if_neg hn] at hdef
    rw [Bool.not_eq_true] at hn
    rw [hn] at hnx
    have HN := Lib.hid (And.intro hnx (And.intro hal hdef))
    obtain ⟨i0, hii, hz0, hz1, hz2⟩ := info_split info_int2
    have Hi := Lib.hid hii
    have Hz0 := Lib.hid hz0
    have Hz1 := Lib.hid hz1
    have Hz2 := Lib.hid hz2
    clear hii hz0 hz1 hz2
    clear ht hl hf hbox hone hQ h hi hB hal hnx hdef hn
    go_enter Tryz.func139, Tryz.ntmps139
    go_wp2_with fail
    refine HN.out.1.mono ?_
    rintro e W2 ⟨rfl, hb2⟩
    have H2 := Lib.hid (HN.out.2.1.trans (hb2.mono HN.out.2.1.size))
    clear hb2
    dsimp only
    go_wp2_with fail
    go_loopg [5, 6] 8 (fun k v5 v6 wr => ListRel Q w0 W p b tk dp f s k v5 v6 wr)
    case atStart => exact ⟨[], none, 0, 1, s, rfl, rfl, Nat.le_refl _, by omega, rfl, by simp, World.ownsRow_nil _ _ _ _, (HI.out.1.past H2.out).imp fun k _ hq => ⟨hq, by simp [Value.ownBlock]⟩, HI.out.2.1, HN.out.2.2.symm, FrT.of H2.out⟩
    case round =>
      obtain ⟨ks, a, c, j, s1, rfl, rfl, hj1, hj9, hk, hkl, hown, hp, hin, hgo, hfr⟩ := hrel
      have hj1' : (1 : Int) ≤ (j : Int) := by omega
      have hj9' : (j : Int) ≤ 9 := by omega
      have hok := pok_calls hp
      have HR := Lib.hid (And.intro hk (And.intro hkl (And.intro hown (And.intro hp (And.intro hin (And.intro hgo hfr))))))
      clear hk hkl hown hp hin hgo hfr
      by_cases he : s1.e = 0
      · rw [decide_eq_true he] at hok
        have HOK := Lib.hid hok
        have HE := Lib.hid he
        clear hok he
        by_cases hj : j = 9
        · subst hj
          go_wp2_with fail
          refine (HOK.out).mono ?_
          rintro e W3 ⟨rfl, rfl⟩
          dsimp only
          go_wp2_with fail
          refine (pfail_calls HR.out.2.2.2.1 (Pc.inv_room HR.out.2.2.2.2.1 H.out.2.1) 15).mono ?_
          rintro e W4 ⟨rfl, h4, g4⟩
          have H4 := Lib.hid (And.intro h4 g4)
          clear h4 g4
          dsimp only
          go_wp2_with fail
          go_ret
          have hgo := HR.out.2.2.2.2.2.1
          have e1 : Ps.listGo tk f (9 - 9) ks s1 = (ks, Ps.fail tk 15 s1) := rfl
          rw [e1] at hgo
          rw [← hgo]
          exact ⟨_, rfl, ownsRow_frt HR.out.2.2.1 H4.out.2 (by decide), H4.out.1, HR.out.2.2.2.2.2.2.trans H4.out.2⟩
        · have hj8 : (j : Int) ≤ 8 := by omega
          have HJ := Lib.hid hj
          clear hj
          go_wp2_with fail
          refine (HOK.out).mono ?_
          rintro e W3 ⟨rfl, rfl⟩
          dsimp only
          go_wp2_with fail
          refine (H.out.2.2.2.2 _ _ _ (Off.up (HI.out.2.2.1.frt HR.out.2.2.2.2.2.2) HR.out.2.2.1) HR.out.2.2.2.1 HR.out.2.2.2.2.1 (H.out.2.2.2.1 _ _ HI.out.2.2.2 HR.out.2.2.2.2.2.2)).mono ?_
          rintro e W4 ⟨rfl, h4, g4⟩
          have hi4 := ((Pc.Og.nil HR.out.2.2.2.2.1).then H.out.2.2.1).inv
          have ho4 := ownsRow_frt HR.out.2.2.1 g4 (by decide)
          have H4 := Lib.hid (And.intro h4 (And.intro (HR.out.2.2.2.2.2.2.trans g4) (And.intro hi4 ho4)))
          clear h4 g4 hi4 ho4
          obtain ⟨⟨x, s2⟩, hx⟩ : ∃ r, f s1 = r := ⟨_, rfl⟩
          rw [hx] at H4 ⊢
          have HX := Lib.hid hx
          clear hx
          dsimp only at H4 ⊢
          go_wp2_with (at_builtin; refine wpList_append_row rfl _ _ 56 rfl W.heap.size 3 i0 (.int .i64 0) 1 8 Tryz.underlying56 Hi.out Hz0.out Hz1.out Hz2.out rfl (by decide) _ ks.length (intCells ks) rfl (H4.out.2.2.2.alloc _) rfl (rds_new W4 [x] rfl) (ints_one _) (by have := HR.out.2.1; unfold maxLen; simp; omega) (by have := HR.out.2.1; simp; omega) (Nat.le_trans H4.out.2.1.size (Nat.le_of_lt (by rw [← size_alloc1]; omega))) ?_)
          intro a5 c5 W5 ho5 hg5 hat5
          have hal : Below W4.heap.size W4 (W4.alloc (.cells (intCells [x]).toArray 3)) := (Below.refl _ _).alloc (Nat.le_refl _) _
          have hp5 := (H4.out.1.past hal).appended (H4.out.2.2.2.alloc _) HI.out.1.below.size hg5 (v3 := .slice a5 (ks.length + 1) c5) (by rw [← size_alloc1]; exact hat5)
          have hf5 : FrT PTs W W5 := (H4.out.2.1.trans (FrT.of hal)).grown hg5 (fun k hk => (H4.out.2.2.2.lt k hk).1)
          have hks : intCells ks ++ intCells [x] = intCells (ks ++ [x]) := by simp [intCells]
          rw [hks] at ho5
          have H5 := Lib.hid (And.intro ho5 (And.intro hp5 hf5))
          have hok5 := pok_calls hp5
          clear ho5 hg5 hat5 hal hp5 hf5 hks
          by_cases he2 : s2.e = 0
          · rw [decide_eq_true he2] at hok5
            have HOK5 := Lib.hid hok5
            have HE2 := Lib.hid he2
            clear hok5 he2
            have hal2 : Below W5.heap.size W5 (W5.alloc (.cells (strCells [[44]]).toArray 9)) := (Below.refl _ _).alloc (Nat.le_refl _) _
            have hnx2 := pnext_calls (ts := [[44]]) (H5.out.2.1.past hal2) (Pc.inv_room H4.out.2.2.1 H.out.2.1) (rds_newS W5 [[44]] rfl) (fun k hk => by rw [hk, ← size_alloc1]; omega) (by simp)
            by_cases hn2 : Ps.nextB tk [[44]] s2.used = true
            · rw [hn2] at hnx2
              have HN2 := Lib.hid (And.intro hnx2 (And.intro hal2 hn2))
              clear hnx2 hal2 hn2
              go_wp2_with fail
              refine (HOK5.out).mono ?_
              rintro e W6 ⟨rfl, rfl⟩
              dsimp only
              go_wp2_with fail
              refine HN2.out.1.mono ?_
              rintro e W7 ⟨rfl, hb7⟩
              have H7 := Lib.hid (HN2.out.2.1.trans (hb7.mono HN2.out.2.1.size))
              have d0 := (H5.out.2.1.past H7.out).c0
              clear hb7
              dsimp only
              go_wp2_with fail
              refine (pleaf_calls (H5.out.2.1.past H7.out) (Pc.inv_room H4.out.2.2.1 H.out.2.1)).mono ?_
              rintro e W8 ⟨rfl, h8, g8⟩
              have hi8 := ((Pc.Og.nil H4.out.2.2.1).leaf H.out.1 HE2.out (Pc.next_kind HN2.out.2.2)).1.inv
              have g58 := (FrT.of H7.out).trans g8
              have H8 := Lib.hid (And.intro h8 (And.intro (H5.out.2.2.trans g58) (And.intro hi8 (ownsRow_frt H5.out.1 g58 (by decide)))))
              clear h8 g8 hi8 g58 d0
              dsimp only
              obtain ⟨⟨y, s3⟩, hy⟩ : ∃ r, Ps.leaf tk s2 = r := ⟨_, rfl⟩
              rw [hy] at H8 ⊢
              have HY := Lib.hid hy
              clear hy
              dsimp only at H8 ⊢
              go_wp2_with (at_builtin; refine wpList_append_row rfl _ _ 56 rfl W.heap.size 3 i0 (.int .i64 0) 1 8 Tryz.underlying56 Hi.out Hz0.out Hz1.out Hz2.out rfl (by decide) _ _ (intCells (ks ++ [x])) rfl (H8.out.2.2.2.alloc _) rfl (rds_new W8 [y] rfl) (ints_one _) (by have := HR.out.2.1; unfold maxLen; simp; omega) (by have := HR.out.2.1; simp; omega) (Nat.le_trans H8.out.2.1.size (Nat.le_of_lt (by rw [← size_alloc1]; omega))) ?_)
              intro a9 c9 W9 ho9 hg9 hat9
              have hal9 : Below W8.heap.size W8 (W8.alloc (.cells (intCells [y]).toArray 3)) := (Below.refl _ _).alloc (Nat.le_refl _) _
              have hp9 := (H8.out.1.past hal9).appended (H8.out.2.2.2.alloc _) HI.out.1.below.size hg9 (v3 := .slice a9 (ks.length + 1 + 1) c9) (by rw [← size_alloc1]; exact hat9)
              have hf9 : FrT PTs W W9 := (H8.out.2.1.trans (FrT.of hal9)).grown hg9 (fun k hk => (H8.out.2.2.2.lt k hk).1)
              have hks : intCells (ks ++ [x]) ++ intCells [y] = intCells (ks ++ [x, y]) := by simp [intCells]
              rw [hks] at ho9
              have H9 := Lib.hid (And.intro ho9 (And.intro hp9 hf9))
              clear ho9 hg9 hat9 hal9 hp9 hf9 hks
              go_wp2_with fail
              go_roundg (9 - (j + 1))
              case measure => have := HR.out.1; have := HJ.out; omega
              case rel =>
                have hgo := HR.out.2.2.2.2.2.1
                have hj := HJ.out
                obtain ⟨m, hm⟩ : ∃ m, 9 - j = m + 1 := ⟨8 - j, by omega⟩
                have e9 : 9 - (j + 1) = m := by omega
                rw [hm] at hgo
                unfold Ps.listGo at hgo
                rw [if_pos HE.out, HX.out] at hgo
                simp only at hgo
                rw [if_pos ⟨HE2.out, HN2.out.2.2⟩, HY.out] at hgo
                have q1 : (ks ++ [x, y]).length = ks.length + 1 + 1 := by simp
                refine ⟨ks ++ [x, y], a9, c9, j + 1, s3, by rw [q1], by go_num, by omega, by omega, rfl, by have := HR.out.2.1; simp; omega, by rw [q1]; exact H9.out.1, by rw [q1]; exact H9.out.2.1, H8.out.2.2.1, by rw [e9]; exact hgo, H9.out.2.2⟩
            · rw [Bool.not_eq_true] at hn2
              rw [hn2] at hnx2
              have HN2 := Lib.hid (And.intro hnx2 (And.intro hal2 hn2))
              clear hnx2 hal2 hn2
              go_wp2_with fail
              refine (HOK5.out).mono ?_
              rintro e W6 ⟨rfl, rfl⟩
              dsimp only
              go_wp2_with fail
              refine HN2.out.1.mono ?_
              rintro e W7 ⟨rfl, hb7⟩
              have H7 := Lib.hid (HN2.out.2.1.trans (hb7.mono HN2.out.2.1.size))
              clear hb7
              dsimp only
              go_wp2_with fail
              go_ret
              have hgo := HR.out.2.2.2.2.2.1
              have hj := HJ.out
              obtain ⟨m, hm⟩ : ∃ m, 9 - j = m + 1 := ⟨8 - j, by omega⟩
              rw [hm] at hgo
              unfold Ps.listGo at hgo
              rw [if_pos HE.out, HX.out] at hgo
              simp only at hgo
              rw [if_neg (by rw [HN2.out.2.2]; simp)] at hgo
              rw [← hgo]
              have q1 : (ks ++ [x]).length = ks.length + 1 := by simp
              exact ⟨_, rfl, by rw [q1]; exact ownsRow_below H5.out.1 H7.out, H5.out.2.1.past H7.out, H5.out.2.2.trans (FrT.of H7.out)⟩
          · rw [decide_eq_false he2] at hok5
            have HOK5 := Lib.hid hok5
            have HE2 := Lib.hid he2
            clear hok5 he2
            go_wp2_with fail
            refine (HOK5.out).mono ?_
            rintro e W6 ⟨rfl, rfl⟩
            dsimp only
            go_wp2_with fail
            go_ret
            have hgo := HR.out.2.2.2.2.2.1
            have hj := HJ.out
            obtain ⟨m, hm⟩ : ∃ m, 9 - j = m + 1 := ⟨8 - j, by omega⟩
            rw [hm] at hgo
            unfold Ps.listGo at hgo
            rw [if_pos HE.out, HX.out] at hgo
            simp only at hgo
            rw [if_neg (by simp [HE2.out])] at hgo
            rw [← hgo]
            have q1 : (ks ++ [x]).length = ks.length + 1 := by simp
            exact ⟨_, rfl, by rw [q1]; exact H5.out.1, H5.out.2.1, H5.out.2.2⟩
      · rw [decide_eq_false he] at hok
        have HOK := Lib.hid hok
        have HE := Lib.hid he
        clear hok he
        go_wp2_with fail
        refine (HOK.out).mono ?_
        rintro e W3 ⟨rfl, rfl⟩
        dsimp only
        go_wp2_with fail
        go_ret
        have hgo := HR.out.2.2.2.2.2.1
        rw [listGo_dead HE.out] at hgo
        rw [← hgo]
        exact ⟨_, rfl, HR.out.2.2.1, HR.out.2.2.2.1, HR.out.2.2.2.2.2.2⟩

set_option maxRecDepth 100000 in
set_option maxHeartbeats 4000000 in
theorem plist_name (ht : Pc.Toks tk) (hl : tk.length ≤ 1000000) {f : Ps.F} {g : Pr.G} (hf : Pc.Sim tk f g) {Box : World → Prop} (hbox : ∀ V V', Box V → FrT PTs V V' → Box V') {bp bn : Nat}
    (hone : KnowsB Box w0 p b tk dp 268 #[.pointer (some ⟨bp, 0, none⟩), .pointer (some ⟨bn, 0, none⟩)] f) :
    ∀ (Q : Nat → Prop) (W : World) (s : Ps.St), Up Q W → PI Q w0 W p b tk dp s → Pc.Inv tk s → Box W →
      Calls Tryz.prog 139 #[.pointer (some ⟨p, 0, none⟩), .func (.func 268) #[] #[.pointer (some ⟨bp, 0, none⟩), .pointer (some ⟨bn, 0, none⟩)]] W (Lists Q w0 p b tk dp (Ps.list tk f s) W) := by
  intro Q W s hQ h hi hB
  have H := Lib.hid (And.intro ht (And.intro hl (And.intro hf (And.intro hbox hone))))
  have HI := Lib.hid (And.intro h (And.intro hi (And.intro hQ hB)))
  have hal : Below W.heap.size W (W.alloc (.cells (strCells [[41]]).toArray 9)) := (Below.refl _ _).alloc (Nat.le_refl _) _
  have hnx := pnext_calls (ts := [[41]]) (h.past hal) (Pc.inv_room hi hl) (rds_newS W [[41]] rfl) (fun k hk => by rw [hk, ← size_alloc1]; omega) (by simp)
  have hdef : Ps.list tk f s = if Ps.nextB tk [[41]] s.used = true then ([], s) else Ps.listGo tk f 8 [] s := rfl
  by_cases hn : Ps.nextB tk [[41]] s.used = true
  · rw [if_pos hn] at hdef
    rw [hdef]
    rw [hn] at hnx
    have HN := Lib.hid (And.intro hnx hal)
    clear ht hl hf hbox hone hQ h hi hB hal hnx hdef hn
    go_enter Tryz.func139, Tryz.ntmps139
    go_wp2_with fail
    refine HN.out.1.mono ?_
    rintro e W2 ⟨rfl, hb2⟩
    have H2 := Lib.hid (HN.out.2.trans (hb2.mono HN.out.2.size))
    clear hb2
    dsimp only
    go_wp2_with fail
    go_ret
    exact ⟨_, rfl, World.ownsRow_nil _ _ _ _, (HI.out.1.past H2.out).imp fun k _ hq => ⟨hq, by simp [Value.ownBlock]⟩, FrT.of H2.out⟩
  · rw [if_neg hn] at hdef
    rw [Bool.not_eq_true] at hn
    rw [hn] at hnx
    have HN := Lib.hid (And.intro hnx (And.intro hal hdef))
    obtain ⟨i0, hii, hz0, hz1, hz2⟩ := info_split info_int2
    have Hi := Lib.hid hii
    have Hz0 := Lib.hid hz0
    have Hz1 := Lib.hid hz1
    have Hz2 := Lib.hid hz2
    clear hii hz0 hz1 hz2
    clear ht hl hf hbox hone hQ h hi hB hal hnx hdef hn
    go_enter Tryz.func139, Tryz.ntmps139
    go_wp2_with fail
    refine HN.out.1.mono ?_
    rintro e W2 ⟨rfl, hb2⟩
    have H2 := Lib.hid (HN.out.2.1.trans (hb2.mono HN.out.2.1.size))
    clear hb2
    dsimp only
    go_wp2_with fail
    go_loopg [5, 6] 8 (fun k v5 v6 wr => ListRel Q w0 W p b tk dp f s k v5 v6 wr)
    case atStart => exact ⟨[], none, 0, 1, s, rfl, rfl, Nat.le_refl _, by omega, rfl, by simp, World.ownsRow_nil _ _ _ _, (HI.out.1.past H2.out).imp fun k _ hq => ⟨hq, by simp [Value.ownBlock]⟩, HI.out.2.1, HN.out.2.2.symm, FrT.of H2.out⟩
    case round =>
      obtain ⟨ks, a, c, j, s1, rfl, rfl, hj1, hj9, hk, hkl, hown, hp, hin, hgo, hfr⟩ := hrel
      have hj1' : (1 : Int) ≤ (j : Int) := by omega
      have hj9' : (j : Int) ≤ 9 := by omega
      have hok := pok_calls hp
      have HR := Lib.hid (And.intro hk (And.intro hkl (And.intro hown (And.intro hp (And.intro hin (And.intro hgo hfr))))))
      clear hk hkl hown hp hin hgo hfr
      by_cases he : s1.e = 0
      · rw [decide_eq_true he] at hok
        have HOK := Lib.hid hok
        have HE := Lib.hid he
        clear hok he
        by_cases hj : j = 9
        · subst hj
          go_wp2_with fail
          refine (HOK.out).mono ?_
          rintro e W3 ⟨rfl, rfl⟩
          dsimp only
          go_wp2_with fail
          refine (pfail_calls HR.out.2.2.2.1 (Pc.inv_room HR.out.2.2.2.2.1 H.out.2.1) 15).mono ?_
          rintro e W4 ⟨rfl, h4, g4⟩
          have H4 := Lib.hid (And.intro h4 g4)
          clear h4 g4
          dsimp only
          go_wp2_with fail
          go_ret
          have hgo := HR.out.2.2.2.2.2.1
          have e1 : Ps.listGo tk f (9 - 9) ks s1 = (ks, Ps.fail tk 15 s1) := rfl
          rw [e1] at hgo
          rw [← hgo]
          exact ⟨_, rfl, ownsRow_frt HR.out.2.2.1 H4.out.2 (by decide), H4.out.1, HR.out.2.2.2.2.2.2.trans H4.out.2⟩
        · have hj8 : (j : Int) ≤ 8 := by omega
          have HJ := Lib.hid hj
          clear hj
          go_wp2_with fail
          refine (HOK.out).mono ?_
          rintro e W3 ⟨rfl, rfl⟩
          dsimp only
          go_wp2_with fail
          refine (H.out.2.2.2.2 _ _ _ (Off.up (HI.out.2.2.1.frt HR.out.2.2.2.2.2.2) HR.out.2.2.1) HR.out.2.2.2.1 HR.out.2.2.2.2.1 (H.out.2.2.2.1 _ _ HI.out.2.2.2 HR.out.2.2.2.2.2.2)).mono ?_
          rintro e W4 ⟨rfl, h4, g4⟩
          have hi4 := ((Pc.Og.nil HR.out.2.2.2.2.1).then H.out.2.2.1).inv
          have ho4 := ownsRow_frt HR.out.2.2.1 g4 (by decide)
          have H4 := Lib.hid (And.intro h4 (And.intro (HR.out.2.2.2.2.2.2.trans g4) (And.intro hi4 ho4)))
          clear h4 g4 hi4 ho4
          obtain ⟨⟨x, s2⟩, hx⟩ : ∃ r, f s1 = r := ⟨_, rfl⟩
          rw [hx] at H4 ⊢
          have HX := Lib.hid hx
          clear hx
          dsimp only at H4 ⊢
          go_wp2_with (at_builtin; refine wpList_append_row rfl _ _ 56 rfl W.heap.size 3 i0 (.int .i64 0) 1 8 Tryz.underlying56 Hi.out Hz0.out Hz1.out Hz2.out rfl (by decide) _ ks.length (intCells ks) rfl (H4.out.2.2.2.alloc _) rfl (rds_new W4 [x] rfl) (ints_one _) (by have := HR.out.2.1; unfold maxLen; simp; omega) (by have := HR.out.2.1; simp; omega) (Nat.le_trans H4.out.2.1.size (Nat.le_of_lt (by rw [← size_alloc1]; omega))) ?_)
          intro a5 c5 W5 ho5 hg5 hat5
          have hal : Below W4.heap.size W4 (W4.alloc (.cells (intCells [x]).toArray 3)) := (Below.refl _ _).alloc (Nat.le_refl _) _
          have hp5 := (H4.out.1.past hal).appended (H4.out.2.2.2.alloc _) HI.out.1.below.size hg5 (v3 := .slice a5 (ks.length + 1) c5) (by rw [← size_alloc1]; exact hat5)
          have hf5 : FrT PTs W W5 := (H4.out.2.1.trans (FrT.of hal)).grown hg5 (fun k hk => (H4.out.2.2.2.lt k hk).1)
          have hks : intCells ks ++ intCells [x] = intCells (ks ++ [x]) := by simp [intCells]
          rw [hks] at ho5
          have H5 := Lib.hid (And.intro ho5 (And.intro hp5 hf5))
          have hok5 := pok_calls hp5
          clear ho5 hg5 hat5 hal hp5 hf5 hks
          by_cases he2 : s2.e = 0
          · rw [decide_eq_true he2] at hok5
            have HOK5 := Lib.hid hok5
            have HE2 := Lib.hid he2
            clear hok5 he2
            have hal2 : Below W5.heap.size W5 (W5.alloc (.cells (strCells [[44]]).toArray 9)) := (Below.refl _ _).alloc (Nat.le_refl _) _
            have hnx2 := pnext_calls (ts := [[44]]) (H5.out.2.1.past hal2) (Pc.inv_room H4.out.2.2.1 H.out.2.1) (rds_newS W5 [[44]] rfl) (fun k hk => by rw [hk, ← size_alloc1]; omega) (by simp)
            by_cases hn2 : Ps.nextB tk [[44]] s2.used = true
            · rw [hn2] at hnx2
              have HN2 := Lib.hid (And.intro hnx2 (And.intro hal2 hn2))
              clear hnx2 hal2 hn2
              go_wp2_with fail
              refine (HOK5.out).mono ?_
              rintro e W6 ⟨rfl, rfl⟩
              dsimp only
              go_wp2_with fail
              refine HN2.out.1.mono ?_
              rintro e W7 ⟨rfl, hb7⟩
              have H7 := Lib.hid (HN2.out.2.1.trans (hb7.mono HN2.out.2.1.size))
              have d0 := (H5.out.2.1.past H7.out).c0
              clear hb7
              dsimp only
              go_wp2_with fail
              refine (pleaf_calls (H5.out.2.1.past H7.out) (Pc.inv_room H4.out.2.2.1 H.out.2.1)).mono ?_
              rintro e W8 ⟨rfl, h8, g8⟩
              have hi8 := ((Pc.Og.nil H4.out.2.2.1).leaf H.out.1 HE2.out (Pc.next_kind HN2.out.2.2)).1.inv
              have g58 := (FrT.of H7.out).trans g8
              have H8 := Lib.hid (And.intro h8 (And.intro (H5.out.2.2.trans g58) (And.intro hi8 (ownsRow_frt H5.out.1 g58 (by decide)))))
              clear h8 g8 hi8 g58 d0
              dsimp only
              obtain ⟨⟨y, s3⟩, hy⟩ : ∃ r, Ps.leaf tk s2 = r := ⟨_, rfl⟩
              rw [hy] at H8 ⊢
              have HY := Lib.hid hy
              clear hy
              dsimp only at H8 ⊢
              go_wp2_with (at_builtin; refine wpList_append_row rfl _ _ 56 rfl W.heap.size 3 i0 (.int .i64 0) 1 8 Tryz.underlying56 Hi.out Hz0.out Hz1.out Hz2.out rfl (by decide) _ _ (intCells (ks ++ [x])) rfl (H8.out.2.2.2.alloc _) rfl (rds_new W8 [y] rfl) (ints_one _) (by have := HR.out.2.1; unfold maxLen; simp; omega) (by have := HR.out.2.1; simp; omega) (Nat.le_trans H8.out.2.1.size (Nat.le_of_lt (by rw [← size_alloc1]; omega))) ?_)
              intro a9 c9 W9 ho9 hg9 hat9
              have hal9 : Below W8.heap.size W8 (W8.alloc (.cells (intCells [y]).toArray 3)) := (Below.refl _ _).alloc (Nat.le_refl _) _
              have hp9 := (H8.out.1.past hal9).appended (H8.out.2.2.2.alloc _) HI.out.1.below.size hg9 (v3 := .slice a9 (ks.length + 1 + 1) c9) (by rw [← size_alloc1]; exact hat9)
              have hf9 : FrT PTs W W9 := (H8.out.2.1.trans (FrT.of hal9)).grown hg9 (fun k hk => (H8.out.2.2.2.lt k hk).1)
              have hks : intCells (ks ++ [x]) ++ intCells [y] = intCells (ks ++ [x, y]) := by simp [intCells]
              rw [hks] at ho9
              have H9 := Lib.hid (And.intro ho9 (And.intro hp9 hf9))
              clear ho9 hg9 hat9 hal9 hp9 hf9 hks
              go_wp2_with fail
              go_roundg (9 - (j + 1))
              case measure => have := HR.out.1; have := HJ.out; omega
              case rel =>
                have hgo := HR.out.2.2.2.2.2.1
                have hj := HJ.out
                obtain ⟨m, hm⟩ : ∃ m, 9 - j = m + 1 := ⟨8 - j, by omega⟩
                have e9 : 9 - (j + 1) = m := by omega
                rw [hm] at hgo
                unfold Ps.listGo at hgo
                rw [if_pos HE.out, HX.out] at hgo
                simp only at hgo
                rw [if_pos ⟨HE2.out, HN2.out.2.2⟩, HY.out] at hgo
                have q1 : (ks ++ [x, y]).length = ks.length + 1 + 1 := by simp
                refine ⟨ks ++ [x, y], a9, c9, j + 1, s3, by rw [q1], by go_num, by omega, by omega, rfl, by have := HR.out.2.1; simp; omega, by rw [q1]; exact H9.out.1, by rw [q1]; exact H9.out.2.1, H8.out.2.2.1, by rw [e9]; exact hgo, H9.out.2.2⟩
            · rw [Bool.not_eq_true] at hn2
              rw [hn2] at hnx2
              have HN2 := Lib.hid (And.intro hnx2 (And.intro hal2 hn2))
              clear hnx2 hal2 hn2
              go_wp2_with fail
              refine (HOK5.out).mono ?_
              rintro e W6 ⟨rfl, rfl⟩
              dsimp only
              go_wp2_with fail
              refine HN2.out.1.mono ?_
              rintro e W7 ⟨rfl, hb7⟩
              have H7 := Lib.hid (HN2.out.2.1.trans (hb7.mono HN2.out.2.1.size))
              clear hb7
              dsimp only
              go_wp2_with fail
              go_ret
              have hgo := HR.out.2.2.2.2.2.1
              have hj := HJ.out
              obtain ⟨m, hm⟩ : ∃ m, 9 - j = m + 1 := ⟨8 - j, by omega⟩
              rw [hm] at hgo
              unfold Ps.listGo at hgo
              rw [if_pos HE.out, HX.out] at hgo
              simp only at hgo
              rw [if_neg (by rw [HN2.out.2.2]; simp)] at hgo
              rw [← hgo]
              have q1 : (ks ++ [x]).length = ks.length + 1 := by simp
              exact ⟨_, rfl, by rw [q1]; exact ownsRow_below H5.out.1 H7.out, H5.out.2.1.past H7.out, H5.out.2.2.trans (FrT.of H7.out)⟩
          · rw [decide_eq_false he2] at hok5
            have HOK5 := Lib.hid hok5
            have HE2 := Lib.hid he2
            clear hok5 he2
            go_wp2_with fail
            refine (HOK5.out).mono ?_
            rintro e W6 ⟨rfl, rfl⟩
            dsimp only
            go_wp2_with fail
            go_ret
            have hgo := HR.out.2.2.2.2.2.1
            have hj := HJ.out
            obtain ⟨m, hm⟩ : ∃ m, 9 - j = m + 1 := ⟨8 - j, by omega⟩
            rw [hm] at hgo
            unfold Ps.listGo at hgo
            rw [if_pos HE.out, HX.out] at hgo
            simp only at hgo
            rw [if_neg (by simp [HE2.out])] at hgo
            rw [← hgo]
            have q1 : (ks ++ [x]).length = ks.length + 1 := by simp
            exact ⟨_, rfl, by rw [q1]; exact H5.out.1, H5.out.2.1, H5.out.2.2⟩
      · rw [decide_eq_false he] at hok
        have HOK := Lib.hid hok
        have HE := Lib.hid he
        clear hok he
        go_wp2_with fail
        refine (HOK.out).mono ?_
        rintro e W3 ⟨rfl, rfl⟩
        dsimp only
        go_wp2_with fail
        go_ret
        have hgo := HR.out.2.2.2.2.2.1
        rw [listGo_dead HE.out] at hgo
        rw [← hgo]
        exact ⟨_, rfl, HR.out.2.2.1, HR.out.2.2.2.1, HR.out.2.2.2.2.2.2⟩
end
end Go.Proofs.YtlejecaanllghaaGreatDoor
