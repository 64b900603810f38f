/- Contracts and plain laws, in one text. TreeRights: the walk of the law. | TreeRights: for every tree and every place the law returns true, and the tree reads as it did. Condition: the listed package-level variables are laid as the program's text lays them (the card ties them). -/
import Derived.Test.YtfoelgkkoopheaaDoorRigM6
import Derived.Deep.RegionHeld3
import Derived.Test.YtfoelgkkoopheaaDoorRigM4
/- TreeRights: the walk of the law. -/
namespace Go.Proofs.YtfoelgkkoopheaaDoor
open Go.RowKit

theorem spanAt_le (toks : List Tr.Tk) (a : Nat) : spanAt toks a ≤ (wholeOf toks).length := by
  unfold spanAt
  cases h : toks[a]? with
  | none => have := span_take_le toks a; simpa using this
  | some k =>
    have h1 := span_take h
    have h2 := span_take_le toks (a + 1)
    simp only
    omega
theorem text_at_len (toks : List Tr.Tk) (l : List Int) : (textAt toks l).length ≤ (wholeOf toks).length := by
  unfold textAt
  split
  · simp
  · have h1 := whole_clear_len
    have h2 := whole_part_len toks
    exact Nat.le_trans (h1 _) (h2 _ _)
theorem ref_room (t : Tr.T) (i : Nat) : 0 ≤ refAt t i ∧ refAt t i + ((textAt t.toks (Tr.leafs t.nodes i)).length : Int) ≤ 2 * ((wholeOf t.toks).length : Int) := by
  have h1 := text_at_len t.toks (Tr.leafs t.nodes i)
  unfold refAt
  generalize Tr.leafs t.nodes i = l at *
  cases l with
  | nil =>
    refine ⟨Int.le_refl _, ?_⟩
    simp only
    omega
  | cons a r =>
    have h2 := spanAt_le t.toks a.toNat
    simp only
    exact ⟨by omega, by omega⟩
set_option maxRecDepth 100000 in
set_option maxHeartbeats 4000000 in
theorem rights_calls {w : World} {P : Nat → Prop} {vt vn : Value} {t : Tr.T} (h : RdT w P vt vn t) (hP : ∀ k, P k → k < w.heap.size) (n : Int) :
    Calls Tryd.prog 6 #[.agg #[vt, vn], .int .i64 n] w fun e w' => e = .returned (.bool true) ∧ Below w.heap.size w w' := by
  obtain ⟨at_, ct, rfl⟩ := h.1.form
  obtain ⟨an, cn, rfl⟩ : ∃ a c, vn = .slice a t.nodes.length c := by
    obtain ⟨kvs, _, h2, _⟩ := h.2
    exact h2.form
  have HH := Lib.hid (And.intro h hP)
  have hb1 : Below w.heap.size w (w.alloc (.cells #[.slice at_ t.toks.length ct, .slice an t.nodes.length cn] 41)) := (Below.refl _ _).alloc (Nat.le_refl _) _
  have HB1 := Lib.hid hb1
  clear h hP hb1
  go_enter Tryd.func6, Tryd.ntmps6
  go_wp2_with fail
  refine (anchor_calls _).mono ?_
  rintro e w1 ⟨rfl, hb1⟩
  have hbx := chk_box hb1
  have c0 := cell_of_heap hbx 0 rfl
  have c1 := cell_of_heap hbx 1 rfl
  have l0 := cell_lt c0
  have HW1 := Lib.hid (And.intro (HB1.out.trans (hb1.mono HB1.out.size)) hbx)
  clear hb1 hbx
  dsimp only
  go_wp2_with fail
  refine (small_calls (HH.out.1.keep (Keeps.of HW1.out.1 HH.out.2)) (fun k hk => Nat.lt_of_lt_of_le (HH.out.2 k hk) HW1.out.1.size)).mono ?_
  rintro e w2 ⟨rfl, hb2⟩
  have hbx := anc_box HW1.out.2 hb2
  have HW2 := Lib.hid (And.intro (HW1.out.1.trans (hb2.mono HW1.out.1.size)) hbx)
  clear hb2 hbx c0 c1 l0
  cases hsm : smallT t
  · clear hsm
    dsimp only
    go_wp2_with fail
    go_ret
    exact ⟨rfl, HW2.out.1⟩
  · have HS := Lib.hid hsm
    have hs := small_facts hsm
    have hn' : (t.nodes.length : Int) ≤ 200 := by omega
    have ht' : (t.toks.length : Int) ≤ 100 := by omega
    have HL := Lib.hid hs
    clear hsm hs
    have c0 := cell_of_heap HW2.out.2 0 rfl
    have c1 := cell_of_heap HW2.out.2 1 rfl
    have l0 := cell_lt c0
    dsimp only
    go_wp2_with fail
    refine (made_calls (HH.out.1.keep (Keeps.of HW2.out.1 HH.out.2)) (fun k hk => Nat.lt_of_lt_of_le (HH.out.2 k hk) HW2.out.1.size) (by have := HL.out.1; omega) (by have := HL.out.2.1; omega)).mono ?_
    rintro e w3 ⟨vt', vn', rfl, hT3, hb3⟩
    obtain ⟨at', ct', rfl⟩ := hT3.1.form
    obtain ⟨an', cn', rfl⟩ : ∃ a c, vn' = .slice a t.nodes.length c := by
      obtain ⟨kvs, _, h2, _⟩ := hT3.2
      exact h2.form
    have hbx := anc_box HW2.out.2 hb3
    have hT3' := hT3.imp (Q := fun k => k < w3.heap.size) fun k hk => by
      rcases hk with hk | hk
      · exact Nat.lt_of_lt_of_le (Nat.lt_of_lt_of_le (HH.out.2 k hk) HW2.out.1.size) hb3.size
      · exact hk.2
    have HW3 := Lib.hid (And.intro (HW2.out.1.trans (hb3.mono HW2.out.1.size)) (And.intro hbx hT3'))
    clear c0 c1 l0 hb3 hbx hT3 hT3'
    obtain ⟨V, hV⟩ : ∃ V, w3.alloc (.cells #[.slice at' t.toks.length ct', .slice an' t.nodes.length cn'] 54) = V := ⟨_, rfl⟩
    have hv1 : Below w3.heap.size w3 V := by rw [← hV]; exact (Below.refl _ _).alloc (Nat.le_refl _) _
    have hvr : V.heap[w3.heap.size]? = some (.cells #[.slice at' t.toks.length ct', .slice an' t.nodes.length cn'] 54 (0, 0)) := by rw [← hV]; exact heap_alloc_new _ _
    have hvt := anc_box HW3.out.2.1 hv1
    have HV := Lib.hid (And.intro (HW3.out.1.trans (hv1.mono HW3.out.1.size)) (And.intro hvt (And.intro hvr (HW3.out.2.2.keep (Keeps.of hv1 fun k hk => hk)))))
    have c0 := cell_of_heap hvt 0 rfl
    have c1 := cell_of_heap hvt 1 rfl
    have l0 := cell_lt c0
    clear hv1 hvr hvt
    dsimp only
    go_wp2_with fail
    clear hV
    have hkk : ∀ n ∈ t.nodes, n.kids.length ≤ 1073741823 := fun n hn => by have := HL.out.2.2.1 n hn; omega
    refine (dump2_calls (HH.out.1.keep (Keeps.of HV.out.1 HH.out.2)) (fun k hk => Nat.lt_of_lt_of_le (HH.out.2 k hk) HV.out.1.size) (by have := HL.out.2.1; omega) (by have := HL.out.1; omega) hkk n (small_dumpOut HS.out n)).mono ?_
    rintro e w4 ⟨rfl, hb4⟩
    have H4 := Lib.hid (And.intro (HV.out.1.trans (hb4.mono HV.out.1.size)) (And.intro (anc_box HV.out.2.1 hb4) (And.intro (anc_box HV.out.2.2.1 hb4) hb4)))
    clear c0 c1 l0 hb4
    have c0 := cell_of_heap H4.out.2.1 0 rfl
    have c1 := cell_of_heap H4.out.2.1 1 rfl
    dsimp only
    go_wp2_with fail
    refine (text_calls (HH.out.1.keep (Keeps.of H4.out.1 HH.out.2)) (fun k hk => Nat.lt_of_lt_of_le (HH.out.2 k hk) H4.out.1.size) (by have := HL.out.2.1; omega) (by have := HL.out.1; omega) hkk n (by have := HL.out.2.2.2.2; omega)).mono ?_
    rintro e w5 ⟨rfl, hb5⟩
    have H5 := Lib.hid (And.intro (H4.out.1.trans (hb5.mono H4.out.1.size)) (And.intro (anc_box H4.out.2.1 hb5) (And.intro (anc_box H4.out.2.2.1 hb5) (H4.out.2.2.2.trans (hb5.mono H4.out.2.2.2.size)))))
    clear c0 c1 hb5
    have c0 := cell_of_heap H5.out.2.1 0 rfl
    have c1 := cell_of_heap H5.out.2.1 1 rfl
    dsimp only
    go_wp2_with fail
    refine (span_calls (HH.out.1.keep (Keeps.of H5.out.1 HH.out.2)) (fun k hk => Nat.lt_of_lt_of_le (HH.out.2 k hk) H5.out.1.size) (by have := HL.out.2.1; omega) (by have := HL.out.1; omega) hkk n (by have := HL.out.2.2.2.2; omega)).mono ?_
    rintro e w6 ⟨rfl, hb6⟩
    have H6 := Lib.hid (And.intro (H5.out.1.trans (hb6.mono H5.out.1.size)) (And.intro (anc_box H5.out.2.1 hb6) (And.intro (anc_box H5.out.2.2.1 hb6) (H5.out.2.2.2.trans (hb6.mono H5.out.2.2.2.size)))))
    clear c0 c1 hb6
    dsimp only
    go_wp2_with fail
    obtain ⟨Y, hY⟩ : ∃ Y, w6.alloc (.cells #[.int .i64 (SpanOut t n).1, .int .i64 (SpanOut t n).2] 57) = Y := ⟨_, rfl⟩
    have hy : Below w6.heap.size w6 Y := by rw [← hY]; exact (Below.refl _ _).alloc (Nat.le_refl _) _
    have hys : Y.heap[w6.heap.size]? = some (.cells #[.int .i64 (SpanOut t n).1, .int .i64 (SpanOut t n).2] 57 (0, 0)) := by rw [← hY]; exact heap_alloc_new _ _
    have H7 := Lib.hid (And.intro (H6.out.1.trans (hy.mono H6.out.1.size)) (And.intro (anc_box H6.out.2.1 hy) (And.intro (anc_box H6.out.2.2.1 hy) (And.intro hys (H6.out.2.2.2.trans (hy.mono H6.out.2.2.2.size))))))
    rw [hY]
    clear hY hy hys
    have c0 := cell_of_heap H7.out.2.1 0 rfl
    have c1 := cell_of_heap H7.out.2.1 1 rfl
    have c2 := cell_of_heap H7.out.2.2.1 0 rfl
    have c3 := cell_of_heap H7.out.2.2.1 1 rfl
    have l0 := cell_lt c0
    have l2 := cell_lt c2
    have hwr : IntKind.i64.wrap ((t.nodes.length : Int) - 1) = (t.nodes.length : Int) - 1 := IntWalk.i64_in _ (by omega)
    cases hr : Tr.right t
    · have hck : Tr.check t n = 10 := by unfold Tr.check; rw [if_pos hr]
      have hdo : DumpOut t n = [] := by unfold DumpOut; rw [hck, if_neg (by decide)]
      have hto : TextOut t n = [] := by unfold TextOut; rw [hck, if_neg (by decide)]
      have hso : SpanOut t n = (0, 0) := by unfold SpanOut; rw [hck, if_neg (by decide)]
      have hsc : SpanCode t n = 10 := by unfold SpanCode; rw [hck, if_neg (by decide)]
      have hss := cell_of_heap H7.out.2.2.2.1 0 rfl
      rw [hck, hdo, hto, hsc]
      have HRi : Hid (∀ W, Below Y.heap.size Y W → Calls Tryd.prog 19 #[.agg #[.slice at_ t.toks.length ct, .slice an t.nodes.length cn]] W fun e w' => e = .returned (.bool false) ∧ Below W.heap.size W w') := by
        refine Lib.hid fun W hW => ?_
        have hb := H7.out.1.trans (hW.mono H7.out.1.size)
        have := right_calls (HH.out.1.keep (Keeps.of hb HH.out.2)) (fun k hk => Nat.lt_of_lt_of_le (HH.out.2 k hk) hb.size) (by have := HL.out.2.1; omega) (by have := HL.out.1; omega) hkk
        rwa [hr] at this
      have HRr : Hid (∀ W, Below Y.heap.size Y W → Calls Tryd.prog 23 #[.agg #[.slice at' t.toks.length ct', .slice an' t.nodes.length cn']] W fun e w' => e = .returned (.bool false) ∧ Below W.heap.size W w') := by
        refine Lib.hid fun W hW => ?_
        have hb : Below V.heap.size V W := H7.out.2.2.2.2.trans (hW.mono H7.out.2.2.2.2.size)
        have hlt : ∀ k, k < w3.heap.size → k < V.heap.size := fun k hk => Nat.lt_trans hk (lt_heap HV.out.2.2.1)
        have := rright_calls (HV.out.2.2.2.keep (Keeps.of hb hlt)) (fun k hk => Nat.lt_of_lt_of_le (hlt k hk) hb.size) (by have := HL.out.2.1; omega) (by have := HL.out.1; omega) HL.out.2.2.1
        rwa [hr] at this
      have HRo : Hid (∀ W : World, Calls Tryd.prog 18 #[.agg #[.slice at_ t.toks.length ct, .slice an t.nodes.length cn]] W fun e w' => e = .returned (.int .i64 ((t.nodes.length : Int) - 1)) ∧ W.alloc (.cells #[.slice at_ t.toks.length ct, .slice an t.nodes.length cn] 41) = w') := Lib.hid fun W => root_len W _ _ _ _ (by have := HL.out.2.1; omega)
      go_region_held3 (fun w' => w'.cell? ⟨w.heap.size, 0, none⟩ = some (.slice at_ t.toks.length ct) ∧ w'.cell? ⟨w.heap.size, 1, none⟩ = some (.slice an t.nodes.length cn) ∧ w'.cell? ⟨w3.heap.size, 0, none⟩ = some (.slice at' t.toks.length ct') ∧ w'.cell? ⟨w3.heap.size, 1, none⟩ = some (.slice an' t.nodes.length cn')) (first | exact ⟨c0, c1, c2, c3⟩ | exact ⟨g0, g1, g2, g3⟩ | exact ⟨f0, f1, f2, f3⟩ | go_keep)
        (first
          | (go_at_call 19; refine (HRi.out _ (Below.refl _ _).drew).mono ?_; rintro e w8 ⟨rfl, hb8⟩; have f0 := (hb8.cell (p := ⟨w.heap.size, 0, none⟩) l0).trans c0; have f1 := (hb8.cell (p := ⟨w.heap.size, 1, none⟩) l0).trans c1; have f2 := (hb8.cell (p := ⟨w3.heap.size, 0, none⟩) l2).trans c2; have f3 := (hb8.cell (p := ⟨w3.heap.size, 1, none⟩) l2).trans c3; have H8 := Lib.hid ((Below.drew (Below.refl _ _)).trans hb8); clear hb8)
          | (go_at_call 23; refine (HRr.out _ H8.out).mono ?_; rintro e w9 ⟨rfl, hb9⟩; have m0 := Nat.lt_of_lt_of_le l0 H8.out.size; have m2 := Nat.lt_of_lt_of_le l2 H8.out.size; have g0 := (hb9.cell (p := ⟨w.heap.size, 0, none⟩) m0).trans f0; have g1 := (hb9.cell (p := ⟨w.heap.size, 1, none⟩) m0).trans f1; have g2 := (hb9.cell (p := ⟨w3.heap.size, 0, none⟩) m2).trans f2; have g3 := (hb9.cell (p := ⟨w3.heap.size, 1, none⟩) m2).trans f3; have H9 := Lib.hid (H8.out.trans (hb9.mono H8.out.size)); clear hb9)
          | (go_at_call 18; refine (HRo.out _).mono ?_; rintro e w10 ⟨rfl, rfl⟩))
      go_wp2_with fail
      refine (HRr.out _ (H9.out.alloc H9.out.size _)).mono ?_
      rintro e w11 ⟨rfl, hb11⟩
      have H11 := Lib.hid hb11
      have hsp := anc_box (anc_box (anc_box H7.out.2.2.2.1 H9.out) ((Below.refl _ _).alloc (Nat.le_refl _) _)) hb11
      rw [hso] at hsp
      have s0 := cell_of_heap hsp 0 rfl
      have s1 := cell_of_heap hsp 1 rfl
      clear hb11 hsp
      dsimp only
      go_wp2_with fail
      go_ret
      exact ⟨rfl, H7.out.1.trans (((H9.out.alloc H9.out.size _).trans (H11.out.mono (H9.out.alloc H9.out.size _).size)).mono H7.out.1.size)⟩
    · by_cases hrg : n < 0 ∨ (t.nodes.length : Int) ≤ n
      · have hck : Tr.check t n = 12 := by unfold Tr.check; rw [if_neg (by simp [hr]), if_pos hrg]
        have hdo : DumpOut t n = [] := by unfold DumpOut; rw [hck, if_neg (by decide)]
        have hto : TextOut t n = [] := by unfold TextOut; rw [hck, if_neg (by decide)]
        have hso : SpanOut t n = (0, 0) := by unfold SpanOut; rw [hck, if_neg (by decide)]
        have hsc : SpanCode t n = 12 := by unfold SpanCode; rw [hck, if_neg (by decide)]
        rw [hck, hdo, hto, hsc]
        have HRi : Hid (∀ W, Below Y.heap.size Y W → Calls Tryd.prog 19 #[.agg #[.slice at_ t.toks.length ct, .slice an t.nodes.length cn]] W fun e w' => e = .returned (.bool true) ∧ Below W.heap.size W w') := by
          refine Lib.hid fun W hW => ?_
          have hb := H7.out.1.trans (hW.mono H7.out.1.size)
          have := right_calls (HH.out.1.keep (Keeps.of hb HH.out.2)) (fun k hk => Nat.lt_of_lt_of_le (HH.out.2 k hk) hb.size) (by have := HL.out.2.1; omega) (by have := HL.out.1; omega) hkk
          rwa [hr] at this
        have HRr : Hid (∀ W, Below Y.heap.size Y W → Calls Tryd.prog 23 #[.agg #[.slice at' t.toks.length ct', .slice an' t.nodes.length cn']] W fun e w' => e = .returned (.bool true) ∧ Below W.heap.size W w') := by
          refine Lib.hid fun W hW => ?_
          have hb : Below V.heap.size V W := H7.out.2.2.2.2.trans (hW.mono H7.out.2.2.2.2.size)
          have hlt : ∀ k, k < w3.heap.size → k < V.heap.size := fun k hk => Nat.lt_trans hk (lt_heap HV.out.2.2.1)
          have := rright_calls (HV.out.2.2.2.keep (Keeps.of hb hlt)) (fun k hk => Nat.lt_of_lt_of_le (hlt k hk) hb.size) (by have := HL.out.2.1; omega) (by have := HL.out.1; omega) HL.out.2.2.1
          rwa [hr] at this
        have HRo : Hid (∀ W : World, Calls Tryd.prog 18 #[.agg #[.slice at_ t.toks.length ct, .slice an t.nodes.length cn]] W fun e w' => e = .returned (.int .i64 ((t.nodes.length : Int) - 1)) ∧ W.alloc (.cells #[.slice at_ t.toks.length ct, .slice an t.nodes.length cn] 41) = w') := Lib.hid fun W => root_len W _ _ _ _ (by have := HL.out.2.1; omega)
        go_region_held3 (fun w' => w'.cell? ⟨w.heap.size, 0, none⟩ = some (.slice at_ t.toks.length ct) ∧ w'.cell? ⟨w.heap.size, 1, none⟩ = some (.slice an t.nodes.length cn) ∧ w'.cell? ⟨w3.heap.size, 0, none⟩ = some (.slice at' t.toks.length ct') ∧ w'.cell? ⟨w3.heap.size, 1, none⟩ = some (.slice an' t.nodes.length cn')) (first | exact ⟨c0, c1, c2, c3⟩ | exact ⟨g0, g1, g2, g3⟩ | exact ⟨f0, f1, f2, f3⟩ | go_keep)
          (first
            | (go_at_call 19; refine (HRi.out _ (Below.refl _ _).drew).mono ?_; rintro e w8 ⟨rfl, hb8⟩; have f0 := (hb8.cell (p := ⟨w.heap.size, 0, none⟩) l0).trans c0; have f1 := (hb8.cell (p := ⟨w.heap.size, 1, none⟩) l0).trans c1; have f2 := (hb8.cell (p := ⟨w3.heap.size, 0, none⟩) l2).trans c2; have f3 := (hb8.cell (p := ⟨w3.heap.size, 1, none⟩) l2).trans c3; have H8 := Lib.hid ((Below.drew (Below.refl _ _)).trans hb8); clear hb8)
            | (go_at_call 23; refine (HRr.out _ H8.out).mono ?_; rintro e w9 ⟨rfl, hb9⟩; have m0 := Nat.lt_of_lt_of_le l0 H8.out.size; have m2 := Nat.lt_of_lt_of_le l2 H8.out.size; have g0 := (hb9.cell (p := ⟨w.heap.size, 0, none⟩) m0).trans f0; have g1 := (hb9.cell (p := ⟨w.heap.size, 1, none⟩) m0).trans f1; have g2 := (hb9.cell (p := ⟨w3.heap.size, 0, none⟩) m2).trans f2; have g3 := (hb9.cell (p := ⟨w3.heap.size, 1, none⟩) m2).trans f3; have H9 := Lib.hid (H8.out.trans (hb9.mono H8.out.size)); clear hb9)
            | (go_at_call 18; refine (HRo.out _).mono ?_; rintro e w10 ⟨rfl, rfl⟩))
        go_wp2_with fail
        refine (HRr.out _ (H9.out.alloc H9.out.size _)).mono ?_
        rintro e w11 ⟨rfl, hb11⟩
        have H11 := Lib.hid hb11
        have hsp := anc_box (anc_box (anc_box H7.out.2.2.2.1 H9.out) ((Below.refl _ _).alloc (Nat.le_refl _) _)) hb11
        rw [hso] at hsp
        have s0 := cell_of_heap hsp 0 rfl
        have s1 := cell_of_heap hsp 1 rfl
        clear hb11 hsp
        dsimp only
        by_cases hn0 : n < 0
        · have hn1 : decide (n < 0) = true := decide_eq_true hn0
          have u1 := cell_of_heap (anc_box (anc_box (anc_box H7.out.2.1 H9.out) ((Below.refl _ _).alloc (Nat.le_refl _) _)) H11.out) 1 rfl
          clear hn0 hrg
          go_wp2_with fail
          go_ret
          exact ⟨rfl, H7.out.1.trans (((H9.out.alloc H9.out.size _).trans (H11.out.mono (H9.out.alloc H9.out.size _).size)).mono H7.out.1.size)⟩
        · have hn1 : decide (n < 0) = false := decide_eq_false hn0
          have hn2 : decide ((t.nodes.length : Int) ≤ n) = true := decide_eq_true (by omega)
          have u1 := cell_of_heap (anc_box (anc_box (anc_box H7.out.2.1 H9.out) ((Below.refl _ _).alloc (Nat.le_refl _) _)) H11.out) 1 rfl
          clear hn0 hrg
          go_wp2_with fail
          go_ret
          exact ⟨rfl, H7.out.1.trans (((H9.out.alloc H9.out.size _).trans (H11.out.mono (H9.out.alloc H9.out.size _).size)).mono H7.out.1.size)⟩
      · obtain ⟨i, rfl⟩ : ∃ i : Nat, n = i := ⟨n.toNat, by omega⟩
        have hil : i < t.nodes.length := by omega
        have hil' : (i : Int) < (t.nodes.length : Int) := by omega
        have hck : Tr.check t (i : Int) = 0 := by unfold Tr.check; rw [if_neg (by simp [hr]), if_neg hrg]
        have hdo : DumpOut t (i : Int) = Tr.dump t i := by unfold DumpOut; rw [hck, if_pos rfl, Int.toNat_natCast]
        have hto : TextOut t (i : Int) = textAt t.toks (Tr.leafs t.nodes i) := by unfold TextOut; rw [hck, if_pos rfl, Int.toNat_natCast]
        have hso : SpanOut t (i : Int) = if textAt t.toks (Tr.leafs t.nodes i) = [] then (0, 0) else (refAt t i, refAt t i + (textAt t.toks (Tr.leafs t.nodes i)).length) := by
          unfold SpanOut refAt
          rw [hck, if_pos rfl, Int.toNat_natCast, hto]
          cases Tr.leafs t.nodes i with
          | nil => simp [textAt]
          | cons x r => simp only
        have hsc : SpanCode t (i : Int) = if textAt t.toks (Tr.leafs t.nodes i) = [] then 14 else 0 := by unfold SpanCode; rw [hck, if_pos rfl, hto]
        have HDP := Lib.hid (small_dump HS.out hr hil)
        have HRT := Lib.hid hr
        obtain ⟨D, hD⟩ : ∃ D, Tr.dump t i = D := ⟨_, rfl⟩
        obtain ⟨X, hX⟩ : ∃ X, textAt t.toks (Tr.leafs t.nodes i) = X := ⟨_, rfl⟩
        obtain ⟨A, hA⟩ : ∃ A, refAt t i = A := ⟨_, rfl⟩
        have HDX := Lib.hid (And.intro hD (And.intro hX hA))
        rw [hX, hA] at hso
        rw [hX] at hsc hto
        rw [hD] at hdo
        clear hD hX hA
        rw [hck, hdo, hto]
        by_cases hXe : X = []
        · rw [if_pos hXe] at hso hsc
          rw [hsc]
          subst hXe
          have HRi : Hid (∀ W, Below Y.heap.size Y W → Calls Tryd.prog 19 #[.agg #[.slice at_ t.toks.length ct, .slice an t.nodes.length cn]] W fun e w' => e = .returned (.bool true) ∧ Below W.heap.size W w') := by
            refine Lib.hid fun W hW => ?_
            have hb := H7.out.1.trans (hW.mono H7.out.1.size)
            have := right_calls (HH.out.1.keep (Keeps.of hb HH.out.2)) (fun k hk => Nat.lt_of_lt_of_le (HH.out.2 k hk) hb.size) (by have := HL.out.2.1; omega) (by have := HL.out.1; omega) hkk
            rwa [hr] at this
          have HRr : Hid (∀ W, Below Y.heap.size Y W → Calls Tryd.prog 23 #[.agg #[.slice at' t.toks.length ct', .slice an' t.nodes.length cn']] W fun e w' => e = .returned (.bool true) ∧ Below W.heap.size W w') := by
            refine Lib.hid fun W hW => ?_
            have hb : Below V.heap.size V W := H7.out.2.2.2.2.trans (hW.mono H7.out.2.2.2.2.size)
            have hlt : ∀ k, k < w3.heap.size → k < V.heap.size := fun k hk => Nat.lt_trans hk (lt_heap HV.out.2.2.1)
            have := rright_calls (HV.out.2.2.2.keep (Keeps.of hb hlt)) (fun k hk => Nat.lt_of_lt_of_le (hlt k hk) hb.size) (by have := HL.out.2.1; omega) (by have := HL.out.1; omega) HL.out.2.2.1
            rwa [hr] at this
          have HRo : Hid (∀ W : World, Calls Tryd.prog 18 #[.agg #[.slice at_ t.toks.length ct, .slice an t.nodes.length cn]] W fun e w' => e = .returned (.int .i64 ((t.nodes.length : Int) - 1)) ∧ W.alloc (.cells #[.slice at_ t.toks.length ct, .slice an t.nodes.length cn] 41) = w') := Lib.hid fun W => root_len W _ _ _ _ (by have := HL.out.2.1; omega)
          go_region_held3 (fun w' => w'.cell? ⟨w.heap.size, 0, none⟩ = some (.slice at_ t.toks.length ct) ∧ w'.cell? ⟨w.heap.size, 1, none⟩ = some (.slice an t.nodes.length cn) ∧ w'.cell? ⟨w3.heap.size, 0, none⟩ = some (.slice at' t.toks.length ct') ∧ w'.cell? ⟨w3.heap.size, 1, none⟩ = some (.slice an' t.nodes.length cn')) (first | exact ⟨c0, c1, c2, c3⟩ | exact ⟨g0, g1, g2, g3⟩ | exact ⟨f0, f1, f2, f3⟩ | go_keep)
            (first
              | (go_at_call 19; refine (HRi.out _ (Below.refl _ _).drew).mono ?_; rintro e w8 ⟨rfl, hb8⟩; have f0 := (hb8.cell (p := ⟨w.heap.size, 0, none⟩) l0).trans c0; have f1 := (hb8.cell (p := ⟨w.heap.size, 1, none⟩) l0).trans c1; have f2 := (hb8.cell (p := ⟨w3.heap.size, 0, none⟩) l2).trans c2; have f3 := (hb8.cell (p := ⟨w3.heap.size, 1, none⟩) l2).trans c3; have H8 := Lib.hid ((Below.drew (Below.refl _ _)).trans hb8); clear hb8)
              | (go_at_call 23; refine (HRr.out _ H8.out).mono ?_; rintro e w9 ⟨rfl, hb9⟩; have m0 := Nat.lt_of_lt_of_le l0 H8.out.size; have m2 := Nat.lt_of_lt_of_le l2 H8.out.size; have g0 := (hb9.cell (p := ⟨w.heap.size, 0, none⟩) m0).trans f0; have g1 := (hb9.cell (p := ⟨w.heap.size, 1, none⟩) m0).trans f1; have g2 := (hb9.cell (p := ⟨w3.heap.size, 0, none⟩) m2).trans f2; have g3 := (hb9.cell (p := ⟨w3.heap.size, 1, none⟩) m2).trans f3; have H9 := Lib.hid (H8.out.trans (hb9.mono H8.out.size)); clear hb9)
              | (go_at_call 18; refine (HRo.out _).mono ?_; rintro e w10 ⟨rfl, rfl⟩))
          go_wp2_with fail
          refine (HRr.out _ (H9.out.alloc H9.out.size _)).mono ?_
          rintro e w11 ⟨rfl, hb11⟩
          have H11 := Lib.hid hb11
          have hsp := anc_box (anc_box (anc_box H7.out.2.2.2.1 H9.out) ((Below.refl _ _).alloc (Nat.le_refl _) _)) hb11
          rw [hso] at hsp
          have s0 := cell_of_heap hsp 0 rfl
          have s1 := cell_of_heap hsp 1 rfl
          clear hb11 hsp
          dsimp only
          have hn1 : decide ((i : Int) < 0) = false := decide_eq_false (by omega)
          have hn2 : decide ((t.nodes.length : Int) ≤ (i : Int)) = false := decide_eq_false (by omega)
          have hn3 : decide (t.nodes.length ≤ i) = false := decide_eq_false (by omega)
          have hbz : Below Y.heap.size Y w11 := (H9.out.alloc H9.out.size _).trans (H11.out.mono (H9.out.alloc H9.out.size _).size)
          have HZ := Lib.hid hbz
          have u1 := cell_of_heap (anc_box H7.out.2.1 hbz) 1 rfl
          have r0 := cell_of_heap (anc_box H7.out.2.2.1 hbz) 0 rfl
          have r1 := cell_of_heap (anc_box H7.out.2.2.1 hbz) 1 rfl
          have hVW : Below V.heap.size V w11 := H7.out.2.2.2.2.trans (hbz.mono H7.out.2.2.2.2.size)
          have hlt : ∀ k, k < w3.heap.size → k < V.heap.size := fun k hk => Nat.lt_trans hk (lt_heap HV.out.2.2.1)
          have htc := rtext_calls (HV.out.2.2.2.keep (Keeps.of hVW hlt)) (fun k hk => Nat.lt_of_lt_of_le (hlt k hk) hVW.size) (by have := HL.out.2.1; omega) (by have := HL.out.1; omega) HL.out.2.2.1 (by have := HL.out.2.2.2.2; omega) HRT.out hil
          rw [HDX.out.2.1, HDX.out.2.2] at htc
          have HTC := Lib.hid htc
          clear hbz hVW hlt htc
          go_wp2_with fail
          refine HTC.out.mono ?_
          rintro e w12 ⟨rfl, hb12⟩
          have hbz2 := HZ.out.trans (hb12.mono HZ.out.size)
          have hVW : Below V.heap.size V w12 := H7.out.2.2.2.2.trans (hbz2.mono H7.out.2.2.2.2.size)
          have hlt : ∀ k, k < w3.heap.size → k < V.heap.size := fun k hk => Nat.lt_trans hk (lt_heap HV.out.2.2.1)
          have hdc := rdump_calls (right_formedTo HRT.out) (by have := HL.out.2.1; omega) (by have := HL.out.1; omega) (fun n hn => by have := HL.out.2.2.1 n hn; omega) (fun j hj => by have := small_dump HS.out HRT.out hj; omega) i hil w12 (HV.out.2.2.2.keep (Keeps.of hVW hlt)) (fun k hk => Nat.lt_of_lt_of_le (hlt k hk) hVW.size)
          rw [HDX.out.1] at hdc
          have HDC := Lib.hid hdc
          have H12 := Lib.hid hbz2
          have HB12 := Lib.hid hb12
          have hsp := anc_box (anc_box (anc_box (anc_box H7.out.2.2.2.1 H9.out) ((Below.refl _ _).alloc (Nat.le_refl _) _)) H11.out) hb12
          rw [hso] at hsp
          have s0 := cell_of_heap hsp 0 rfl
          have s1 := cell_of_heap hsp 1 rfl
          have r0 := cell_of_heap (anc_box H7.out.2.2.1 hbz2) 0 rfl
          have r1 := cell_of_heap (anc_box H7.out.2.2.1 hbz2) 1 rfl
          clear hb12 hbz2 hVW hlt hdc hsp
          dsimp only
          go_wp2_with fail
          refine HDC.out.mono ?_
          rintro e w13 ⟨rfl, hb13⟩
          have hsp := anc_box (anc_box (anc_box (anc_box (anc_box H7.out.2.2.2.1 H9.out) ((Below.refl _ _).alloc (Nat.le_refl _) _)) H11.out) (HB12.out)) hb13
          rw [hso] at hsp
          have s0 := cell_of_heap hsp 0 rfl
          have s1 := cell_of_heap hsp 1 rfl
          have HZ3 := Lib.hid (H12.out.trans (hb13.mono H12.out.size))
          clear hb13 hsp
          dsimp only
          go_wp2_with fail
          go_ret
          exact ⟨rfl, H7.out.1.trans (HZ3.out.mono H7.out.1.size)⟩
        · rw [if_neg hXe] at hso hsc
          rw [hsc]
          have HRi : Hid (∀ W, Below Y.heap.size Y W → Calls Tryd.prog 19 #[.agg #[.slice at_ t.toks.length ct, .slice an t.nodes.length cn]] W fun e w' => e = .returned (.bool true) ∧ Below W.heap.size W w') := by
            refine Lib.hid fun W hW => ?_
            have hb := H7.out.1.trans (hW.mono H7.out.1.size)
            have := right_calls (HH.out.1.keep (Keeps.of hb HH.out.2)) (fun k hk => Nat.lt_of_lt_of_le (HH.out.2 k hk) hb.size) (by have := HL.out.2.1; omega) (by have := HL.out.1; omega) hkk
            rwa [hr] at this
          have HRr : Hid (∀ W, Below Y.heap.size Y W → Calls Tryd.prog 23 #[.agg #[.slice at' t.toks.length ct', .slice an' t.nodes.length cn']] W fun e w' => e = .returned (.bool true) ∧ Below W.heap.size W w') := by
            refine Lib.hid fun W hW => ?_
            have hb : Below V.heap.size V W := H7.out.2.2.2.2.trans (hW.mono H7.out.2.2.2.2.size)
            have hlt : ∀ k, k < w3.heap.size → k < V.heap.size := fun k hk => Nat.lt_trans hk (lt_heap HV.out.2.2.1)
            have := rright_calls (HV.out.2.2.2.keep (Keeps.of hb hlt)) (fun k hk => Nat.lt_of_lt_of_le (hlt k hk) hb.size) (by have := HL.out.2.1; omega) (by have := HL.out.1; omega) HL.out.2.2.1
            rwa [hr] at this
          have HRo : Hid (∀ W : World, Calls Tryd.prog 18 #[.agg #[.slice at_ t.toks.length ct, .slice an t.nodes.length cn]] W fun e w' => e = .returned (.int .i64 ((t.nodes.length : Int) - 1)) ∧ W.alloc (.cells #[.slice at_ t.toks.length ct, .slice an t.nodes.length cn] 41) = w') := Lib.hid fun W => root_len W _ _ _ _ (by have := HL.out.2.1; omega)
          go_region_held3 (fun w' => w'.cell? ⟨w.heap.size, 0, none⟩ = some (.slice at_ t.toks.length ct) ∧ w'.cell? ⟨w.heap.size, 1, none⟩ = some (.slice an t.nodes.length cn) ∧ w'.cell? ⟨w3.heap.size, 0, none⟩ = some (.slice at' t.toks.length ct') ∧ w'.cell? ⟨w3.heap.size, 1, none⟩ = some (.slice an' t.nodes.length cn')) (first | exact ⟨c0, c1, c2, c3⟩ | exact ⟨g0, g1, g2, g3⟩ | exact ⟨f0, f1, f2, f3⟩ | go_keep)
            (first
              | (go_at_call 19; refine (HRi.out _ (Below.refl _ _).drew).mono ?_; rintro e w8 ⟨rfl, hb8⟩; have f0 := (hb8.cell (p := ⟨w.heap.size, 0, none⟩) l0).trans c0; have f1 := (hb8.cell (p := ⟨w.heap.size, 1, none⟩) l0).trans c1; have f2 := (hb8.cell (p := ⟨w3.heap.size, 0, none⟩) l2).trans c2; have f3 := (hb8.cell (p := ⟨w3.heap.size, 1, none⟩) l2).trans c3; have H8 := Lib.hid ((Below.drew (Below.refl _ _)).trans hb8); clear hb8)
              | (go_at_call 23; refine (HRr.out _ H8.out).mono ?_; rintro e w9 ⟨rfl, hb9⟩; have m0 := Nat.lt_of_lt_of_le l0 H8.out.size; have m2 := Nat.lt_of_lt_of_le l2 H8.out.size; have g0 := (hb9.cell (p := ⟨w.heap.size, 0, none⟩) m0).trans f0; have g1 := (hb9.cell (p := ⟨w.heap.size, 1, none⟩) m0).trans f1; have g2 := (hb9.cell (p := ⟨w3.heap.size, 0, none⟩) m2).trans f2; have g3 := (hb9.cell (p := ⟨w3.heap.size, 1, none⟩) m2).trans f3; have H9 := Lib.hid (H8.out.trans (hb9.mono H8.out.size)); clear hb9)
              | (go_at_call 18; refine (HRo.out _).mono ?_; rintro e w10 ⟨rfl, rfl⟩))
          go_wp2_with fail
          refine (HRr.out _ (H9.out.alloc H9.out.size _)).mono ?_
          rintro e w11 ⟨rfl, hb11⟩
          have H11 := Lib.hid hb11
          have hsp := anc_box (anc_box (anc_box H7.out.2.2.2.1 H9.out) ((Below.refl _ _).alloc (Nat.le_refl _) _)) hb11
          rw [hso] at hsp
          have s0 := cell_of_heap hsp 0 rfl
          have s1 := cell_of_heap hsp 1 rfl
          clear hb11 hsp
          dsimp only
          have hAX := ref_room t i
          rw [HDX.out.2.1, HDX.out.2.2] at hAX
          have hws := HL.out.2.2.2.2
          have ha0 : 0 ≤ A := hAX.1
          have ha1 : A + (X.length : Int) ≤ 40000 := by have := hAX.2; omega
          have hwA : IntKind.i64.wrap (A + (X.length : Int)) = A + (X.length : Int) := IntWalk.i64_in _ (by omega)
          have hxe : X.isEmpty = false := by cases X with | nil => exact absurd rfl hXe | cons _ _ => rfl
          clear hAX hws hXe
          have hn1 : decide ((i : Int) < 0) = false := decide_eq_false (by omega)
          have hn2 : decide ((t.nodes.length : Int) ≤ (i : Int)) = false := decide_eq_false (by omega)
          have hn3 : decide (t.nodes.length ≤ i) = false := decide_eq_false (by omega)
          have hbz : Below Y.heap.size Y w11 := (H9.out.alloc H9.out.size _).trans (H11.out.mono (H9.out.alloc H9.out.size _).size)
          have HZ := Lib.hid hbz
          have u1 := cell_of_heap (anc_box H7.out.2.1 hbz) 1 rfl
          have r0 := cell_of_heap (anc_box H7.out.2.2.1 hbz) 0 rfl
          have r1 := cell_of_heap (anc_box H7.out.2.2.1 hbz) 1 rfl
          have hVW : Below V.heap.size V w11 := H7.out.2.2.2.2.trans (hbz.mono H7.out.2.2.2.2.size)
          have hlt : ∀ k, k < w3.heap.size → k < V.heap.size := fun k hk => Nat.lt_trans hk (lt_heap HV.out.2.2.1)
          have htc := rtext_calls (HV.out.2.2.2.keep (Keeps.of hVW hlt)) (fun k hk => Nat.lt_of_lt_of_le (hlt k hk) hVW.size) (by have := HL.out.2.1; omega) (by have := HL.out.1; omega) HL.out.2.2.1 (by have := HL.out.2.2.2.2; omega) HRT.out hil
          rw [HDX.out.2.1, HDX.out.2.2] at htc
          have HTC := Lib.hid htc
          clear hbz hVW hlt htc
          go_wp2_with fail
          refine HTC.out.mono ?_
          rintro e w12 ⟨rfl, hb12⟩
          have hbz2 := HZ.out.trans (hb12.mono HZ.out.size)
          have hVW : Below V.heap.size V w12 := H7.out.2.2.2.2.trans (hbz2.mono H7.out.2.2.2.2.size)
          have hlt : ∀ k, k < w3.heap.size → k < V.heap.size := fun k hk => Nat.lt_trans hk (lt_heap HV.out.2.2.1)
          have hdc := rdump_calls (right_formedTo HRT.out) (by have := HL.out.2.1; omega) (by have := HL.out.1; omega) (fun n hn => by have := HL.out.2.2.1 n hn; omega) (fun j hj => by have := small_dump HS.out HRT.out hj; omega) i hil w12 (HV.out.2.2.2.keep (Keeps.of hVW hlt)) (fun k hk => Nat.lt_of_lt_of_le (hlt k hk) hVW.size)
          rw [HDX.out.1] at hdc
          have HDC := Lib.hid hdc
          have H12 := Lib.hid hbz2
          have HB12 := Lib.hid hb12
          have hsp := anc_box (anc_box (anc_box (anc_box H7.out.2.2.2.1 H9.out) ((Below.refl _ _).alloc (Nat.le_refl _) _)) H11.out) hb12
          rw [hso] at hsp
          have s0 := cell_of_heap hsp 0 rfl
          have s1 := cell_of_heap hsp 1 rfl
          have r0 := cell_of_heap (anc_box H7.out.2.2.1 hbz2) 0 rfl
          have r1 := cell_of_heap (anc_box H7.out.2.2.1 hbz2) 1 rfl
          clear hb12 hbz2 hVW hlt hdc hsp
          dsimp only
          go_wp2_with fail
          refine HDC.out.mono ?_
          rintro e w13 ⟨rfl, hb13⟩
          have hsp := anc_box (anc_box (anc_box (anc_box (anc_box H7.out.2.2.2.1 H9.out) ((Below.refl _ _).alloc (Nat.le_refl _) _)) H11.out) (HB12.out)) hb13
          rw [hso] at hsp
          have s0 := cell_of_heap hsp 0 rfl
          have s1 := cell_of_heap hsp 1 rfl
          have HZ3 := Lib.hid (H12.out.trans (hb13.mono H12.out.size))
          clear hb13 hsp
          dsimp only
          go_wp2_with fail
          go_ret
          exact ⟨rfl, H7.out.1.trans (HZ3.out.mono H7.out.1.size)⟩
end Go.Proofs.YtfoelgkkoopheaaDoor
/- TreeRights: for every tree and every place the law returns true, and the tree reads as it did. Condition: the listed package-level variables are laid as the program's text lays them (the card ties them). -/
namespace Go.Proofs.YtfoelgkkoopheaaDoor
open Go.ChangeShapes Go.WideShapes Go.ChangeAt Go.RowKit Go.Deep

set_option maxRecDepth 100000 in
theorem rights_law {H : Type} {enc : TypeId × Value → H} (W : World) (args : Array Value) (ds : List (DataW H)) :
    LawWalk enc Tryd.prog 6 Tryd.f6 W args ds := by
  intro base hval p hA hlt
  have hA' : DataW.TrodAll enc Tryd.prog W 0 (fun _ => true) true Tryd.f6.params.toList args.toList ds p := hA
  rw [Tryd.params6] at hA' hval
  obtain ⟨v0, v1, d0, d1, p0, p1, h0, h1, hargs, hds, hp⟩ := trodAll_two' hA'
  have h2 := hval 0 41 v0 rfl (by rw [hargs]; rfl)
  have h3 := hval 1 3 v1 rfl (by rw [hargs]; rfl)
  obtain ⟨vt, vn, t, rfl, ht⟩ := open_tree h2 h0
  obtain ⟨kind, rfl, _⟩ := open_int Tryd.underlying3 h3 h1
  rw [hargs]
  exact rights_calls ht (fun k hk => hk) kind

set_option maxRecDepth 100000 in
theorem rights_lifted (os : Os) (started : os.Started) (H : Type) (enc : TypeId × Value → H) :
    ReturnsInHanded {} Tryd.checked os 6 .any (fun w args => (Rows.treeRightsSpec.pre enc Tryd.prog Tryd.f6 Rows.treeRightsRow.domain false w args ∧ laidMetH Tryd.prog theLaid w) ∧ sizedMet enc Tryd.prog Tryd.f6 (OpenSpec.ofChange Rows.treeRightsSpec) false w args)
      (Rows.treeRightsSpec.post enc Tryd.prog Tryd.f6 false true false false) := by
  refine returnsInHanded_of_change_and (C := Tryd.checked) (X := fun w _ => laidMetH Tryd.prog theLaid w) (fun _ _ _ hh h => h.of_heap hh) own started (by kernel_rfl) Tryd.func6
    (ChangeSpec.witness_shaped (enc := enc) (C := Tryd.checked) (os := os) (X := fun w _ => laidMetH Tryd.prog theLaid w) false (World.laidAll Tryd.prog os theLaid) #[.agg #[.slice none 0 0, .slice none 0 0], .int .i64 0] 8 (World.laidAll_os _ _ _)
      (World.shaped_of_ZipB (by kernel_rfl) (by kernel_rfl)) (by kernel_rfl) (by kernel_rfl) (by kernel_rfl) (by rw [laid_plain]; exact laid_met os _)) ?_
  intro W base args ds gs before hval hW _ _ _ _
  have hA := hW
  obtain ⟨p, q, hA, _⟩ := hA
  have hA' : DataW.TrodAll enc Tryd.prog W 0 (fun _ => true) true Tryd.f6.params.toList args.toList ds p := hA
  rw [Tryd.params6] at hA'
  obtain ⟨v0, v1, d0, d1, p0, p1, h0, h1, hargs, hds, hp⟩ := trodAll_two' hA'
  subst hds
  exact law_contract (s := Rows.treeRightsSpec) laidOut (by kernel_rfl) rfl Tryd.underlying4 rfl ⟨rfl, rfl, rfl⟩ hval hW (rights_law W _ _)

theorem rights_row : Rows.TreeRightsSaid :=
  OpenClaim.holds_of_wide 6 Tryd.f6 rfl rfl rfl rfl rfl rfl rfl ⟨rfl, rfl, rfl, rfl, rfl⟩ rfl rfl rfl rfl rfl (by kernel_rfl) Tryd.func6 (by kernel_rfl)
    (of_decide_eq_true (by kernel_rfl)) (by unfold Func.isWrapper; first | (rw [if_pos (by decide +kernel)]; kernel_rfl) | (rw [if_neg (by decide +kernel)]; exact ⟨rfl, rfl⟩))
    (fun os started H enc _ => rights_lifted os started H enc)
theorem tree_rights : Rows.TreeRightsCardSaid :=
  Claim7.holds_tied_plain_at .later [] [.data, .data, .data, .data, .pinned] true (true, "4e97a17132743d3a96b764d1e85d85c7fa0fbe0e54f8e82b5b480c8ba7bd7756") false rights_row (fun _ h => by cases h) (by kernel_rfl) (fun _ h => by cases h) treeRights_row_tie rfl ⟨rfl, rfl⟩ (by kernel_rfl) rfl
    (fun f fn hf hfn => by
      obtain rfl : f = 6 := Option.some.inj ((show Tryd.prog.funcNamed "touchstone/touchstonelaw06.TreeRights" = some 6 by kernel_rfl).symm.trans hf) |>.symm
      obtain rfl : fn = Tryd.f6 := (Option.some.inj (Tryd.func6.symm.trans hfn)).symm
      exact ⟨by kernel_rfl, fun j t ht => by
        rw [Tryd.params6] at ht
        have hm : t ∈ [41, 3] := by simpa using Array.mem_of_getElem? ht
        have hall : ([41, 3].all fun u => !Tryd.prog.wantsStandIn u) = true := by kernel_rfl
        exact (show Tryd.prog.wantsStandIn t = false by simpa using List.all_eq_true.1 hall t hm)⟩)
    (by kernel_rfl)
#print axioms tree_rights
end Go.Proofs.YtfoelgkkoopheaaDoor
