/- Contracts and plain laws, in one text. parse: atom: the walk. | parse: expression: the walk. | parse: name: the walk. | Appends onto a row of kids of the call's own. | parse: name: the walk. | parse: expressions of all depths: the walk, tied. | parse: typed: the walk. -/
import Derived.Test.YtlejecaanllghaaGreatDoorPlmM6
import Derived.Deep.RegionHeld3
/- parse: atom: the walk. -/
namespace Go.Proofs.YtlejecaanllghaaGreatDoor
open Go.RowKit

section
variable {w0 : World} {p b : Nat} {tk : List Tr.Tk} {dp : Int}
def tokBox (t : Tr.Tk) : Obj := .cells #[.int .i64 t.kind, .string ⟨t.lead.toArray⟩, .string ⟨t.text.toArray⟩, .int .i64 t.pos] 169
/-- What a look at the next token gives: where it stands already that a look gives y. -/
theorem pnext_at {Q : Nat → Prop} {V : World} {s : Ps.St} (h : PI Q w0 V p b tk dp s) (hi : Pc.Inv tk s) (hl : tk.length ≤ 1000000) (ts : List (List UInt8)) (hts : ts.length ≤ 1000) {y : Bool} (hy : Ps.nextB tk ts s.used = y) :
    Calls Tryz.prog 135 #[.pointer (some ⟨p, 0, none⟩), .slice (some ⟨V.heap.size, 0, none⟩) ts.length ts.length] (V.alloc (.cells (strCells ts).toArray 9)) fun e W' => e = .returned (.bool y) ∧ Below V.heap.size V W' := by
  have hal : Below V.heap.size V (V.alloc (.cells (strCells ts).toArray 9)) := (Below.refl _ _).alloc (Nat.le_refl _) _
  have hnx := pnext_calls (ts := ts) (h.past hal) (Pc.inv_room hi hl) (rds_newS V ts rfl) (fun k hk => by rw [hk, ← size_alloc1]; omega) hts
  rw [hy] at hnx
  refine hnx.mono ?_
  rintro e W' ⟨rfl, hb⟩
  exact ⟨rfl, hal.trans (hb.mono hal.size)⟩
/-- A node of kids that the call has just laid. -/
theorem pnode_at {Q : Nat → Prop} {V : World} {s : Ps.St} (h : PI Q w0 V p b tk dp s) (hi : Pc.Inv tk s) (hl : tk.length ≤ 1000000) (hQ : Up Q V) (l : List Int) (hn : l.length ≤ 1000) (k : Int) :
    Calls Tryz.prog 96 #[.pointer (some ⟨p, 0, none⟩), .int .i64 k, .slice (some ⟨V.heap.size, 0, none⟩) l.length l.length] (V.alloc (.cells (intCells l).toArray 3)) fun e W' => e = .returned (.int .i64 (Ps.node k l s).1) ∧ PI Q w0 W' p b tk dp (Ps.node k l s).2 ∧ FrT PTs V W' := by
  have hal : Below V.heap.size V (V.alloc (.cells (intCells l).toArray 3)) := (Below.refl _ _).alloc (Nat.le_refl _) _
  refine (pnode_calls (h.past hal) (Pc.inv_room hi hl) (rds_new V l rfl) (fun k hk => by rw [hk, ← size_alloc1]; omega) (by omega) (hQ.size hal.size) k).mono ?_
  rintro e W' ⟨rfl, h1, g1⟩
  exact ⟨rfl, h1, (FrT.of hal).trans g1⟩

set_option maxRecDepth 100000 in
set_option maxHeartbeats 4000000 in
theorem patom_calls (ht : Pc.Toks tk) (hl : tk.length ≤ 1000000) {n : Int} (hn0 : 0 ≤ n) (hn1 : n ≤ 300) {ex : Ps.F} {g : Pr.G} (hx : Pc.Sim tk ex g) (hex : Knows w0 p b tk dp 142 #[.pointer (some ⟨p, 0, none⟩), .int .i64 (n + 1)] ex)
    (hname : ∀ (Q : Nat → Prop) (W : World) (s : Ps.St), Up Q W → PI Q w0 W p b tk dp s → Pc.Inv tk s → s.e = 0 → (Ps.peek tk s.used).kind = 1 → Calls Tryz.prog 267 #[.pointer (some ⟨p, 0, none⟩), .int .i64 n] W (Does Q w0 p b tk dp (Ps.name tk ex s) W)) :
    Knows w0 p b tk dp 266 #[.pointer (some ⟨p, 0, none⟩), .int .i64 n] (Ps.atom tk ex) := by
  intro Q W s hQ h hi
  have hpk := anc_peek h.anc (Pc.inv_room hi hl).1 hl (Pc.inv_room hi hl).2.2.1
  obtain ⟨t, htk⟩ : ∃ t, Ps.peek tk s.used = t := ⟨_, rfl⟩
  rw [htk] at hpk
  have HPK := Lib.hid hpk
  have c0 := h.c0
  have H := Lib.hid (And.intro ht (And.intro hl (And.intro hx (And.intro hex hname))))
  have HP := Lib.hid (And.intro h (And.intro hi (And.intro hQ htk)))
  have HLF := Lib.hid (fun (V : World) hV => pleaf_calls (Q := Q) (W := V) (p := p) (b := b) (w0 := w0) (dp := dp) (s := s) hV (Pc.inv_room hi hl))
  have HOGL := Lib.hid (fun he hk => (Pc.Og.nil hi).leaf ht he hk)
  unfold Ps.atom
  rw [htk]
  obtain ⟨kd, ld, tx, ps⟩ := t
  dsimp only at HPK ⊢
  clear hpk htk h hi hQ ht hl hx hex hname
  by_cases he : s.e = 0
  · rw [if_pos he]
    have HE := Lib.hid he
    have hed : decide (s.e = 0) = true := decide_eq_true he
    clear he
    by_cases h3 : kd = 3
    · subst h3
      rw [if_pos rfl]
      go_enter Tryz.func266, Tryz.ntmps266
      go_wp2_with fail
      refine HPK.out.mono ?_
      rintro e W1 ⟨rfl, hb1⟩
      have H1 := Lib.hid hb1
      clear hb1 c0
      dsimp only
      go_wp2_with fail
      have hok := pok_calls (HP.out.1.past (H1.out.alloc H1.out.size (tokBox ⟨3, ld, tx, ps⟩)))
      rw [hed] at hok
      have hbx : (W1.alloc (tokBox ⟨3, ld, tx, ps⟩)).heap[W1.heap.size]? = some (.cells #[.int .i64 3, .string ⟨ld.toArray⟩, .string ⟨tx.toArray⟩, .int .i64 ps] 169 (0, 0)) := heap_alloc_new _ _
      have HV := Lib.hid (And.intro (H1.out.alloc H1.out.size (tokBox ⟨3, ld, tx, ps⟩)) hbx)
      refine hok.mono ?_
      rintro e V1 ⟨rfl, rfl⟩
      have k0 := cell_of_heap HV.out.2 0 rfl
      have c2 := (HP.out.1.past HV.out.1).c2
      have c0 := (HP.out.1.past HV.out.1).c0
      change Hid (Below W.heap.size W (W1.alloc (tokBox ⟨3, ld, tx, ps⟩)) ∧ _) at HV
      clear hok hbx
      generalize hV1 : W1.alloc (tokBox ⟨3, ld, tx, ps⟩) = V at *
      clear hV1
      dsimp only
      go_wp2_with fail
      refine (HLF.out _ (HP.out.1.past HV.out.1)).mono ?_
      rintro e W5 ⟨rfl, h5, g5⟩
      have H5 := Lib.hid (And.intro h5 ((FrT.of HV.out.1).trans g5))
      clear h5 g5 k0 c0 c2
      dsimp only
      go_wp2_with fail
      refine (pnode_at H5.out.1 (HOGL.out HE.out (by rw [HP.out.2.2.2]; show (3 : Int) ≠ 5; decide)).1.inv H.out.2.1 (HP.out.2.2.1.frt H5.out.2) [(Ps.leaf tk s).1] (by simp) 15).mono ?_
      rintro e W6 ⟨rfl, h6, g6⟩
      have H6 := Lib.hid (And.intro h6 (H5.out.2.trans g6))
      clear h6 g6
      dsimp only
      go_wp2_with fail
      go_ret
      exact ⟨rfl, H6.out.1, H6.out.2⟩
    · rw [if_neg h3]
      have k3 : (kd == 3) = false := by simpa using h3
      clear h3
      by_cases h2 : Ps.nextB tk [Ps.tTrue, Ps.tFalse] s.used = true
      · rw [if_pos h2]
        have HY2 := Lib.hid h2
        clear h2
        go_enter Tryz.func266, Tryz.ntmps266
        go_wp2_with fail
        refine HPK.out.mono ?_
        rintro e W1 ⟨rfl, hb1⟩
        have H1 := Lib.hid hb1
        clear hb1 c0
        dsimp only
        go_wp2_with fail
        have hok := pok_calls (HP.out.1.past (H1.out.alloc H1.out.size (tokBox ⟨kd, ld, tx, ps⟩)))
        rw [hed] at hok
        have hbx : (W1.alloc (tokBox ⟨kd, ld, tx, ps⟩)).heap[W1.heap.size]? = some (.cells #[.int .i64 kd, .string ⟨ld.toArray⟩, .string ⟨tx.toArray⟩, .int .i64 ps] 169 (0, 0)) := heap_alloc_new _ _
        have HV := Lib.hid (And.intro (H1.out.alloc H1.out.size (tokBox ⟨kd, ld, tx, ps⟩)) hbx)
        refine hok.mono ?_
        rintro e V1 ⟨rfl, rfl⟩
        have k0 := cell_of_heap HV.out.2 0 rfl
        have c2 := (HP.out.1.past HV.out.1).c2
        have c0 := (HP.out.1.past HV.out.1).c0
        change Hid (Below W.heap.size W (W1.alloc (tokBox ⟨kd, ld, tx, ps⟩)) ∧ _) at HV
        clear hok hbx
        generalize hV1 : W1.alloc (tokBox ⟨kd, ld, tx, ps⟩) = V at *
        clear hV1
        dsimp only
        go_wp2_with fail
        refine (pnext_at (HP.out.1.past HV.out.1) HP.out.2.1 H.out.2.1 [Ps.tTrue, Ps.tFalse] (by simp) HY2.out).mono ?_
        rintro e V2 ⟨rfl, hb⟩
        have HV2 := Lib.hid (And.intro (HV.out.1.trans (hb.mono HV.out.1.size)) (anc_box HV.out.2 hb))
        clear hb k0 c0 c2
        have k0 := cell_of_heap HV2.out.2 0 rfl
        have c2 := (HP.out.1.past HV2.out.1).c2
        have c0 := (HP.out.1.past HV2.out.1).c0
        dsimp only
        go_wp2_with fail
        refine (HLF.out _ (HP.out.1.past HV2.out.1)).mono ?_
        rintro e W5 ⟨rfl, h5, g5⟩
        have H5 := Lib.hid (And.intro h5 ((FrT.of HV2.out.1).trans g5))
        clear h5 g5 k0 c0 c2
        dsimp only
        go_wp2_with fail
        refine (pnode_at H5.out.1 (HOGL.out HE.out (Pc.next_kind HY2.out)).1.inv H.out.2.1 (HP.out.2.2.1.frt H5.out.2) [(Ps.leaf tk s).1] (by simp) 16).mono ?_
        rintro e W6 ⟨rfl, h6, g6⟩
        have H6 := Lib.hid (And.intro h6 (H5.out.2.trans g6))
        clear h6 g6
        dsimp only
        go_wp2_with fail
        go_ret
        exact ⟨rfl, H6.out.1, H6.out.2⟩
      · rw [if_neg h2]
        rw [Bool.not_eq_true] at h2
        have HY2 := Lib.hid h2
        clear h2
        by_cases h4 : (s.clause && Ps.nextB tk [Ps.tRes] s.used) = true
        · rw [if_pos h4]
          have hcl : s.clause = true := by simp only [Bool.and_eq_true] at h4; exact h4.1
          have HY4 := Lib.hid (show Ps.nextB tk [Ps.tRes] s.used = true by simp only [Bool.and_eq_true] at h4; exact h4.2)
          clear h4
          go_enter Tryz.func266, Tryz.ntmps266
          go_wp2_with fail
          refine HPK.out.mono ?_
          rintro e W1 ⟨rfl, hb1⟩
          have H1 := Lib.hid hb1
          clear hb1 c0
          dsimp only
          go_wp2_with fail
          have hok := pok_calls (HP.out.1.past (H1.out.alloc H1.out.size (tokBox ⟨kd, ld, tx, ps⟩)))
          rw [hed] at hok
          have hbx : (W1.alloc (tokBox ⟨kd, ld, tx, ps⟩)).heap[W1.heap.size]? = some (.cells #[.int .i64 kd, .string ⟨ld.toArray⟩, .string ⟨tx.toArray⟩, .int .i64 ps] 169 (0, 0)) := heap_alloc_new _ _
          have HV := Lib.hid (And.intro (H1.out.alloc H1.out.size (tokBox ⟨kd, ld, tx, ps⟩)) hbx)
          refine hok.mono ?_
          rintro e V1 ⟨rfl, rfl⟩
          have k0 := cell_of_heap HV.out.2 0 rfl
          have c2 := (HP.out.1.past HV.out.1).c2
          have c0 := (HP.out.1.past HV.out.1).c0
          change Hid (Below W.heap.size W (W1.alloc (tokBox ⟨kd, ld, tx, ps⟩)) ∧ _) at HV
          clear hok hbx
          generalize hV1 : W1.alloc (tokBox ⟨kd, ld, tx, ps⟩) = V at *
          clear hV1
          dsimp only
          go_wp2_with fail
          refine (pnext_at (HP.out.1.past HV.out.1) HP.out.2.1 H.out.2.1 [Ps.tTrue, Ps.tFalse] (by simp) HY2.out).mono ?_
          rintro e V2 ⟨rfl, hb⟩
          have HV2 := Lib.hid (And.intro (HV.out.1.trans (hb.mono HV.out.1.size)) (anc_box HV.out.2 hb))
          clear hb k0 c0 c2
          have k0 := cell_of_heap HV2.out.2 0 rfl
          have c2 := (HP.out.1.past HV2.out.1).c2
          have c0 := (HP.out.1.past HV2.out.1).c0
          rw [hcl] at c2
          dsimp only
          go_wp2_with fail
          refine (pnext_at (HP.out.1.past HV2.out.1) HP.out.2.1 H.out.2.1 [Ps.tRes] (by simp) HY4.out).mono ?_
          rintro e V4 ⟨rfl, hb⟩
          have HV4 := Lib.hid (And.intro (HV2.out.1.trans (hb.mono HV2.out.1.size)) (anc_box HV2.out.2 hb))
          clear hb k0 c0 c2
          have k0 := cell_of_heap HV4.out.2 0 rfl
          have c2 := (HP.out.1.past HV4.out.1).c2
          have c0 := (HP.out.1.past HV4.out.1).c0
          dsimp only
          go_wp2_with fail
          refine (HLF.out _ (HP.out.1.past HV4.out.1)).mono ?_
          rintro e W5 ⟨rfl, h5, g5⟩
          have H5 := Lib.hid (And.intro h5 ((FrT.of HV4.out.1).trans g5))
          clear h5 g5 k0 c0 c2
          dsimp only
          go_wp2_with fail
          refine (pnode_at H5.out.1 (HOGL.out HE.out (Pc.next_kind HY4.out)).1.inv H.out.2.1 (HP.out.2.2.1.frt H5.out.2) [(Ps.leaf tk s).1] (by simp) 17).mono ?_
          rintro e W6 ⟨rfl, h6, g6⟩
          have H6 := Lib.hid (And.intro h6 (H5.out.2.trans g6))
          clear h6 g6
          dsimp only
          go_wp2_with fail
          go_ret
          exact ⟨rfl, H6.out.1, H6.out.2⟩
        · rw [if_neg h4]
          cases hcl : s.clause
          · clear h4
            by_cases h6 : Ps.nextB tk [[40]] s.used = true
            · rw [if_pos h6]
              have HY6 := Lib.hid h6
              clear h6
              go_enter Tryz.func266, Tryz.ntmps266
              go_wp2_with fail
              refine HPK.out.mono ?_
              rintro e W1 ⟨rfl, hb1⟩
              have H1 := Lib.hid hb1
              clear hb1 c0
              dsimp only
              go_wp2_with fail
              have hok := pok_calls (HP.out.1.past (H1.out.alloc H1.out.size (tokBox ⟨kd, ld, tx, ps⟩)))
              rw [hed] at hok
              have hbx : (W1.alloc (tokBox ⟨kd, ld, tx, ps⟩)).heap[W1.heap.size]? = some (.cells #[.int .i64 kd, .string ⟨ld.toArray⟩, .string ⟨tx.toArray⟩, .int .i64 ps] 169 (0, 0)) := heap_alloc_new _ _
              have HV := Lib.hid (And.intro (H1.out.alloc H1.out.size (tokBox ⟨kd, ld, tx, ps⟩)) hbx)
              refine hok.mono ?_
              rintro e V1 ⟨rfl, rfl⟩
              have k0 := cell_of_heap HV.out.2 0 rfl
              have c2 := (HP.out.1.past HV.out.1).c2
              have c0 := (HP.out.1.past HV.out.1).c0
              change Hid (Below W.heap.size W (W1.alloc (tokBox ⟨kd, ld, tx, ps⟩)) ∧ _) at HV
              clear hok hbx
              generalize hV1 : W1.alloc (tokBox ⟨kd, ld, tx, ps⟩) = V at *
              clear hV1
              dsimp only
              go_wp2_with fail
              refine (pnext_at (HP.out.1.past HV.out.1) HP.out.2.1 H.out.2.1 [Ps.tTrue, Ps.tFalse] (by simp) HY2.out).mono ?_
              rintro e V2 ⟨rfl, hb⟩
              have HV2 := Lib.hid (And.intro (HV.out.1.trans (hb.mono HV.out.1.size)) (anc_box HV.out.2 hb))
              clear hb k0 c0 c2
              have k0 := cell_of_heap HV2.out.2 0 rfl
              have c2 := (HP.out.1.past HV2.out.1).c2
              have c0 := (HP.out.1.past HV2.out.1).c0
              rw [hcl] at c2
              dsimp only
              go_wp2_with fail
              refine (pnext_at (HP.out.1.past HV2.out.1) HP.out.2.1 H.out.2.1 [[40]] (by simp) HY6.out).mono ?_
              rintro e V6 ⟨rfl, hb⟩
              have HV6 := Lib.hid (And.intro (HV2.out.1.trans (hb.mono HV2.out.1.size)) (anc_box HV2.out.2 hb))
              clear hb k0 c0 c2
              have k0 := cell_of_heap HV6.out.2 0 rfl
              have c2 := (HP.out.1.past HV6.out.1).c2
              have c0 := (HP.out.1.past HV6.out.1).c0
              dsimp only
              go_wp2_with fail
              refine (HLF.out _ (HP.out.1.past HV6.out.1)).mono ?_
              rintro e W5 ⟨rfl, h5, g5⟩
              have H5 := Lib.hid (And.intro h5 ((FrT.of HV6.out.1).trans g5))
              clear h5 g5 k0 c0 c2
              dsimp only
              go_wp2_with fail
              have ho5 := (HOGL.out HE.out (Pc.next_kind HY6.out)).1
              refine (H.out.2.2.2.1 Q _ _ (HP.out.2.2.1.frt H5.out.2) H5.out.1 ho5.inv).mono ?_
              rintro e W6 ⟨rfl, h6, g6⟩
              have ho6 := ho5.then H.out.2.2.1
              have H6 := Lib.hid (And.intro h6 (And.intro (H5.out.2.trans g6) ho6))
              clear h6 g6 ho5 ho6
              dsimp only
              go_wp2_with fail
              have hal : Below W6.heap.size W6 (W6.alloc (.cells (strCells [[41]]).toArray 9)) := (Below.refl _ _).alloc (Nat.le_refl _) _
              refine (pmust_calls (ts := [[41]]) (H6.out.1.past hal) (Pc.inv_room H6.out.2.2.inv H.out.2.1) (rds_newS W6 [[41]] rfl) (fun k hk => by rw [hk, ← size_alloc1]; omega) (by simp)).mono ?_
              rintro e W7 ⟨rfl, h7, g7⟩
              have H7 := Lib.hid (And.intro h7 (And.intro (H6.out.2.1.trans ((FrT.of hal).trans g7)) (H6.out.2.2.then (Pc.sim_must H.out.1 [41]))))
              clear h7 g7 hal
              dsimp only
              go_wp2_with fail
              refine (pnode_at H7.out.1 H7.out.2.2.inv H.out.2.1 (HP.out.2.2.1.frt H7.out.2.1) [(Ps.leaf tk s).1, (ex (Ps.leaf tk s).2).1, (Ps.must tk [[41]] (ex (Ps.leaf tk s).2).2).1] (by simp) 12).mono ?_
              rintro e W8 ⟨rfl, h8, g8⟩
              have H8 := Lib.hid (And.intro h8 (H7.out.2.1.trans g8))
              clear h8 g8
              dsimp only
              go_wp2_with fail
              go_ret
              exact ⟨rfl, H8.out.1, H8.out.2⟩
            · rw [if_neg h6]
              rw [Bool.not_eq_true] at h6
              have HY6 := Lib.hid h6
              clear h6
              by_cases h1 : kd = 1
              · subst h1
                rw [if_pos rfl]
                go_enter Tryz.func266, Tryz.ntmps266
                go_wp2_with fail
                refine HPK.out.mono ?_
                rintro e W1 ⟨rfl, hb1⟩
                have H1 := Lib.hid hb1
                clear hb1 c0
                dsimp only
                go_wp2_with fail
                have hok := pok_calls (HP.out.1.past (H1.out.alloc H1.out.size (tokBox ⟨1, ld, tx, ps⟩)))
                rw [hed] at hok
                have hbx : (W1.alloc (tokBox ⟨1, ld, tx, ps⟩)).heap[W1.heap.size]? = some (.cells #[.int .i64 1, .string ⟨ld.toArray⟩, .string ⟨tx.toArray⟩, .int .i64 ps] 169 (0, 0)) := heap_alloc_new _ _
                have HV := Lib.hid (And.intro (H1.out.alloc H1.out.size (tokBox ⟨1, ld, tx, ps⟩)) hbx)
                refine hok.mono ?_
                rintro e V1 ⟨rfl, rfl⟩
                have k0 := cell_of_heap HV.out.2 0 rfl
                have c2 := (HP.out.1.past HV.out.1).c2
                have c0 := (HP.out.1.past HV.out.1).c0
                change Hid (Below W.heap.size W (W1.alloc (tokBox ⟨1, ld, tx, ps⟩)) ∧ _) at HV
                clear hok hbx
                generalize hV1 : W1.alloc (tokBox ⟨1, ld, tx, ps⟩) = V at *
                clear hV1
                dsimp only
                go_wp2_with fail
                refine (pnext_at (HP.out.1.past HV.out.1) HP.out.2.1 H.out.2.1 [Ps.tTrue, Ps.tFalse] (by simp) HY2.out).mono ?_
                rintro e V2 ⟨rfl, hb⟩
                have HV2 := Lib.hid (And.intro (HV.out.1.trans (hb.mono HV.out.1.size)) (anc_box HV.out.2 hb))
                clear hb k0 c0 c2
                have k0 := cell_of_heap HV2.out.2 0 rfl
                have c2 := (HP.out.1.past HV2.out.1).c2
                have c0 := (HP.out.1.past HV2.out.1).c0
                rw [hcl] at c2
                dsimp only
                go_wp2_with fail
                refine (pnext_at (HP.out.1.past HV2.out.1) HP.out.2.1 H.out.2.1 [[40]] (by simp) HY6.out).mono ?_
                rintro e V6 ⟨rfl, hb⟩
                have HV6 := Lib.hid (And.intro (HV2.out.1.trans (hb.mono HV2.out.1.size)) (anc_box HV2.out.2 hb))
                clear hb k0 c0 c2
                have k0 := cell_of_heap HV6.out.2 0 rfl
                have c2 := (HP.out.1.past HV6.out.1).c2
                have c0 := (HP.out.1.past HV6.out.1).c0
                dsimp only
                go_wp2_with fail
                refine (H.out.2.2.2.2 Q _ _ (HP.out.2.2.1.size HV6.out.1.size) (HP.out.1.past HV6.out.1) HP.out.2.1 HE.out (by rw [HP.out.2.2.2])).mono ?_
                rintro e W7 ⟨rfl, h7, g7⟩
                have H7 := Lib.hid (And.intro h7 ((FrT.of HV6.out.1).trans g7))
                clear h7 g7
                dsimp only
                go_wp2_with fail
                go_ret
                exact ⟨rfl, H7.out.1, H7.out.2⟩
              · rw [if_neg h1]
                have k1 : (kd == 1) = false := by simpa using h1
                clear h1
                go_enter Tryz.func266, Tryz.ntmps266
                go_wp2_with fail
                refine HPK.out.mono ?_
                rintro e W1 ⟨rfl, hb1⟩
                have H1 := Lib.hid hb1
                clear hb1 c0
                dsimp only
                go_wp2_with fail
                have hok := pok_calls (HP.out.1.past (H1.out.alloc H1.out.size (tokBox ⟨kd, ld, tx, ps⟩)))
                rw [hed] at hok
                have hbx : (W1.alloc (tokBox ⟨kd, ld, tx, ps⟩)).heap[W1.heap.size]? = some (.cells #[.int .i64 kd, .string ⟨ld.toArray⟩, .string ⟨tx.toArray⟩, .int .i64 ps] 169 (0, 0)) := heap_alloc_new _ _
                have HV := Lib.hid (And.intro (H1.out.alloc H1.out.size (tokBox ⟨kd, ld, tx, ps⟩)) hbx)
                refine hok.mono ?_
                rintro e V1 ⟨rfl, rfl⟩
                have k0 := cell_of_heap HV.out.2 0 rfl
                have c2 := (HP.out.1.past HV.out.1).c2
                have c0 := (HP.out.1.past HV.out.1).c0
                change Hid (Below W.heap.size W (W1.alloc (tokBox ⟨kd, ld, tx, ps⟩)) ∧ _) at HV
                clear hok hbx
                generalize hV1 : W1.alloc (tokBox ⟨kd, ld, tx, ps⟩) = V at *
                clear hV1
                dsimp only
                go_wp2_with fail
                refine (pnext_at (HP.out.1.past HV.out.1) HP.out.2.1 H.out.2.1 [Ps.tTrue, Ps.tFalse] (by simp) HY2.out).mono ?_
                rintro e V2 ⟨rfl, hb⟩
                have HV2 := Lib.hid (And.intro (HV.out.1.trans (hb.mono HV.out.1.size)) (anc_box HV.out.2 hb))
                clear hb k0 c0 c2
                have k0 := cell_of_heap HV2.out.2 0 rfl
                have c2 := (HP.out.1.past HV2.out.1).c2
                have c0 := (HP.out.1.past HV2.out.1).c0
                rw [hcl] at c2
                dsimp only
                go_wp2_with fail
                refine (pnext_at (HP.out.1.past HV2.out.1) HP.out.2.1 H.out.2.1 [[40]] (by simp) HY6.out).mono ?_
                rintro e V6 ⟨rfl, hb⟩
                have HV6 := Lib.hid (And.intro (HV2.out.1.trans (hb.mono HV2.out.1.size)) (anc_box HV2.out.2 hb))
                clear hb k0 c0 c2
                have k0 := cell_of_heap HV6.out.2 0 rfl
                have c2 := (HP.out.1.past HV6.out.1).c2
                have c0 := (HP.out.1.past HV6.out.1).c0
                dsimp only
                go_wp2_with fail
                refine (pfail_calls (HP.out.1.past HV6.out.1) (Pc.inv_room HP.out.2.1 H.out.2.1) 22).mono ?_
                rintro e W7 ⟨rfl, h7, g7⟩
                have H7 := Lib.hid (And.intro h7 ((FrT.of HV6.out.1).trans g7))
                clear h7 g7
                dsimp only
                go_wp2_with fail
                go_ret
                exact ⟨rfl, H7.out.1, H7.out.2⟩
          · have HY4 := Lib.hid (show Ps.nextB tk [Ps.tRes] s.used = false by rw [hcl, Bool.true_and, Bool.not_eq_true] at h4; exact h4)
            clear h4
            by_cases h6 : Ps.nextB tk [[40]] s.used = true
            · rw [if_pos h6]
              have HY6 := Lib.hid h6
              clear h6
              go_enter Tryz.func266, Tryz.ntmps266
              go_wp2_with fail
              refine HPK.out.mono ?_
              rintro e W1 ⟨rfl, hb1⟩
              have H1 := Lib.hid hb1
              clear hb1 c0
              dsimp only
              go_wp2_with fail
              have hok := pok_calls (HP.out.1.past (H1.out.alloc H1.out.size (tokBox ⟨kd, ld, tx, ps⟩)))
              rw [hed] at hok
              have hbx : (W1.alloc (tokBox ⟨kd, ld, tx, ps⟩)).heap[W1.heap.size]? = some (.cells #[.int .i64 kd, .string ⟨ld.toArray⟩, .string ⟨tx.toArray⟩, .int .i64 ps] 169 (0, 0)) := heap_alloc_new _ _
              have HV := Lib.hid (And.intro (H1.out.alloc H1.out.size (tokBox ⟨kd, ld, tx, ps⟩)) hbx)
              refine hok.mono ?_
              rintro e V1 ⟨rfl, rfl⟩
              have k0 := cell_of_heap HV.out.2 0 rfl
              have c2 := (HP.out.1.past HV.out.1).c2
              have c0 := (HP.out.1.past HV.out.1).c0
              change Hid (Below W.heap.size W (W1.alloc (tokBox ⟨kd, ld, tx, ps⟩)) ∧ _) at HV
              clear hok hbx
              generalize hV1 : W1.alloc (tokBox ⟨kd, ld, tx, ps⟩) = V at *
              clear hV1
              dsimp only
              go_wp2_with fail
              refine (pnext_at (HP.out.1.past HV.out.1) HP.out.2.1 H.out.2.1 [Ps.tTrue, Ps.tFalse] (by simp) HY2.out).mono ?_
              rintro e V2 ⟨rfl, hb⟩
              have HV2 := Lib.hid (And.intro (HV.out.1.trans (hb.mono HV.out.1.size)) (anc_box HV.out.2 hb))
              clear hb k0 c0 c2
              have k0 := cell_of_heap HV2.out.2 0 rfl
              have c2 := (HP.out.1.past HV2.out.1).c2
              have c0 := (HP.out.1.past HV2.out.1).c0
              rw [hcl] at c2
              dsimp only
              go_wp2_with fail
              refine (pnext_at (HP.out.1.past HV2.out.1) HP.out.2.1 H.out.2.1 [Ps.tRes] (by simp) HY4.out).mono ?_
              rintro e V4 ⟨rfl, hb⟩
              have HV4 := Lib.hid (And.intro (HV2.out.1.trans (hb.mono HV2.out.1.size)) (anc_box HV2.out.2 hb))
              clear hb k0 c0 c2
              have k0 := cell_of_heap HV4.out.2 0 rfl
              have c2 := (HP.out.1.past HV4.out.1).c2
              have c0 := (HP.out.1.past HV4.out.1).c0
              dsimp only
              go_wp2_with fail
              refine (pnext_at (HP.out.1.past HV4.out.1) HP.out.2.1 H.out.2.1 [[40]] (by simp) HY6.out).mono ?_
              rintro e V6 ⟨rfl, hb⟩
              have HV6 := Lib.hid (And.intro (HV4.out.1.trans (hb.mono HV4.out.1.size)) (anc_box HV4.out.2 hb))
              clear hb k0 c0 c2
              have k0 := cell_of_heap HV6.out.2 0 rfl
              have c2 := (HP.out.1.past HV6.out.1).c2
              have c0 := (HP.out.1.past HV6.out.1).c0
              dsimp only
              go_wp2_with fail
              refine (HLF.out _ (HP.out.1.past HV6.out.1)).mono ?_
              rintro e W5 ⟨rfl, h5, g5⟩
              have H5 := Lib.hid (And.intro h5 ((FrT.of HV6.out.1).trans g5))
              clear h5 g5 k0 c0 c2
              dsimp only
              go_wp2_with fail
              have ho5 := (HOGL.out HE.out (Pc.next_kind HY6.out)).1
              refine (H.out.2.2.2.1 Q _ _ (HP.out.2.2.1.frt H5.out.2) H5.out.1 ho5.inv).mono ?_
              rintro e W6 ⟨rfl, h6, g6⟩
              have ho6 := ho5.then H.out.2.2.1
              have H6 := Lib.hid (And.intro h6 (And.intro (H5.out.2.trans g6) ho6))
              clear h6 g6 ho5 ho6
              dsimp only
              go_wp2_with fail
              have hal : Below W6.heap.size W6 (W6.alloc (.cells (strCells [[41]]).toArray 9)) := (Below.refl _ _).alloc (Nat.le_refl _) _
              refine (pmust_calls (ts := [[41]]) (H6.out.1.past hal) (Pc.inv_room H6.out.2.2.inv H.out.2.1) (rds_newS W6 [[41]] rfl) (fun k hk => by rw [hk, ← size_alloc1]; omega) (by simp)).mono ?_
              rintro e W7 ⟨rfl, h7, g7⟩
              have H7 := Lib.hid (And.intro h7 (And.intro (H6.out.2.1.trans ((FrT.of hal).trans g7)) (H6.out.2.2.then (Pc.sim_must H.out.1 [41]))))
              clear h7 g7 hal
              dsimp only
              go_wp2_with fail
              refine (pnode_at H7.out.1 H7.out.2.2.inv H.out.2.1 (HP.out.2.2.1.frt H7.out.2.1) [(Ps.leaf tk s).1, (ex (Ps.leaf tk s).2).1, (Ps.must tk [[41]] (ex (Ps.leaf tk s).2).2).1] (by simp) 12).mono ?_
              rintro e W8 ⟨rfl, h8, g8⟩
              have H8 := Lib.hid (And.intro h8 (H7.out.2.1.trans g8))
              clear h8 g8
              dsimp only
              go_wp2_with fail
              go_ret
              exact ⟨rfl, H8.out.1, H8.out.2⟩
            · rw [if_neg h6]
              rw [Bool.not_eq_true] at h6
              have HY6 := Lib.hid h6
              clear h6
              by_cases h1 : kd = 1
              · subst h1
                rw [if_pos rfl]
                go_enter Tryz.func266, Tryz.ntmps266
                go_wp2_with fail
                refine HPK.out.mono ?_
                rintro e W1 ⟨rfl, hb1⟩
                have H1 := Lib.hid hb1
                clear hb1 c0
                dsimp only
                go_wp2_with fail
                have hok := pok_calls (HP.out.1.past (H1.out.alloc H1.out.size (tokBox ⟨1, ld, tx, ps⟩)))
                rw [hed] at hok
                have hbx : (W1.alloc (tokBox ⟨1, ld, tx, ps⟩)).heap[W1.heap.size]? = some (.cells #[.int .i64 1, .string ⟨ld.toArray⟩, .string ⟨tx.toArray⟩, .int .i64 ps] 169 (0, 0)) := heap_alloc_new _ _
                have HV := Lib.hid (And.intro (H1.out.alloc H1.out.size (tokBox ⟨1, ld, tx, ps⟩)) hbx)
                refine hok.mono ?_
                rintro e V1 ⟨rfl, rfl⟩
                have k0 := cell_of_heap HV.out.2 0 rfl
                have c2 := (HP.out.1.past HV.out.1).c2
                have c0 := (HP.out.1.past HV.out.1).c0
                change Hid (Below W.heap.size W (W1.alloc (tokBox ⟨1, ld, tx, ps⟩)) ∧ _) at HV
                clear hok hbx
                generalize hV1 : W1.alloc (tokBox ⟨1, ld, tx, ps⟩) = V at *
                clear hV1
                dsimp only
                go_wp2_with fail
                refine (pnext_at (HP.out.1.past HV.out.1) HP.out.2.1 H.out.2.1 [Ps.tTrue, Ps.tFalse] (by simp) HY2.out).mono ?_
                rintro e V2 ⟨rfl, hb⟩
                have HV2 := Lib.hid (And.intro (HV.out.1.trans (hb.mono HV.out.1.size)) (anc_box HV.out.2 hb))
                clear hb k0 c0 c2
                have k0 := cell_of_heap HV2.out.2 0 rfl
                have c2 := (HP.out.1.past HV2.out.1).c2
                have c0 := (HP.out.1.past HV2.out.1).c0
                rw [hcl] at c2
                dsimp only
                go_wp2_with fail
                refine (pnext_at (HP.out.1.past HV2.out.1) HP.out.2.1 H.out.2.1 [Ps.tRes] (by simp) HY4.out).mono ?_
                rintro e V4 ⟨rfl, hb⟩
                have HV4 := Lib.hid (And.intro (HV2.out.1.trans (hb.mono HV2.out.1.size)) (anc_box HV2.out.2 hb))
                clear hb k0 c0 c2
                have k0 := cell_of_heap HV4.out.2 0 rfl
                have c2 := (HP.out.1.past HV4.out.1).c2
                have c0 := (HP.out.1.past HV4.out.1).c0
                dsimp only
                go_wp2_with fail
                refine (pnext_at (HP.out.1.past HV4.out.1) HP.out.2.1 H.out.2.1 [[40]] (by simp) HY6.out).mono ?_
                rintro e V6 ⟨rfl, hb⟩
                have HV6 := Lib.hid (And.intro (HV4.out.1.trans (hb.mono HV4.out.1.size)) (anc_box HV4.out.2 hb))
                clear hb k0 c0 c2
                have k0 := cell_of_heap HV6.out.2 0 rfl
                have c2 := (HP.out.1.past HV6.out.1).c2
                have c0 := (HP.out.1.past HV6.out.1).c0
                dsimp only
                go_wp2_with fail
                refine (H.out.2.2.2.2 Q _ _ (HP.out.2.2.1.size HV6.out.1.size) (HP.out.1.past HV6.out.1) HP.out.2.1 HE.out (by rw [HP.out.2.2.2])).mono ?_
                rintro e W7 ⟨rfl, h7, g7⟩
                have H7 := Lib.hid (And.intro h7 ((FrT.of HV6.out.1).trans g7))
                clear h7 g7
                dsimp only
                go_wp2_with fail
                go_ret
                exact ⟨rfl, H7.out.1, H7.out.2⟩
              · rw [if_neg h1]
                have k1 : (kd == 1) = false := by simpa using h1
                clear h1
                go_enter Tryz.func266, Tryz.ntmps266
                go_wp2_with fail
                refine HPK.out.mono ?_
                rintro e W1 ⟨rfl, hb1⟩
                have H1 := Lib.hid hb1
                clear hb1 c0
                dsimp only
                go_wp2_with fail
                have hok := pok_calls (HP.out.1.past (H1.out.alloc H1.out.size (tokBox ⟨kd, ld, tx, ps⟩)))
                rw [hed] at hok
                have hbx : (W1.alloc (tokBox ⟨kd, ld, tx, ps⟩)).heap[W1.heap.size]? = some (.cells #[.int .i64 kd, .string ⟨ld.toArray⟩, .string ⟨tx.toArray⟩, .int .i64 ps] 169 (0, 0)) := heap_alloc_new _ _
                have HV := Lib.hid (And.intro (H1.out.alloc H1.out.size (tokBox ⟨kd, ld, tx, ps⟩)) hbx)
                refine hok.mono ?_
                rintro e V1 ⟨rfl, rfl⟩
                have k0 := cell_of_heap HV.out.2 0 rfl
                have c2 := (HP.out.1.past HV.out.1).c2
                have c0 := (HP.out.1.past HV.out.1).c0
                change Hid (Below W.heap.size W (W1.alloc (tokBox ⟨kd, ld, tx, ps⟩)) ∧ _) at HV
                clear hok hbx
                generalize hV1 : W1.alloc (tokBox ⟨kd, ld, tx, ps⟩) = V at *
                clear hV1
                dsimp only
                go_wp2_with fail
                refine (pnext_at (HP.out.1.past HV.out.1) HP.out.2.1 H.out.2.1 [Ps.tTrue, Ps.tFalse] (by simp) HY2.out).mono ?_
                rintro e V2 ⟨rfl, hb⟩
                have HV2 := Lib.hid (And.intro (HV.out.1.trans (hb.mono HV.out.1.size)) (anc_box HV.out.2 hb))
                clear hb k0 c0 c2
                have k0 := cell_of_heap HV2.out.2 0 rfl
                have c2 := (HP.out.1.past HV2.out.1).c2
                have c0 := (HP.out.1.past HV2.out.1).c0
                rw [hcl] at c2
                dsimp only
                go_wp2_with fail
                refine (pnext_at (HP.out.1.past HV2.out.1) HP.out.2.1 H.out.2.1 [Ps.tRes] (by simp) HY4.out).mono ?_
                rintro e V4 ⟨rfl, hb⟩
                have HV4 := Lib.hid (And.intro (HV2.out.1.trans (hb.mono HV2.out.1.size)) (anc_box HV2.out.2 hb))
                clear hb k0 c0 c2
                have k0 := cell_of_heap HV4.out.2 0 rfl
                have c2 := (HP.out.1.past HV4.out.1).c2
                have c0 := (HP.out.1.past HV4.out.1).c0
                dsimp only
                go_wp2_with fail
                refine (pnext_at (HP.out.1.past HV4.out.1) HP.out.2.1 H.out.2.1 [[40]] (by simp) HY6.out).mono ?_
                rintro e V6 ⟨rfl, hb⟩
                have HV6 := Lib.hid (And.intro (HV4.out.1.trans (hb.mono HV4.out.1.size)) (anc_box HV4.out.2 hb))
                clear hb k0 c0 c2
                have k0 := cell_of_heap HV6.out.2 0 rfl
                have c2 := (HP.out.1.past HV6.out.1).c2
                have c0 := (HP.out.1.past HV6.out.1).c0
                dsimp only
                go_wp2_with fail
                refine (pfail_calls (HP.out.1.past HV6.out.1) (Pc.inv_room HP.out.2.1 H.out.2.1) 22).mono ?_
                rintro e W7 ⟨rfl, h7, g7⟩
                have H7 := Lib.hid (And.intro h7 ((FrT.of HV6.out.1).trans g7))
                clear h7 g7
                dsimp only
                go_wp2_with fail
                go_ret
                exact ⟨rfl, H7.out.1, H7.out.2⟩
  · rw [if_neg he]
    have hed : decide (s.e = 0) = false := decide_eq_false he
    go_enter Tryz.func266, Tryz.ntmps266
    go_wp2_with fail
    refine HPK.out.mono ?_
    rintro e W1 ⟨rfl, hb1⟩
    have H1 := Lib.hid hb1
    clear hb1 c0
    dsimp only
    go_wp2_with fail
    have hok := pok_calls (HP.out.1.past (H1.out.alloc H1.out.size (tokBox ⟨kd, ld, tx, ps⟩)))
    rw [hed] at hok
    refine hok.mono ?_
    rintro e V1 ⟨rfl, rfl⟩
    have HV := Lib.hid (H1.out.alloc H1.out.size (tokBox ⟨kd, ld, tx, ps⟩))
    clear hok
    dsimp only
    go_wp2_with fail
    go_ret
    exact ⟨rfl, HP.out.1.past HV.out, FrT.of HV.out⟩
end
end Go.Proofs.YtlejecaanllghaaGreatDoor
/- parse: expression: the walk. -/
namespace Go.Proofs.YtlejecaanllghaaGreatDoor
open Go.RowKit

section
variable {w0 : World} {p b : Nat} {tk : List Tr.Tk} {dp : Int}
/-- Too deep at once. -/
theorem pexpression_zero (hl : tk.length ≤ 1000000) {n : Int} (hd : n = dp + 1) : Knows w0 p b tk dp 142 #[.pointer (some ⟨p, 0, none⟩), .int .i64 n] (Ps.lv tk 0).ex := by
  intro Q W s hQ h hi
  have hdp := pdeep_calls (d := 0) h (Pc.inv_room hi hl) (n := n) (by simpa using hd)
  have he : (Ps.deep tk 0 s).e ≠ 0 := by
    unfold Ps.deep
    rw [if_pos rfl]
    unfold Ps.fail
    by_cases h0 : s.e = 0
    · rw [if_pos h0]
      show (23 : Int) ≠ 0
      decide
    · rw [if_neg h0]
      exact h0
  rw [decide_eq_true he] at hdp
  have HD := Lib.hid hdp
  have e1 : (Ps.lv tk 0).ex s = (0, Ps.deep tk 0 s) := rfl
  rw [e1]
  clear h hi hQ hdp he e1 hl hd
  go_enter Tryz.func142, Tryz.ntmps142
  go_wp2_with fail
  refine HD.out.mono ?_
  rintro e W1 ⟨rfl, h, g⟩
  have H1 := Lib.hid (And.intro h g)
  clear h g
  dsimp only
  go_wp2_with fail
  go_ret
  exact ⟨rfl, H1.out.1, H1.out.2⟩

set_option maxRecDepth 100000 in
set_option maxHeartbeats 8000000 in
theorem pexpression_calls (ht : Pc.Toks tk) (hl : tk.length ≤ 1000000) {n : Int} {d : Nat} (hn0 : 0 ≤ n) (hn1 : n ≤ 300) (hd : n + 1 + d = dp + 1) {lo : Ps.Lv} {ex : Ps.F} (hlo : lo.ex = ex) {g : Pr.G} (hx : Pc.Sim tk ex g) (hex : Knows w0 p b tk dp 142 #[.pointer (some ⟨p, 0, none⟩), .int .i64 (n + 1)] ex)
    (hfo : Knows w0 p b tk dp 183 #[.pointer (some ⟨p, 0, none⟩), .int .i64 n] (Ps.formula tk d lo)) :
    Knows w0 p b tk dp 142 #[.pointer (some ⟨p, 0, none⟩), .int .i64 n] (Ps.express tk d lo) := by
  intro Q W s hQ h hi
  have hdp := pdeep_calls (d := d + 1) h (Pc.inv_room hi hl) (n := n) (by omega)
  have hds : Ps.deep tk (d + 1) s = s := by unfold Ps.deep; rw [if_neg (by omega)]
  rw [hds] at hdp
  have H := Lib.hid (And.intro ht (And.intro hl (And.intro hx (And.intro hex hfo))))
  have HP := Lib.hid (And.intro h (And.intro hi hQ))
  unfold Ps.express
  rw [hlo]
  by_cases he : s.e = 0
  · rw [if_pos he]
    rw [decide_eq_false (by simp [he] : ¬ s.e ≠ 0)] at hdp
    have HD := Lib.hid hdp
    have HE := Lib.hid he
    clear ht hl hx hex hfo h hi hQ hdp hds he hd hlo
    cases hcl : s.clause
    · rw [if_neg (by simp)]
      by_cases a : Ps.nextB tk [Ps.tLet] s.used = true
      · rw [if_pos a]
        have HYa := Lib.hid a
        clear a
        go_enter Tryz.func142, Tryz.ntmps142
        go_wp2_with fail
        refine HD.out.mono ?_
        rintro e V0 ⟨rfl, h, g⟩
        have c2 := h.c2
        rw [hcl] at c2
        have H0 := Lib.hid (And.intro h (And.intro g (Pc.Og.nil HP.out.2.1)))
        clear h g
        dsimp only
        go_wp2_with fail
        refine (pnext_at H0.out.1 HP.out.2.1 H.out.2.1 [Ps.tLet] (by simp) HYa.out).mono ?_
        rintro e W0 ⟨rfl, hb⟩
        have hq := H0.out
        clear H0
        have H0 := Lib.hid (And.intro (hq.1.past hb) (And.intro (hq.2.1.trans (FrT.of hb)) hq.2.2))
        clear hb hq
        have c0 := H0.out.1.c0
        dsimp only
        go_wp2_with fail
        refine (pleaf_calls H0.out.1 (Pc.inv_room H0.out.2.2.inv H.out.2.1)).mono ?_
        rintro e W1 ⟨rfl, h, g⟩
        have H1 := Lib.hid (And.intro h (And.intro (H0.out.2.1.trans g) ((H0.out.2.2.leaf H.out.1 HE.out (Pc.next_kind HYa.out)).1)))
        clear h g
        obtain ⟨⟨x1, s1⟩, hx⟩ : ∃ r, Ps.leaf tk s = r := ⟨_, rfl⟩
        rw [hx] at H1 ⊢
        have HX1 := Lib.hid hx
        clear hx
        dsimp only at H1 ⊢
        go_wp2_with fail
        refine (pkind_calls H1.out.1 (Pc.inv_room H1.out.2.2.inv H.out.2.1) 1).mono ?_
        rintro e W2 ⟨rfl, h, g⟩
        have H2 := Lib.hid (And.intro h (And.intro (H1.out.2.1.trans g) (H1.out.2.2.then (Pc.sim_kind H.out.1 (k := 1) (by decide)))))
        clear h g
        obtain ⟨⟨x2, s2⟩, hx⟩ : ∃ r, Ps.kind tk 1 s1 = r := ⟨_, rfl⟩
        rw [hx] at H2 ⊢
        have HX2 := Lib.hid hx
        clear hx
        dsimp only at H2 ⊢
        go_wp2_with fail
        have hal : Below W2.heap.size W2 (W2.alloc (.cells (strCells [[61]]).toArray 9)) := (Below.refl _ _).alloc (Nat.le_refl _) _
        refine (pmust_calls (ts := [[61]]) (H2.out.1.past hal) (Pc.inv_room H2.out.2.2.inv H.out.2.1) (rds_newS W2 [[61]] rfl) (fun k hk => by rw [hk, ← size_alloc1]; omega) (by simp)).mono ?_
        rintro e W3 ⟨rfl, h, g⟩
        have H3 := Lib.hid (And.intro h (And.intro (H2.out.2.1.trans ((FrT.of hal).trans g)) (H2.out.2.2.then (Pc.sim_must H.out.1 [61]))))
        clear h g hal
        obtain ⟨⟨x3, s3⟩, hx⟩ : ∃ r, Ps.must tk [[61]] s2 = r := ⟨_, rfl⟩
        rw [hx] at H3 ⊢
        have HX3 := Lib.hid hx
        clear hx
        dsimp only at H3 ⊢
        go_wp2_with fail
        refine (H.out.2.2.2.1 Q _ _ (HP.out.2.2.frt H3.out.2.1) H3.out.1 H3.out.2.2.inv).mono ?_
        rintro e W4 ⟨rfl, h, g⟩
        have H4 := Lib.hid (And.intro h (And.intro (H3.out.2.1.trans g) (H3.out.2.2.then H.out.2.2.1)))
        clear h g
        obtain ⟨⟨x4, s4⟩, hx⟩ : ∃ r, ex s3 = r := ⟨_, rfl⟩
        rw [hx] at H4 ⊢
        have HX4 := Lib.hid hx
        clear hx
        dsimp only at H4 ⊢
        go_wp2_with fail
        have hal : Below W4.heap.size W4 (W4.alloc (.cells (strCells [Ps.tIn]).toArray 9)) := (Below.refl _ _).alloc (Nat.le_refl _) _
        refine (pmust_calls (ts := [Ps.tIn]) (H4.out.1.past hal) (Pc.inv_room H4.out.2.2.inv H.out.2.1) (rds_newS W4 [Ps.tIn] rfl) (fun k hk => by rw [hk, ← size_alloc1]; omega) (by simp)).mono ?_
        rintro e W5 ⟨rfl, h, g⟩
        have H5 := Lib.hid (And.intro h (And.intro (H4.out.2.1.trans ((FrT.of hal).trans g)) (H4.out.2.2.then (Pc.sim_must H.out.1 Ps.tIn))))
        clear h g hal
        obtain ⟨⟨x5, s5⟩, hx⟩ : ∃ r, Ps.must tk [Ps.tIn] s4 = r := ⟨_, rfl⟩
        rw [hx] at H5 ⊢
        have HX5 := Lib.hid hx
        clear hx
        dsimp only at H5 ⊢
        go_wp2_with fail
        refine (H.out.2.2.2.1 Q _ _ (HP.out.2.2.frt H5.out.2.1) H5.out.1 H5.out.2.2.inv).mono ?_
        rintro e W6 ⟨rfl, h, g⟩
        have H6 := Lib.hid (And.intro h (And.intro (H5.out.2.1.trans g) (H5.out.2.2.then H.out.2.2.1)))
        clear h g
        obtain ⟨⟨x6, s6⟩, hx⟩ : ∃ r, ex s5 = r := ⟨_, rfl⟩
        rw [hx] at H6 ⊢
        have HX6 := Lib.hid hx
        clear hx
        dsimp only at H6 ⊢
        go_wp2_with fail
        refine (pnode_at H6.out.1 H6.out.2.2.inv H.out.2.1 (HP.out.2.2.frt H6.out.2.1) [x1, x2, x3, x4, x5, x6] (by simp) 7).mono ?_
        rintro e WN ⟨rfl, h, g⟩
        have HN := Lib.hid (And.intro h (H6.out.2.1.trans g))
        clear h g
        dsimp only
        go_wp2_with fail
        go_ret
        have e1 : Ps.exLet tk ex s = Ps.node 7 [x1, x2, x3, x4, x5, x6] s6 := by
          simp only [Ps.exLet, HX1.out, HX2.out, HX3.out, HX4.out, HX5.out, HX6.out]
        rw [e1]
        exact ⟨rfl, HN.out.1, HN.out.2⟩
      · rw [if_neg a]
        rw [Bool.not_eq_true] at a
        have HYa := Lib.hid a
        clear a
        by_cases c : Ps.nextB tk [Ps.tIf] s.used = true
        · rw [if_pos c]
          have HYc := Lib.hid c
          clear c
          go_enter Tryz.func142, Tryz.ntmps142
          go_wp2_with fail
          refine HD.out.mono ?_
          rintro e V0 ⟨rfl, h, g⟩
          have c2 := h.c2
          rw [hcl] at c2
          have H0 := Lib.hid (And.intro h (And.intro g (Pc.Og.nil HP.out.2.1)))
          clear h g
          dsimp only
          go_wp2_with fail
          refine (pnext_at H0.out.1 HP.out.2.1 H.out.2.1 [Ps.tLet] (by simp) HYa.out).mono ?_
          rintro e V1 ⟨rfl, hb⟩
          have hq := H0.out
          clear H0
          have H0 := Lib.hid (And.intro (hq.1.past hb) (And.intro (hq.2.1.trans (FrT.of hb)) hq.2.2))
          clear hb hq
          skip
          dsimp only
          go_wp2_with fail
          refine (pnext_at H0.out.1 HP.out.2.1 H.out.2.1 [Ps.tIf] (by simp) HYc.out).mono ?_
          rintro e W0 ⟨rfl, hb⟩
          have hq := H0.out
          clear H0
          have H0 := Lib.hid (And.intro (hq.1.past hb) (And.intro (hq.2.1.trans (FrT.of hb)) hq.2.2))
          clear hb hq
          have c0 := H0.out.1.c0
          dsimp only
          go_wp2_with fail
          refine (pleaf_calls H0.out.1 (Pc.inv_room H0.out.2.2.inv H.out.2.1)).mono ?_
          rintro e W1 ⟨rfl, h, g⟩
          have H1 := Lib.hid (And.intro h (And.intro (H0.out.2.1.trans g) ((H0.out.2.2.leaf H.out.1 HE.out (Pc.next_kind HYc.out)).1)))
          clear h g
          obtain ⟨⟨x1, s1⟩, hx⟩ : ∃ r, Ps.leaf tk s = r := ⟨_, rfl⟩
          rw [hx] at H1 ⊢
          have HX1 := Lib.hid hx
          clear hx
          dsimp only at H1 ⊢
          go_wp2_with fail
          refine (H.out.2.2.2.1 Q _ _ (HP.out.2.2.frt H1.out.2.1) H1.out.1 H1.out.2.2.inv).mono ?_
          rintro e W2 ⟨rfl, h, g⟩
          have H2 := Lib.hid (And.intro h (And.intro (H1.out.2.1.trans g) (H1.out.2.2.then H.out.2.2.1)))
          clear h g
          obtain ⟨⟨x2, s2⟩, hx⟩ : ∃ r, ex s1 = r := ⟨_, rfl⟩
          rw [hx] at H2 ⊢
          have HX2 := Lib.hid hx
          clear hx
          dsimp only at H2 ⊢
          go_wp2_with fail
          have hal : Below W2.heap.size W2 (W2.alloc (.cells (strCells [Ps.tThen]).toArray 9)) := (Below.refl _ _).alloc (Nat.le_refl _) _
          refine (pmust_calls (ts := [Ps.tThen]) (H2.out.1.past hal) (Pc.inv_room H2.out.2.2.inv H.out.2.1) (rds_newS W2 [Ps.tThen] rfl) (fun k hk => by rw [hk, ← size_alloc1]; omega) (by simp)).mono ?_
          rintro e W3 ⟨rfl, h, g⟩
          have H3 := Lib.hid (And.intro h (And.intro (H2.out.2.1.trans ((FrT.of hal).trans g)) (H2.out.2.2.then (Pc.sim_must H.out.1 Ps.tThen))))
          clear h g hal
          obtain ⟨⟨x3, s3⟩, hx⟩ : ∃ r, Ps.must tk [Ps.tThen] s2 = r := ⟨_, rfl⟩
          rw [hx] at H3 ⊢
          have HX3 := Lib.hid hx
          clear hx
          dsimp only at H3 ⊢
          go_wp2_with fail
          refine (H.out.2.2.2.1 Q _ _ (HP.out.2.2.frt H3.out.2.1) H3.out.1 H3.out.2.2.inv).mono ?_
          rintro e W4 ⟨rfl, h, g⟩
          have H4 := Lib.hid (And.intro h (And.intro (H3.out.2.1.trans g) (H3.out.2.2.then H.out.2.2.1)))
          clear h g
          obtain ⟨⟨x4, s4⟩, hx⟩ : ∃ r, ex s3 = r := ⟨_, rfl⟩
          rw [hx] at H4 ⊢
          have HX4 := Lib.hid hx
          clear hx
          dsimp only at H4 ⊢
          go_wp2_with fail
          have hal : Below W4.heap.size W4 (W4.alloc (.cells (strCells [Ps.tElse]).toArray 9)) := (Below.refl _ _).alloc (Nat.le_refl _) _
          refine (pmust_calls (ts := [Ps.tElse]) (H4.out.1.past hal) (Pc.inv_room H4.out.2.2.inv H.out.2.1) (rds_newS W4 [Ps.tElse] rfl) (fun k hk => by rw [hk, ← size_alloc1]; omega) (by simp)).mono ?_
          rintro e W5 ⟨rfl, h, g⟩
          have H5 := Lib.hid (And.intro h (And.intro (H4.out.2.1.trans ((FrT.of hal).trans g)) (H4.out.2.2.then (Pc.sim_must H.out.1 Ps.tElse))))
          clear h g hal
          obtain ⟨⟨x5, s5⟩, hx⟩ : ∃ r, Ps.must tk [Ps.tElse] s4 = r := ⟨_, rfl⟩
          rw [hx] at H5 ⊢
          have HX5 := Lib.hid hx
          clear hx
          dsimp only at H5 ⊢
          go_wp2_with fail
          refine (H.out.2.2.2.1 Q _ _ (HP.out.2.2.frt H5.out.2.1) H5.out.1 H5.out.2.2.inv).mono ?_
          rintro e W6 ⟨rfl, h, g⟩
          have H6 := Lib.hid (And.intro h (And.intro (H5.out.2.1.trans g) (H5.out.2.2.then H.out.2.2.1)))
          clear h g
          obtain ⟨⟨x6, s6⟩, hx⟩ : ∃ r, ex s5 = r := ⟨_, rfl⟩
          rw [hx] at H6 ⊢
          have HX6 := Lib.hid hx
          clear hx
          dsimp only at H6 ⊢
          go_wp2_with fail
          refine (pnode_at H6.out.1 H6.out.2.2.inv H.out.2.1 (HP.out.2.2.frt H6.out.2.1) [x1, x2, x3, x4, x5, x6] (by simp) 8).mono ?_
          rintro e WN ⟨rfl, h, g⟩
          have HN := Lib.hid (And.intro h (H6.out.2.1.trans g))
          clear h g
          dsimp only
          go_wp2_with fail
          go_ret
          have e1 : Ps.exIf tk ex s = Ps.node 8 [x1, x2, x3, x4, x5, x6] s6 := by
            simp only [Ps.exIf, HX1.out, HX2.out, HX3.out, HX4.out, HX5.out, HX6.out]
          rw [e1]
          exact ⟨rfl, HN.out.1, HN.out.2⟩
        · rw [if_neg c]
          rw [Bool.not_eq_true] at c
          have HYc := Lib.hid c
          clear c
          by_cases d : Ps.nextB tk [Ps.tAssert] s.used = true
          · rw [if_pos d]
            have HYd := Lib.hid d
            clear d
            go_enter Tryz.func142, Tryz.ntmps142
            go_wp2_with fail
            refine HD.out.mono ?_
            rintro e V0 ⟨rfl, h, g⟩
            have c2 := h.c2
            rw [hcl] at c2
            have H0 := Lib.hid (And.intro h (And.intro g (Pc.Og.nil HP.out.2.1)))
            clear h g
            dsimp only
            go_wp2_with fail
            refine (pnext_at H0.out.1 HP.out.2.1 H.out.2.1 [Ps.tLet] (by simp) HYa.out).mono ?_
            rintro e V1 ⟨rfl, hb⟩
            have hq := H0.out
            clear H0
            have H0 := Lib.hid (And.intro (hq.1.past hb) (And.intro (hq.2.1.trans (FrT.of hb)) hq.2.2))
            clear hb hq
            skip
            dsimp only
            go_wp2_with fail
            refine (pnext_at H0.out.1 HP.out.2.1 H.out.2.1 [Ps.tIf] (by simp) HYc.out).mono ?_
            rintro e V2 ⟨rfl, hb⟩
            have hq := H0.out
            clear H0
            have H0 := Lib.hid (And.intro (hq.1.past hb) (And.intro (hq.2.1.trans (FrT.of hb)) hq.2.2))
            clear hb hq
            skip
            dsimp only
            go_wp2_with fail
            refine (pnext_at H0.out.1 HP.out.2.1 H.out.2.1 [Ps.tAssert] (by simp) HYd.out).mono ?_
            rintro e W0 ⟨rfl, hb⟩
            have hq := H0.out
            clear H0
            have H0 := Lib.hid (And.intro (hq.1.past hb) (And.intro (hq.2.1.trans (FrT.of hb)) hq.2.2))
            clear hb hq
            have c0 := H0.out.1.c0
            dsimp only
            go_wp2_with fail
            refine (pleaf_calls H0.out.1 (Pc.inv_room H0.out.2.2.inv H.out.2.1)).mono ?_
            rintro e W1 ⟨rfl, h, g⟩
            have H1 := Lib.hid (And.intro h (And.intro (H0.out.2.1.trans g) ((H0.out.2.2.leaf H.out.1 HE.out (Pc.next_kind HYd.out)).1)))
            clear h g
            obtain ⟨⟨x1, s1⟩, hx⟩ : ∃ r, Ps.leaf tk s = r := ⟨_, rfl⟩
            rw [hx] at H1 ⊢
            have HX1 := Lib.hid hx
            clear hx
            dsimp only at H1 ⊢
            go_wp2_with fail
            refine (H.out.2.2.2.1 Q _ _ (HP.out.2.2.frt H1.out.2.1) H1.out.1 H1.out.2.2.inv).mono ?_
            rintro e W2 ⟨rfl, h, g⟩
            have H2 := Lib.hid (And.intro h (And.intro (H1.out.2.1.trans g) (H1.out.2.2.then H.out.2.2.1)))
            clear h g
            obtain ⟨⟨x2, s2⟩, hx⟩ : ∃ r, ex s1 = r := ⟨_, rfl⟩
            rw [hx] at H2 ⊢
            have HX2 := Lib.hid hx
            clear hx
            dsimp only at H2 ⊢
            go_wp2_with fail
            have hal : Below W2.heap.size W2 (W2.alloc (.cells (strCells [Ps.tIn]).toArray 9)) := (Below.refl _ _).alloc (Nat.le_refl _) _
            refine (pmust_calls (ts := [Ps.tIn]) (H2.out.1.past hal) (Pc.inv_room H2.out.2.2.inv H.out.2.1) (rds_newS W2 [Ps.tIn] rfl) (fun k hk => by rw [hk, ← size_alloc1]; omega) (by simp)).mono ?_
            rintro e W3 ⟨rfl, h, g⟩
            have H3 := Lib.hid (And.intro h (And.intro (H2.out.2.1.trans ((FrT.of hal).trans g)) (H2.out.2.2.then (Pc.sim_must H.out.1 Ps.tIn))))
            clear h g hal
            obtain ⟨⟨x3, s3⟩, hx⟩ : ∃ r, Ps.must tk [Ps.tIn] s2 = r := ⟨_, rfl⟩
            rw [hx] at H3 ⊢
            have HX3 := Lib.hid hx
            clear hx
            dsimp only at H3 ⊢
            go_wp2_with fail
            refine (H.out.2.2.2.1 Q _ _ (HP.out.2.2.frt H3.out.2.1) H3.out.1 H3.out.2.2.inv).mono ?_
            rintro e W4 ⟨rfl, h, g⟩
            have H4 := Lib.hid (And.intro h (And.intro (H3.out.2.1.trans g) (H3.out.2.2.then H.out.2.2.1)))
            clear h g
            obtain ⟨⟨x4, s4⟩, hx⟩ : ∃ r, ex s3 = r := ⟨_, rfl⟩
            rw [hx] at H4 ⊢
            have HX4 := Lib.hid hx
            clear hx
            dsimp only at H4 ⊢
            go_wp2_with fail
            refine (pnode_at H4.out.1 H4.out.2.2.inv H.out.2.1 (HP.out.2.2.frt H4.out.2.1) [x1, x2, x3, x4] (by simp) 9).mono ?_
            rintro e WN ⟨rfl, h, g⟩
            have HN := Lib.hid (And.intro h (H4.out.2.1.trans g))
            clear h g
            dsimp only
            go_wp2_with fail
            go_ret
            have e1 : Ps.exAssert tk ex s = Ps.node 9 [x1, x2, x3, x4] s4 := by
              simp only [Ps.exAssert, HX1.out, HX2.out, HX3.out, HX4.out]
            rw [e1]
            exact ⟨rfl, HN.out.1, HN.out.2⟩
          · rw [if_neg d]
            rw [Bool.not_eq_true] at d
            have HYd := Lib.hid d
            clear d
            go_enter Tryz.func142, Tryz.ntmps142
            go_wp2_with fail
            refine HD.out.mono ?_
            rintro e V0 ⟨rfl, h, g⟩
            have c2 := h.c2
            rw [hcl] at c2
            have H0 := Lib.hid (And.intro h (And.intro g (Pc.Og.nil HP.out.2.1)))
            clear h g
            dsimp only
            go_wp2_with fail
            refine (pnext_at H0.out.1 HP.out.2.1 H.out.2.1 [Ps.tLet] (by simp) HYa.out).mono ?_
            rintro e V1 ⟨rfl, hb⟩
            have hq := H0.out
            clear H0
            have H0 := Lib.hid (And.intro (hq.1.past hb) (And.intro (hq.2.1.trans (FrT.of hb)) hq.2.2))
            clear hb hq
            skip
            dsimp only
            go_wp2_with fail
            refine (pnext_at H0.out.1 HP.out.2.1 H.out.2.1 [Ps.tIf] (by simp) HYc.out).mono ?_
            rintro e V2 ⟨rfl, hb⟩
            have hq := H0.out
            clear H0
            have H0 := Lib.hid (And.intro (hq.1.past hb) (And.intro (hq.2.1.trans (FrT.of hb)) hq.2.2))
            clear hb hq
            skip
            dsimp only
            go_wp2_with fail
            refine (pnext_at H0.out.1 HP.out.2.1 H.out.2.1 [Ps.tAssert] (by simp) HYd.out).mono ?_
            rintro e V3 ⟨rfl, hb⟩
            have hq := H0.out
            clear H0
            have H0 := Lib.hid (And.intro (hq.1.past hb) (And.intro (hq.2.1.trans (FrT.of hb)) hq.2.2))
            clear hb hq
            skip
            dsimp only
            go_wp2_with fail
            refine (H.out.2.2.2.2 Q _ _ (HP.out.2.2.frt H0.out.2.1) H0.out.1 HP.out.2.1).mono ?_
            rintro e WN ⟨rfl, h, g⟩
            have HN := Lib.hid (And.intro h (H0.out.2.1.trans g))
            clear h g
            dsimp only
            go_wp2_with fail
            go_ret
            exact ⟨rfl, HN.out.1, HN.out.2⟩
    · rw [if_pos rfl]
      go_enter Tryz.func142, Tryz.ntmps142
      go_wp2_with fail
      refine HD.out.mono ?_
      rintro e V0 ⟨rfl, h, g⟩
      have c2 := h.c2
      rw [hcl] at c2
      have H0 := Lib.hid (And.intro h (And.intro g (Pc.Og.nil HP.out.2.1)))
      clear h g
      dsimp only
      go_wp2_with fail
      refine (H.out.2.2.2.2 Q _ _ (HP.out.2.2.frt H0.out.2.1) H0.out.1 HP.out.2.1).mono ?_
      rintro e WN ⟨rfl, h, g⟩
      have HN := Lib.hid (And.intro h (H0.out.2.1.trans g))
      clear h g
      dsimp only
      go_wp2_with fail
      go_ret
      exact ⟨rfl, HN.out.1, HN.out.2⟩
  · rw [if_neg he]
    rw [decide_eq_true he] at hdp
    have HD := Lib.hid hdp
    clear ht hl hx hex hfo h hi hQ hdp hds he hd hlo
    go_enter Tryz.func142, Tryz.ntmps142
    go_wp2_with fail
    refine HD.out.mono ?_
    rintro e W1 ⟨rfl, h, g⟩
    have H1 := Lib.hid (And.intro h g)
    clear h g
    dsimp only
    go_wp2_with fail
    go_ret
    exact ⟨rfl, H1.out.1, H1.out.2⟩
end
end Go.Proofs.YtlejecaanllghaaGreatDoor
/- parse: name: the walk. -/
namespace Go.Proofs.YtlejecaanllghaaGreatDoor
open Go.RowKit

section
variable {w0 : World} {p b : Nat} {tk : List Tr.Tk} {dp : Int} {Q : Nat → Prop}
/-- A parser, and a row of kids of the caller's own, made since W. -/
structure KidsI (Q : Nat → Prop) (w0 W : World) (p b : Nat) (tk : List Tr.Tk) (dp : Int) (s : Ps.St) (V : World) (v : Value) (l : List Int) : Prop where
  row : V.ownsRow W.heap.size 3 1 v l.length (intCells l)
  pi : PI (Off Q v) w0 V p b tk dp s
  fr : FrT PTs W V
theorem KidsI.up {W V : World} {s : Ps.St} {v : Value} {l : List Int} (h : KidsI Q w0 W p b tk dp s V v l) (hQ : Up Q W) : Up (Off Q v) V := Off.up (hQ.frt h.fr) h.row
theorem KidsI.step {W V V' : World} {s s' : Ps.St} {v : Value} {l : List Int} (h : KidsI Q w0 W p b tk dp s V v l) (hp : PI (Off Q v) w0 V' p b tk dp s') (hf : FrT PTs V V') : KidsI Q w0 W p b tk dp s' V' v l :=
  ⟨ownsRow_frt h.row hf (by decide), hp, h.fr.trans hf⟩
theorem KidsI.past {W V V' : World} {s : Ps.St} {v : Value} {l : List Int} (h : KidsI Q w0 W p b tk dp s V v l) (hb : Below V.heap.size V V') : KidsI Q w0 W p b tk dp s V' v l :=
  h.step (h.pi.past hb) (FrT.of hb)
theorem KidsI.append {W V V' : World} {s : Ps.St} {v v' : Value} {l m : List Int} {n : Nat} (h : KidsI Q w0 W p b tk dp s V v l) (hw : w0.heap.size ≤ W.heap.size) (ho : V'.ownsRow W.heap.size 3 1 v' n (intCells l ++ intCells m)) (hn : n = l.length + m.length)
    (hg : V.grownBy V' v.ownBlock) (hat : ∀ k, v'.ownBlock = some k → v.ownBlock = some k ∨ k = V.heap.size) : KidsI Q w0 W p b tk dp s V' v' (l ++ m) := by
  refine ⟨?_, h.pi.appended h.row hw hg hat, h.fr.grown hg fun k hk => (h.row.lt k hk).1⟩
  have e : intCells (l ++ m) = intCells l ++ intCells m := by simp [intCells]
  rw [e, List.length_append, ← hn]
  exact ho
theorem kids_new {W V : World} {s : Ps.St} (h : PI Q w0 V p b tk dp s) (hf : FrT PTs W V) (l : List Int) (hl : l.length ≤ 1000) :
    KidsI Q w0 W p b tk dp s (V.alloc (.cells (intCells l).toArray 3)) (.slice (some ⟨V.heap.size, 0, none⟩) l.length l.length) l := by
  have hal : Below V.heap.size V (V.alloc (.cells (intCells l).toArray 3)) := (Below.refl _ _).alloc (Nat.le_refl _) _
  exact ⟨ownsRow_low (own_new V l hl) hf.size, (h.imp fun k hk hq => ⟨hq, by simp only [Value.ownBlock, ne_eq, Option.some.injEq]; omega⟩).past hal, hf.trans (FrT.of hal)⟩
theorem KidsI.node {W V : World} {s : Ps.St} {v : Value} {l : List Int} (h : KidsI Q w0 W p b tk dp s V v l) (hQ : Up Q W) (hi : Pc.Inv tk s) (hl : tk.length ≤ 1000000) (hn : l.length ≤ 1000000) (k : Int) :
    Calls Tryz.prog 96 #[.pointer (some ⟨p, 0, none⟩), .int .i64 k, v] V fun e W' => e = .returned (.int .i64 (Ps.node k l s).1) ∧ PI Q w0 W' p b tk dp (Ps.node k l s).2 ∧ FrT PTs W W' := by
  refine (pnode_calls h.pi (Pc.inv_room hi hl) (RdS.own h.row) (fun k hk => hk.2.2) hn (h.up hQ) k).mono ?_
  rintro e W' ⟨rfl, h1, g1⟩
  exact ⟨rfl, h1.imp fun k _ hq => hq.1, h.fr.trans g1⟩

theorem pnext_at2 {V : World} {s : Ps.St} (h : PI Q w0 V p b tk dp s) (hi : Pc.Inv tk s) (hl : tk.length ≤ 1000000) (ts : List (List UInt8)) (hts : ts.length ≤ 1000) {y : Bool} (hy : Ps.nextB tk ts s.used = y) {r : Nat} (hr : r = V.heap.size) :
    Calls Tryz.prog 135 #[.pointer (some ⟨p, 0, none⟩), .slice (some ⟨r, 0, none⟩) ts.length ts.length] (V.alloc (.cells (strCells ts).toArray 9)) fun e W' => e = .returned (.bool y) ∧ Below V.heap.size V W' := by
  subst hr
  exact pnext_at h hi hl ts hts hy
/-- The boxes that name's closure looks into. -/
def Boxes (p : Nat) (n : Int) (bp bn : Nat) (V : World) : Prop := V.heap[bp]? = some (.cells #[.pointer (some ⟨p, 0, none⟩)] 101 (0, 0)) ∧ V.heap[bn]? = some (.cells #[.int .i64 n] 3 (0, 0))
theorem boxes_keep {p : Nat} {n : Int} {bp bn : Nat} : ∀ V V', Boxes p n bp bn V → FrT PTs V V' → Boxes p n bp bn V' := fun _ _ h hf => ⟨hf.cells h.1 (by decide), hf.cells h.2 (by decide)⟩
theorem pname1_calls {n : Int} (hn0 : 0 ≤ n) (hn1 : n ≤ 300) {bp bn : Nat} {ex : Ps.F} (hex : Knows w0 p b tk dp 142 #[.pointer (some ⟨p, 0, none⟩), .int .i64 (n + 1)] ex) :
    KnowsB (Boxes p n bp bn) w0 p b tk dp 268 #[.pointer (some ⟨bp, 0, none⟩), .pointer (some ⟨bn, 0, none⟩)] ex := by
  intro Q W s hQ h hi hB
  have b0 := cell_of_heap hB.1 0 rfl
  have b1 := cell_of_heap hB.2 0 rfl
  have HC := Lib.hid (hex Q W s hQ h hi)
  clear h hi hQ hB hex
  go_enter Tryz.func268, Tryz.ntmps268
  go_wp2_with fail
  refine HC.out.mono ?_
  rintro e W1 ⟨rfl, h1, g1⟩
  have H1 := Lib.hid (And.intro h1 g1)
  clear h1 g1
  dsimp only
  go_wp2_with fail
  go_ret
  exact ⟨rfl, H1.out.1, H1.out.2⟩
end
end Go.Proofs.YtlejecaanllghaaGreatDoor
/- Appends onto a row of kids of the call's own. -/
namespace Go.Proofs.YtlejecaanllghaaGreatDoor
open Go.RowKit

section
variable {w0 : World} {p b : Nat} {tk : List Tr.Tk} {dp : Int} {Q : Nat → Prop}
theorem kids_run {W V V' : World} {s : Ps.St} {v : Value} {l : List Int} (hK : KidsI Q w0 W p b tk dp s V v l) (hw : w0.heap.size ≤ W.heap.size) (hb : Below V.heap.size V V') {R : Nat → Prop} {xv : Value} {m : List Int} (hx : RdS V' R 1 xv m.length (intCells m)) (hn : l.length + m.length ≤ 100000) (ty : TypeId) :
    ∃ v' w', (Builtin.append_ #[56, 56] ty #[v, xv]).run Tryz.prog V' = .ok v' w' ∧ KidsI Q w0 W p b tk dp s w' v' (l ++ m) := by
  have hk := hK.past hb
  obtain ⟨i0, hii, hz0, hz1, hz2⟩ := info_split info_int2
  obtain ⟨a2, cap, w', hr, h2, h3, h4⟩ := run_append_row (P := Tryz.prog) V' 56 ty W.heap.size 3 i0 (.int .i64 0) 1 8 Tryz.underlying56 hii hz0 hz1 hz2 rfl (by decide) v l.length (intCells l) hk.row hx (ints_one _) (by unfold maxLen; omega) (by omega) hk.fr.size
  exact ⟨_, w', hr, hk.append hw h2 rfl h3 h4⟩
theorem kids_wp {ops : Array Oper} {rest : List Oper} {o : Oper} {a : Act} {K : Exit → Act → World → Prop} (hgd : o.guard = none) (sx xx : Operand)
    (ho : o.op = .call { callee := .builtin .append, args := #[sx, xx], argTypes := #[56, 56] })
    {W V V' : World} {s : Ps.St} {v : Value} {l : List Int} (hK : KidsI Q w0 W p b tk dp s V v l) (hw : w0.heap.size ≤ W.heap.size) (hs : a.eval sx = v) (hb : Below V.heap.size V V') {R : Nat → Prop} {xv : Value} (m : List Int) (hx : RdS V' R 1 xv m.length (intCells m)) (hxv : a.eval xx = xv) (hn : l.length + m.length ≤ 100000)
    (h : ∀ v' w', KidsI Q w0 W p b tk dp s w' v' (l ++ m) → wpList Tryz.prog ops K rest (a.put o.dst v') w') :
    wpList Tryz.prog ops K (o :: rest) a V' := by
  refine wpList_plain hgd fun K2 hK2 => ?_
  obtain ⟨v', w', hr, h2⟩ := kids_run hK hw hb hx hn o.type
  unfold Oper.wp execOp
  simp only [ho, resolve, invoke, builtin, Sem.run_bind, Sem.run_pure, Result.andThen_ok, List.map_toArray, List.map_cons, List.map_nil, hs, hxv, hr]
  exact hK2 _ _ (h v' w' h2)
theorem kids_step {ops : Array Oper} {o : Oper} {a : Act} {K : Act → World → Prop} {K2 : Exit → Act → World → Prop} {E : Prop} (hgd : o.guard = none) (sx xx : Operand)
    (ho : o.op = .call { callee := .builtin .append, args := #[sx, xx], argTypes := #[56, 56] })
    {W V V' : World} {s : Ps.St} {v : Value} {l : List Int} (hK : KidsI Q w0 W p b tk dp s V v l) (hw : w0.heap.size ≤ W.heap.size) (hs : a.eval sx = v) (hb : Below V.heap.size V V') {R : Nat → Prop} {xv : Value} (m : List Int) (hx : RdS V' R 1 xv m.length (intCells m)) (hxv : a.eval xx = xv) (hn : l.length + m.length ≤ 100000)
    (h : ∀ v' w', KidsI Q w0 W p b tk dp s w' v' (l ++ m) → K (a.put o.dst v') w') :
    if Region.wanted o (yielded ops a.tmps) = true then Oper.wp Tryz.prog o a V' K K2 else E := by
  have hwt : Region.wanted o (yielded ops a.tmps) = true := by simp [Region.wanted, hgd]
  rw [if_pos hwt]
  obtain ⟨v', w', hr, h2⟩ := kids_run hK hw hb hx hn o.type
  unfold Oper.wp execOp
  simp only [ho, resolve, invoke, builtin, Sem.run_bind, Sem.run_pure, Result.andThen_ok, List.map_toArray, List.map_cons, List.map_nil, hs, hxv, hr]
  exact h v' w' h2
theorem fresh_below (V : World) (o : Obj) : Below V.heap.size V (V.alloc o) := (Below.refl _ _).alloc (Nat.le_refl _) _
theorem rds_list {V : World} {base : Nat} {v : Value} {m : List Int} (h : V.ownsRow base 3 1 v m.length (intCells m)) : RdS V (fun k => v.ownBlock = some k ∧ base ≤ k ∧ k < V.heap.size) 1 v m.length (intCells m) := RdS.own h
end
end Go.Proofs.YtlejecaanllghaaGreatDoor
/- parse: name: the walk. -/
namespace Go.Proofs.YtlejecaanllghaaGreatDoor
open Go.RowKit

theorem listGo_len {tk : List Tr.Tk} {f : Ps.F} : ∀ (k : Nat) (ks : List Int) (s : Ps.St), (Ps.listGo tk f k ks s).1.length ≤ ks.length + 2 * k + 1
  | 0, ks, s => by unfold Ps.listGo; simp
  | k + 1, ks, s => by
    unfold Ps.listGo
    split
    · split
      · have := listGo_len (tk := tk) (f := f) k (ks ++ [(f s).1, (Ps.leaf tk (f s).2).1]) (Ps.leaf tk (f s).2).2
        simp only [List.length_append, List.length_cons, List.length_nil] at this
        omega
      · simp only [List.length_append, List.length_cons, List.length_nil]
        omega
    · show ks.length ≤ _
      omega
theorem list_len {tk : List Tr.Tk} {f : Ps.F} (s : Ps.St) : (Ps.list tk f s).1.length ≤ 17 := by
  unfold Ps.list
  split
  · simp
  · have := listGo_len (tk := tk) (f := f) 8 [] s
    simpa using this
theorem Pc.sim_listS {tk : List Tr.Tk} (ht : Pc.Toks tk) {f : Ps.F} {g : Pr.G} (hf : Pc.Sim tk f g) : Pc.SimL tk (Ps.list tk f) (fun r => if r.e = 0 ∧ Pr.is tk [41] r = false then Pr.args tk g r else ([], r)) := by
  refine ⟨fun s r he hi hr => ?_, fun s he => by rw [Pc.list_dead he], fun r he => by rw [if_neg (by simp [he])]⟩
  have o := Pc.sim_list ht hf (Pc.Out.nil hi hr)
  simp only [List.nil_append] at o
  exact o
theorem Pc.inv_must {tk : List Tr.Tk} (ht : Pc.Toks tk) (ts : List (List UInt8)) {s : Ps.St} (hi : Pc.Inv tk s) : Pc.Inv tk (Ps.must tk ts s).2 := by
  unfold Ps.must
  split
  · rename_i h
    exact ((Pc.Og.nil hi).leaf ht h.1 (Pc.next_kind h.2)).1.inv
  · show Pc.Inv tk (Ps.fail tk 22 s)
    unfold Ps.fail
    split
    · exact hi
    · exact hi
section
variable {w0 : World} {p b : Nat} {tk : List Tr.Tk} {dp : Int} {Q : Nat → Prop}
set_option maxRecDepth 100000 in
set_option maxHeartbeats 8000000 in
theorem pname_calls (ht : Pc.Toks tk) (hl : tk.length ≤ 1000000) {n : Int} (hn0 : 0 ≤ n) (hn1 : n ≤ 300) {ex : Ps.F} {g : Pr.G} (hx : Pc.Sim tk ex g) (hex : Knows w0 p b tk dp 142 #[.pointer (some ⟨p, 0, none⟩), .int .i64 (n + 1)] ex)
    {W : World} {s : Ps.St} (hQ : Up Q W) (h : PI Q w0 W p b tk dp s) (hi : Pc.Inv tk s) (he : s.e = 0) (hk : (Ps.peek tk s.used).kind = 1) :
    Calls Tryz.prog 267 #[.pointer (some ⟨p, 0, none⟩), .int .i64 n] W (Does Q w0 p b tk dp (Ps.name tk ex s) W) := by
  have hlf := (Pc.Og.nil hi).leaf ht he (by omega)
  have hV0 : Below W.heap.size W ((W.alloc (.cells #[.pointer (some ⟨p, 0, none⟩)] 101)).alloc (.cells #[.int .i64 n] 3)) := ((Below.refl _ _).alloc (Nat.le_refl _) _).alloc (by rw [← size_alloc1]; omega) _
  have hB0 : Boxes p n W.heap.size (W.heap.size + 1) ((W.alloc (.cells #[.pointer (some ⟨p, 0, none⟩)] 101)).alloc (.cells #[.int .i64 n] 3)) := by
    refine ⟨?_, ?_⟩
    · rw [Below.heap_alloc _ _ _ (by rw [← size_alloc1]; omega)]
      exact heap_alloc_new _ _
    · have := heap_alloc_new (W.alloc (.cells #[.pointer (some ⟨p, 0, none⟩)] 101)) (.cells #[.int .i64 n] 3)
      rw [← size_alloc1] at this
      exact this
  have c0 := (h.past hV0).c0
  obtain ⟨V0, hV0e⟩ : ∃ V0, (W.alloc (.cells #[.pointer (some ⟨p, 0, none⟩)] 101)).alloc (.cells #[.int .i64 n] 3) = V0 := ⟨_, rfl⟩
  have HE0 := Lib.hid hV0e
  have b0 := cell_of_heap hB0.1 0 rfl
  rw [hV0e] at hV0 hB0
  clear hV0e
  have H := Lib.hid (And.intro ht (And.intro hl (And.intro hx hex)))
  have HP := Lib.hid (And.intro h (And.intro hi (And.intro (hQ.size hV0.size) (And.intro hV0 hB0))))
  have HL := Lib.hid hlf
  clear ht hl hx hex h hi hQ hV0 hB0 hlf he hk
  obtain ⟨⟨x1, s1⟩, hx1⟩ : ∃ r, Ps.leaf tk s = r := ⟨_, rfl⟩
  have hnm : Ps.name tk ex s = if (s1.clause || !Ps.nextB tk [[46], [40]] s1.used) = true then Ps.node 14 [x1] s1 else Ps.call tk ex (Ps.callee tk s1 x1).1 (Ps.callee tk s1 x1).2 := by
    unfold Ps.name
    simp only [hx1]
  rw [hnm]
  rw [hx1] at HL
  have HX1 := Lib.hid hx1
  clear hnm hx1
  dsimp only at HL
  cases hcl : s1.clause
  · rw [Bool.false_or]
    have HB := Lib.hid (And.intro (HP.out.1.below.trans (HP.out.2.2.2.1.mono HP.out.1.below.size)).size HP.out.2.2.1)
    by_cases hn : Ps.nextB tk [[46], [40]] s1.used = true
    · rw [if_neg (by rw [hn]; simp)]
      have HYn := Lib.hid hn
      clear hn
      by_cases hd : Ps.nextB tk [[46]] s1.used = true
      · have HYd := Lib.hid hd
        clear hd
        obtain ⟨⟨x4, s4⟩, hx4⟩ : ∃ r, Ps.leaf tk s1 = r := ⟨_, rfl⟩
        have hi4 := ((Pc.Og.nil HL.out.1.inv).leaf H.out.1 HL.out.2 (Pc.next_kind HYd.out)).1.inv
        rw [hx4] at hi4
        obtain ⟨⟨x5, s5⟩, hx5⟩ : ∃ r, Ps.kind tk 1 s4 = r := ⟨_, rfl⟩
        have hi5 := (Pc.sim_kind H.out.1 (k := 1) (by decide)).keep hi4
        rw [hx5] at hi5
        have HX4 := Lib.hid hx4
        have HX5 := Lib.hid hx5
        have HI4 := Lib.hid hi4
        have HI5 := Lib.hid hi5
        have hce : Ps.callee tk s1 x1 = ([x1] ++ [x4, x5], s5) := by unfold Ps.callee; rw [if_pos HYd.out, hx4]; simp only [hx5]; rfl
        rw [hce]
        clear hx4 hx5 hi4 hi5 hce
        go_enter Tryz.func267, Tryz.ntmps267
        go_wp2_with fail
        rw [HE0.out]
        refine (pleaf_calls (HP.out.1.past HP.out.2.2.2.1) (Pc.inv_room HP.out.2.1 H.out.2.1)).mono ?_
        rintro e W1 ⟨rfl, h, g⟩
        rw [HX1.out] at h ⊢
        have hB1 := boxes_keep _ _ HP.out.2.2.2.2 g
        have H1 := Lib.hid (And.intro (kids_new h g [x1] (by simp)) (boxes_keep _ _ hB1 (FrT.of ((Below.refl _ _).alloc (Nat.le_refl _) (.cells (intCells [x1]).toArray 3)))))
        have b0 : (W1.alloc (.cells #[.int .i64 x1] 3)).cell? ⟨W.heap.size, 0, none⟩ = some (.pointer (some ⟨p, 0, none⟩)) := cell_of_heap H1.out.2.1 0 rfl
        have c2 : (W1.alloc (.cells #[.int .i64 x1] 3)).cell? ⟨p, 2, none⟩ = some (.bool s1.clause) := H1.out.1.pi.c2
        rw [hcl] at c2
        clear h g hB1 c0
        dsimp only
        go_wp2_with fail
        refine (pnext_at2 H1.out.1.pi HL.out.1.inv H.out.2.1 [[46], [40]] (by simp) HYn.out (size_alloc1 _ _)).mono ?_
        rintro e V2 ⟨rfl, hb⟩
        have K2 := Lib.hid (And.intro (H1.out.1.past hb) (boxes_keep _ _ H1.out.2 (FrT.of hb)))
        clear hb b0 c2
        have b0 := cell_of_heap K2.out.2.1 0 rfl
        have c0 := K2.out.1.pi.c0
        dsimp only
        go_wp2_with fail
        refine (pnext_at2 K2.out.1.pi HL.out.1.inv H.out.2.1 [[46]] (by simp) HYd.out rfl).mono ?_
        rintro e V3 ⟨rfl, hb⟩
        have KD := Lib.hid (And.intro (K2.out.1.past hb) (boxes_keep _ _ K2.out.2 (FrT.of hb)))
        clear hb b0 c0
        have b0 := cell_of_heap KD.out.2.1 0 rfl
        have c0 := KD.out.1.pi.c0
        dsimp only
        go_wp2_with fail
        have K3 := Lib.hid (And.intro KD.out.1 HL.out.1.inv)
        have HA3 := Lib.hid ((Below.refl V3.heap.size V3).drew)
        go_region_held3 (fun w' => w'.cell? ⟨W.heap.size, 0, none⟩ = some (.pointer (some ⟨p, 0, none⟩)) ∧ w'.cell? ⟨p, 0, none⟩ = some (.pointer (some ⟨b, 0, none⟩))) (first | exact ⟨b0, c0⟩ | exact ⟨b4, c4⟩ | exact ⟨b5, c5⟩ | exact ⟨b6, c6⟩ | go_keep)
          (first
            | (go_at_call 137; refine (pleaf_calls (K3.out.1.pi.past HA3.out) (Pc.inv_room K3.out.2 H.out.2.1)).mono ?_; rintro e WW4 ⟨rfl, h, g⟩; rw [HX4.out] at h ⊢; have KK4 := Lib.hid (K3.out.1.step h ((FrT.of HA3.out).trans g)); have b4 := cell_of_heap (boxes_keep _ _ HP.out.2.2.2.2 KK4.out.fr).1 0 rfl; have c4 := KK4.out.pi.c0; clear h g)
            | (go_at_call 97; refine (pkind_calls KK4.out.pi (Pc.inv_room HI4.out H.out.2.1) 1).mono ?_; rintro e WW5 ⟨rfl, h, g⟩; rw [HX5.out] at h ⊢; have KK5 := Lib.hid (KK4.out.step h g); have b5 := cell_of_heap (boxes_keep _ _ HP.out.2.2.2.2 KK5.out.fr).1 0 rfl; have c5 := KK5.out.pi.c0; clear h g)
            | (refine kids_step rfl (.tmp 28) (.tmp 36) rfl KK5.out HB.out.1 (by simp [Act.eval]) (fresh_below _ _) [x4, x5] (rds_new WW5 [x4, x5] rfl) (by simp [Act.eval]) (by simp) ?_; intro v6 WW6 hk6; have KK6 := Lib.hid hk6; have b6 := cell_of_heap (boxes_keep _ _ HP.out.2.2.2.2 hk6.fr).1 0 rfl; have c6 := hk6.pi.c0; clear hk6))
        have K6 := Lib.hid (And.intro KK6.out HI5.out)
        clear b0 c0 b4 c4 b5 c5
        have b0 := b6
        have c0 := c6
        clear b6 c6
        go_wp2_with fail
        have hal : Below WW6.heap.size WW6 (WW6.alloc (.cells (strCells [[40]]).toArray 9)) := (Below.refl _ _).alloc (Nat.le_refl _) _
        refine (pmust_calls (ts := [[40]]) (K6.out.1.pi.past hal) (Pc.inv_room K6.out.2 H.out.2.1) (rds_newS WW6 [[40]] rfl) (fun k hk => by rw [hk, ← size_alloc1]; omega) (by simp)).mono ?_
        rintro e W7 ⟨rfl, h, g⟩
        have K7 := Lib.hid (And.intro (K6.out.1.step h ((FrT.of hal).trans g)) (Pc.inv_must H.out.1 [[40]] K6.out.2))
        clear h g hal
        obtain ⟨⟨x7, s7⟩, hx⟩ : ∃ r, Ps.must tk [[40]] s5 = r := ⟨_, rfl⟩
        rw [hx] at K7 ⊢
        have HX7 := Lib.hid hx
        clear hx
        dsimp only at K7 ⊢
        clear b0 c0
        go_wp2_with (at_builtin; refine kids_wp rfl _ _ rfl K7.out.1 HB.out.1 rfl (fresh_below _ _) [x7] (rds_new W7 [x7] rfl) rfl (by have := HB.out.1; simp only [List.length_append, List.length_cons, List.length_nil] at this ⊢; omega) ?_)
        intro v8 W8 hk
        have K8 := Lib.hid (And.intro hk K7.out.2)
        clear hk
        have b0 := cell_of_heap (boxes_keep _ _ HP.out.2.2.2.2 K8.out.1.fr).1 0 rfl
        have c0 := K8.out.1.pi.c0
        go_wp2_with fail
        refine (plist_name H.out.1 H.out.2.1 H.out.2.2.1 boxes_keep (pname1_calls hn0 hn1 H.out.2.2.2) _ _ _ (K8.out.1.up HP.out.2.2.1) K8.out.1.pi K8.out.2 (boxes_keep _ _ HP.out.2.2.2.2 K8.out.1.fr)).mono ?_
        rintro e W9 ⟨v9, rfl, ho6, hp6, g6⟩
        have hll := list_len (tk := tk) (f := ex) s7
        have hin := (Pc.sim_listS H.out.1 H.out.2.2.1).keep K8.out.2
        obtain ⟨⟨l9, s9⟩, hx6⟩ : ∃ r, Ps.list tk ex s7 = r := ⟨_, rfl⟩
        rw [hx6] at ho6 hp6 hll hin
        dsimp only at ho6 hp6 hll hin ⊢
        have K9 := Lib.hid (And.intro (K8.out.1.step (hp6.imp fun k _ hq => hq.1) g6) hin)
        have HO9 := Lib.hid (And.intro ho6 hll)
        have HX9 := Lib.hid hx6
        clear ho6 hp6 g6 hll hx6 hin b0 c0
        go_wp2_with (at_builtin; refine kids_wp rfl _ _ rfl K9.out.1 HB.out.1 rfl (Below.refl _ _) l9 (rds_list HO9.out.1) rfl (by have := HO9.out.2; simp only [List.length_append, List.length_cons, List.length_nil]; omega) ?_)
        intro v10 W10 hk
        have K10 := Lib.hid (And.intro hk K9.out.2)
        clear hk
        have b0 := cell_of_heap (boxes_keep _ _ HP.out.2.2.2.2 K10.out.1.fr).1 0 rfl
        go_wp2_with fail
        obtain ⟨⟨x8, s8⟩, hx8⟩ : ∃ r, Ps.must tk [[41]] s9 = r := ⟨_, rfl⟩
        have HX8 := Lib.hid hx8
        have hi8 := Pc.inv_must H.out.1 [[41]] K10.out.2
        rw [hx8] at hi8
        have HI8 := Lib.hid hi8
        have HA8 := Lib.hid (((Below.refl W10.heap.size W10).drew).alloc (Nat.le_refl _) (.cells (strCells [[41]]).toArray 9))
        clear hx8 hi8
        go_region_held3 (fun w' => w'.cell? ⟨W.heap.size, 0, none⟩ = some (.pointer (some ⟨p, 0, none⟩))) (first | exact b0 | exact b8 | exact b9 | exact b10 | go_keep)
          (first
            | (go_at_call 138; refine (pmust_calls (ts := [[41]]) (K10.out.1.pi.past HA8.out) (Pc.inv_room K10.out.2 H.out.2.1) (rds_newS W10.drew [[41]] rfl) (fun k hk => by rw [hk, ← size_alloc1]; exact Nat.lt_succ_self _) (by simp)).mono ?_; rintro e WW8 ⟨rfl, h, g⟩; rw [HX8.out] at h ⊢; have KK8 := Lib.hid (K10.out.1.step h ((FrT.of HA8.out).trans g)); have b8 := cell_of_heap (boxes_keep _ _ HP.out.2.2.2.2 KK8.out.fr).1 0 rfl; clear h g)
            | (refine kids_step rfl (.tmp 50) (.tmp 54) rfl KK8.out HB.out.1 (by simp [Act.eval]) (fresh_below _ _) [x8] (rds_new WW8 [x8] rfl) (by simp [Act.eval]) (by have := HO9.out.2; simp only [List.length_append, List.length_cons, List.length_nil]; omega) ?_; intro v9 WW9 hk9; have KK9 := Lib.hid hk9; have b9 := cell_of_heap (boxes_keep _ _ HP.out.2.2.2.2 hk9.fr).1 0 rfl; clear hk9)
            | (go_at_call 96; refine (KK9.out.node HP.out.2.2.1 HI8.out H.out.2.1 (by have := HO9.out.2; simp only [List.length_append, List.length_cons, List.length_nil]; omega) 13).mono ?_; rintro e WW10 ⟨rfl, h, g⟩; have K10 := Lib.hid (And.intro h g); have b10 := cell_of_heap (boxes_keep _ _ HP.out.2.2.2.2 g).1 0 rfl; clear h g))
        go_wp2_with fail
        go_ret
        have e1 : Ps.call tk ex [x1, x4, x5] s5 = Ps.node 13 (((([x1] ++ [x4, x5]) ++ [x7]) ++ l9) ++ [x8]) s8 := by
          simp only [Ps.call, HX7.out, HX9.out, HX8.out]
          try rfl
        rw [e1]
        exact ⟨rfl, K10.out.1, (FrT.of HP.out.2.2.2.1).trans K10.out.2⟩
      · have hce : Ps.callee tk s1 x1 = ([x1], s1) := by unfold Ps.callee; rw [if_neg hd]
        rw [hce]
        rw [Bool.not_eq_true] at hd
        have HYd := Lib.hid hd
        clear hd hce
        go_enter Tryz.func267, Tryz.ntmps267
        go_wp2_with fail
        rw [HE0.out]
        refine (pleaf_calls (HP.out.1.past HP.out.2.2.2.1) (Pc.inv_room HP.out.2.1 H.out.2.1)).mono ?_
        rintro e W1 ⟨rfl, h, g⟩
        rw [HX1.out] at h ⊢
        have hB1 := boxes_keep _ _ HP.out.2.2.2.2 g
        have H1 := Lib.hid (And.intro (kids_new h g [x1] (by simp)) (boxes_keep _ _ hB1 (FrT.of ((Below.refl _ _).alloc (Nat.le_refl _) (.cells (intCells [x1]).toArray 3)))))
        have b0 : (W1.alloc (.cells #[.int .i64 x1] 3)).cell? ⟨W.heap.size, 0, none⟩ = some (.pointer (some ⟨p, 0, none⟩)) := cell_of_heap H1.out.2.1 0 rfl
        have c2 : (W1.alloc (.cells #[.int .i64 x1] 3)).cell? ⟨p, 2, none⟩ = some (.bool s1.clause) := H1.out.1.pi.c2
        rw [hcl] at c2
        clear h g hB1 c0
        dsimp only
        go_wp2_with fail
        refine (pnext_at2 H1.out.1.pi HL.out.1.inv H.out.2.1 [[46], [40]] (by simp) HYn.out (size_alloc1 _ _)).mono ?_
        rintro e V2 ⟨rfl, hb⟩
        have K2 := Lib.hid (And.intro (H1.out.1.past hb) (boxes_keep _ _ H1.out.2 (FrT.of hb)))
        clear hb b0 c2
        have b0 := cell_of_heap K2.out.2.1 0 rfl
        have c0 := K2.out.1.pi.c0
        dsimp only
        go_wp2_with fail
        refine (pnext_at2 K2.out.1.pi HL.out.1.inv H.out.2.1 [[46]] (by simp) HYd.out rfl).mono ?_
        rintro e V3 ⟨rfl, hb⟩
        have KD := Lib.hid (And.intro (K2.out.1.past hb) (boxes_keep _ _ K2.out.2 (FrT.of hb)))
        clear hb b0 c0
        have b0 := cell_of_heap KD.out.2.1 0 rfl
        have c0 := KD.out.1.pi.c0
        dsimp only
        go_wp2_with fail
        have K3 := Lib.hid (And.intro KD.out.1 HL.out.1.inv)
        have hal : Below V3.heap.size V3 (V3.alloc (.cells (strCells [[40]]).toArray 9)) := (Below.refl _ _).alloc (Nat.le_refl _) _
        refine (pmust_calls (ts := [[40]]) (K3.out.1.pi.past hal) (Pc.inv_room K3.out.2 H.out.2.1) (rds_newS V3 [[40]] rfl) (fun k hk => by rw [hk, ← size_alloc1]; omega) (by simp)).mono ?_
        rintro e W4 ⟨rfl, h, g⟩
        have K4 := Lib.hid (And.intro (K3.out.1.step h ((FrT.of hal).trans g)) (Pc.inv_must H.out.1 [[40]] K3.out.2))
        clear h g hal
        obtain ⟨⟨x4, s4⟩, hx⟩ : ∃ r, Ps.must tk [[40]] s1 = r := ⟨_, rfl⟩
        rw [hx] at K4 ⊢
        have HX4 := Lib.hid hx
        clear hx
        dsimp only at K4 ⊢
        clear b0 c0
        go_wp2_with (at_builtin; refine kids_wp rfl _ _ rfl K4.out.1 HB.out.1 rfl (fresh_below _ _) [x4] (rds_new W4 [x4] rfl) rfl (by have := HB.out.1; simp only [List.length_append, List.length_cons, List.length_nil] at this ⊢; omega) ?_)
        intro v5 W5 hk
        have K5 := Lib.hid (And.intro hk K4.out.2)
        clear hk
        have b0 := cell_of_heap (boxes_keep _ _ HP.out.2.2.2.2 K5.out.1.fr).1 0 rfl
        have c0 := K5.out.1.pi.c0
        go_wp2_with fail
        refine (plist_name H.out.1 H.out.2.1 H.out.2.2.1 boxes_keep (pname1_calls hn0 hn1 H.out.2.2.2) _ _ _ (K5.out.1.up HP.out.2.2.1) K5.out.1.pi K5.out.2 (boxes_keep _ _ HP.out.2.2.2.2 K5.out.1.fr)).mono ?_
        rintro e W6 ⟨v6, rfl, ho6, hp6, g6⟩
        have hll := list_len (tk := tk) (f := ex) s4
        have hin := (Pc.sim_listS H.out.1 H.out.2.2.1).keep K5.out.2
        obtain ⟨⟨l6, s6⟩, hx6⟩ : ∃ r, Ps.list tk ex s4 = r := ⟨_, rfl⟩
        rw [hx6] at ho6 hp6 hll hin
        dsimp only at ho6 hp6 hll hin ⊢
        have K6 := Lib.hid (And.intro (K5.out.1.step (hp6.imp fun k _ hq => hq.1) g6) hin)
        have HO6 := Lib.hid (And.intro ho6 hll)
        have HX6 := Lib.hid hx6
        clear ho6 hp6 g6 hll hx6 hin b0 c0
        go_wp2_with (at_builtin; refine kids_wp rfl _ _ rfl K6.out.1 HB.out.1 rfl (Below.refl _ _) l6 (rds_list HO6.out.1) rfl (by have := HO6.out.2; simp only [List.length_append, List.length_cons, List.length_nil]; omega) ?_)
        intro v7 W7 hk
        have K7 := Lib.hid (And.intro hk K6.out.2)
        clear hk
        have b0 := cell_of_heap (boxes_keep _ _ HP.out.2.2.2.2 K7.out.1.fr).1 0 rfl
        go_wp2_with fail
        obtain ⟨⟨x8, s8⟩, hx8⟩ : ∃ r, Ps.must tk [[41]] s6 = r := ⟨_, rfl⟩
        have HX8 := Lib.hid hx8
        have hi8 := Pc.inv_must H.out.1 [[41]] K7.out.2
        rw [hx8] at hi8
        have HI8 := Lib.hid hi8
        have HA8 := Lib.hid (((Below.refl W7.heap.size W7).drew).alloc (Nat.le_refl _) (.cells (strCells [[41]]).toArray 9))
        clear hx8 hi8
        go_region_held3 (fun w' => w'.cell? ⟨W.heap.size, 0, none⟩ = some (.pointer (some ⟨p, 0, none⟩))) (first | exact b0 | exact b8 | exact b9 | exact b10 | go_keep)
          (first
            | (go_at_call 138; refine (pmust_calls (ts := [[41]]) (K7.out.1.pi.past HA8.out) (Pc.inv_room K7.out.2 H.out.2.1) (rds_newS W7.drew [[41]] rfl) (fun k hk => by rw [hk, ← size_alloc1]; exact Nat.lt_succ_self _) (by simp)).mono ?_; rintro e WW8 ⟨rfl, h, g⟩; rw [HX8.out] at h ⊢; have KK8 := Lib.hid (K7.out.1.step h ((FrT.of HA8.out).trans g)); have b8 := cell_of_heap (boxes_keep _ _ HP.out.2.2.2.2 KK8.out.fr).1 0 rfl; clear h g)
            | (refine kids_step rfl (.tmp 50) (.tmp 54) rfl KK8.out HB.out.1 (by simp [Act.eval]) (fresh_below _ _) [x8] (rds_new WW8 [x8] rfl) (by simp [Act.eval]) (by have := HO6.out.2; simp only [List.length_append, List.length_cons, List.length_nil]; omega) ?_; intro v9 WW9 hk9; have KK9 := Lib.hid hk9; have b9 := cell_of_heap (boxes_keep _ _ HP.out.2.2.2.2 hk9.fr).1 0 rfl; clear hk9)
            | (go_at_call 96; refine (KK9.out.node HP.out.2.2.1 HI8.out H.out.2.1 (by have := HO6.out.2; simp only [List.length_append, List.length_cons, List.length_nil]; omega) 13).mono ?_; rintro e WW10 ⟨rfl, h, g⟩; have K10 := Lib.hid (And.intro h g); have b10 := cell_of_heap (boxes_keep _ _ HP.out.2.2.2.2 g).1 0 rfl; clear h g))
        go_wp2_with fail
        go_ret
        have e1 : Ps.call tk ex [x1] s1 = Ps.node 13 ((([x1] ++ [x4]) ++ l6) ++ [x8]) s8 := by
          simp only [Ps.call, HX4.out, HX6.out, HX8.out]
          try rfl
        rw [e1]
        exact ⟨rfl, K10.out.1, (FrT.of HP.out.2.2.2.1).trans K10.out.2⟩
    · rw [if_pos (by simpa using hn)]
      rw [Bool.not_eq_true] at hn
      have HYn := Lib.hid hn
      clear hn
      go_enter Tryz.func267, Tryz.ntmps267
      go_wp2_with fail
      rw [HE0.out]
      refine (pleaf_calls (HP.out.1.past HP.out.2.2.2.1) (Pc.inv_room HP.out.2.1 H.out.2.1)).mono ?_
      rintro e W1 ⟨rfl, h, g⟩
      rw [HX1.out] at h ⊢
      have hB1 := boxes_keep _ _ HP.out.2.2.2.2 g
      have H1 := Lib.hid (And.intro (kids_new h g [x1] (by simp)) (boxes_keep _ _ hB1 (FrT.of ((Below.refl _ _).alloc (Nat.le_refl _) (.cells (intCells [x1]).toArray 3)))))
      have b0 : (W1.alloc (.cells #[.int .i64 x1] 3)).cell? ⟨W.heap.size, 0, none⟩ = some (.pointer (some ⟨p, 0, none⟩)) := cell_of_heap H1.out.2.1 0 rfl
      have c2 : (W1.alloc (.cells #[.int .i64 x1] 3)).cell? ⟨p, 2, none⟩ = some (.bool s1.clause) := H1.out.1.pi.c2
      rw [hcl] at c2
      clear h g hB1 c0
      dsimp only
      go_wp2_with fail
      refine (pnext_at2 H1.out.1.pi HL.out.1.inv H.out.2.1 [[46], [40]] (by simp) HYn.out (size_alloc1 _ _)).mono ?_
      rintro e V2 ⟨rfl, hb⟩
      have K2 := Lib.hid (And.intro (H1.out.1.past hb) (boxes_keep _ _ H1.out.2 (FrT.of hb)))
      clear hb b0 c2
      have b0 := cell_of_heap K2.out.2.1 0 rfl
      have c0 := K2.out.1.pi.c0
      dsimp only
      go_wp2_with fail
      refine (K2.out.1.node HP.out.2.2.1 HL.out.1.inv H.out.2.1 (by simp) 14).mono ?_
      rintro e WN ⟨rfl, h, g⟩
      have HN := Lib.hid (And.intro h g)
      clear h g
      dsimp only
      go_wp2_with fail
      go_ret
      exact ⟨rfl, HN.out.1, (FrT.of HP.out.2.2.2.1).trans HN.out.2⟩
  · rw [Bool.true_or, if_pos rfl]
    go_enter Tryz.func267, Tryz.ntmps267
    go_wp2_with fail
    rw [HE0.out]
    refine (pleaf_calls (HP.out.1.past HP.out.2.2.2.1) (Pc.inv_room HP.out.2.1 H.out.2.1)).mono ?_
    rintro e W1 ⟨rfl, h, g⟩
    rw [HX1.out] at h ⊢
    have hB1 := boxes_keep _ _ HP.out.2.2.2.2 g
    have H1 := Lib.hid (And.intro (kids_new h g [x1] (by simp)) (boxes_keep _ _ hB1 (FrT.of ((Below.refl _ _).alloc (Nat.le_refl _) (.cells (intCells [x1]).toArray 3)))))
    have b0 : (W1.alloc (.cells #[.int .i64 x1] 3)).cell? ⟨W.heap.size, 0, none⟩ = some (.pointer (some ⟨p, 0, none⟩)) := cell_of_heap H1.out.2.1 0 rfl
    have c2 : (W1.alloc (.cells #[.int .i64 x1] 3)).cell? ⟨p, 2, none⟩ = some (.bool s1.clause) := H1.out.1.pi.c2
    rw [hcl] at c2
    clear h g hB1 c0
    dsimp only
    go_wp2_with fail
    refine (H1.out.1.node HP.out.2.2.1 HL.out.1.inv H.out.2.1 (by simp) 14).mono ?_
    rintro e W2 ⟨rfl, h, g⟩
    have H2 := Lib.hid (And.intro h g)
    clear h g b0 c2
    dsimp only
    go_wp2_with fail
    go_ret
    exact ⟨rfl, H2.out.1, (FrT.of HP.out.2.2.2.1).trans H2.out.2⟩
end
end Go.Proofs.YtlejecaanllghaaGreatDoor
/- parse: expressions of all depths: the walk, tied. -/
namespace Go.Proofs.YtlejecaanllghaaGreatDoor
open Go.RowKit

section
variable {w0 : World} {p b : Nat} {tk : List Tr.Tk} {dp : Int}
/-- A level's four. -/
structure KnowsV (w0 : World) (p b : Nat) (tk : List Tr.Tk) (dp : Int) (d : Nat) (n : Int) : Prop where
  ex : Knows w0 p b tk dp 142 #[.pointer (some ⟨p, 0, none⟩), .int .i64 n] (Ps.lv tk d).ex
  rest : d ≠ 0 → Knows w0 p b tk dp 183 #[.pointer (some ⟨p, 0, none⟩), .int .i64 n] (Ps.lv tk d).fo ∧ Knows w0 p b tk dp 261 #[.pointer (some ⟨p, 0, none⟩), .int .i64 n] (Ps.lv tk d).ne ∧ Knows w0 p b tk dp 262 #[.pointer (some ⟨p, 0, none⟩), .int .i64 n] (Ps.lv tk d).fa
theorem plv_calls (ht : Pc.Toks tk) (hl : tk.length ≤ 1000000) (hdp : dp ≤ 200) : ∀ (d : Nat) (n : Int), 0 ≤ n → n + d = dp + 1 → KnowsV w0 p b tk dp d n
  | 0, n, _, hd => ⟨pexpression_zero hl (by simpa using hd), fun h => absurd rfl h⟩
  | d + 1, n, h0, hd => by
    have h1 : n ≤ 300 := by omega
    have hd' : n + 1 + d = dp + 1 := by omega
    have hs := Pc.sim_lv ht d
    have hk : KnowsV w0 p b tk dp d (n + 1) := plv_calls ht hl hdp d (n + 1) (by omega) hd'
    have ha := patom_calls ht hl h0 h1 hs.ex hk.ex (fun Q W s hQ h hi he hkd => pname_calls ht hl h0 h1 hs.ex hk.ex hQ h hi he hkd)
    have hfa := pfactor_calls ht hl h0 h1 hd' hs (fun hz => (hk.rest hz).2.2) ha
    have sfa := Pc.sim_factor ht hs
    have hpr := prow_calls ht hl (lv := 4) rfl (ts := Ps.sMul) (by decide) signs4_calls sfa (ppart_fac hfa)
    have spr := Pc.sim_row ht sfa Ps.sMul
    have hsu := prow_calls ht hl (lv := 3) rfl (ts := Ps.sSum) (by decide) signs3_calls spr (ppart_row (lv := 3) rfl rfl (by decide) hpr)
    have ssu := Pc.sim_row ht spr Ps.sSum
    have hco := prow_once ht hl (ts := Ps.sCmp) (by decide) signs2_calls ssu (ppart_row (lv := 2) rfl rfl (by decide) hsu)
    have hne := pnegation_calls ht hl h0 h1 hd' hs (fun hz => (hk.rest hz).2.1) hco
    have sne := Pc.sim_negation ht hs
    have hcj := prow_calls ht hl (lv := 1) rfl (ts := Ps.sAnd) (by decide) signs1_calls sne (ppart_neg hne)
    have scj := Pc.sim_row ht sne Ps.sAnd
    have hdj := prow_calls ht hl (lv := 0) rfl (ts := Ps.sOr) (by decide) signs0_calls scj (ppart_row (lv := 0) rfl rfl (by decide) hcj)
    have hfo := pformula_calls ht hl h0 h1 hd' hs (fun hz => (hk.rest hz).1) hdj
    have hex := pexpression_calls ht hl h0 h1 hd' rfl hs.ex hk.ex hfo
    exact ⟨hex, fun _ => ⟨hfo, hne, hfa⟩⟩
end
end Go.Proofs.YtlejecaanllghaaGreatDoor
/- parse: typed: the walk. -/
namespace Go.Proofs.YtlejecaanllghaaGreatDoor
open Go.RowKit

theorem Pc.inv_base {tk : List Tr.Tk} (ht : Pc.Toks tk) {s : Ps.St} (hi : Pc.Inv tk s) : Pc.Inv tk (Ps.node 5 [(Ps.must tk [Ps.tInt, Ps.tBool] s).1] (Ps.must tk [Ps.tInt, Ps.tBool] s).2).2 :=
  (Pc.sim_base ht (Pc.Out.nil hi (Pc.rel_beside s))).2.1
theorem Pc.inv_clause {tk : List Tr.Tk} (ht : Pc.Toks tk) {ex : Ps.F} {g : Pr.G} (hx : Pc.Sim tk ex g) {s : Ps.St} (hi : Pc.Inv tk s) (he : s.e = 0) (hk : Ps.nextB tk [[123]] s.used = true) :
    Pc.Inv tk (Ps.node 6 [(Ps.leaf tk s).1, (ex { (Ps.leaf tk s).2 with clause := true }).1, (Ps.must tk [[125]] { (ex { (Ps.leaf tk s).2 with clause := true }).2 with clause := false }).1] (Ps.must tk [[125]] { (ex { (Ps.leaf tk s).2 with clause := true }).2 with clause := false }).2).2 :=
  (Pc.sim_clause ht hx (Pc.Out.nil hi (Pc.rel_beside s)) he hk).2.1
theorem Pc.typed_app {tk : List Tr.Tk} {ex : Ps.F} (l : List Int) (s : Ps.St) : (Ps.typed tk ex l s).2 = (Ps.typed tk ex [] s).2 ∧ (Ps.typed tk ex l s).1 = l ++ (Ps.typed tk ex [] s).1 := by
  unfold Ps.typed
  simp only
  split <;> simp
theorem Pc.typed_inv {tk : List Tr.Tk} (ht : Pc.Toks tk) {ex : Ps.F} {g : Pr.G} (hx : Pc.Sim tk ex g) (l : List Int) {s : Ps.St} (hi : Pc.Inv tk s) : Pc.Inv tk (Ps.typed tk ex l s).2 := by
  rw [(Pc.typed_app l s).1]
  exact (Pc.sim_typed ht hx (Pc.Out.nil hi (Pc.rel_beside s))).2.1
theorem Pc.typed_len {tk : List Tr.Tk} {ex : Ps.F} (l : List Int) (s : Ps.St) : (Ps.typed tk ex l s).1.length ≤ l.length + 3 := by
  unfold Ps.typed
  simp only
  split <;> simp

section
variable {w0 : World} {p b : Nat} {tk : List Tr.Tk} {dp : Int} {Q : Nat → Prop}
theorem KidsI.clause {W V : World} {s : Ps.St} {v : Value} {l : List Int} (h : KidsI Q w0 W p b tk dp s V v l) (y : Bool) : KidsI Q w0 W p b tk dp { s with clause := y } (V.setCell ⟨p, 2, none⟩ (.bool y)) v l := by
  have h2 := setCell_row (j := 2) h.pi.cell (.bool y)
  have h3 := h.pi.set (s' := { s with clause := y }) ⟨rfl, rfl⟩ (W' := V.setCell ⟨p, 2, none⟩ (.bool y)) rfl rfl rfl (by simp [World.setCell]) h2 (fun k hk => by rw [Below.heap_setCell _ _ _ _ hk])
  exact h.step h3.1 h3.2
/-- A call that goes on with an own row. -/
def KDoes (Q : Nat → Prop) (w0 W : World) (p b : Nat) (tk : List Tr.Tk) (dp : Int) (r : List Int × Ps.St) (e : Ending) (W' : World) : Prop := ∃ v, e = .returned v ∧ KidsI Q w0 W p b tk dp r.2 W' v r.1

set_option maxRecDepth 100000 in
set_option maxHeartbeats 8000000 in
theorem ptyped_calls (ht : Pc.Toks tk) (hl : tk.length ≤ 1000000) {ex : Ps.F} {g : Pr.G} (hx : Pc.Sim tk ex g) (hex : Knows w0 p b tk dp 142 #[.pointer (some ⟨p, 0, none⟩), .int .i64 1] ex)
    {W V : World} {s : Ps.St} {v : Value} {l : List Int} (hw : w0.heap.size ≤ W.heap.size) (hQ : Up Q W) (h : KidsI Q w0 W p b tk dp s V v l) (hi : Pc.Inv tk s) (hn : l.length ≤ 1000) :
    Calls Tryz.prog 141 #[.pointer (some ⟨p, 0, none⟩), v] V (KDoes Q w0 W p b tk dp (Ps.typed tk ex l s)) := by
  obtain ⟨i0, hii, hz0, hz1, hz2⟩ := info_split info_int2
  have Hi := Lib.hid hii
  have Hz0 := Lib.hid hz0
  have Hz1 := Lib.hid hz1
  have Hz2 := Lib.hid hz2
  have H := Lib.hid (And.intro ht (And.intro hl (And.intro hx hex)))
  have HB := Lib.hid (And.intro hw (And.intro hQ hn))
  have K0 := Lib.hid (And.intro h hi)
  clear hii hz0 hz1 hz2 ht hl hx hex hw hQ hn h hi
  go_enter Tryz.func141, Tryz.ntmps141
  go_wp2_with fail
  have hal : Below V.heap.size V (V.alloc (.cells (strCells [[58]]).toArray 9)) := (Below.refl _ _).alloc (Nat.le_refl _) _
  refine (pmust_calls (ts := [[58]]) (K0.out.1.pi.past hal) (Pc.inv_room K0.out.2 H.out.2.1) (rds_newS V [[58]] rfl) (fun k hk => by rw [hk, ← size_alloc1]; omega) (by simp)).mono ?_
  rintro e W1 ⟨rfl, h, g⟩
  have K1 := Lib.hid (And.intro (K0.out.1.step h ((FrT.of hal).trans g)) (Pc.inv_must H.out.1 [[58]] K0.out.2))
  clear h g hal
  obtain ⟨⟨x1, s1⟩, hx⟩ : ∃ r, Ps.must tk [[58]] s = r := ⟨_, rfl⟩
  rw [hx] at K1 ⊢
  have HX1 := Lib.hid hx
  clear hx
  dsimp only at K1 ⊢
  go_wp2_with (at_builtin; refine kids_wp rfl _ _ rfl K1.out.1 HB.out.1 rfl (fresh_below _ _) [x1] (rds_new W1 [x1] rfl) rfl (by have := HB.out.2.2; simp only [List.length_append, List.length_cons, List.length_nil] at this ⊢; omega) ?_)
  intro v2 W2 hk
  have K2 := Lib.hid (And.intro hk K1.out.2)
  clear hk
  go_wp2_with fail
  have hal : Below W2.heap.size W2 (W2.alloc (.cells (strCells [Ps.tInt, Ps.tBool]).toArray 9)) := (Below.refl _ _).alloc (Nat.le_refl _) _
  refine (pmust_calls (ts := [Ps.tInt, Ps.tBool]) (K2.out.1.pi.past hal) (Pc.inv_room K2.out.2 H.out.2.1) (rds_newS W2 [Ps.tInt, Ps.tBool] rfl) (fun k hk => by rw [hk, ← size_alloc1]; omega) (by simp)).mono ?_
  rintro e W3 ⟨rfl, h, g⟩
  have K3 := Lib.hid (And.intro (K2.out.1.step h ((FrT.of hal).trans g)) (Pc.inv_must H.out.1 [Ps.tInt, Ps.tBool] K2.out.2))
  clear h g hal
  obtain ⟨⟨x3, s3⟩, hx⟩ : ∃ r, Ps.must tk [Ps.tInt, Ps.tBool] s1 = r := ⟨_, rfl⟩
  rw [hx] at K3 ⊢
  have HX3 := Lib.hid hx
  clear hx
  dsimp only at K3 ⊢
  go_wp2_with fail
  have hin := Pc.inv_base H.out.1 K2.out.2
  rw [HX3.out] at hin
  have hin := hin
  refine (pnode_at K3.out.1.pi K3.out.2 H.out.2.1 (K3.out.1.up HB.out.2.1) [x3] (by simp) 5).mono ?_
  rintro e W4 ⟨rfl, h, g⟩
  have K4 := Lib.hid (And.intro (K3.out.1.step h g) (hin))
  clear h g hin
  obtain ⟨⟨x4, s4⟩, hx⟩ : ∃ r, Ps.node 5 [x3] s3 = r := ⟨_, rfl⟩
  rw [hx] at K4 ⊢
  have HX4 := Lib.hid hx
  clear hx
  dsimp only at K4 ⊢
  go_wp2_with (at_builtin; refine kids_wp rfl _ _ rfl K4.out.1 HB.out.1 rfl (fresh_below _ _) [x4] (rds_new W4 [x4] rfl) rfl (by have := HB.out.2.2; simp only [List.length_append, List.length_cons, List.length_nil] at this ⊢; omega) ?_)
  intro v5 W5 hk
  have K5 := Lib.hid (And.intro hk K4.out.2)
  clear hk
  go_wp2_with fail
  refine (pok_calls K5.out.1.pi).mono ?_
  rintro e Wz ⟨rfl, rfl⟩
  by_cases he : s4.e = 0
  · rw [decide_eq_true he]
    have HE := Lib.hid he
    clear he
    dsimp only
    go_wp2_with fail
    by_cases hn : Ps.nextB tk [[123]] s4.used = true
    · have HN := Lib.hid hn
      clear hn
      refine (pnext_at K5.out.1.pi K5.out.2 H.out.2.1 [[123]] (by simp) HN.out).mono ?_
      rintro e W6 ⟨rfl, hb⟩
      have K6 := Lib.hid (And.intro (K5.out.1.past hb) K5.out.2)
      have c0 := K6.out.1.pi.c0
      clear hb
      dsimp only
      go_wp2_with fail
      refine (pleaf_calls K6.out.1.pi (Pc.inv_room K6.out.2 H.out.2.1)).mono ?_
      rintro e W7 ⟨rfl, h, g⟩
      have K7 := Lib.hid (And.intro (K6.out.1.step h g) (((Pc.Og.nil K6.out.2).leaf H.out.1 HE.out (Pc.next_kind HN.out)).1.inv))
      clear h g 
      obtain ⟨⟨x7, s7⟩, hx⟩ : ∃ r, Ps.leaf tk s4 = r := ⟨_, rfl⟩
      rw [hx] at K7 ⊢
      have HX7 := Lib.hid hx
      clear hx
      dsimp only at K7 ⊢
      have c2 := K7.out.1.pi.c2
      have f2 := K7.out.1.pi.frozen 2
      clear c0
      go_wp2_with fail
      clear c2 f2
      have h := K7.out.1.clause true
      obtain ⟨W8, hw⟩ : ∃ r, W7.setCell ⟨p, 2, none⟩ (.bool true) = r := ⟨_, rfl⟩
      obtain ⟨s8, hs⟩ : ∃ r : Ps.St, { s7 with clause := true } = r := ⟨_, rfl⟩
      have hin : Pc.Inv tk s8 := by rw [← hs]; exact K7.out.2
      have HS8 : Hid (W7.heap.size = W8.heap.size) := by rw [← hw]; exact Lib.hid (by simp [World.setCell])
      rw [hw, hs] at h
      rw [hw]
      have K8 := Lib.hid (And.intro h hin)
      have HX8 := Lib.hid hs
      clear h hw hs hin
      refine (H.out.2.2.2 _ _ _ (K8.out.1.up HB.out.2.1) K8.out.1.pi K8.out.2).mono ?_
      rintro e W9 ⟨rfl, h, g⟩
      have K9 := Lib.hid (And.intro (K8.out.1.step h g) (H.out.2.2.1.keep K8.out.2))
      clear h g 
      obtain ⟨⟨x9, s9⟩, hx⟩ : ∃ r, ex s8 = r := ⟨_, rfl⟩
      rw [hx] at K9 ⊢
      have HX9 := Lib.hid hx
      clear hx
      dsimp only at K9 ⊢
      have c2 := K9.out.1.pi.c2
      have f2 := K9.out.1.pi.frozen 2
      go_wp2_with fail
      clear c2 f2
      have h := K9.out.1.clause false
      obtain ⟨W10, hw⟩ : ∃ r, W9.setCell ⟨p, 2, none⟩ (.bool false) = r := ⟨_, rfl⟩
      obtain ⟨s10, hs⟩ : ∃ r : Ps.St, { s9 with clause := false } = r := ⟨_, rfl⟩
      have hin : Pc.Inv tk s10 := by rw [← hs]; exact K9.out.2
      have HS10 : Hid (W9.heap.size = W10.heap.size) := by rw [← hw]; exact Lib.hid (by simp [World.setCell])
      rw [hw, hs] at h
      rw [hw]
      have K10 := Lib.hid (And.intro h hin)
      have HX10 := Lib.hid hs
      clear h hw hs hin
      have hal : Below W10.heap.size W10 (W10.alloc (.cells (strCells [[125]]).toArray 9)) := (Below.refl _ _).alloc (Nat.le_refl _) _
      refine (pmust_calls (ts := [[125]]) (K10.out.1.pi.past hal) (Pc.inv_room K10.out.2 H.out.2.1) (rds_newS W10 [[125]] HS10.out) (fun k hk => by rw [hk, ← size_alloc1]; omega) (by simp)).mono ?_
      rintro e W11 ⟨rfl, h, g⟩
      have K11 := Lib.hid (And.intro (K10.out.1.step h ((FrT.of hal).trans g)) (Pc.inv_must H.out.1 [[125]] K10.out.2))
      clear h g hal
      obtain ⟨⟨x11, s11⟩, hx⟩ : ∃ r, Ps.must tk [[125]] s10 = r := ⟨_, rfl⟩
      rw [hx] at K11 ⊢
      have HX11 := Lib.hid hx
      clear hx
      dsimp only at K11 ⊢
      go_wp2_with fail
      have hin := Pc.inv_clause H.out.1 H.out.2.2.1 K6.out.2 HE.out HN.out
      simp only [HX7.out, HX8.out, HX9.out, HX10.out, HX11.out] at hin
      have hin := hin
      refine (pnode_at K11.out.1.pi K11.out.2 H.out.2.1 (K11.out.1.up HB.out.2.1) [x7, x9, x11] (by simp) 6).mono ?_
      rintro e W12 ⟨rfl, h, g⟩
      have K12 := Lib.hid (And.intro (K11.out.1.step h g) (hin))
      clear h g hin
      obtain ⟨⟨x12, s12⟩, hx⟩ : ∃ r, Ps.node 6 [x7, x9, x11] s11 = r := ⟨_, rfl⟩
      rw [hx] at K12 ⊢
      have HX12 := Lib.hid hx
      clear hx
      dsimp only at K12 ⊢
      go_wp2_with (at_builtin; refine kids_wp rfl _ _ rfl K12.out.1 HB.out.1 rfl (fresh_below _ _) [x12] (rds_new W12 [x12] rfl) rfl (by have := HB.out.2.2; simp only [List.length_append, List.length_cons, List.length_nil] at this ⊢; omega) ?_)
      intro v13 W13 hk
      have K13 := Lib.hid (And.intro hk K12.out.2)
      clear hk
      go_wp2_with fail
      go_ret
      have e1 : Ps.typed tk ex l s = (l ++ [x1, x4, x12], s12) := by
        simp only [Ps.typed, HX1.out, HX3.out, HX4.out]
        rw [if_pos ⟨HE.out, HN.out⟩]
        simp only [HX7.out, HX8.out, HX9.out, HX10.out, HX11.out, HX12.out]
        try simp only [List.append_assoc, List.cons_append, List.nil_append]
      rw [e1]
      exact ⟨_, rfl, K13.out.1⟩
    · rw [Bool.not_eq_true] at hn
      have HN := Lib.hid hn
      clear hn
      refine (pnext_at K5.out.1.pi K5.out.2 H.out.2.1 [[123]] (by simp) HN.out).mono ?_
      rintro e W6 ⟨rfl, hb⟩
      have K6 := Lib.hid (And.intro (K5.out.1.past hb) K5.out.2)
      clear hb
      dsimp only
      go_wp2_with fail
      go_ret
      have e1 : Ps.typed tk ex l s = (l ++ [x1, x4], s4) := by
        simp only [Ps.typed, HX1.out, HX3.out, HX4.out]
        rw [if_neg (by rw [HN.out]; simp)]
        skip
        try simp only [List.append_assoc, List.cons_append, List.nil_append]
      rw [e1]
      exact ⟨_, rfl, K6.out.1⟩
  · rw [decide_eq_false he]
    have HE := Lib.hid he
    clear he
    dsimp only
    go_wp2_with fail
    go_ret
    have e1 : Ps.typed tk ex l s = (l ++ [x1, x4], s4) := by
      simp only [Ps.typed, HX1.out, HX3.out, HX4.out]
      rw [if_neg (fun h => HE.out h.1)]
      skip
      try simp only [List.append_assoc, List.cons_append, List.nil_append]
    rw [e1]
    exact ⟨_, rfl, K5.out.1⟩
end
end Go.Proofs.YtlejecaanllghaaGreatDoor
