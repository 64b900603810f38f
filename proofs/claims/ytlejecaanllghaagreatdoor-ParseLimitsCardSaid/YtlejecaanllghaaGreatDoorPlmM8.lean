/- Contracts and plain laws, in one text. parse: param, imported, definition: the walks. | parse: several, program, alone: the walks. | parse: read: the walk. | parse: Parse, Formula: what they do. -/
import Derived.Test.YtlejecaanllghaaGreatDoorPlmM7
import Derived.Test.YtlejecaanllghaaGreatDoorPlmM6
import Derived.Test.YtlejecaanllghaaGreatDoorPlmM5
import Derived.Test.YtlejecaanllghaaGreatDoorPlmM4
/- parse: param, imported, definition: the walks. -/
namespace Go.Proofs.YtlejecaanllghaaGreatDoor
open Go.RowKit

section
variable {w0 : World} {p b : Nat} {tk : List Tr.Tk} {dp : Int}
theorem kids_nil {Q : Nat → Prop} {W : World} {s : Ps.St} (h : PI Q w0 W p b tk dp s) : KidsI Q w0 W p b tk dp s W (.slice none 0 0) [] :=
  ⟨World.ownsRow_nil _ _ _ _, h.imp fun k _ hq => ⟨hq, by simp [Value.ownBlock]⟩, FrT.refl _ _⟩

set_option maxRecDepth 100000 in
set_option maxHeartbeats 8000000 in
theorem pparam_calls (ht : Pc.Toks tk) (hl : tk.length ≤ 1000000) {ex : Ps.F} {g : Pr.G} (hx : Pc.Sim tk ex g) (hex : Knows w0 p b tk dp 142 #[.pointer (some ⟨p, 0, none⟩), .int .i64 1] ex) :
    KnowsB (fun _ => True) w0 p b tk dp 140 #[.pointer (some ⟨p, 0, none⟩)] (Ps.param tk ex) := by
  intro Q W s hQ h hi _
  have H := Lib.hid (And.intro ht (And.intro hl (And.intro hx hex)))
  have HP := Lib.hid (And.intro h (And.intro hi hQ))
  clear ht hl hx hex hQ h hi
  go_enter Tryz.func140, Tryz.ntmps140
  go_wp2_with fail
  refine (pkind_calls HP.out.1 (Pc.inv_room HP.out.2.1 H.out.2.1) 1).mono ?_
  rintro e W1 ⟨rfl, h, g⟩
  have hin := (Pc.sim_kind H.out.1 (k := 1) (by decide)).keep HP.out.2.1
  obtain ⟨⟨x1, s1⟩, hx1⟩ : ∃ r, Ps.kind tk 1 s = r := ⟨_, rfl⟩
  rw [hx1] at h hin ⊢
  have K1 := Lib.hid (And.intro (kids_new h g [x1] (by simp)) hin)
  have HX1 := Lib.hid hx1
  clear h g hx1 hin
  dsimp only at K1 ⊢
  go_wp2_with fail
  refine (ptyped_calls H.out.1 H.out.2.1 H.out.2.2.1 H.out.2.2.2 HP.out.1.below.size HP.out.2.2 K1.out.1 K1.out.2 (by simp)).mono ?_
  rintro e W2 ⟨v2, rfl, k2⟩
  have hln := Pc.typed_len (tk := tk) (ex := ex) [x1] s1
  have hin := Pc.typed_inv H.out.1 H.out.2.2.1 [x1] K1.out.2
  obtain ⟨⟨l2, s2⟩, hx2⟩ : ∃ r, Ps.typed tk ex [x1] s1 = r := ⟨_, rfl⟩
  rw [hx2] at k2 hln hin
  have K2 := Lib.hid (And.intro k2 (And.intro hin hln))
  have HX2 := Lib.hid hx2
  clear k2 hln hin hx2
  dsimp only at K2 ⊢
  go_wp2_with fail
  refine (K2.out.1.node HP.out.2.2 K2.out.2.1 H.out.2.1 (by have := K2.out.2.2; simp only [List.length_cons, List.length_nil] at this; omega) 4).mono ?_
  rintro e W3 ⟨rfl, h, g⟩
  have H3 := Lib.hid (And.intro h g)
  clear h g
  dsimp only
  go_wp2_with fail
  go_ret
  have e1 : Ps.param tk ex s = Ps.node 4 l2 s2 := by simp only [Ps.param, HX1.out, HX2.out]
  rw [e1]
  exact ⟨rfl, H3.out.1, H3.out.2⟩

set_option maxRecDepth 100000 in
set_option maxHeartbeats 8000000 in
theorem pimported_calls (ht : Pc.Toks tk) (hl : tk.length ≤ 1000000) {Q : Nat → Prop} {W : World} {s : Ps.St} (hQ : Up Q W) (h : PI Q w0 W p b tk dp s) (hi : Pc.Inv tk s) (he : s.e = 0) (hk : Ps.nextB tk [Ps.tImport] s.used = true) :
    Calls Tryz.prog 94 #[.pointer (some ⟨p, 0, none⟩)] W (Does Q w0 p b tk dp (Ps.imported tk s) W) := by
  have H := Lib.hid (And.intro ht (And.intro hl trivial))
  have HP := Lib.hid (And.intro h (And.intro hi hQ))
  have HE := Lib.hid (And.intro he hk)
  have c0 := h.c0
  have H0 := Lib.hid (And.intro h (And.intro (FrT.refl PTs W) (Pc.Og.nil hi)))
  clear ht hl hQ h hi he hk
  go_enter Tryz.func94, Tryz.ntmps94
  go_wp2_with fail
  refine (pleaf_calls H0.out.1 (Pc.inv_room H0.out.2.2.inv H.out.2.1)).mono ?_
  rintro e W1 ⟨rfl, h, g⟩
  have H1 := Lib.hid (And.intro h (And.intro (H0.out.2.1.trans g) ((H0.out.2.2.leaf H.out.1 HE.out.1 (Pc.next_kind HE.out.2)).1)))
  clear h g
  obtain ⟨⟨x1, s1⟩, hx⟩ : ∃ r, Ps.leaf tk s = r := ⟨_, rfl⟩
  rw [hx] at H1 ⊢
  have HX1 := Lib.hid hx
  clear hx
  dsimp only at H1 ⊢
  go_wp2_with fail
  refine (pkind_calls H1.out.1 (Pc.inv_room H1.out.2.2.inv H.out.2.1) 1).mono ?_
  rintro e W2 ⟨rfl, h, g⟩
  have H2 := Lib.hid (And.intro h (And.intro (H1.out.2.1.trans g) (H1.out.2.2.then (Pc.sim_kind H.out.1 (k := 1) (by decide)))))
  clear h g
  obtain ⟨⟨x2, s2⟩, hx⟩ : ∃ r, Ps.kind tk 1 s1 = r := ⟨_, rfl⟩
  rw [hx] at H2 ⊢
  have HX2 := Lib.hid hx
  clear hx
  dsimp only at H2 ⊢
  go_wp2_with fail
  have hal : Below W2.heap.size W2 (W2.alloc (.cells (strCells [[59]]).toArray 9)) := (Below.refl _ _).alloc (Nat.le_refl _) _
  refine (pmust_calls (ts := [[59]]) (H2.out.1.past hal) (Pc.inv_room H2.out.2.2.inv H.out.2.1) (rds_newS W2 [[59]] rfl) (fun k hk => by rw [hk, ← size_alloc1]; omega) (by simp)).mono ?_
  rintro e W3 ⟨rfl, h, g⟩
  have H3 := Lib.hid (And.intro h (And.intro (H2.out.2.1.trans ((FrT.of hal).trans g)) (H2.out.2.2.then (Pc.sim_must H.out.1 [59]))))
  clear h g hal
  obtain ⟨⟨x3, s3⟩, hx⟩ : ∃ r, Ps.must tk [[59]] s2 = r := ⟨_, rfl⟩
  rw [hx] at H3 ⊢
  have HX3 := Lib.hid hx
  clear hx
  dsimp only at H3 ⊢
  go_wp2_with fail
  refine (pnode_at H3.out.1 H3.out.2.2.inv H.out.2.1 (HP.out.2.2.frt H3.out.2.1) [x1, x2, x3] (by simp) 2).mono ?_
  rintro e WN ⟨rfl, h, g⟩
  have HN := Lib.hid (And.intro h (H3.out.2.1.trans g))
  clear h g
  dsimp only
  go_wp2_with fail
  go_ret
  have e1 : Ps.imported tk s = Ps.node 2 [x1, x2, x3] s3 := by
    simp only [Ps.imported, HX1.out, HX2.out, HX3.out]
  rw [e1]
  exact ⟨rfl, HN.out.1, HN.out.2⟩

set_option maxRecDepth 100000 in
set_option maxHeartbeats 16000000 in
theorem pdefinition_calls (ht : Pc.Toks tk) (hl : tk.length ≤ 1000000) {ex : Ps.F} {g : Pr.G} (hx : Pc.Sim tk ex g) (hex : Knows w0 p b tk dp 142 #[.pointer (some ⟨p, 0, none⟩), .int .i64 1] ex)
    {Q : Nat → Prop} {W : World} {s : Ps.St} (hQ : Up Q W) (h : PI Q w0 W p b tk dp s) (hi : Pc.Inv tk s) (he : s.e = 0) :
    Calls Tryz.prog 95 #[.pointer (some ⟨p, 0, none⟩)] W (Does Q w0 p b tk dp (Ps.definition tk ex s) W) := by
  have H := Lib.hid (And.intro ht (And.intro hl (And.intro hx hex)))
  have HP := Lib.hid (And.intro h (And.intro hi hQ))
  have HE := Lib.hid he
  have HB := Lib.hid (And.intro h.below.size (And.intro hQ trivial))
  have KK := Lib.hid (And.intro (kids_nil h) hi)
  clear ht hl hx hex hQ h hi he
  by_cases hn : Ps.nextB tk [Ps.tPub] s.used = true
  · have HN := Lib.hid hn
    clear hn
    go_enter Tryz.func95, Tryz.ntmps95
    go_wp2_with fail
    refine (pnext_at HP.out.1 HP.out.2.1 H.out.2.1 [Ps.tPub] (by simp) HN.out).mono ?_
    rintro e V ⟨rfl, hb⟩
    have K0 := Lib.hid (And.intro (KK.out.1.past hb) KK.out.2)
    have c0 := K0.out.1.pi.c0
    clear hb
    dsimp only
    go_wp2_with fail
    refine (pleaf_calls K0.out.1.pi (Pc.inv_room K0.out.2 H.out.2.1)).mono ?_
    rintro e W1 ⟨rfl, h, g⟩
    have K1 := Lib.hid (And.intro (K0.out.1.step h g) (((Pc.Og.nil K0.out.2).leaf H.out.1 HE.out (Pc.next_kind HN.out)).1.inv))
    clear h g 
    obtain ⟨⟨x1, s1⟩, hx⟩ : ∃ r, Ps.leaf tk s = r := ⟨_, rfl⟩
    rw [hx] at K1 ⊢
    have HX1 := Lib.hid hx
    clear hx
    dsimp only at K1 ⊢
    clear c0
    go_wp2_with (at_builtin; refine kids_wp rfl _ _ rfl K1.out.1 HB.out.1 rfl (fresh_below _ _) [x1] (rds_new W1 [x1] rfl) rfl (by have := (Nat.le_refl 0 : ([] : List Int).length ≤ 0); simp only [List.length_append, List.length_cons, List.length_nil] at this ⊢; try omega) ?_)
    intro v2 W2 hk
    obtain ⟨L2, hL⟩ : ∃ L, [x1] = L := ⟨_, rfl⟩
    have hL2 : ([] : List Int) ++ [x1] = L2 := hL
    replace hk : KidsI Q w0 W p b tk dp s1 W2 v2 L2 := by rw [← hL2]; exact hk
    have K2 := Lib.hid (And.intro hk K1.out.2)
    have HB2 : Hid (L2.length ≤ 1) := Lib.hid (by rw [← hL2, List.length_append]; have := (Nat.le_refl 0 : ([] : List Int).length ≤ 0); have := trivial; (try simp only [List.length_cons, List.length_nil] at *); omega)
    have HL2 := Lib.hid hL
    clear hk hL hL2
    go_wp2_with fail
    have hal : Below W2.heap.size W2 (W2.alloc (.cells (strCells [Ps.tFun]).toArray 9)) := (Below.refl _ _).alloc (Nat.le_refl _) _
    refine (pmust_calls (ts := [Ps.tFun]) (K2.out.1.pi.past hal) (Pc.inv_room K2.out.2 H.out.2.1) (rds_newS W2 [Ps.tFun] rfl) (fun k hk => by rw [hk, ← size_alloc1]; omega) (by simp)).mono ?_
    rintro e W3 ⟨rfl, h, g⟩
    have K3 := Lib.hid (And.intro (K2.out.1.step h ((FrT.of hal).trans g)) (Pc.inv_must H.out.1 [Ps.tFun] K2.out.2))
    clear h g hal
    obtain ⟨⟨x3, s3⟩, hx⟩ : ∃ r, Ps.must tk [Ps.tFun] s1 = r := ⟨_, rfl⟩
    rw [hx] at K3 ⊢
    have HX3 := Lib.hid hx
    clear hx
    dsimp only at K3 ⊢
    go_wp2_with fail
    refine (pkind_calls K3.out.1.pi (Pc.inv_room K3.out.2 H.out.2.1) 1).mono ?_
    rintro e W4 ⟨rfl, h, g⟩
    have K4 := Lib.hid (And.intro (K3.out.1.step h g) ((Pc.sim_kind H.out.1 (k := 1) (by decide)).keep K3.out.2))
    clear h g 
    obtain ⟨⟨x4, s4⟩, hx⟩ : ∃ r, Ps.kind tk 1 s3 = r := ⟨_, rfl⟩
    rw [hx] at K4 ⊢
    have HX4 := Lib.hid hx
    clear hx
    dsimp only at K4 ⊢
    go_wp2_with fail
    have hal : Below W4.heap.size W4 (W4.alloc (.cells (strCells [[40]]).toArray 9)) := (Below.refl _ _).alloc (Nat.le_refl _) _
    refine (pmust_calls (ts := [[40]]) (K4.out.1.pi.past hal) (Pc.inv_room K4.out.2 H.out.2.1) (rds_newS W4 [[40]] rfl) (fun k hk => by rw [hk, ← size_alloc1]; omega) (by simp)).mono ?_
    rintro e W5 ⟨rfl, h, g⟩
    have K5 := Lib.hid (And.intro (K4.out.1.step h ((FrT.of hal).trans g)) (Pc.inv_must H.out.1 [[40]] K4.out.2))
    clear h g hal
    obtain ⟨⟨x5, s5⟩, hx⟩ : ∃ r, Ps.must tk [[40]] s4 = r := ⟨_, rfl⟩
    rw [hx] at K5 ⊢
    have HX5 := Lib.hid hx
    clear hx
    dsimp only at K5 ⊢
    go_wp2_with (at_builtin; refine kids_wp rfl _ _ rfl K5.out.1 HB.out.1 rfl (fresh_below _ _) [x3, x4, x5] (rds_new W5 [x3, x4, x5] rfl) rfl (by have := HB2.out; simp only [List.length_append, List.length_cons, List.length_nil] at this ⊢; try omega) ?_)
    intro v6 W6 hk
    obtain ⟨L6, hL⟩ : ∃ L, L2 ++ [x3, x4, x5] = L := ⟨_, rfl⟩
    have hL2 : L2 ++ [x3, x4, x5] = L6 := hL
    replace hk : KidsI Q w0 W p b tk dp s5 W6 v6 L6 := by rw [← hL2]; exact hk
    have K6 := Lib.hid (And.intro hk K5.out.2)
    have HB6 : Hid (L6.length ≤ 4) := Lib.hid (by rw [← hL2, List.length_append]; have := HB2.out; have := trivial; (try simp only [List.length_cons, List.length_nil] at *); omega)
    have HL6 := Lib.hid hL
    clear hk hL hL2
    go_wp2_with fail
    refine (plist_param H.out.1 H.out.2.1 (Pc.sim_param H.out.1 H.out.2.2.1) (Box := fun _ => True) (fun _ _ _ _ => trivial) (pparam_calls H.out.1 H.out.2.1 H.out.2.2.1 H.out.2.2.2) _ _ _ (K6.out.1.up HB.out.2.1) K6.out.1.pi K6.out.2 trivial).mono ?_
    rintro e W7 ⟨v7, rfl, ho6, hp6, g6⟩
    have hll := list_len (tk := tk) (f := Ps.param tk ex) s5
    have hin := (Pc.sim_listS H.out.1 (Pc.sim_param H.out.1 H.out.2.2.1)).keep K6.out.2
    obtain ⟨⟨l7, s7⟩, hx6⟩ : ∃ r, Ps.list tk (Ps.param tk ex) s5 = r := ⟨_, rfl⟩
    rw [hx6] at ho6 hp6 hll hin
    dsimp only at ho6 hp6 hll hin ⊢
    have K7 := Lib.hid (And.intro (K6.out.1.step (hp6.imp fun k _ hq => hq.1) g6) hin)
    have HO7 := Lib.hid (And.intro ho6 hll)
    have HX7 := Lib.hid hx6
    clear ho6 hp6 g6 hll hx6 hin
    go_wp2_with (at_builtin; refine kids_wp rfl _ _ rfl K7.out.1 HB.out.1 rfl (Below.refl _ _) l7 (rds_list HO7.out.1) rfl (by have := HB6.out; have := HO7.out.2; omega) ?_)
    intro v8 W8 hk
    obtain ⟨L8, hL⟩ : ∃ L, L6 ++ l7 = L := ⟨_, rfl⟩
    have hL2 : L6 ++ l7 = L8 := hL
    replace hk : KidsI Q w0 W p b tk dp s7 W8 v8 L8 := by rw [← hL2]; exact hk
    have K8 := Lib.hid (And.intro hk K7.out.2)
    have HB8 : Hid (L8.length ≤ 21) := Lib.hid (by rw [← hL2, List.length_append]; have := HB6.out; have := HO7.out.2; (try simp only [List.length_cons, List.length_nil] at *); omega)
    have HL8 := Lib.hid hL
    clear hk hL hL2
    go_wp2_with fail
    have hal : Below W8.heap.size W8 (W8.alloc (.cells (strCells [[41]]).toArray 9)) := (Below.refl _ _).alloc (Nat.le_refl _) _
    refine (pmust_calls (ts := [[41]]) (K8.out.1.pi.past hal) (Pc.inv_room K8.out.2 H.out.2.1) (rds_newS W8 [[41]] rfl) (fun k hk => by rw [hk, ← size_alloc1]; omega) (by simp)).mono ?_
    rintro e W9 ⟨rfl, h, g⟩
    have K9 := Lib.hid (And.intro (K8.out.1.step h ((FrT.of hal).trans g)) (Pc.inv_must H.out.1 [[41]] K8.out.2))
    clear h g hal
    obtain ⟨⟨x9, s9⟩, hx⟩ : ∃ r, Ps.must tk [[41]] s7 = r := ⟨_, rfl⟩
    rw [hx] at K9 ⊢
    have HX9 := Lib.hid hx
    clear hx
    dsimp only at K9 ⊢
    go_wp2_with (at_builtin; refine kids_wp rfl _ _ rfl K9.out.1 HB.out.1 rfl (fresh_below _ _) [x9] (rds_new W9 [x9] rfl) rfl (by have := HB8.out; simp only [List.length_append, List.length_cons, List.length_nil] at this ⊢; try omega) ?_)
    intro v10 W10 hk
    obtain ⟨L10, hL⟩ : ∃ L, L8 ++ [x9] = L := ⟨_, rfl⟩
    have hL2 : L8 ++ [x9] = L10 := hL
    replace hk : KidsI Q w0 W p b tk dp s9 W10 v10 L10 := by rw [← hL2]; exact hk
    have K10 := Lib.hid (And.intro hk K9.out.2)
    have HB10 : Hid (L10.length ≤ 22) := Lib.hid (by rw [← hL2, List.length_append]; have := HB8.out; have := trivial; (try simp only [List.length_cons, List.length_nil] at *); omega)
    have HL10 := Lib.hid hL
    clear hk hL hL2
    go_wp2_with fail
    refine (ptyped_calls H.out.1 H.out.2.1 H.out.2.2.1 H.out.2.2.2 HB.out.1 HB.out.2.1 K10.out.1 K10.out.2 (by have := HB10.out; omega)).mono ?_
    rintro e W11 ⟨v11, rfl, k2⟩
    have hln := Pc.typed_len (tk := tk) (ex := ex) (L10) s9
    have hin := Pc.typed_inv H.out.1 H.out.2.2.1 (L10) K10.out.2
    obtain ⟨⟨l11, s11⟩, hx2⟩ : ∃ r, Ps.typed tk ex (L10) s9 = r := ⟨_, rfl⟩
    rw [hx2] at k2 hln hin
    dsimp only at hln
    have hln2 : l11.length ≤ 100 := by
      have h1 := HB10.out
      omega
    have K11 := Lib.hid (And.intro k2 hin)
    have HL11 := Lib.hid hln2
    have HX11 := Lib.hid hx2
    clear k2 hln hin hx2 hln2
    dsimp only at K11 ⊢
    go_wp2_with fail
    have hal : Below W11.heap.size W11 (W11.alloc (.cells (strCells [[61]]).toArray 9)) := (Below.refl _ _).alloc (Nat.le_refl _) _
    refine (pmust_calls (ts := [[61]]) (K11.out.1.pi.past hal) (Pc.inv_room K11.out.2 H.out.2.1) (rds_newS W11 [[61]] rfl) (fun k hk => by rw [hk, ← size_alloc1]; omega) (by simp)).mono ?_
    rintro e W12 ⟨rfl, h, g⟩
    have K12 := Lib.hid (And.intro (K11.out.1.step h ((FrT.of hal).trans g)) (Pc.inv_must H.out.1 [[61]] K11.out.2))
    clear h g hal
    obtain ⟨⟨x12, s12⟩, hx⟩ : ∃ r, Ps.must tk [[61]] s11 = r := ⟨_, rfl⟩
    rw [hx] at K12 ⊢
    have HX12 := Lib.hid hx
    clear hx
    dsimp only at K12 ⊢
    go_wp2_with fail
    refine (H.out.2.2.2 _ _ _ (K12.out.1.up HB.out.2.1) K12.out.1.pi K12.out.2).mono ?_
    rintro e W13 ⟨rfl, h, g⟩
    have K13 := Lib.hid (And.intro (K12.out.1.step h g) (H.out.2.2.1.keep K12.out.2))
    clear h g 
    obtain ⟨⟨x13, s13⟩, hx⟩ : ∃ r, ex s12 = r := ⟨_, rfl⟩
    rw [hx] at K13 ⊢
    have HX13 := Lib.hid hx
    clear hx
    dsimp only at K13 ⊢
    go_wp2_with fail
    have hal : Below W13.heap.size W13 (W13.alloc (.cells (strCells [[59]]).toArray 9)) := (Below.refl _ _).alloc (Nat.le_refl _) _
    refine (pmust_calls (ts := [[59]]) (K13.out.1.pi.past hal) (Pc.inv_room K13.out.2 H.out.2.1) (rds_newS W13 [[59]] rfl) (fun k hk => by rw [hk, ← size_alloc1]; omega) (by simp)).mono ?_
    rintro e W14 ⟨rfl, h, g⟩
    have K14 := Lib.hid (And.intro (K13.out.1.step h ((FrT.of hal).trans g)) (Pc.inv_must H.out.1 [[59]] K13.out.2))
    clear h g hal
    obtain ⟨⟨x14, s14⟩, hx⟩ : ∃ r, Ps.must tk [[59]] s13 = r := ⟨_, rfl⟩
    rw [hx] at K14 ⊢
    have HX14 := Lib.hid hx
    clear hx
    dsimp only at K14 ⊢
    go_wp2_with (at_builtin; refine kids_wp rfl _ _ rfl K14.out.1 HB.out.1 rfl (fresh_below _ _) [x12, x13, x14] (rds_new W14 [x12, x13, x14] rfl) rfl (by have := HL11.out; simp only [List.length_append, List.length_cons, List.length_nil] at this ⊢; try omega) ?_)
    intro v15 W15 hk
    obtain ⟨L15, hL⟩ : ∃ L, l11 ++ [x12, x13, x14] = L := ⟨_, rfl⟩
    have hL2 : l11 ++ [x12, x13, x14] = L15 := hL
    replace hk : KidsI Q w0 W p b tk dp s14 W15 v15 L15 := by rw [← hL2]; exact hk
    have K15 := Lib.hid (And.intro hk K14.out.2)
    have HB15 : Hid (L15.length ≤ 103) := Lib.hid (by rw [← hL2, List.length_append]; have := HL11.out; have := trivial; (try simp only [List.length_cons, List.length_nil] at *); omega)
    have HL15 := Lib.hid hL
    clear hk hL hL2
    go_wp2_with fail
    refine (K15.out.1.node HB.out.2.1 K15.out.2 H.out.2.1 (by have := HB15.out; omega) 3).mono ?_
    rintro e WN ⟨rfl, h, g⟩
    have HN2 := Lib.hid (And.intro h g)
    clear h g
    dsimp only
    go_wp2_with fail
    go_ret
    have e1 : Ps.definition tk ex s = Ps.node 3 (L15) s14 := by
      unfold Ps.definition
      rw [if_pos HN.out]
      simp only [Ps.defn, Ps.defHead, Ps.defRest, HX1.out, HL2.out, HX3.out, HX4.out, HX5.out, HL6.out, HX7.out, HL8.out, HX9.out, HL10.out, HX11.out, HX12.out, HX13.out, HX14.out, HL15.out]
    rw [e1]
    exact ⟨rfl, HN2.out.1, HN2.out.2⟩
  · rw [Bool.not_eq_true] at hn
    have HN := Lib.hid hn
    clear hn
    go_enter Tryz.func95, Tryz.ntmps95
    go_wp2_with fail
    refine (pnext_at HP.out.1 HP.out.2.1 H.out.2.1 [Ps.tPub] (by simp) HN.out).mono ?_
    rintro e V ⟨rfl, hb⟩
    have K0 := Lib.hid (And.intro (KK.out.1.past hb) KK.out.2)
    have c0 := K0.out.1.pi.c0
    clear hb
    dsimp only
    go_wp2_with fail
    clear c0
    have hal : Below V.heap.size V (V.alloc (.cells (strCells [Ps.tFun]).toArray 9)) := (Below.refl _ _).alloc (Nat.le_refl _) _
    refine (pmust_calls (ts := [Ps.tFun]) (K0.out.1.pi.past hal) (Pc.inv_room K0.out.2 H.out.2.1) (rds_newS V [Ps.tFun] rfl) (fun k hk => by rw [hk, ← size_alloc1]; omega) (by simp)).mono ?_
    rintro e W1 ⟨rfl, h, g⟩
    have K1 := Lib.hid (And.intro (K0.out.1.step h ((FrT.of hal).trans g)) (Pc.inv_must H.out.1 [Ps.tFun] K0.out.2))
    clear h g hal
    obtain ⟨⟨x1, s1⟩, hx⟩ : ∃ r, Ps.must tk [Ps.tFun] s = r := ⟨_, rfl⟩
    rw [hx] at K1 ⊢
    have HX1 := Lib.hid hx
    clear hx
    dsimp only at K1 ⊢
    go_wp2_with fail
    refine (pkind_calls K1.out.1.pi (Pc.inv_room K1.out.2 H.out.2.1) 1).mono ?_
    rintro e W2 ⟨rfl, h, g⟩
    have K2 := Lib.hid (And.intro (K1.out.1.step h g) ((Pc.sim_kind H.out.1 (k := 1) (by decide)).keep K1.out.2))
    clear h g 
    obtain ⟨⟨x2, s2⟩, hx⟩ : ∃ r, Ps.kind tk 1 s1 = r := ⟨_, rfl⟩
    rw [hx] at K2 ⊢
    have HX2 := Lib.hid hx
    clear hx
    dsimp only at K2 ⊢
    go_wp2_with fail
    have hal : Below W2.heap.size W2 (W2.alloc (.cells (strCells [[40]]).toArray 9)) := (Below.refl _ _).alloc (Nat.le_refl _) _
    refine (pmust_calls (ts := [[40]]) (K2.out.1.pi.past hal) (Pc.inv_room K2.out.2 H.out.2.1) (rds_newS W2 [[40]] rfl) (fun k hk => by rw [hk, ← size_alloc1]; omega) (by simp)).mono ?_
    rintro e W3 ⟨rfl, h, g⟩
    have K3 := Lib.hid (And.intro (K2.out.1.step h ((FrT.of hal).trans g)) (Pc.inv_must H.out.1 [[40]] K2.out.2))
    clear h g hal
    obtain ⟨⟨x3, s3⟩, hx⟩ : ∃ r, Ps.must tk [[40]] s2 = r := ⟨_, rfl⟩
    rw [hx] at K3 ⊢
    have HX3 := Lib.hid hx
    clear hx
    dsimp only at K3 ⊢
    go_wp2_with (at_builtin; refine kids_wp rfl _ _ rfl K3.out.1 HB.out.1 rfl (fresh_below _ _) [x1, x2, x3] (rds_new W3 [x1, x2, x3] rfl) rfl (by have := (Nat.le_refl 0 : ([] : List Int).length ≤ 0); simp only [List.length_append, List.length_cons, List.length_nil] at this ⊢; try omega) ?_)
    intro v4 W4 hk
    obtain ⟨L4, hL⟩ : ∃ L, ([] : List Int) ++ [x1, x2, x3] = L := ⟨_, rfl⟩
    have hL2 : ([] : List Int) ++ [x1, x2, x3] = L4 := hL
    replace hk : KidsI Q w0 W p b tk dp s3 W4 v4 L4 := by rw [← hL2]; exact hk
    have K4 := Lib.hid (And.intro hk K3.out.2)
    have HB4 : Hid (L4.length ≤ 3) := Lib.hid (by rw [← hL2, List.length_append]; have := (Nat.le_refl 0 : ([] : List Int).length ≤ 0); have := trivial; (try simp only [List.length_cons, List.length_nil] at *); omega)
    have HL4 := Lib.hid hL
    clear hk hL hL2
    go_wp2_with fail
    refine (plist_param H.out.1 H.out.2.1 (Pc.sim_param H.out.1 H.out.2.2.1) (Box := fun _ => True) (fun _ _ _ _ => trivial) (pparam_calls H.out.1 H.out.2.1 H.out.2.2.1 H.out.2.2.2) _ _ _ (K4.out.1.up HB.out.2.1) K4.out.1.pi K4.out.2 trivial).mono ?_
    rintro e W5 ⟨v5, rfl, ho6, hp6, g6⟩
    have hll := list_len (tk := tk) (f := Ps.param tk ex) s3
    have hin := (Pc.sim_listS H.out.1 (Pc.sim_param H.out.1 H.out.2.2.1)).keep K4.out.2
    obtain ⟨⟨l5, s5⟩, hx6⟩ : ∃ r, Ps.list tk (Ps.param tk ex) s3 = r := ⟨_, rfl⟩
    rw [hx6] at ho6 hp6 hll hin
    dsimp only at ho6 hp6 hll hin ⊢
    have K5 := Lib.hid (And.intro (K4.out.1.step (hp6.imp fun k _ hq => hq.1) g6) hin)
    have HO5 := Lib.hid (And.intro ho6 hll)
    have HX5 := Lib.hid hx6
    clear ho6 hp6 g6 hll hx6 hin
    go_wp2_with (at_builtin; refine kids_wp rfl _ _ rfl K5.out.1 HB.out.1 rfl (Below.refl _ _) l5 (rds_list HO5.out.1) rfl (by have := HB4.out; have := HO5.out.2; omega) ?_)
    intro v6 W6 hk
    obtain ⟨L6, hL⟩ : ∃ L, L4 ++ l5 = L := ⟨_, rfl⟩
    have hL2 : L4 ++ l5 = L6 := hL
    replace hk : KidsI Q w0 W p b tk dp s5 W6 v6 L6 := by rw [← hL2]; exact hk
    have K6 := Lib.hid (And.intro hk K5.out.2)
    have HB6 : Hid (L6.length ≤ 20) := Lib.hid (by rw [← hL2, List.length_append]; have := HB4.out; have := HO5.out.2; (try simp only [List.length_cons, List.length_nil] at *); omega)
    have HL6 := Lib.hid hL
    clear hk hL hL2
    go_wp2_with fail
    have hal : Below W6.heap.size W6 (W6.alloc (.cells (strCells [[41]]).toArray 9)) := (Below.refl _ _).alloc (Nat.le_refl _) _
    refine (pmust_calls (ts := [[41]]) (K6.out.1.pi.past hal) (Pc.inv_room K6.out.2 H.out.2.1) (rds_newS W6 [[41]] rfl) (fun k hk => by rw [hk, ← size_alloc1]; omega) (by simp)).mono ?_
    rintro e W7 ⟨rfl, h, g⟩
    have K7 := Lib.hid (And.intro (K6.out.1.step h ((FrT.of hal).trans g)) (Pc.inv_must H.out.1 [[41]] K6.out.2))
    clear h g hal
    obtain ⟨⟨x7, s7⟩, hx⟩ : ∃ r, Ps.must tk [[41]] s5 = r := ⟨_, rfl⟩
    rw [hx] at K7 ⊢
    have HX7 := Lib.hid hx
    clear hx
    dsimp only at K7 ⊢
    go_wp2_with (at_builtin; refine kids_wp rfl _ _ rfl K7.out.1 HB.out.1 rfl (fresh_below _ _) [x7] (rds_new W7 [x7] rfl) rfl (by have := HB6.out; simp only [List.length_append, List.length_cons, List.length_nil] at this ⊢; try omega) ?_)
    intro v8 W8 hk
    obtain ⟨L8, hL⟩ : ∃ L, L6 ++ [x7] = L := ⟨_, rfl⟩
    have hL2 : L6 ++ [x7] = L8 := hL
    replace hk : KidsI Q w0 W p b tk dp s7 W8 v8 L8 := by rw [← hL2]; exact hk
    have K8 := Lib.hid (And.intro hk K7.out.2)
    have HB8 : Hid (L8.length ≤ 21) := Lib.hid (by rw [← hL2, List.length_append]; have := HB6.out; have := trivial; (try simp only [List.length_cons, List.length_nil] at *); omega)
    have HL8 := Lib.hid hL
    clear hk hL hL2
    go_wp2_with fail
    refine (ptyped_calls H.out.1 H.out.2.1 H.out.2.2.1 H.out.2.2.2 HB.out.1 HB.out.2.1 K8.out.1 K8.out.2 (by have := HB8.out; omega)).mono ?_
    rintro e W9 ⟨v9, rfl, k2⟩
    have hln := Pc.typed_len (tk := tk) (ex := ex) (L8) s7
    have hin := Pc.typed_inv H.out.1 H.out.2.2.1 (L8) K8.out.2
    obtain ⟨⟨l9, s9⟩, hx2⟩ : ∃ r, Ps.typed tk ex (L8) s7 = r := ⟨_, rfl⟩
    rw [hx2] at k2 hln hin
    dsimp only at hln
    have hln2 : l9.length ≤ 100 := by
      have h1 := HB8.out
      omega
    have K9 := Lib.hid (And.intro k2 hin)
    have HL9 := Lib.hid hln2
    have HX9 := Lib.hid hx2
    clear k2 hln hin hx2 hln2
    dsimp only at K9 ⊢
    go_wp2_with fail
    have hal : Below W9.heap.size W9 (W9.alloc (.cells (strCells [[61]]).toArray 9)) := (Below.refl _ _).alloc (Nat.le_refl _) _
    refine (pmust_calls (ts := [[61]]) (K9.out.1.pi.past hal) (Pc.inv_room K9.out.2 H.out.2.1) (rds_newS W9 [[61]] rfl) (fun k hk => by rw [hk, ← size_alloc1]; omega) (by simp)).mono ?_
    rintro e W10 ⟨rfl, h, g⟩
    have K10 := Lib.hid (And.intro (K9.out.1.step h ((FrT.of hal).trans g)) (Pc.inv_must H.out.1 [[61]] K9.out.2))
    clear h g hal
    obtain ⟨⟨x10, s10⟩, hx⟩ : ∃ r, Ps.must tk [[61]] s9 = r := ⟨_, rfl⟩
    rw [hx] at K10 ⊢
    have HX10 := Lib.hid hx
    clear hx
    dsimp only at K10 ⊢
    go_wp2_with fail
    refine (H.out.2.2.2 _ _ _ (K10.out.1.up HB.out.2.1) K10.out.1.pi K10.out.2).mono ?_
    rintro e W11 ⟨rfl, h, g⟩
    have K11 := Lib.hid (And.intro (K10.out.1.step h g) (H.out.2.2.1.keep K10.out.2))
    clear h g 
    obtain ⟨⟨x11, s11⟩, hx⟩ : ∃ r, ex s10 = r := ⟨_, rfl⟩
    rw [hx] at K11 ⊢
    have HX11 := Lib.hid hx
    clear hx
    dsimp only at K11 ⊢
    go_wp2_with fail
    have hal : Below W11.heap.size W11 (W11.alloc (.cells (strCells [[59]]).toArray 9)) := (Below.refl _ _).alloc (Nat.le_refl _) _
    refine (pmust_calls (ts := [[59]]) (K11.out.1.pi.past hal) (Pc.inv_room K11.out.2 H.out.2.1) (rds_newS W11 [[59]] rfl) (fun k hk => by rw [hk, ← size_alloc1]; omega) (by simp)).mono ?_
    rintro e W12 ⟨rfl, h, g⟩
    have K12 := Lib.hid (And.intro (K11.out.1.step h ((FrT.of hal).trans g)) (Pc.inv_must H.out.1 [[59]] K11.out.2))
    clear h g hal
    obtain ⟨⟨x12, s12⟩, hx⟩ : ∃ r, Ps.must tk [[59]] s11 = r := ⟨_, rfl⟩
    rw [hx] at K12 ⊢
    have HX12 := Lib.hid hx
    clear hx
    dsimp only at K12 ⊢
    go_wp2_with (at_builtin; refine kids_wp rfl _ _ rfl K12.out.1 HB.out.1 rfl (fresh_below _ _) [x10, x11, x12] (rds_new W12 [x10, x11, x12] rfl) rfl (by have := HL9.out; simp only [List.length_append, List.length_cons, List.length_nil] at this ⊢; try omega) ?_)
    intro v13 W13 hk
    obtain ⟨L13, hL⟩ : ∃ L, l9 ++ [x10, x11, x12] = L := ⟨_, rfl⟩
    have hL2 : l9 ++ [x10, x11, x12] = L13 := hL
    replace hk : KidsI Q w0 W p b tk dp s12 W13 v13 L13 := by rw [← hL2]; exact hk
    have K13 := Lib.hid (And.intro hk K12.out.2)
    have HB13 : Hid (L13.length ≤ 103) := Lib.hid (by rw [← hL2, List.length_append]; have := HL9.out; have := trivial; (try simp only [List.length_cons, List.length_nil] at *); omega)
    have HL13 := Lib.hid hL
    clear hk hL hL2
    go_wp2_with fail
    refine (K13.out.1.node HB.out.2.1 K13.out.2 H.out.2.1 (by have := HB13.out; omega) 3).mono ?_
    rintro e WN ⟨rfl, h, g⟩
    have HN2 := Lib.hid (And.intro h g)
    clear h g
    dsimp only
    go_wp2_with fail
    go_ret
    have e1 : Ps.definition tk ex s = Ps.node 3 (L13) s12 := by
      unfold Ps.definition
      rw [if_neg (by rw [HN.out]; simp)]
      simp only [Ps.defn, Ps.defHead, Ps.defRest, HX1.out, HX2.out, HX3.out, HL4.out, HX5.out, HL6.out, HX7.out, HL8.out, HX9.out, HX10.out, HX11.out, HX12.out, HL13.out]
    rw [e1]
    exact ⟨rfl, HN2.out.1, HN2.out.2⟩
end
end Go.Proofs.YtlejecaanllghaaGreatDoor
/- parse: several, program, alone: the walks. -/
namespace Go.Proofs.YtlejecaanllghaaGreatDoor
open Go.RowKit

theorem rds_strs {W : World} {l : List (List UInt8)} {r : Nat} (h : W.heap[r]? = some (.cells (strCells l).toArray 9 (0, 0))) : RdS W (fun k => k = r) 1 (.slice (some ⟨r, 0, none⟩) l.length l.length) l.length (strCells l) := by
  refine ⟨by simp [strCells], _, _, rfl, Nat.le_refl _, Or.inr ⟨_, _, rfl, Or.inr rfl, ?_⟩⟩
  intro j v hj
  rw [Nat.zero_add]
  exact cell_of_heap h j (by simpa using hj)
theorem severalGo_dead {tk : List Tr.Tk} {one : Ps.F} {ts : List (List UInt8)} {s : Ps.St} (he : s.e ≠ 0) (n : Nat) (ks : List Int) : Ps.severalGo tk one ts n ks s = (ks, s) := by
  cases n <;> (unfold Ps.severalGo; rw [if_neg (fun h => he h.1)])
theorem severalGo_stop {tk : List Tr.Tk} {one : Ps.F} {ts : List (List UInt8)} {s : Ps.St} (hn : Ps.nextB tk ts s.used = false) (n : Nat) (ks : List Int) : Ps.severalGo tk one ts n ks s = (ks, s) := by
  cases n <;> (unfold Ps.severalGo; rw [if_neg (fun h => by simp [hn] at h)])
theorem severalGo_full {tk : List Tr.Tk} {one : Ps.F} {ts : List (List UInt8)} {s : Ps.St} (he : s.e = 0) (hn : Ps.nextB tk ts s.used = true) (ks : List Int) : Ps.severalGo tk one ts 0 ks s = (ks, Ps.fail tk 15 s) := by
  unfold Ps.severalGo
  rw [if_pos ⟨he, hn⟩]
theorem severalGo_on {tk : List Tr.Tk} {one : Ps.F} {ts : List (List UInt8)} {s : Ps.St} (he : s.e = 0) (hn : Ps.nextB tk ts s.used = true) (n : Nat) (ks : List Int) : Ps.severalGo tk one ts (n + 1) ks s = Ps.severalGo tk one ts n (ks ++ [(one s).1]) (one s).2 := by
  rw [Ps.severalGo]
  rw [if_pos ⟨he, hn⟩]
theorem severalGo_len {tk : List Tr.Tk} {one : Ps.F} {ts : List (List UInt8)} : ∀ (n : Nat) (ks : List Int) (s : Ps.St), (Ps.severalGo tk one ts n ks s).1.length ≤ ks.length + n
  | 0, ks, s => by unfold Ps.severalGo; split <;> simp
  | n + 1, ks, s => by
    unfold Ps.severalGo
    split
    · have := severalGo_len (tk := tk) (one := one) (ts := ts) n (ks ++ [(one s).1]) (one s).2
      simp only [List.length_append, List.length_cons, List.length_nil] at this
      omega
    · show ks.length ≤ _
      omega

section
variable {w0 : World} {p b : Nat} {tk : List Tr.Tk} {dp : Int}
theorem KidsI.low {Q : Nat → Prop} {W V V' : World} {s : Ps.St} {v : Value} {l : List Int} (h : KidsI Q w0 V p b tk dp s V' v l) (hf : FrT PTs W V) : KidsI Q w0 W p b tk dp s V' v l :=
  ⟨ownsRow_low h.row hf.size, h.pi, hf.trans h.fr⟩
theorem KidsI.nodeW {Q : Nat → Prop} {W V : World} {s : Ps.St} {v : Value} {l : List Int} (h : KidsI Q w0 W p b tk dp s V v l) (hQ : Up Q W) (hw : Wk tk s) (hn : l.length ≤ 1000000) (k : Int) :
    Calls Tryz.prog 96 #[.pointer (some ⟨p, 0, none⟩), .int .i64 k, v] V fun e W' => e = .returned (.int .i64 (Ps.node k l s).1) ∧ PI Q w0 W' p b tk dp (Ps.node k l s).2 ∧ FrT PTs W W' := by
  refine (pnode_calls h.pi hw (RdS.own h.row) (fun k hk => hk.2.2) hn (h.up hQ) k).mono ?_
  rintro e W' ⟨rfl, h1, g1⟩
  exact ⟨rfl, h1.imp fun k _ hq => hq.1, h.fr.trans g1⟩
/-- What one of several does, where one comes. -/
def KnowsS (ts : List (List UInt8)) (w0 : World) (p b : Nat) (tk : List Tr.Tk) (dp : Int) (k : FuncId) (args : Array Value) (f : Ps.F) : Prop :=
  ∀ (Q : Nat → Prop) (W : World) (s : Ps.St), Up Q W → PI Q w0 W p b tk dp s → Pc.Inv tk s → s.e = 0 → Ps.nextB tk ts s.used = true → Calls Tryz.prog k args W (Does Q w0 p b tk dp (f s) W)
/-- .. keeps the state. -/
def KeepsS (ts : List (List UInt8)) (tk : List Tr.Tk) (f : Ps.F) : Prop := ∀ s, Pc.Inv tk s → s.e = 0 → Ps.nextB tk ts s.used = true → Pc.Inv tk (f s).2
theorem severalGo_keep {one : Ps.F} {ts : List (List UInt8)} (hk : KeepsS ts tk one) : ∀ (n : Nat) (ks : List Int) (s : Ps.St), Pc.Inv tk s → Pc.Inv tk (Ps.severalGo tk one ts n ks s).2
  | 0, ks, s, hi => by
    unfold Ps.severalGo
    split
    · show Pc.Inv tk (Ps.fail tk 15 s)
      unfold Ps.fail
      split
      · exact hi
      · exact hi
    · exact hi
  | n + 1, ks, s, hi => by
    unfold Ps.severalGo
    split
    · rename_i h
      exact severalGo_keep hk n _ _ (hk s hi h.1 h.2)
    · exact hi
def SevRel (Q : Nat → Prop) (w0 W : World) (p b : Nat) (tk : List Tr.Tk) (dp : Int) (f : Ps.F) (ts : List (List UInt8)) (most : Nat) (s : Ps.St) (k : Nat) (v9 : Value) (wr : World) : Prop :=
  ∃ (n : Nat) (ks : List Int) (s1 : Ps.St), k = n ∧ n + ks.length = most ∧ KidsI Q w0 W p b tk dp s1 wr v9 ks ∧ Pc.Inv tk s1 ∧ Ps.severalGo tk f ts n ks s1 = Ps.severalGo tk f ts most [] s

set_option maxRecDepth 100000 in
set_option maxHeartbeats 8000000 in
theorem pseveral_imports (ht : Pc.Toks tk) (hl : tk.length ≤ 1000000) {f : Ps.F} (hkp : KeepsS [Ps.tImport] tk f) (hone : KnowsS [Ps.tImport] w0 p b tk dp 94 #[.pointer (some ⟨p, 0, none⟩)] f)
    {Q : Nat → Prop} {W : World} {s : Ps.St} {r : Nat} (hQ : Up Q W) (h : PI Q w0 W p b tk dp s) (hi : Pc.Inv tk s) (hr : W.heap[r]? = some (.cells (strCells [Ps.tImport]).toArray 9 (0, 0))) :
    Calls Tryz.prog 93 #[.pointer (some ⟨p, 0, none⟩), .int .i64 16, .func (.func 94) #[.pointer (some ⟨p, 0, none⟩)] #[], .slice (some ⟨r, 0, none⟩) [Ps.tImport].length [Ps.tImport].length] W (KDoes Q w0 W p b tk dp (Ps.severalGo tk f [Ps.tImport] 16 [] s)) := by
  have H := Lib.hid (And.intro ht (And.intro hl (And.intro hkp hone)))
  have HB := Lib.hid (And.intro h.below.size (And.intro hQ hr))
  have KK := Lib.hid (And.intro (kids_nil h) hi)
  clear ht hl hkp hone hQ h hi hr
  go_enter Tryz.func93, Tryz.ntmps93
  go_wp2_with fail
  go_loopg [9] 16 (fun k v9 wr => SevRel Q w0 W p b tk dp f [Ps.tImport] 16 s k v9 wr)
  case atStart => exact ⟨16, [], s, rfl, rfl, KK.out.1, KK.out.2, rfl⟩
  case round =>
    obtain ⟨n, ks, s1, hkn, hk, hK, hin, hgo⟩ := hrel
    obtain ⟨a9, c9, rfl⟩ := ownsRow_form hK.row
    have hlen : (ks.length : Int) ≤ 16 := by omega
    have hok := pok_calls hK.pi
    have HR := Lib.hid (And.intro hK (And.intro hin (And.intro hgo hk)))
    have HKN := Lib.hid hkn
    clear hK hin hgo hk hkn
    by_cases he : s1.e = 0
    · rw [decide_eq_true he] at hok
      have HOK := Lib.hid hok
      have HE := Lib.hid he
      clear hok he
      have hnx := pnext_calls (ts := [Ps.tImport]) HR.out.1.pi (Pc.inv_room HR.out.2.1 H.out.2.1) (rds_strs (HR.out.1.fr.cells HB.out.2.2 (by decide))) (fun k hk => by rw [hk]; exact lt_heap (HR.out.1.fr.cells HB.out.2.2 (by decide))) (by decide)
      by_cases hn : Ps.nextB tk [Ps.tImport] s1.used = true
      · rw [hn] at hnx
        have HNX := Lib.hid hnx
        have HN := Lib.hid hn
        clear hnx hn
        by_cases hm : ks.length = 16
        · have hm' : (ks.length : Int) = 16 := by omega
          have HM := Lib.hid hm
          clear hm
          go_wp2_with fail
          refine (HOK.out).mono ?_
          rintro e W3 ⟨rfl, rfl⟩
          dsimp only
          go_wp2_with fail
          refine (HNX.out).mono ?_
          rintro e W4 ⟨rfl, hb⟩
          have K4 := Lib.hid (HR.out.1.past hb)
          clear hb
          dsimp only
          go_wp2_with fail
          refine (pfail_calls K4.out.pi (Pc.inv_room HR.out.2.1 H.out.2.1) 15).mono ?_
          rintro e W5 ⟨rfl, h, g⟩
          have K5 := Lib.hid (K4.out.step h g)
          clear h g
          dsimp only
          go_wp2_with fail
          go_ret
          have hgo := HR.out.2.2.1
          have hk0 : n = 0 := by have := HR.out.2.2.2; have := HM.out; omega
          rw [hk0, severalGo_full HE.out HN.out] at hgo
          rw [← hgo]
          exact ⟨_, rfl, K5.out⟩
        · have hm' : (ks.length : Int) < 16 := by omega
          have HM := Lib.hid hm
          clear hm
          go_wp2_with fail
          refine (HOK.out).mono ?_
          rintro e W3 ⟨rfl, rfl⟩
          dsimp only
          go_wp2_with fail
          refine (HNX.out).mono ?_
          rintro e W4 ⟨rfl, hb⟩
          have K4 := Lib.hid (HR.out.1.past hb)
          clear hb
          dsimp only
          go_wp2_with fail
          refine (H.out.2.2.2 _ _ _ (K4.out.up HB.out.2.1) K4.out.pi HR.out.2.1 HE.out HN.out).mono ?_
          rintro e W5 ⟨rfl, h, g⟩
          have hin := H.out.2.2.1 _ HR.out.2.1 HE.out HN.out
          obtain ⟨⟨x5, s5⟩, hx⟩ : ∃ r, f s1 = r := ⟨_, rfl⟩
          rw [hx] at h hin ⊢
          have K5 := Lib.hid (And.intro (K4.out.step h g) hin)
          have HX5 := Lib.hid hx
          clear h g hin hx
          dsimp only at K5 ⊢
          go_wp2_with (at_builtin; refine kids_wp rfl _ _ rfl K5.out.1 HB.out.1 rfl (fresh_below _ _) [x5] (rds_new W5 [x5] rfl) rfl (by have := HR.out.2.2.2; simp only [List.length_cons, List.length_nil]; omega) ?_)
          intro v6 W6 hk6
          have K6 := Lib.hid (And.intro hk6 K5.out.2)
          clear hk6
          go_wp2_with fail
          go_roundg (n - 1)
          case measure => have := HR.out.2.2.2; have := HM.out; have := HKN.out; omega
          case rel =>
            have hgo := HR.out.2.2.1
            have hk := HR.out.2.2.2
            have hm := HM.out
            obtain ⟨m, hm2⟩ : ∃ m, n = m + 1 := ⟨n - 1, by omega⟩
            rw [hm2, severalGo_on HE.out HN.out, HX5.out] at hgo
            have e9 : n - 1 = m := by omega
            refine ⟨n - 1, ks ++ [x5], s5, rfl, by simp only [List.length_append, List.length_cons, List.length_nil]; omega, K6.out.1, K6.out.2, by rw [e9]; exact hgo⟩
      · rw [Bool.not_eq_true] at hn
        rw [hn] at hnx
        have HNX := Lib.hid hnx
        have HN := Lib.hid hn
        clear hnx hn
        go_wp2_with fail
        refine (HOK.out).mono ?_
        rintro e W3 ⟨rfl, rfl⟩
        dsimp only
        go_wp2_with fail
        refine (HNX.out).mono ?_
        rintro e W4 ⟨rfl, hb⟩
        have K4 := Lib.hid (HR.out.1.past hb)
        clear hb
        dsimp only
        go_wp2_with fail
        go_ret
        have hgo := HR.out.2.2.1
        rw [severalGo_stop HN.out] at hgo
        rw [← hgo]
        exact ⟨_, rfl, K4.out⟩
    · rw [decide_eq_false he] at hok
      have HOK := Lib.hid hok
      have HE := Lib.hid he
      clear hok he
      go_wp2_with fail
      refine (HOK.out).mono ?_
      rintro e W3 ⟨rfl, rfl⟩
      dsimp only
      go_wp2_with fail
      go_ret
      have hgo := HR.out.2.2.1
      rw [severalGo_dead HE.out] at hgo
      rw [← hgo]
      exact ⟨_, rfl, HR.out.1⟩

set_option maxRecDepth 100000 in
set_option maxHeartbeats 8000000 in
theorem pseveral_defs (ht : Pc.Toks tk) (hl : tk.length ≤ 1000000) {f : Ps.F} (hkp : KeepsS [Ps.tPub, Ps.tFun] tk f) (hone : KnowsS [Ps.tPub, Ps.tFun] w0 p b tk dp 95 #[.pointer (some ⟨p, 0, none⟩)] f)
    {Q : Nat → Prop} {W : World} {s : Ps.St} {r : Nat} (hQ : Up Q W) (h : PI Q w0 W p b tk dp s) (hi : Pc.Inv tk s) (hr : W.heap[r]? = some (.cells (strCells [Ps.tPub, Ps.tFun]).toArray 9 (0, 0))) :
    Calls Tryz.prog 93 #[.pointer (some ⟨p, 0, none⟩), .int .i64 64, .func (.func 95) #[.pointer (some ⟨p, 0, none⟩)] #[], .slice (some ⟨r, 0, none⟩) [Ps.tPub, Ps.tFun].length [Ps.tPub, Ps.tFun].length] W (KDoes Q w0 W p b tk dp (Ps.severalGo tk f [Ps.tPub, Ps.tFun] 64 [] s)) := by
  have H := Lib.hid (And.intro ht (And.intro hl (And.intro hkp hone)))
  have HB := Lib.hid (And.intro h.below.size (And.intro hQ hr))
  have KK := Lib.hid (And.intro (kids_nil h) hi)
  clear ht hl hkp hone hQ h hi hr
  go_enter Tryz.func93, Tryz.ntmps93
  go_wp2_with fail
  go_loopg [9] 64 (fun k v9 wr => SevRel Q w0 W p b tk dp f [Ps.tPub, Ps.tFun] 64 s k v9 wr)
  case atStart => exact ⟨64, [], s, rfl, rfl, KK.out.1, KK.out.2, rfl⟩
  case round =>
    obtain ⟨n, ks, s1, hkn, hk, hK, hin, hgo⟩ := hrel
    obtain ⟨a9, c9, rfl⟩ := ownsRow_form hK.row
    have hlen : (ks.length : Int) ≤ 64 := by omega
    have hok := pok_calls hK.pi
    have HR := Lib.hid (And.intro hK (And.intro hin (And.intro hgo hk)))
    have HKN := Lib.hid hkn
    clear hK hin hgo hk hkn
    by_cases he : s1.e = 0
    · rw [decide_eq_true he] at hok
      have HOK := Lib.hid hok
      have HE := Lib.hid he
      clear hok he
      have hnx := pnext_calls (ts := [Ps.tPub, Ps.tFun]) HR.out.1.pi (Pc.inv_room HR.out.2.1 H.out.2.1) (rds_strs (HR.out.1.fr.cells HB.out.2.2 (by decide))) (fun k hk => by rw [hk]; exact lt_heap (HR.out.1.fr.cells HB.out.2.2 (by decide))) (by decide)
      by_cases hn : Ps.nextB tk [Ps.tPub, Ps.tFun] s1.used = true
      · rw [hn] at hnx
        have HNX := Lib.hid hnx
        have HN := Lib.hid hn
        clear hnx hn
        by_cases hm : ks.length = 64
        · have hm' : (ks.length : Int) = 64 := by omega
          have HM := Lib.hid hm
          clear hm
          go_wp2_with fail
          refine (HOK.out).mono ?_
          rintro e W3 ⟨rfl, rfl⟩
          dsimp only
          go_wp2_with fail
          refine (HNX.out).mono ?_
          rintro e W4 ⟨rfl, hb⟩
          have K4 := Lib.hid (HR.out.1.past hb)
          clear hb
          dsimp only
          go_wp2_with fail
          refine (pfail_calls K4.out.pi (Pc.inv_room HR.out.2.1 H.out.2.1) 15).mono ?_
          rintro e W5 ⟨rfl, h, g⟩
          have K5 := Lib.hid (K4.out.step h g)
          clear h g
          dsimp only
          go_wp2_with fail
          go_ret
          have hgo := HR.out.2.2.1
          have hk0 : n = 0 := by have := HR.out.2.2.2; have := HM.out; omega
          rw [hk0, severalGo_full HE.out HN.out] at hgo
          rw [← hgo]
          exact ⟨_, rfl, K5.out⟩
        · have hm' : (ks.length : Int) < 64 := by omega
          have HM := Lib.hid hm
          clear hm
          go_wp2_with fail
          refine (HOK.out).mono ?_
          rintro e W3 ⟨rfl, rfl⟩
          dsimp only
          go_wp2_with fail
          refine (HNX.out).mono ?_
          rintro e W4 ⟨rfl, hb⟩
          have K4 := Lib.hid (HR.out.1.past hb)
          clear hb
          dsimp only
          go_wp2_with fail
          refine (H.out.2.2.2 _ _ _ (K4.out.up HB.out.2.1) K4.out.pi HR.out.2.1 HE.out HN.out).mono ?_
          rintro e W5 ⟨rfl, h, g⟩
          have hin := H.out.2.2.1 _ HR.out.2.1 HE.out HN.out
          obtain ⟨⟨x5, s5⟩, hx⟩ : ∃ r, f s1 = r := ⟨_, rfl⟩
          rw [hx] at h hin ⊢
          have K5 := Lib.hid (And.intro (K4.out.step h g) hin)
          have HX5 := Lib.hid hx
          clear h g hin hx
          dsimp only at K5 ⊢
          go_wp2_with (at_builtin; refine kids_wp rfl _ _ rfl K5.out.1 HB.out.1 rfl (fresh_below _ _) [x5] (rds_new W5 [x5] rfl) rfl (by have := HR.out.2.2.2; simp only [List.length_cons, List.length_nil]; omega) ?_)
          intro v6 W6 hk6
          have K6 := Lib.hid (And.intro hk6 K5.out.2)
          clear hk6
          go_wp2_with fail
          go_roundg (n - 1)
          case measure => have := HR.out.2.2.2; have := HM.out; have := HKN.out; omega
          case rel =>
            have hgo := HR.out.2.2.1
            have hk := HR.out.2.2.2
            have hm := HM.out
            obtain ⟨m, hm2⟩ : ∃ m, n = m + 1 := ⟨n - 1, by omega⟩
            rw [hm2, severalGo_on HE.out HN.out, HX5.out] at hgo
            have e9 : n - 1 = m := by omega
            refine ⟨n - 1, ks ++ [x5], s5, rfl, by simp only [List.length_append, List.length_cons, List.length_nil]; omega, K6.out.1, K6.out.2, by rw [e9]; exact hgo⟩
      · rw [Bool.not_eq_true] at hn
        rw [hn] at hnx
        have HNX := Lib.hid hnx
        have HN := Lib.hid hn
        clear hnx hn
        go_wp2_with fail
        refine (HOK.out).mono ?_
        rintro e W3 ⟨rfl, rfl⟩
        dsimp only
        go_wp2_with fail
        refine (HNX.out).mono ?_
        rintro e W4 ⟨rfl, hb⟩
        have K4 := Lib.hid (HR.out.1.past hb)
        clear hb
        dsimp only
        go_wp2_with fail
        go_ret
        have hgo := HR.out.2.2.1
        rw [severalGo_stop HN.out] at hgo
        rw [← hgo]
        exact ⟨_, rfl, K4.out⟩
    · rw [decide_eq_false he] at hok
      have HOK := Lib.hid hok
      have HE := Lib.hid he
      clear hok he
      go_wp2_with fail
      refine (HOK.out).mono ?_
      rintro e W3 ⟨rfl, rfl⟩
      dsimp only
      go_wp2_with fail
      go_ret
      have hgo := HR.out.2.2.1
      rw [severalGo_dead HE.out] at hgo
      rw [← hgo]
      exact ⟨_, rfl, HR.out.1⟩

theorem wk_kind {s : Ps.St} (hi : Pc.Inv tk s) (hl : tk.length ≤ 1000000) (k : Int) : Wk tk (Ps.kind tk k s).2 := by
  have h := Pc.inv_room hi hl
  have h1 := hi.1
  have h2 := hi.2.1
  unfold Ps.kind
  split
  · unfold Ps.leaf
    rw [if_neg (by omega)]
    exact ⟨h.1, h.2.1, by show s.used + 1 ≤ _; omega, by show (s.nodes ++ _).length ≤ _; simp only [List.length_append, List.length_cons, List.length_nil]; omega⟩
  · exact Wk.fail h 22
theorem keeps_imported (ht : Pc.Toks tk) : KeepsS [Ps.tImport] tk (Ps.imported tk) := fun s hi he hn => (Pc.sim_imported ht (Pc.Out.nil hi (Pc.rel_beside s)) he hn).2.1
theorem keeps_definition (ht : Pc.Toks tk) {ex : Ps.F} {g : Pr.G} (hx : Pc.Sim tk ex g) : KeepsS [Ps.tPub, Ps.tFun] tk (Ps.definition tk ex) := fun s hi he _ => (Pc.sim_definition ht hx (Pc.Out.nil hi (Pc.rel_beside s)) he).2.1

set_option maxRecDepth 100000 in
set_option maxHeartbeats 8000000 in
theorem pprogram_calls (ht : Pc.Toks tk) (hl : tk.length ≤ 1000000) {ex : Ps.F} {g : Pr.G} (hx : Pc.Sim tk ex g) (hex : Knows w0 p b tk dp 142 #[.pointer (some ⟨p, 0, none⟩), .int .i64 1] ex)
    {Q : Nat → Prop} {W : World} {s : Ps.St} (hQ : Up Q W) (h : PI Q w0 W p b tk dp s) (hi : Pc.Inv tk s) :
    Calls Tryz.prog 46 #[.pointer (some ⟨p, 0, none⟩)] W fun e W' => e = .returned (.tuple #[]) ∧ PI Q w0 W' p b tk dp (Ps.program tk ex s).2 ∧ FrT PTs W W' := by
  have H := Lib.hid (And.intro ht (And.intro hl (And.intro hx hex)))
  have HP := Lib.hid (And.intro h (And.intro hi hQ))
  have HB := Lib.hid (And.intro h.below.size (And.intro hQ trivial))
  clear ht hl hx hex hQ h hi
  go_enter Tryz.func46, Tryz.ntmps46
  go_wp2_with fail
  have hal : Below W.heap.size W (W.alloc (.cells (strCells [Ps.tImport]).toArray 9)) := fresh_below _ _
  refine (pseveral_imports H.out.1 H.out.2.1 (keeps_imported H.out.1) (fun Q W s hQ h hi he hk => pimported_calls H.out.1 H.out.2.1 hQ h hi he hk) (HP.out.2.2.size hal.size) (HP.out.1.past hal) HP.out.2.1 (heap_alloc_new _ _)).mono ?_
  rintro e W1 ⟨v1, rfl, hk1⟩
  have hin := severalGo_keep (keeps_imported H.out.1) 16 [] s HP.out.2.1
  have hln := severalGo_len (tk := tk) (one := Ps.imported tk) (ts := [Ps.tImport]) 16 [] s
  obtain ⟨⟨l1, s1⟩, hx1⟩ : ∃ r, Ps.severalGo tk (Ps.imported tk) [Ps.tImport] 16 [] s = r := ⟨_, rfl⟩
  rw [hx1] at hk1 hin hln
  have K1 := Lib.hid (And.intro (hk1.low (FrT.of hal)) hin)
  have HL1 := Lib.hid (show l1.length ≤ 16 from by simpa using hln)
  have HX1 := Lib.hid hx1
  clear hal hk1 hin hln hx1
  dsimp only at K1 ⊢
  go_wp2_with fail
  have hal : Below W1.heap.size W1 (W1.alloc (.cells (strCells [Ps.tPub, Ps.tFun]).toArray 9)) := fresh_below _ _
  refine (pseveral_defs H.out.1 H.out.2.1 (keeps_definition H.out.1 H.out.2.2.1) (fun Q W s hQ h hi he _ => pdefinition_calls H.out.1 H.out.2.1 H.out.2.2.1 H.out.2.2.2 hQ h hi he) ((K1.out.1.up HB.out.2.1).size hal.size) (K1.out.1.pi.past hal) K1.out.2 (heap_alloc_new _ _)).mono ?_
  rintro e W2 ⟨v2, rfl, hk2⟩
  have hin := severalGo_keep (keeps_definition H.out.1 H.out.2.2.1) 64 [] s1 K1.out.2
  have hln := severalGo_len (tk := tk) (one := Ps.definition tk ex) (ts := [Ps.tPub, Ps.tFun]) 64 [] s1
  obtain ⟨⟨l2, s2⟩, hx2⟩ : ∃ r, Ps.severalGo tk (Ps.definition tk ex) [Ps.tPub, Ps.tFun] 64 [] s1 = r := ⟨_, rfl⟩
  rw [hx2] at hk2 hin hln
  have K2 := Lib.hid (And.intro ((K1.out.1.past hal).step (hk2.pi.imp fun k _ hq => hq.1) hk2.fr) hin)
  have HO2 := Lib.hid hk2.row
  have HL2 := Lib.hid (show l2.length ≤ 64 from by simpa using hln)
  have HX2 := Lib.hid hx2
  clear hal hk2 hin hln hx2
  dsimp only at K2 ⊢
  go_wp2_with (at_builtin; refine kids_wp rfl _ _ rfl K2.out.1 HB.out.1 rfl (Below.refl _ _) l2 (rds_list HO2.out) rfl (by have := HL1.out; have := HL2.out; omega) ?_)
  intro v3 W3 hk
  have K3 := Lib.hid (And.intro hk K2.out.2)
  clear hk
  go_wp2_with fail
  refine (pkind_calls K3.out.1.pi (Pc.inv_room K3.out.2 H.out.2.1) 5).mono ?_
  rintro e W4 ⟨rfl, h, g⟩
  have hw := wk_kind K3.out.2 H.out.2.1 5
  obtain ⟨⟨x4, s4⟩, hx⟩ : ∃ r, Ps.kind tk 5 s2 = r := ⟨_, rfl⟩
  rw [hx] at h hw ⊢
  have K4 := Lib.hid (And.intro (K3.out.1.step h g) hw)
  have HX4 := Lib.hid hx
  clear h g hw hx
  dsimp only at K4 ⊢
  go_wp2_with (at_builtin; refine kids_wp rfl _ _ rfl K4.out.1 HB.out.1 rfl (fresh_below _ _) [x4] (rds_new W4 [x4] rfl) rfl (by have := HL1.out; have := HL2.out; simp only [List.length_append, List.length_cons, List.length_nil]; omega) ?_)
  intro v5 W5 hk
  have K5 := Lib.hid (And.intro hk K4.out.2)
  clear hk
  go_wp2_with fail
  refine (K5.out.1.nodeW HB.out.2.1 K5.out.2 (by have := HL1.out; have := HL2.out; simp only [List.length_append, List.length_cons, List.length_nil]; omega) 1).mono ?_
  rintro e W6 ⟨rfl, h, g⟩
  have H6 := Lib.hid (And.intro h g)
  clear h g
  dsimp only
  go_wp2_with fail
  refine bodyPost_end (results_none rfl _ _ _) rfl ?_
  have e1 : Ps.program tk ex s = Ps.node 1 (l1 ++ (l2 ++ [x4])) s4 := by simp only [Ps.program, HX1.out, HX2.out, HX4.out, List.append_assoc]
  rw [e1]
  exact ⟨rfl, H6.out.1, H6.out.2⟩

set_option maxRecDepth 100000 in
set_option maxHeartbeats 8000000 in
theorem palone_calls (ht : Pc.Toks tk) (hl : tk.length ≤ 1000000) {ex : Ps.F} {g : Pr.G} (hx : Pc.Sim tk ex g) (hex : Knows w0 p b tk dp 142 #[.pointer (some ⟨p, 0, none⟩), .int .i64 1] ex)
    {Q : Nat → Prop} {W : World} {s : Ps.St} (hQ : Up Q W) (h : PI Q w0 W p b tk dp s) (hi : Pc.Inv tk s) :
    Calls Tryz.prog 98 #[.pointer (some ⟨p, 0, none⟩)] W fun e W' => e = .returned (.tuple #[]) ∧ PI Q w0 W' p b tk dp (Ps.alone tk ex s).2 ∧ FrT PTs W W' := by
  have H := Lib.hid (And.intro ht (And.intro hl (And.intro hx hex)))
  have HB := Lib.hid (And.intro h.below.size (And.intro hQ trivial))
  have K0 := Lib.hid (And.intro (kids_nil h) hi)
  have c2 := h.c2
  have f2 := h.frozen 2
  clear ht hl hx hex hQ h hi
  go_enter Tryz.func98, Tryz.ntmps98
  go_wp2_with fail
  clear c2 f2
  have h := K0.out.1.clause true
  obtain ⟨W1, hw⟩ : ∃ r, W.setCell ⟨p, 2, none⟩ (.bool true) = r := ⟨_, rfl⟩
  obtain ⟨s1, hs⟩ : ∃ r : Ps.St, { s with clause := true } = r := ⟨_, rfl⟩
  have hin : Pc.Inv tk s1 := by rw [← hs]; exact K0.out.2
  have HS1 : Hid (W.heap.size = W1.heap.size) := by rw [← hw]; exact Lib.hid (by simp [World.setCell])
  rw [hw, hs] at h
  rw [hw]
  have K1 := Lib.hid (And.intro h hin)
  have HX1 := Lib.hid hs
  clear h hw hs hin
  refine (H.out.2.2.2 _ _ _ (K1.out.1.up HB.out.2.1) K1.out.1.pi K1.out.2).mono ?_
  rintro e W2 ⟨rfl, h, g⟩
  have K2 := Lib.hid (And.intro (K1.out.1.step h g) (H.out.2.2.1.keep K1.out.2))
  clear h g 
  obtain ⟨⟨x2, s2⟩, hx⟩ : ∃ r, ex s1 = r := ⟨_, rfl⟩
  rw [hx] at K2 ⊢
  have HX2 := Lib.hid hx
  clear hx
  dsimp only at K2 ⊢
  go_wp2_with fail
  refine (pkind_calls K2.out.1.pi (Pc.inv_room K2.out.2 H.out.2.1) 5).mono ?_
  rintro e W3 ⟨rfl, h, g⟩
  have hw := wk_kind K2.out.2 H.out.2.1 5
  obtain ⟨⟨x3, s3⟩, hx⟩ : ∃ r, Ps.kind tk 5 s2 = r := ⟨_, rfl⟩
  rw [hx] at h hw ⊢
  have K3 := Lib.hid (And.intro (K2.out.1.step h g) hw)
  have HX3 := Lib.hid hx
  clear h g hw hx
  dsimp only at K3 ⊢
  go_wp2_with fail
  have hal : Below W3.heap.size W3 (W3.alloc (.cells (intCells [x2, x3]).toArray 3)) := fresh_below _ _
  refine (pnode_calls (K3.out.1.pi.past hal) K3.out.2 (rds_new W3 [x2, x3] rfl) (fun k hk => by rw [hk, ← size_alloc1]; omega) (by simp) ((K3.out.1.up HB.out.2.1).size hal.size) 18).mono ?_
  rintro e W4 ⟨rfl, h, g⟩
  have H4 := Lib.hid (And.intro (h.imp fun k _ hq => hq.1) (K3.out.1.fr.trans ((FrT.of hal).trans g)))
  clear h g hal
  dsimp only
  go_wp2_with fail
  refine bodyPost_end (results_none rfl _ _ _) rfl ?_
  have e1 : Ps.alone tk ex s = Ps.node 18 [x2, x3] s3 := by simp only [Ps.alone, HX1.out, HX2.out, HX3.out]
  rw [e1]
  exact ⟨rfl, H4.out.1, H4.out.2⟩
end
end Go.Proofs.YtlejecaanllghaaGreatDoor
/- parse: read: the walk. -/
namespace Go.Proofs.YtlejecaanllghaaGreatDoor
open Go.RowKit

theorem results_row2 {P : Program} {fn : Func} {p q : Tmp} {ty ty2 : TypeId} (h : fn.results = #[.cell p ty, .cell q ty2]) (tmps : Array Value) (w : World) (g g2 : Nat) (t t2 : TypeId) (cs cs2 : Array Value) (fr fr2 : Nat × Nat) (d d2 : TypeDesc)
    (hp : tmps.getD p undef = .pointer (some ⟨g, 0, none⟩)) (hq : tmps.getD q undef = .pointer (some ⟨g2, 0, none⟩)) (hg : w.heap[g]? = some (.cells cs t fr)) (hg2 : w.heap[g2]? = some (.cells cs2 t2 fr2))
    (hu : P.underlying ty = some d) (hd : (match d with | .struct _ | .array _ _ => true | _ => false) = true) (hi : (P.info? ty).map (·.size) = some cs.size)
    (hu2 : P.underlying ty2 = some d2) (hd2 : (match d2 with | .struct _ | .array _ _ => true | _ => false) = true) (hi2 : (P.info? ty2).map (·.size) = some cs2.size) :
    (results fn tmps).run P w = .ok (.tuple #[.agg cs, .agg cs2]) w := by
  have hp' : tmps[p]?.getD undef = .pointer (some ⟨g, 0, none⟩) := by simpa using hp
  have hq' : tmps[q]?.getD undef = .pointer (some ⟨g2, 0, none⟩) := by simpa using hq
  simp [results, h, hp', hq', asAddr, run_loadVar_row w g t ty cs fr d hg hu hd hi, run_loadVar_row w g2 t2 ty2 cs2 fr2 d2 hg2 hu2 hd2 hi2]

theorem step_store_row {P : Program} {ops : Array Oper} {o : Oper} {a : Act} {K : Act → World → Prop} {Q : Exit → Act → World → Prop} {E : Prop} {w1 : World} (hgd : o.guard = none) (ty : TypeId) (x v : Operand) (ho : o.op = .store ty x v)
    (T : TypeId) (g : Nat) (zs vs : Array Value) (hx : a.eval x = .pointer (some ⟨g, 0, none⟩)) (hg : w1.heap[g]? = some (.cells zs T (0, 0))) (hv : a.eval v = .agg vs) (hz : zs.size = vs.size) (hi : (P.info? ty).map (·.size) = some vs.size) (h1 : ∀ u ∈ vs.toList, u.oneCell' = true)
    (h : K (a.put o.dst undef) (w1.setRow g vs)) : if Region.wanted o (yielded ops a.tmps) = true then Oper.wp P o a w1 K Q else E := by
  have hwt : Region.wanted o (yielded ops a.tmps) = true := by simp [Region.wanted, hgd]
  rw [if_pos hwt]
  have hst := run_storeCells_at (P := P) g 0 T vs.toList 0 zs w1 hg (by simp; omega) h1
  have e : (zs.toList.take (0 + 0) ++ vs.toList ++ zs.toList.drop (0 + 0 + vs.toList.length)).toArray = vs := by
    have hd : zs.toList.drop (0 + 0 + vs.toList.length) = [] := List.drop_eq_nil_of_le (by simp; omega)
    rw [hd]
    simp
  rw [e] at hst
  cases hq : P.info? ty with
  | none => simp [hq] at hi
  | some i =>
    have hs : i.size = vs.size := by simpa [hq] using hi
    unfold Oper.wp execOp
    simp only [ho, hx, hv, Instr.storeAt, Instr.sureAddr, Sem.run_bind, Sem.run_pure, Result.andThen_ok, storeVar, sizeOf, typeInfo, Value.cells]
    simp [hq, hs, hst]
    exact h
theorem step_load_row {P : Program} {ops : Array Oper} {o : Oper} {a : Act} {w : World} {K : Act → World → Prop} {Q : Exit → Act → World → Prop} {E : Prop} (hgd : o.guard = none) (ty : TypeId) (x : Operand) (ho : o.op = .load ty x)
    (g : Nat) (hx : a.eval x = .pointer (some ⟨g, 0, none⟩)) (t : TypeId) (cs : Array Value) (fr : Nat × Nat) (d : TypeDesc) (hg : w.heap[g]? = some (.cells cs t fr))
    (hu : P.underlying ty = some d) (hd : (match d with | .struct _ | .array _ _ => true | _ => false) = true) (hi : (P.info? ty).map (·.size) = some cs.size)
    (h : K (a.put o.dst (.agg cs)) w) : if Region.wanted o (yielded ops a.tmps) = true then Oper.wp P o a w K Q else E := by
  have hwt : Region.wanted o (yielded ops a.tmps) = true := by simp [Region.wanted, hgd]
  rw [if_pos hwt]
  exact wp_load_row ty x ho g hx t cs fr d hg hu hd hi h

/-- A reading's answer: the tree, the fault. -/
def Ps.read (what : List Tr.Tk → Nat → Ps.St) (l : List UInt8) (dp : Int) : Tr.T × Int × Int :=
  if dp < 1 ∨ 200 < dp then (⟨[], []⟩, 12, 0)
  else if (Lx.lex l).2.1 ≠ 0 then (⟨[], []⟩, (Lx.lex l).2.1, (Lx.lex l).2.2)
  else if (what ((Lx.lex l).1.map toTk) dp.toNat).e ≠ 0 then (⟨[], []⟩, (what ((Lx.lex l).1.map toTk) dp.toNat).e, (what ((Lx.lex l).1.map toTk) dp.toNat).pos)
  else (⟨(Lx.lex l).1.map toTk, (what ((Lx.lex l).1.map toTk) dp.toNat).nodes⟩, 0, 0)
def Ps.prog (tk : List Tr.Tk) (d : Nat) : Ps.St := (Ps.program tk (Ps.lv tk d).ex Ps.St.first).2
def Ps.form (tk : List Tr.Tk) (d : Nat) : Ps.St := (Ps.alone tk (Ps.lv tk d).ex Ps.St.first).2
/-- What a reading gives. -/
def Reads (r : Tr.T × Int × Int) (w : World) (e : Ending) (w' : World) : Prop :=
  ∃ vt vn, e = .returned (.tuple #[.agg #[vt, vn], .agg #[.int .i64 r.2.1, .int .i64 r.2.2]]) ∧ RdT w' (fun k => w.heap.size ≤ k ∧ k < w'.heap.size) vt vn r.1 ∧ Below w.heap.size w w'
theorem rdt_none (w : World) (P : Nat → Prop) : RdT w P (.slice none 0 0) (.slice none 0 0) ⟨[], []⟩ :=
  ⟨⟨rfl, none, 0, rfl, Nat.le_refl _, Or.inl ⟨rfl, rfl⟩⟩, [], rfl, ⟨rfl, none, 0, rfl, Nat.le_refl _, Or.inl ⟨rfl, rfl⟩⟩, fun i n kv h => by simp at h⟩
theorem fresh_below' (V : World) (o : Obj) : Below V.heap.size V (V.alloc o) := (Below.refl _ _).alloc (Nat.le_refl _) _
theorem lex_small {l : List UInt8} (h : (Lx.lex l).2.1 = 0) : l.length ≤ 65536 := by
  unfold Lx.lex at h
  split at h
  · exact absurd h (by simp)
  · omega
/-- What reads the tokens. -/
def WhatDoes (k : FuncId) (what : List Tr.Tk → Nat → Ps.St) : Prop :=
  (∀ (tk : List Tr.Tk) (dp : Int) (w0 W : World) (p b : Nat), Pc.Toks tk → tk.length ≤ 1000000 → 1 ≤ dp → dp ≤ 200 → PI (fun _ => True) w0 W p b tk dp Ps.St.first →
    Calls Tryz.prog k #[.pointer (some ⟨p, 0, none⟩)] W fun e W' => e = .returned (.tuple #[]) ∧ PI (fun _ => True) w0 W' p b tk dp (what tk dp.toNat) ∧ FrT PTs W W') ∧
  ∀ (tk : List Tr.Tk) (d : Nat), Pc.Toks tk → (what tk d).e = 0 → (what tk d).nodes.length ≤ 3 * tk.length ∧ ∀ n ∈ (what tk d).nodes, n.kids.length ≤ (what tk d).nodes.length
def zTree : Obj := .cells #[.slice none 0 0, .slice none 0 0] 30
def zFault : Obj := .cells #[.int .i64 0, .int .i64 0] 25
/-- The two cells that read's results lie in. -/
structure Two (w W : World) (ts : Array Value) (fs : Array Value) : Prop where
  t : W.heap[w.heap.size]? = some (.cells ts 30 (0, 0))
  f : W.heap[w.heap.size + 1]? = some (.cells fs 25 (0, 0))
  b : Below w.heap.size w W
theorem two_new (w : World) : Two w ((w.alloc (.cells #[.slice none 0 0, .slice none 0 0] 30)).alloc (.cells #[.int .i64 0, .int .i64 0] 25)) #[.slice none 0 0, .slice none 0 0] #[.int .i64 0, .int .i64 0] :=
  ⟨by rw [Below.heap_alloc _ _ _ (by rw [← size_alloc1]; omega)]; exact heap_alloc_new _ _, heap_alloc2_new _ _ _, ((Below.refl _ _).alloc (Nat.le_refl _) _).alloc (by rw [← size_alloc1]; omega) _⟩
theorem Two.size {w W : World} {ts fs : Array Value} (h : Two w W ts fs) : w.heap.size + 2 ≤ W.heap.size := by
  have := lt_heap h.f
  omega
theorem Two.past {w W W' : World} {ts fs : Array Value} (h : Two w W ts fs) (hb : Below W.heap.size W W') : Two w W' ts fs :=
  ⟨anc_box h.t hb, anc_box h.f hb, h.b.trans (hb.mono h.b.size)⟩
theorem Two.set {w W : World} {ts fs : Array Value} (h : Two w W ts fs) (us gs : Array Value) : Two w ((W.setRow w.heap.size us).setRow (w.heap.size + 1) gs) us gs :=
  ⟨by rw [setRow_ne (by omega)]; exact setRow_at h.t, setRow_at (by rw [setRow_ne (by omega)]; exact h.f), below_setRow (below_setRow h.b (Nat.le_refl _) _) (by omega) _⟩
theorem Two.set1 {w W : World} {ts fs : Array Value} (h : Two w W ts fs) (us : Array Value) : Two w (W.setRow w.heap.size us) us fs :=
  ⟨setRow_at h.t, by rw [setRow_ne (by omega)]; exact h.f, below_setRow h.b (Nat.le_refl _) _⟩
theorem Two.set2 {w W : World} {ts fs : Array Value} (h : Two w W ts fs) (gs : Array Value) : Two w (W.setRow (w.heap.size + 1) gs) ts gs :=
  ⟨by rw [setRow_ne (by omega)]; exact h.t, setRow_at h.f, below_setRow h.b (by omega) _⟩
theorem Two.drew {w W : World} {ts fs : Array Value} (h : Two w W ts fs) : Two w W.drew ts fs := ⟨h.t, h.f, h.b.drew⟩
theorem setCell_below {w W : World} (h : Below w.heap.size w W) {b j : Nat} (hb : w.heap.size ≤ b) (u : Value) : Below w.heap.size w (W.setCell ⟨b, j, none⟩ u) :=
  h.trans ⟨rfl, rfl, rfl, by simp [World.setCell], fun k hk => Below.heap_setCell _ _ _ _ (show k ≠ b by omega)⟩
theorem Two.sets {w W : World} {x y z u : Value} (h : Two w W #[x, y] #[z, u]) (a b c d : Value) :
    Two w ((((W.setCell ⟨w.heap.size, 0, none⟩ a).setCell ⟨w.heap.size, 1, none⟩ b).setCell ⟨w.heap.size + 1, 0, none⟩ c).setCell ⟨w.heap.size + 1, 1, none⟩ d) #[a, b] #[c, d] := by
  refine ⟨?_, ?_, ?_⟩
  · rw [Below.heap_setCell _ _ _ _ (show w.heap.size ≠ w.heap.size + 1 by omega), Below.heap_setCell _ _ _ _ (show w.heap.size ≠ w.heap.size + 1 by omega)]
    exact setCell_row (j := 1) (setCell_row (j := 0) h.t a) b
  · have h1 : ((W.setCell ⟨w.heap.size, 0, none⟩ a).setCell ⟨w.heap.size, 1, none⟩ b).heap[w.heap.size + 1]? = some (.cells #[z, u] 25 (0, 0)) := by
      rw [Below.heap_setCell _ _ _ _ (show w.heap.size + 1 ≠ w.heap.size by omega), Below.heap_setCell _ _ _ _ (show w.heap.size + 1 ≠ w.heap.size by omega)]
      exact h.f
    exact setCell_row (j := 1) (setCell_row (j := 0) h1 c) d
  · exact setCell_below (setCell_below (setCell_below (setCell_below h.b (Nat.le_refl _) _) (Nat.le_refl _) _) (by omega) _) (by omega) _
theorem Two.frt {w W W' : World} {ts fs : Array Value} (h : Two w W ts fs) (hf : FrT PTs W W') (hb : Below w.heap.size w W') : Two w W' ts fs := ⟨hf.cells h.t (by decide), hf.cells h.f (by decide), hb⟩
theorem rdt_sets {w W : World} {vt vn : Value} {t : Tr.T} {B : Nat} (h : RdT W (fun k => B ≤ k ∧ k < W.heap.size) vt vn t) (hB : w.heap.size + 2 ≤ B) (a b c d : Value) :
    RdT ((((W.setCell ⟨w.heap.size, 0, none⟩ a).setCell ⟨w.heap.size, 1, none⟩ b).setCell ⟨w.heap.size + 1, 0, none⟩ c).setCell ⟨w.heap.size + 1, 1, none⟩ d)
      (fun k => w.heap.size ≤ k ∧ k < ((((W.setCell ⟨w.heap.size, 0, none⟩ a).setCell ⟨w.heap.size, 1, none⟩ b).setCell ⟨w.heap.size + 1, 0, none⟩ c).setCell ⟨w.heap.size + 1, 1, none⟩ d).heap.size) vt vn t := by
  have hs : ((((W.setCell ⟨w.heap.size, 0, none⟩ a).setCell ⟨w.heap.size, 1, none⟩ b).setCell ⟨w.heap.size + 1, 0, none⟩ c).setCell ⟨w.heap.size + 1, 1, none⟩ d).heap.size = W.heap.size := by simp [World.setCell]
  rw [hs]
  refine (h.keep fun k hk => ?_).imp fun k hk => ⟨by omega, hk.2⟩
  rw [Below.heap_setCell _ _ _ _ (show k ≠ w.heap.size + 1 by omega), Below.heap_setCell _ _ _ _ (show k ≠ w.heap.size + 1 by omega), Below.heap_setCell _ _ _ _ (show k ≠ w.heap.size by omega), Below.heap_setCell _ _ _ _ (show k ≠ w.heap.size by omega)]
theorem two_cells {w W : World} {x y z u : Value} (h : Two w W #[x, y] #[z, u]) :
    (W.cell? ⟨w.heap.size, 0, none⟩ = some x ∧ W.cell? ⟨w.heap.size, 1, none⟩ = some y ∧ W.cell? ⟨w.heap.size + 1, 0, none⟩ = some z ∧ W.cell? ⟨w.heap.size + 1, 1, none⟩ = some u) ∧
    W.frozen? ⟨w.heap.size, 0, none⟩ = false ∧ W.frozen? ⟨w.heap.size, 1, none⟩ = false ∧ W.frozen? ⟨w.heap.size + 1, 0, none⟩ = false ∧ W.frozen? ⟨w.heap.size + 1, 1, none⟩ = false :=
  ⟨⟨cell_of_heap h.t 0 rfl, cell_of_heap h.t 1 rfl, cell_of_heap h.f 0 rfl, cell_of_heap h.f 1 rfl⟩, frozen_of_heap h.t 0, frozen_of_heap h.t 1, frozen_of_heap h.f 0, frozen_of_heap h.f 1⟩

set_option maxRecDepth 100000 in
set_option maxHeartbeats 4000000 in
theorem pread_program (hw : WhatDoes 46 Ps.prog) (l : List UInt8) (hl : l.length ≤ 1073741824) (dp : Int) (w : World) :
    Calls Tryz.prog 45 #[.string ⟨l.toArray⟩, .int .i64 dp, .func (.func 46) #[] #[]] w (Reads (Ps.read Ps.prog l dp) w) := by
  have HW := Lib.hid hw
  have H0 := Lib.hid (two_new w)
  clear hw
  by_cases hr : dp < 1 ∨ 200 < dp
  · have hrd : Ps.read Ps.prog l dp = (⟨[], []⟩, 12, 0) := by unfold Ps.read; rw [if_pos hr]
    rw [hrd]
    clear hrd
    by_cases h1 : dp < 1
    · clear hr
      go_enter Tryz.func45, Tryz.ntmps45
      go_wp2_with (first | (refine wpList_store_row rfl 30 _ _ rfl 30 w.heap.size _ _ rfl H0.out.t rfl rfl rfl (by simp [Value.oneCell']) ?_) | (refine wpList_store_row rfl 25 _ _ rfl 25 (w.heap.size + 1) _ _ rfl (H0.out.set1 _).f rfl rfl rfl (by simp [Value.oneCell']) ?_))
      refine bodyPost_ret (v := _) (results_row2 rfl _ _ w.heap.size (w.heap.size + 1) _ _ _ _ _ _ _ _ rfl rfl (H0.out.set _ _).t (H0.out.set _ _).f Tryz.underlying30 rfl rfl Tryz.underlying25 rfl rfl) rfl ?_
      exact ⟨_, _, rfl, rdt_none _ _, (H0.out.set _ _).b⟩
    · have h2 : 200 < dp := by omega
      clear hr
      go_enter Tryz.func45, Tryz.ntmps45
      go_wp2_with (first | (refine wpList_store_row rfl 30 _ _ rfl 30 w.heap.size _ _ rfl H0.out.t rfl rfl rfl (by simp [Value.oneCell']) ?_) | (refine wpList_store_row rfl 25 _ _ rfl 25 (w.heap.size + 1) _ _ rfl (H0.out.set1 _).f rfl rfl rfl (by simp [Value.oneCell']) ?_))
      refine bodyPost_ret (v := _) (results_row2 rfl _ _ w.heap.size (w.heap.size + 1) _ _ _ _ _ _ _ _ rfl rfl (H0.out.set _ _).t (H0.out.set _ _).f Tryz.underlying30 rfl rfl Tryz.underlying25 rfl rfl) rfl ?_
      exact ⟨_, _, rfl, rdt_none _ _, (H0.out.set _ _).b⟩
  · have h1 : 1 ≤ dp := by omega
    have h2 : dp ≤ 200 := by omega
    have HR := Lib.hid hr
    clear hr
    obtain ⟨V0, hV0⟩ : ∃ V, (w.alloc (.cells #[.slice none 0 0, .slice none 0 0] 30)).alloc (.cells #[.int .i64 0, .int .i64 0] 25) = V := ⟨_, rfl⟩
    rw [hV0] at H0
    have HV0 := Lib.hid hV0
    have HL := Lib.hid (lex_calls l hl V0)
    clear hV0
    by_cases hf : (Lx.lex l).2.1 = 0
    · have hto := (Pc.lex_to hf).toks
      have hln : ((Lx.lex l).1.map toTk).length ≤ 1000000 := by
        have q1 := (Lx.lex_whole hf).2.2
        have q2 := lex_small hf
        rw [List.length_map]
        omega
      have hrd : Ps.read Ps.prog l dp = if (Ps.prog ((Lx.lex l).1.map toTk) dp.toNat).e ≠ 0 then ((⟨[], []⟩ : Tr.T), (Ps.prog ((Lx.lex l).1.map toTk) dp.toNat).e, (Ps.prog ((Lx.lex l).1.map toTk) dp.toNat).pos) else ((⟨(Lx.lex l).1.map toTk, (Ps.prog ((Lx.lex l).1.map toTk) dp.toNat).nodes⟩ : Tr.T), (0 : Int), (0 : Int)) := by
        unfold Ps.read; rw [if_neg HR.out, if_neg (by simpa using hf)]
      rw [hrd]
      clear hrd
      obtain ⟨⟨ts, fe, fp⟩, hx⟩ : ∃ r, Lx.lex l = r := ⟨_, rfl⟩
      rw [hx] at hf hto hln ⊢
      dsimp only at hf hto hln ⊢
      obtain ⟨tk, htk⟩ : ∃ tk, ts.map toTk = tk := ⟨_, rfl⟩
      have htk2 : ts.map Pc.tkOf = tk := htk
      rw [htk] at hln ⊢
      rw [htk2] at hto
      subst hf
      obtain ⟨s, hs⟩ : ∃ s, Ps.prog tk dp.toNat = s := ⟨_, rfl⟩
      rw [hs]
      by_cases he : s.e = 0
      · rw [if_neg (by simp [he])]
        have HE := Lib.hid he
        clear he
        have HS := Lib.hid hs
        have HX := Lib.hid (And.intro hx htk)
        have HT := Lib.hid (And.intro hto hln)
        clear hto hln hx htk htk2 hs
        go_enter Tryz.func45, Tryz.ntmps45
        go_wp2_with fail
        rw [HV0.out]
        refine HL.out.mono ?_
        rintro e w1 ⟨v, rfl, ho1, hb1⟩
        have H1 := Lib.hid (H0.out.past hb1)
        rw [toks_cells] at ho1
        have hL0 : (Lx.lex l).1.length = ((Lx.lex l).1.map toTk).length := by rw [List.length_map]
        rw [hL0, HX.out.1] at ho1
        rw [HX.out.1]
        dsimp only at ho1 ⊢
        rw [HX.out.2] at ho1
        have HO1 := Lib.hid (RdS.own ho1)
        have HB1 := Lib.hid hb1
        have hal : Below w1.heap.size w1 (w1.alloc (.cells #[.int .i64 0, .int .i64 fp] 25)) := (Below.refl _ _).alloc (Nat.le_refl _) _
        have h2 := H1.out.past hal
        clear HL ho1 hb1 hL0
        go_wp2_with fail
        obtain ⟨V2, hV2⟩ : ∃ V, w1.alloc (.cells #[.int .i64 0, .int .i64 fp] 25) = V := ⟨_, rfl⟩
        rw [hV2] at h2 hal ⊢
        have H2 := Lib.hid (And.intro h2 hal)
        clear hV2 h2 hal
        refine (anc_new (fun _ => True) (w := w) (HO1.out.keep (Keeps.of H2.out.2 fun k hk => hk.2.2)) (by have := HT.out.2; omega) H2.out.1.b).mono ?_
        rintro e W3 ⟨b, rfl, hA, _, hb3⟩
        have H3 := Lib.hid (And.intro hA (H2.out.1.past hb3))
        clear hA hb3
        dsimp only
        go_wp2_with fail
        have hp4 : PI (fun _ => True) w (W3.alloc (.cells #[.pointer (some ⟨b, 0, none⟩), .int .i64 dp, .bool false, .int .i64 0, .int .i64 0] 163)) W3.heap.size b tk dp Ps.St.first :=
          ⟨H3.out.1.past (fresh_below' _ _), heap_alloc_new _ _, by have := H3.out.2.size; omega⟩
        refine (HW.out.1 tk dp w _ W3.heap.size b HT.out.1 HT.out.2 h1 h2 hp4).mono ?_
        rintro e W5 ⟨rfl, h, g⟩
        have h25 : Two w W5 #[.slice none 0 0, .slice none 0 0] #[.int .i64 0, .int .i64 0] := (H3.out.2.past (fresh_below' _ _)).frt g h.below
        have hw2 := HW.out.2 tk dp.toNat HT.out.1
        rw [HS.out] at h hw2
        have H5 := Lib.hid (And.intro h (And.intro h25 hw2))
        have HSZ := Lib.hid H3.out.2.size
        clear h g h25 hw2 hp4
        dsimp only
        go_wp2_with fail
        refine (pok_calls H5.out.1).mono ?_
        rintro e W6 ⟨rfl, rfl⟩
        rw [decide_eq_true HE.out]
        have c0 := H5.out.1.c0
        dsimp only
        go_wp2_with fail
        have hsm := H5.out.2.2 HE.out
        refine (anc_done H5.out.1.anc (by show s.nodes.length ≤ _; have := hsm.1; have := HT.out.2; omega) (by show tk.length ≤ _; have := HT.out.2; omega) (fun n hn => by have h1 := hsm.2 n hn; have h2 := hsm.1; have h3 := HT.out.2; omega)).mono ?_
        rintro e W7 ⟨vt, vn, rfl, hT, hb7⟩
        obtain ⟨a1, c1, rfl⟩ : ∃ a c, vt = .slice a tk.length c := hT.1.form
        obtain ⟨a2, c2, rfl⟩ : ∃ a c, vn = .slice a s.nodes.length c := by
          obtain ⟨kvs, _, h2, _⟩ := hT.2
          exact h2.form
        have h27 := H5.out.2.1.past hb7
        have H7 := Lib.hid (And.intro h27 (And.intro hT hb7.size))
        obtain ⟨⟨t0, t1, f0, f1⟩, g0, g1, g2, g3⟩ := two_cells h27
        clear hT hb7 h27 c0 hsm
        dsimp only
        go_wp2_with fail
        have h9 := H7.out.1.sets (.slice a1 tk.length c1) (.slice a2 s.nodes.length c2) (.int .i64 0) (.int .i64 0)
        refine bodyPost_ret (v := _) (results_row2 rfl _ _ w.heap.size (w.heap.size + 1) _ _ _ _ _ _ _ _ rfl rfl h9.t h9.f Tryz.underlying30 rfl rfl Tryz.underlying25 rfl rfl) rfl ?_
        refine ⟨_, _, rfl, rdt_sets H7.out.2.1 ?_ _ _ _ _, h9.b⟩
        have := H5.out.2.1.size
        omega
      · rw [if_pos he]
        have HE := Lib.hid he
        clear he
        have HS := Lib.hid hs
        have HX := Lib.hid (And.intro hx htk)
        have HT := Lib.hid (And.intro hto hln)
        clear hto hln hx htk htk2 hs
        go_enter Tryz.func45, Tryz.ntmps45
        go_wp2_with fail
        rw [HV0.out]
        refine HL.out.mono ?_
        rintro e w1 ⟨v, rfl, ho1, hb1⟩
        have H1 := Lib.hid (H0.out.past hb1)
        rw [toks_cells] at ho1
        have hL0 : (Lx.lex l).1.length = ((Lx.lex l).1.map toTk).length := by rw [List.length_map]
        rw [hL0, HX.out.1] at ho1
        rw [HX.out.1]
        dsimp only at ho1 ⊢
        rw [HX.out.2] at ho1
        have HO1 := Lib.hid (RdS.own ho1)
        have HB1 := Lib.hid hb1
        have hal : Below w1.heap.size w1 (w1.alloc (.cells #[.int .i64 0, .int .i64 fp] 25)) := (Below.refl _ _).alloc (Nat.le_refl _) _
        have h2 := H1.out.past hal
        clear HL ho1 hb1 hL0
        go_wp2_with fail
        obtain ⟨V2, hV2⟩ : ∃ V, w1.alloc (.cells #[.int .i64 0, .int .i64 fp] 25) = V := ⟨_, rfl⟩
        rw [hV2] at h2 hal ⊢
        have H2 := Lib.hid (And.intro h2 hal)
        clear hV2 h2 hal
        refine (anc_new (fun _ => True) (w := w) (HO1.out.keep (Keeps.of H2.out.2 fun k hk => hk.2.2)) (by have := HT.out.2; omega) H2.out.1.b).mono ?_
        rintro e W3 ⟨b, rfl, hA, _, hb3⟩
        have H3 := Lib.hid (And.intro hA (H2.out.1.past hb3))
        clear hA hb3
        dsimp only
        go_wp2_with fail
        have hp4 : PI (fun _ => True) w (W3.alloc (.cells #[.pointer (some ⟨b, 0, none⟩), .int .i64 dp, .bool false, .int .i64 0, .int .i64 0] 163)) W3.heap.size b tk dp Ps.St.first :=
          ⟨H3.out.1.past (fresh_below' _ _), heap_alloc_new _ _, by have := H3.out.2.size; omega⟩
        refine (HW.out.1 tk dp w _ W3.heap.size b HT.out.1 HT.out.2 h1 h2 hp4).mono ?_
        rintro e W5 ⟨rfl, h, g⟩
        have h25 : Two w W5 #[.slice none 0 0, .slice none 0 0] #[.int .i64 0, .int .i64 0] := (H3.out.2.past (fresh_below' _ _)).frt g h.below
        have hw2 := HW.out.2 tk dp.toNat HT.out.1
        rw [HS.out] at h hw2
        have H5 := Lib.hid (And.intro h (And.intro h25 hw2))
        have HSZ := Lib.hid H3.out.2.size
        clear h g h25 hw2 hp4
        dsimp only
        go_wp2_with fail
        refine (pok_calls H5.out.1).mono ?_
        rintro e W6 ⟨rfl, rfl⟩
        rw [decide_eq_false HE.out]
        have c3 := H5.out.1.c3
        have c4 := H5.out.1.c4
        obtain ⟨⟨t0, t1, f0, f1⟩, g0, g1, g2, g3⟩ := two_cells H5.out.2.1
        have hsz := HSZ.out
        have q1 : ¬ w.heap.size = W3.heap.size := by omega
        have q2 : ¬ w.heap.size + 1 = W3.heap.size := by omega
        have q3 : ¬ W3.heap.size = w.heap.size := by omega
        have q4 : ¬ W3.heap.size = w.heap.size + 1 := by omega
        clear hsz
        dsimp only
        go_wp2_with fail
        go_region
        all_goals
          clear t0 t1 f0 f1 g0 g1 g2 g3 c3 c4 q1 q2 q3 q4
          go_wp2_with fail
          have h9 := (H5.out.2.1.sets (.slice none 0 0) (.slice none 0 0) (.int .i64 s.e) (.int .i64 s.pos)).drew
          refine bodyPost_ret (v := _) (results_row2 rfl _ _ w.heap.size (w.heap.size + 1) _ _ _ _ _ _ _ _ rfl rfl h9.t h9.f Tryz.underlying30 rfl rfl Tryz.underlying25 rfl rfl) rfl ?_
          exact ⟨_, _, rfl, rdt_none _ _, h9.b⟩
    · have hrd : Ps.read Ps.prog l dp = ((⟨[], []⟩ : Tr.T), ((Lx.lex l).2.1 : Int), ((Lx.lex l).2.2 : Int)) := by unfold Ps.read; rw [if_neg HR.out, if_pos hf]
      rw [hrd]
      clear hrd
      obtain ⟨⟨ts, fe, fp⟩, hx⟩ : ∃ r, Lx.lex l = r := ⟨_, rfl⟩
      rw [hx] at hf ⊢
      dsimp only at hf ⊢
      have HX := Lib.hid hx
      clear hx
      go_enter Tryz.func45, Tryz.ntmps45
      go_wp2_with fail
      rw [HV0.out]
      refine HL.out.mono ?_
      rintro e w1 ⟨v, rfl, ho1, hb1⟩
      have H1 := Lib.hid (H0.out.past hb1)
      rw [HX.out]
      clear ho1 hb1 HL
      dsimp only
      have hfe : ((fe : Int) != 0) = true := by simp [hf]
      have hal : Below w1.heap.size w1 (w1.alloc (.cells #[.int .i64 fe, .int .i64 fp] 25)) := (Below.refl _ _).alloc (Nat.le_refl _) _
      have hnb := heap_alloc_new w1 (.cells #[.int .i64 fe, .int .i64 fp] 25)
      have h2 := H1.out.past hal
      go_wp2_with fail
      obtain ⟨V2, hV2⟩ : ∃ V, w1.alloc (.cells #[.int .i64 fe, .int .i64 fp] 25) = V := ⟨_, rfl⟩
      rw [hV2] at hnb h2 ⊢
      have H2 := Lib.hid h2
      obtain ⟨⟨t0, t1, f0, f1⟩, g0, g1, g2, g3⟩ := two_cells h2
      have n0 := cell_of_heap hnb 0 rfl
      have n1 := cell_of_heap hnb 1 rfl
      have hsz := H1.out.size
      have q1 : ¬ w.heap.size = w1.heap.size := by omega
      have q2 : ¬ w.heap.size + 1 = w1.heap.size := by omega
      have q3 : ¬ w1.heap.size = w.heap.size := by omega
      have q4 : ¬ w1.heap.size = w.heap.size + 1 := by omega
      clear hal hnb hV2 h2
      go_region
      all_goals
        clear t0 t1 f0 f1 g0 g1 g2 g3 n0 n1 q1 q2 q3 q4 hsz
        go_wp2_with fail
        have h9 := (H2.out.sets (.slice none 0 0) (.slice none 0 0) (.int .i64 fe) (.int .i64 fp)).drew
        refine bodyPost_ret (v := _) (results_row2 rfl _ _ w.heap.size (w.heap.size + 1) _ _ _ _ _ _ _ _ rfl rfl h9.t h9.f Tryz.underlying30 rfl rfl Tryz.underlying25 rfl rfl) rfl ?_
        exact ⟨_, _, rfl, rdt_none _ _, h9.b⟩

set_option maxRecDepth 100000 in
set_option maxHeartbeats 4000000 in
theorem pread_alone (hw : WhatDoes 98 Ps.form) (l : List UInt8) (hl : l.length ≤ 1073741824) (dp : Int) (w : World) :
    Calls Tryz.prog 45 #[.string ⟨l.toArray⟩, .int .i64 dp, .func (.func 98) #[] #[]] w (Reads (Ps.read Ps.form l dp) w) := by
  have HW := Lib.hid hw
  have H0 := Lib.hid (two_new w)
  clear hw
  by_cases hr : dp < 1 ∨ 200 < dp
  · have hrd : Ps.read Ps.form l dp = (⟨[], []⟩, 12, 0) := by unfold Ps.read; rw [if_pos hr]
    rw [hrd]
    clear hrd
    by_cases h1 : dp < 1
    · clear hr
      go_enter Tryz.func45, Tryz.ntmps45
      go_wp2_with (first | (refine wpList_store_row rfl 30 _ _ rfl 30 w.heap.size _ _ rfl H0.out.t rfl rfl rfl (by simp [Value.oneCell']) ?_) | (refine wpList_store_row rfl 25 _ _ rfl 25 (w.heap.size + 1) _ _ rfl (H0.out.set1 _).f rfl rfl rfl (by simp [Value.oneCell']) ?_))
      refine bodyPost_ret (v := _) (results_row2 rfl _ _ w.heap.size (w.heap.size + 1) _ _ _ _ _ _ _ _ rfl rfl (H0.out.set _ _).t (H0.out.set _ _).f Tryz.underlying30 rfl rfl Tryz.underlying25 rfl rfl) rfl ?_
      exact ⟨_, _, rfl, rdt_none _ _, (H0.out.set _ _).b⟩
    · have h2 : 200 < dp := by omega
      clear hr
      go_enter Tryz.func45, Tryz.ntmps45
      go_wp2_with (first | (refine wpList_store_row rfl 30 _ _ rfl 30 w.heap.size _ _ rfl H0.out.t rfl rfl rfl (by simp [Value.oneCell']) ?_) | (refine wpList_store_row rfl 25 _ _ rfl 25 (w.heap.size + 1) _ _ rfl (H0.out.set1 _).f rfl rfl rfl (by simp [Value.oneCell']) ?_))
      refine bodyPost_ret (v := _) (results_row2 rfl _ _ w.heap.size (w.heap.size + 1) _ _ _ _ _ _ _ _ rfl rfl (H0.out.set _ _).t (H0.out.set _ _).f Tryz.underlying30 rfl rfl Tryz.underlying25 rfl rfl) rfl ?_
      exact ⟨_, _, rfl, rdt_none _ _, (H0.out.set _ _).b⟩
  · have h1 : 1 ≤ dp := by omega
    have h2 : dp ≤ 200 := by omega
    have HR := Lib.hid hr
    clear hr
    obtain ⟨V0, hV0⟩ : ∃ V, (w.alloc (.cells #[.slice none 0 0, .slice none 0 0] 30)).alloc (.cells #[.int .i64 0, .int .i64 0] 25) = V := ⟨_, rfl⟩
    rw [hV0] at H0
    have HV0 := Lib.hid hV0
    have HL := Lib.hid (lex_calls l hl V0)
    clear hV0
    by_cases hf : (Lx.lex l).2.1 = 0
    · have hto := (Pc.lex_to hf).toks
      have hln : ((Lx.lex l).1.map toTk).length ≤ 1000000 := by
        have q1 := (Lx.lex_whole hf).2.2
        have q2 := lex_small hf
        rw [List.length_map]
        omega
      have hrd : Ps.read Ps.form l dp = if (Ps.form ((Lx.lex l).1.map toTk) dp.toNat).e ≠ 0 then ((⟨[], []⟩ : Tr.T), (Ps.form ((Lx.lex l).1.map toTk) dp.toNat).e, (Ps.form ((Lx.lex l).1.map toTk) dp.toNat).pos) else ((⟨(Lx.lex l).1.map toTk, (Ps.form ((Lx.lex l).1.map toTk) dp.toNat).nodes⟩ : Tr.T), (0 : Int), (0 : Int)) := by
        unfold Ps.read; rw [if_neg HR.out, if_neg (by simpa using hf)]
      rw [hrd]
      clear hrd
      obtain ⟨⟨ts, fe, fp⟩, hx⟩ : ∃ r, Lx.lex l = r := ⟨_, rfl⟩
      rw [hx] at hf hto hln ⊢
      dsimp only at hf hto hln ⊢
      obtain ⟨tk, htk⟩ : ∃ tk, ts.map toTk = tk := ⟨_, rfl⟩
      have htk2 : ts.map Pc.tkOf = tk := htk
      rw [htk] at hln ⊢
      rw [htk2] at hto
      subst hf
      obtain ⟨s, hs⟩ : ∃ s, Ps.form tk dp.toNat = s := ⟨_, rfl⟩
      rw [hs]
      by_cases he : s.e = 0
      · rw [if_neg (by simp [he])]
        have HE := Lib.hid he
        clear he
        have HS := Lib.hid hs
        have HX := Lib.hid (And.intro hx htk)
        have HT := Lib.hid (And.intro hto hln)
        clear hto hln hx htk htk2 hs
        go_enter Tryz.func45, Tryz.ntmps45
        go_wp2_with fail
        rw [HV0.out]
        refine HL.out.mono ?_
        rintro e w1 ⟨v, rfl, ho1, hb1⟩
        have H1 := Lib.hid (H0.out.past hb1)
        rw [toks_cells] at ho1
        have hL0 : (Lx.lex l).1.length = ((Lx.lex l).1.map toTk).length := by rw [List.length_map]
        rw [hL0, HX.out.1] at ho1
        rw [HX.out.1]
        dsimp only at ho1 ⊢
        rw [HX.out.2] at ho1
        have HO1 := Lib.hid (RdS.own ho1)
        have HB1 := Lib.hid hb1
        have hal : Below w1.heap.size w1 (w1.alloc (.cells #[.int .i64 0, .int .i64 fp] 25)) := (Below.refl _ _).alloc (Nat.le_refl _) _
        have h2 := H1.out.past hal
        clear HL ho1 hb1 hL0
        go_wp2_with fail
        obtain ⟨V2, hV2⟩ : ∃ V, w1.alloc (.cells #[.int .i64 0, .int .i64 fp] 25) = V := ⟨_, rfl⟩
        rw [hV2] at h2 hal ⊢
        have H2 := Lib.hid (And.intro h2 hal)
        clear hV2 h2 hal
        refine (anc_new (fun _ => True) (w := w) (HO1.out.keep (Keeps.of H2.out.2 fun k hk => hk.2.2)) (by have := HT.out.2; omega) H2.out.1.b).mono ?_
        rintro e W3 ⟨b, rfl, hA, _, hb3⟩
        have H3 := Lib.hid (And.intro hA (H2.out.1.past hb3))
        clear hA hb3
        dsimp only
        go_wp2_with fail
        have hp4 : PI (fun _ => True) w (W3.alloc (.cells #[.pointer (some ⟨b, 0, none⟩), .int .i64 dp, .bool false, .int .i64 0, .int .i64 0] 163)) W3.heap.size b tk dp Ps.St.first :=
          ⟨H3.out.1.past (fresh_below' _ _), heap_alloc_new _ _, by have := H3.out.2.size; omega⟩
        refine (HW.out.1 tk dp w _ W3.heap.size b HT.out.1 HT.out.2 h1 h2 hp4).mono ?_
        rintro e W5 ⟨rfl, h, g⟩
        have h25 : Two w W5 #[.slice none 0 0, .slice none 0 0] #[.int .i64 0, .int .i64 0] := (H3.out.2.past (fresh_below' _ _)).frt g h.below
        have hw2 := HW.out.2 tk dp.toNat HT.out.1
        rw [HS.out] at h hw2
        have H5 := Lib.hid (And.intro h (And.intro h25 hw2))
        have HSZ := Lib.hid H3.out.2.size
        clear h g h25 hw2 hp4
        dsimp only
        go_wp2_with fail
        refine (pok_calls H5.out.1).mono ?_
        rintro e W6 ⟨rfl, rfl⟩
        rw [decide_eq_true HE.out]
        have c0 := H5.out.1.c0
        dsimp only
        go_wp2_with fail
        have hsm := H5.out.2.2 HE.out
        refine (anc_done H5.out.1.anc (by show s.nodes.length ≤ _; have := hsm.1; have := HT.out.2; omega) (by show tk.length ≤ _; have := HT.out.2; omega) (fun n hn => by have h1 := hsm.2 n hn; have h2 := hsm.1; have h3 := HT.out.2; omega)).mono ?_
        rintro e W7 ⟨vt, vn, rfl, hT, hb7⟩
        obtain ⟨a1, c1, rfl⟩ : ∃ a c, vt = .slice a tk.length c := hT.1.form
        obtain ⟨a2, c2, rfl⟩ : ∃ a c, vn = .slice a s.nodes.length c := by
          obtain ⟨kvs, _, h2, _⟩ := hT.2
          exact h2.form
        have h27 := H5.out.2.1.past hb7
        have H7 := Lib.hid (And.intro h27 (And.intro hT hb7.size))
        obtain ⟨⟨t0, t1, f0, f1⟩, g0, g1, g2, g3⟩ := two_cells h27
        clear hT hb7 h27 c0 hsm
        dsimp only
        go_wp2_with fail
        have h9 := H7.out.1.sets (.slice a1 tk.length c1) (.slice a2 s.nodes.length c2) (.int .i64 0) (.int .i64 0)
        refine bodyPost_ret (v := _) (results_row2 rfl _ _ w.heap.size (w.heap.size + 1) _ _ _ _ _ _ _ _ rfl rfl h9.t h9.f Tryz.underlying30 rfl rfl Tryz.underlying25 rfl rfl) rfl ?_
        refine ⟨_, _, rfl, rdt_sets H7.out.2.1 ?_ _ _ _ _, h9.b⟩
        have := H5.out.2.1.size
        omega
      · rw [if_pos he]
        have HE := Lib.hid he
        clear he
        have HS := Lib.hid hs
        have HX := Lib.hid (And.intro hx htk)
        have HT := Lib.hid (And.intro hto hln)
        clear hto hln hx htk htk2 hs
        go_enter Tryz.func45, Tryz.ntmps45
        go_wp2_with fail
        rw [HV0.out]
        refine HL.out.mono ?_
        rintro e w1 ⟨v, rfl, ho1, hb1⟩
        have H1 := Lib.hid (H0.out.past hb1)
        rw [toks_cells] at ho1
        have hL0 : (Lx.lex l).1.length = ((Lx.lex l).1.map toTk).length := by rw [List.length_map]
        rw [hL0, HX.out.1] at ho1
        rw [HX.out.1]
        dsimp only at ho1 ⊢
        rw [HX.out.2] at ho1
        have HO1 := Lib.hid (RdS.own ho1)
        have HB1 := Lib.hid hb1
        have hal : Below w1.heap.size w1 (w1.alloc (.cells #[.int .i64 0, .int .i64 fp] 25)) := (Below.refl _ _).alloc (Nat.le_refl _) _
        have h2 := H1.out.past hal
        clear HL ho1 hb1 hL0
        go_wp2_with fail
        obtain ⟨V2, hV2⟩ : ∃ V, w1.alloc (.cells #[.int .i64 0, .int .i64 fp] 25) = V := ⟨_, rfl⟩
        rw [hV2] at h2 hal ⊢
        have H2 := Lib.hid (And.intro h2 hal)
        clear hV2 h2 hal
        refine (anc_new (fun _ => True) (w := w) (HO1.out.keep (Keeps.of H2.out.2 fun k hk => hk.2.2)) (by have := HT.out.2; omega) H2.out.1.b).mono ?_
        rintro e W3 ⟨b, rfl, hA, _, hb3⟩
        have H3 := Lib.hid (And.intro hA (H2.out.1.past hb3))
        clear hA hb3
        dsimp only
        go_wp2_with fail
        have hp4 : PI (fun _ => True) w (W3.alloc (.cells #[.pointer (some ⟨b, 0, none⟩), .int .i64 dp, .bool false, .int .i64 0, .int .i64 0] 163)) W3.heap.size b tk dp Ps.St.first :=
          ⟨H3.out.1.past (fresh_below' _ _), heap_alloc_new _ _, by have := H3.out.2.size; omega⟩
        refine (HW.out.1 tk dp w _ W3.heap.size b HT.out.1 HT.out.2 h1 h2 hp4).mono ?_
        rintro e W5 ⟨rfl, h, g⟩
        have h25 : Two w W5 #[.slice none 0 0, .slice none 0 0] #[.int .i64 0, .int .i64 0] := (H3.out.2.past (fresh_below' _ _)).frt g h.below
        have hw2 := HW.out.2 tk dp.toNat HT.out.1
        rw [HS.out] at h hw2
        have H5 := Lib.hid (And.intro h (And.intro h25 hw2))
        have HSZ := Lib.hid H3.out.2.size
        clear h g h25 hw2 hp4
        dsimp only
        go_wp2_with fail
        refine (pok_calls H5.out.1).mono ?_
        rintro e W6 ⟨rfl, rfl⟩
        rw [decide_eq_false HE.out]
        have c3 := H5.out.1.c3
        have c4 := H5.out.1.c4
        obtain ⟨⟨t0, t1, f0, f1⟩, g0, g1, g2, g3⟩ := two_cells H5.out.2.1
        have hsz := HSZ.out
        have q1 : ¬ w.heap.size = W3.heap.size := by omega
        have q2 : ¬ w.heap.size + 1 = W3.heap.size := by omega
        have q3 : ¬ W3.heap.size = w.heap.size := by omega
        have q4 : ¬ W3.heap.size = w.heap.size + 1 := by omega
        clear hsz
        dsimp only
        go_wp2_with fail
        go_region
        all_goals
          clear t0 t1 f0 f1 g0 g1 g2 g3 c3 c4 q1 q2 q3 q4
          go_wp2_with fail
          have h9 := (H5.out.2.1.sets (.slice none 0 0) (.slice none 0 0) (.int .i64 s.e) (.int .i64 s.pos)).drew
          refine bodyPost_ret (v := _) (results_row2 rfl _ _ w.heap.size (w.heap.size + 1) _ _ _ _ _ _ _ _ rfl rfl h9.t h9.f Tryz.underlying30 rfl rfl Tryz.underlying25 rfl rfl) rfl ?_
          exact ⟨_, _, rfl, rdt_none _ _, h9.b⟩
    · have hrd : Ps.read Ps.form l dp = ((⟨[], []⟩ : Tr.T), ((Lx.lex l).2.1 : Int), ((Lx.lex l).2.2 : Int)) := by unfold Ps.read; rw [if_neg HR.out, if_pos hf]
      rw [hrd]
      clear hrd
      obtain ⟨⟨ts, fe, fp⟩, hx⟩ : ∃ r, Lx.lex l = r := ⟨_, rfl⟩
      rw [hx] at hf ⊢
      dsimp only at hf ⊢
      have HX := Lib.hid hx
      clear hx
      go_enter Tryz.func45, Tryz.ntmps45
      go_wp2_with fail
      rw [HV0.out]
      refine HL.out.mono ?_
      rintro e w1 ⟨v, rfl, ho1, hb1⟩
      have H1 := Lib.hid (H0.out.past hb1)
      rw [HX.out]
      clear ho1 hb1 HL
      dsimp only
      have hfe : ((fe : Int) != 0) = true := by simp [hf]
      have hal : Below w1.heap.size w1 (w1.alloc (.cells #[.int .i64 fe, .int .i64 fp] 25)) := (Below.refl _ _).alloc (Nat.le_refl _) _
      have hnb := heap_alloc_new w1 (.cells #[.int .i64 fe, .int .i64 fp] 25)
      have h2 := H1.out.past hal
      go_wp2_with fail
      obtain ⟨V2, hV2⟩ : ∃ V, w1.alloc (.cells #[.int .i64 fe, .int .i64 fp] 25) = V := ⟨_, rfl⟩
      rw [hV2] at hnb h2 ⊢
      have H2 := Lib.hid h2
      obtain ⟨⟨t0, t1, f0, f1⟩, g0, g1, g2, g3⟩ := two_cells h2
      have n0 := cell_of_heap hnb 0 rfl
      have n1 := cell_of_heap hnb 1 rfl
      have hsz := H1.out.size
      have q1 : ¬ w.heap.size = w1.heap.size := by omega
      have q2 : ¬ w.heap.size + 1 = w1.heap.size := by omega
      have q3 : ¬ w1.heap.size = w.heap.size := by omega
      have q4 : ¬ w1.heap.size = w.heap.size + 1 := by omega
      clear hal hnb hV2 h2
      go_region
      all_goals
        clear t0 t1 f0 f1 g0 g1 g2 g3 n0 n1 q1 q2 q3 q4 hsz
        go_wp2_with fail
        have h9 := (H2.out.sets (.slice none 0 0) (.slice none 0 0) (.int .i64 fe) (.int .i64 fp)).drew
        refine bodyPost_ret (v := _) (results_row2 rfl _ _ w.heap.size (w.heap.size + 1) _ _ _ _ _ _ _ _ rfl rfl h9.t h9.f Tryz.underlying30 rfl rfl Tryz.underlying25 rfl rfl) rfl ?_
        exact ⟨_, _, rfl, rdt_none _ _, h9.b⟩

set_option maxRecDepth 100000 in
set_option maxHeartbeats 4000000 in
theorem Parse_calls0 (hw : WhatDoes 46 Ps.prog) (l : List UInt8) (hl : l.length ≤ 1073741824) (dp : Int) (w : World) :
    Calls Tryz.prog 10 #[.string ⟨l.toArray⟩, .int .i64 dp] w (Reads (Ps.read Ps.prog l dp) w) := by
  have H0 := Lib.hid (two_new w)
  obtain ⟨V0, hV0⟩ : ∃ V, (w.alloc (.cells #[.slice none 0 0, .slice none 0 0] 30)).alloc (.cells #[.int .i64 0, .int .i64 0] 25) = V := ⟨_, rfl⟩
  rw [hV0] at H0
  have HV0 := Lib.hid hV0
  have hc := pread_program hw l hl dp V0
  obtain ⟨⟨T, fe, fp⟩, hr⟩ : ∃ r, Ps.read Ps.prog l dp = r := ⟨_, rfl⟩
  rw [hr] at hc ⊢
  have HC := Lib.hid hc
  clear hw hV0 hc hr
  go_enter Tryz.func10, Tryz.ntmps10
  go_wp2_with fail
  rw [HV0.out]
  refine HC.out.mono ?_
  rintro e w1 ⟨vt, vn, rfl, hT, hb⟩
  obtain ⟨a1, c1, rfl⟩ : ∃ a c, vt = .slice a T.toks.length c := hT.1.form
  obtain ⟨a2, c2, rfl⟩ : ∃ a c, vn = .slice a T.nodes.length c := by
    obtain ⟨kvs, _, h2, _⟩ := hT.2
    exact h2.form
  have h1 := H0.out.past hb
  have H1 := Lib.hid (And.intro h1 hT)
  obtain ⟨⟨t0, t1, f0, f1⟩, g0, g1, g2, g3⟩ := two_cells h1
  clear hT hb h1
  dsimp only
  go_wp2_with fail
  have h9 := H1.out.1.sets (.slice a1 T.toks.length c1) (.slice a2 T.nodes.length c2) (.int .i64 fe) (.int .i64 fp)
  refine bodyPost_ret (v := _) (results_row2 rfl _ _ w.heap.size (w.heap.size + 1) _ _ _ _ _ _ _ _ rfl rfl h9.t h9.f Tryz.underlying30 rfl rfl Tryz.underlying25 rfl rfl) rfl ?_
  exact ⟨_, _, rfl, rdt_sets H1.out.2 H0.out.size _ _ _ _, h9.b⟩

set_option maxRecDepth 100000 in
set_option maxHeartbeats 4000000 in
theorem Formula_calls0 (hw : WhatDoes 98 Ps.form) (l : List UInt8) (hl : l.length ≤ 1073741824) (dp : Int) (w : World) :
    Calls Tryz.prog 48 #[.string ⟨l.toArray⟩, .int .i64 dp] w (Reads (Ps.read Ps.form l dp) w) := by
  have H0 := Lib.hid (two_new w)
  obtain ⟨V0, hV0⟩ : ∃ V, (w.alloc (.cells #[.slice none 0 0, .slice none 0 0] 30)).alloc (.cells #[.int .i64 0, .int .i64 0] 25) = V := ⟨_, rfl⟩
  rw [hV0] at H0
  have HV0 := Lib.hid hV0
  have hc := pread_alone hw l hl dp V0
  obtain ⟨⟨T, fe, fp⟩, hr⟩ : ∃ r, Ps.read Ps.form l dp = r := ⟨_, rfl⟩
  rw [hr] at hc ⊢
  have HC := Lib.hid hc
  clear hw hV0 hc hr
  go_enter Tryz.func48, Tryz.ntmps48
  go_wp2_with fail
  rw [HV0.out]
  refine HC.out.mono ?_
  rintro e w1 ⟨vt, vn, rfl, hT, hb⟩
  obtain ⟨a1, c1, rfl⟩ : ∃ a c, vt = .slice a T.toks.length c := hT.1.form
  obtain ⟨a2, c2, rfl⟩ : ∃ a c, vn = .slice a T.nodes.length c := by
    obtain ⟨kvs, _, h2, _⟩ := hT.2
    exact h2.form
  have h1 := H0.out.past hb
  have H1 := Lib.hid (And.intro h1 hT)
  obtain ⟨⟨t0, t1, f0, f1⟩, g0, g1, g2, g3⟩ := two_cells h1
  clear hT hb h1
  dsimp only
  go_wp2_with fail
  have h9 := H1.out.1.sets (.slice a1 T.toks.length c1) (.slice a2 T.nodes.length c2) (.int .i64 fe) (.int .i64 fp)
  refine bodyPost_ret (v := _) (results_row2 rfl _ _ w.heap.size (w.heap.size + 1) _ _ _ _ _ _ _ _ rfl rfl h9.t h9.f Tryz.underlying30 rfl rfl Tryz.underlying25 rfl rfl) rfl ?_
  exact ⟨_, _, rfl, rdt_sets H1.out.2 H0.out.size _ _ _ _, h9.b⟩
end Go.Proofs.YtlejecaanllghaaGreatDoor
/- parse: Parse, Formula: what they do. -/
namespace Go.Proofs.YtlejecaanllghaaGreatDoor
open Go.RowKit

theorem what_program : WhatDoes 46 Ps.prog := by
  refine ⟨fun tk dp w0 W p b ht hl h1 h2 h => ?_, fun tk d ht he => ?_⟩
  · have hk := plv_calls (w0 := w0) (p := p) (b := b) ht hl h2 dp.toNat 1 (by omega) (by omega)
    exact pprogram_calls ht hl (Pc.sim_lv ht dp.toNat).ex hk.ex (fun _ _ => trivial) h (Pc.first_out ht).1
  · exact (Pc.same_program ht d).small he
theorem what_alone : WhatDoes 98 Ps.form := by
  refine ⟨fun tk dp w0 W p b ht hl h1 h2 h => ?_, fun tk d ht he => ?_⟩
  · have hk := plv_calls (w0 := w0) (p := p) (b := b) ht hl h2 dp.toNat 1 (by omega) (by omega)
    exact palone_calls ht hl (Pc.sim_lv ht dp.toNat).ex hk.ex (fun _ _ => trivial) h (Pc.first_out ht).1
  · exact (Pc.same_alone ht d).small he
theorem parse_calls (l : List UInt8) (hl : l.length ≤ 1073741824) (dp : Int) (w : World) :
    Calls Tryz.prog 10 #[.string ⟨l.toArray⟩, .int .i64 dp] w (Reads (Ps.read Ps.prog l dp) w) := Parse_calls0 what_program l hl dp w
theorem formula_calls (l : List UInt8) (hl : l.length ≤ 1073741824) (dp : Int) (w : World) :
    Calls Tryz.prog 48 #[.string ⟨l.toArray⟩, .int .i64 dp] w (Reads (Ps.read Ps.form l dp) w) := Formula_calls0 what_alone l hl dp w
end Go.Proofs.YtlejecaanllghaaGreatDoor
