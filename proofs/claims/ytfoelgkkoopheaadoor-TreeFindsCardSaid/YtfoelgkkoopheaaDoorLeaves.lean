/- tree.leaves: the tokens' places of all leaves beneath a node. -/
import Derived.Test.YtfoelgkkoopheaaDoorLvM
import Derived.Outline
namespace Go.Proofs.YtfoelgkkoopheaaDoor
open Go.RowKit Go.Shelf
attribute [local go_sem] Oper.semAt_some

theorem new_at (w : World) (cs : Array Value) (T : TypeId) {r : Nat} (h : r = w.heap.size) : (w.alloc (.cells cs T)).heap[r]? = some (.cells cs T (0, 0)) := by
  subst h
  exact World.alloc_heap_new _ _
theorem new_size (W : World) (p : Addr) (v : Value) (o : Obj) : W.heap.size + 1 = ((W.setCell p v).alloc o).heap.size := by
  rw [← size_alloc1]
  simp [World.setCell]
theorem lv_last (st : List Int) : st = [] ∨ ∃ st0 i, st = st0 ++ [i] := by
  rcases List.eq_nil_or_concat st with h | ⟨l, i, h⟩
  · exact .inl h
  · exact .inr ⟨l, i, by rw [h, List.concat_eq_append]⟩
theorem backUpto_snd (zs : List Int) : (backUpto zs zs.length).map (·.2) = zs.reverse := by
  apply List.ext_getElem?
  intro i
  by_cases h : i < zs.length
  · have h2 : zs.length - 1 - i < zs.length := by omega
    rw [List.getElem?_reverse h]
    simp [backUpto, h, h2]
  · rw [List.getElem?_eq_none (by simp [backUpto]; omega), List.getElem?_eq_none (by simp; omega)]

theorem backward_in (F : Fence) (n : Nat) (h : F.fn 53) (hro : F.round = none) (v : Value) (h1 : v.oneCell' = true) (w : World) :
    CallsIn F n Tryd.prog 53 #[v] w fun e w' => e = .returned (.func (.func 68) #[] #[.pointer (some ⟨w.heap.size, 0, none⟩)]) ∧ w.alloc (.cells #[v] 22) = w' := by
  refine callsIn_of_wp Tryd.func53 rfl h ?_ hro
  simp only [Tryd.ntmps53, List.size_toArray, List.length_cons, List.length_nil, Nat.reduceAdd, Nat.reduceSub, Array.replicate_succ, Array.replicate_zero, List.push_toArray, List.append_toArray, List.nil_append, List.cons_append]
  gi_wp2
  go_ret
  exact ⟨rfl, rfl⟩

theorem back_stops (F : Fence) (n : Nat) (h8 : F.fn 68) (hro : F.round = none) (hn : 1 ≤ n) (Bs : Nat) (P : Nat → Prop) (v : Value) (zs : List Int) (hreach : zs.length ≤ 1073741824) (w w0 : World)
    (hrd : RdW w P 1 v zs.length (intCells zs)) (hP : ∀ k, P k → k < w.heap.size) (hb0 : Below w.heap.size w w0) (hbox : Boxed w0 Bs 22 v) :
    SeqStopsK F n Tryd.prog 68 #[.pointer (some ⟨Bs, 0, none⟩)] (fun x : Int × Int => #[.int .i64 x.1, .int .i64 x.2]) (Keeps fun k => P k ∨ k = Bs) (fun ys => ys = backUpto zs zs.length) (fun pre => ∃ k, k ≤ zs.length ∧ pre = backUpto zs k) zs.length w0 := by
  intro l J Jx W hW _ _ hY h0
  have hbW : W.cell? ⟨Bs, 0, none⟩ = some v := (hW.cell (p := ⟨Bs, 0, none⟩) hbox.lt).trans hbox.cell
  obtain ⟨hl, a, c, rfl, _, hd⟩ := hrd
  rcases hd with ⟨_, h00⟩ | ⟨b, off, rfl, hpb, hrg⟩
  · have hz : zs = [] := List.eq_nil_of_length_eq_zero h00
    subst hz
    refine (back1_nil_in F n h8 hro l Bs J W a c hbW h0).mono ?_
    rintro e W' ⟨hv, hJ⟩
    exact ⟨hv, .inl ⟨_, rfl, hJ⟩⟩
  · refine back1_in F n h8 hro hn l Bs b off c (fun k => P k ∨ k = Bs) zs hreach (fun h => .inl (hpb.resolve_left (by omega))) J Jx hY W (.inr rfl) hbW (fun j hj => ?_) h0
    have hpb' := hpb.resolve_left (by omega)
    have h1 := hrg j (.int .i64 (zs[j]?.getD 0)) (by simp [intCells, List.getElem?_eq_getElem hj])
    have hlt := hP b hpb'
    rw [← h1]
    refine World.cell?_of_block (a := ⟨b, off + j, none⟩) ?_
    show W.heap[b]? = w.heap[b]?
    rw [hW.block b (Nat.lt_of_lt_of_le hlt hb0.size), hb0.block b hlt]

def LvRel (w : World) (vt vn : Value) (ns : List Tr.Nd) (root : Nat) (k : Nat) (ds : List Nat) (v5 : Value) (W : World) : Prop :=
  ∃ st acc g c, k = Tr.stackSz ns st ∧ Tr.InR ns st ∧ acc ++ Tr.stackLv ns st = Tr.leafs ns root ∧ acc.length + k ≤ 1073741823 ∧ LvMem w vt vn (w.heap.size + 1 + 1) ds st acc v5 g c W

theorem lv_start (w : World) (vt vn : Value) (ns : List Tr.Nd) (root : Nat) (hroot : root < ns.length) (hsz : Tr.size ns root ≤ 1073741823) :
    LvRel w vt vn ns root (Tr.size ns root) [] (.slice none 0 0) (((w.alloc (.cells #[vt, vn] 41)).alloc (.cells #[.int .i64 (root : Int)] 3)).alloc (.cells #[.slice (some ⟨w.heap.size + 1, 0, none⟩) 1 1] 22)) := by
  have s1 : (w.alloc (.cells #[vt, vn] 41)).heap.size = w.heap.size + 1 := (size_alloc1 _ _).symm
  have s2 : ((w.alloc (.cells #[vt, vn] 41)).alloc (.cells #[.int .i64 (root : Int)] 3)).heap.size = w.heap.size + 1 + 1 := by rw [← size_alloc1, s1]
  refine ⟨[(root : Int)], [], w.heap.size + 1, 1, by simp [Tr.stackSz], by intro k hk; simp at hk; omega, by simp [Tr.stackLv], by simpa using hsz, ?_⟩
  refine ⟨?_, ?_, World.ownsRow_nil _ _ _ _, by simp [Value.ownBlock], ?_, by omega, ?_, List.nodup_nil, by simp⟩
  · unfold Boxed
    rw [← s2]
    exact World.alloc_heap_new _ _
  · refine ⟨rfl, Or.inr ⟨w.heap.size + 1, 1, #[.int .i64 (root : Int)], rfl, by omega, ?_, Nat.le_refl _, by decide, rfl, rfl⟩⟩
    rw [Below.heap_alloc _ _ _ (by omega), ← s1]
    exact World.alloc_heap_new _ _
  · rw [Below.heap_alloc _ _ _ (by omega), Below.heap_alloc _ _ _ (by omega)]
    exact World.alloc_heap_new _ _
  · exact (((Below.refl _ _).alloc (Nat.le_refl _) _).alloc (by omega) _).alloc (by omega) _

def LvAct (w : World) (vt vn : Value) (ns : List Tr.Nd) (root : Nat) (k : Nat) (a : Act) (W : World) : Prop :=
  ∃ (ds : List Nat) (v5 u7 u8 u13 u14 u15 u16 u17 u18 u19 u20 u21 u22 u23 u24 u25 u26 u27 u28 u29 u30 u31 u32 u33 u34 u35 u36 u37 u38 u39 u40 u41 u42 : Value), LvRel w vt vn ns root k ds v5 W ∧ a = { tmps := #[.agg #[vt, vn], .int .i64 (root : Int), .pointer (some ⟨w.heap.size, 0, none⟩), undef, .slice none 0 0, v5, .pointer (some ⟨w.heap.size + 1 + 1, 0, none⟩), u7, u8, undef, undef, .int .i64 (root : Int), .slice (some ⟨w.heap.size + 1, 0, none⟩) 1 1, u13, u14, u15, u16, u17, u18, u19, u20, u21, u22, u23, u24, u25, u26, u27, u28, u29, u30, u31, u32, u33, u34, u35, u36, u37, u38, u39, u40, u41, u42, undef, undef, undef, undef, undef, undef, undef], defers := markDs ds }

set_option maxRecDepth 100000 in
set_option maxHeartbeats 2000000 in
theorem leaves_calls {w : World} {P : Nat → Prop} {vt vn : Value} {t : Tr.T} (h : RdT w P vt vn t) (hP : ∀ k, P k → k < w.heap.size) (hlow : Tr.Low t.nodes) (root : Nat) (hroot : root < t.nodes.length) (hn : t.nodes.length ≤ 1073741824)
    (hsz : Tr.size t.nodes root ≤ 1073741823) :
    Calls Tryd.prog 35 #[.agg #[vt, vn], .int .i64 root] w fun e w' => ∃ v, e = .returned v ∧ w'.ownsRow w.heap.size 3 1 v (Tr.leafs t.nodes root).length (intCells (Tr.leafs t.nodes root)) ∧ Below w.heap.size w w' := by
  refine (callsIn_wide (n := 5)).1 ?_
  refine callsIn_of_wp_marks Tryd.func35 rfl trivial ?_ rfl
  simp only [Tryd.ntmps35, List.size_toArray, List.length_cons, List.length_nil, Nat.reduceAdd, Nat.reduceSub, Array.replicate_succ, Array.replicate_zero, List.push_toArray, List.append_toArray, List.nil_append, List.cons_append]
  gi_wp2_with fail
  refine wpIn_loop_ghost_k (fun k a W => LvAct w vt vn t.nodes root k a W) (Tr.size t.nodes root) ?_ ?_
  · exact ⟨[], _, _, _, _, _, _, _, _, _, _, _, _, _, _, _, _, _, _, _, _, _, _, _, _, _, _, _, _, _, _, _, _, _, lv_start w vt vn t.nodes root hroot hsz, rfl⟩
  · rintro k a W ⟨ds, v5, u7, u8, u13, u14, u15, u16, u17, u18, u19, u20, u21, u22, u23, u24, u25, u26, u27, u28, u29, u30, u31, u32, u33, u34, u35, u36, u37, u38, u39, u40, u41, u42, ⟨st, acc, g, c, hk, hin, hlv, hroom, hm⟩, rfl⟩ J K hJ hK
    rcases lv_last st with rfl | ⟨st0, i, rfl⟩
    · have c6 := hm.box.cell
      simp only [List.length_nil] at c6
      have HM := Lib.hid (And.intro hm hlv)
      clear hm hlv hk hin hroom hJ hK
      gi_wp2_with fail
      obtain ⟨hm, hlv⟩ := HM.out
      refine leaves_marks ds W hm.nd (fun D hD => (hm.mks D hD).2) fun w' h1 h2 h3 h4 h5 => ⟨_, results_tmp rfl _ _ _, v5, rfl, ?_, ?_⟩
      · have e : acc = Tr.leafs t.nodes root := by simpa [Tr.stackLv] using hlv
        rw [← e]
        refine ownsRow_same hm.out fun k hk => h5 k fun hD => (hm.apart.2.2.2.2 k hD).2.2 hk
      · refine hm.below.trans ⟨h1, h2, h3, Nat.le_of_eq h4.symm, fun k hk => h5 k fun hD => ?_⟩
        have := (hm.mks k hD).1
        omega
    · have hi := hin i (by simp)
      obtain ⟨j, rfl⟩ : ∃ j : Nat, i = j := ⟨i.toNat, by omega⟩
      obtain ⟨x, hx⟩ : ∃ x, t.nodes[j]? = some x := ⟨_, List.getElem?_eq_getElem (by omega)⟩
      have hlen := hin.len
      have hm1 := hm.pop (m := st0.length) (by simp)
      have hrd1 := h.2.keep (Keeps.of hm1.below hP)
      obtain ⟨b, off, cn, kv, rfl, hPb, hrg, hkv⟩ := hrd1.node hx
      have c6 := hm.box.cell
      simp only [List.length_append, List.length_cons, List.length_nil, Nat.zero_add] at c6
      have cg : W.cell? ⟨g, st0.length, none⟩ = some (.int .i64 (j : Int)) := by
        have := hm.own.cells (g := g) rfl st0.length (.int .i64 (j : Int)) (by simp [intCells])
        rwa [Addr.add_mid, Nat.zero_add] at this
      have ct := cell_of_heap hm.tbox 1 rfl
      have f6 := hm.box.frozen
      have hmc : st0.length < c := by
        rcases hm.own.2 with ⟨hq, _⟩ | ⟨_, cap, _, hv, _, _, hle, _⟩
        · cases hq
        · injection hv with _ _ hc
          subst hc
          simp at hle
          omega
      obtain ⟨kind, tok, kids⟩ := x
      simp only at hrg hkv
      obtain ⟨ka, kc, rfl⟩ := hkv.form
      obtain ⟨i0, hi0, hz0, hz1, hz2⟩ := info_split info_int
      have Hi := Lib.hid hi0
      have Hz0 := Lib.hid hz0
      have Hz1 := Lib.hid hz1
      have Hz2 := Lib.hid hz2
      have HG := Lib.hid hrg
      have hmc' : (st0.length : Int) < (c : Int) := by omega
      have hjn : (j : Int) < (t.nodes.length : Int) := hi.2
      have hsl : (st0.length : Int) ≤ 1073741823 := by
        have : st0.length ≤ (st0 ++ [(j : Int)]).length := by simp
        omega
      have hn' : (t.nodes.length : Int) ≤ 1073741824 := by omega
      have hwW : w.heap.size ≤ W.heap.size := hm.below.size
      have HH := Lib.hid (And.intro h (And.intro hP (And.intro hin (And.intro hlv (And.intro hm1 (And.intro hroom (And.intro hlow (And.intro hx (And.intro hk (And.intro hkv (And.intro hJ (And.intro hK (And.intro hlen hPb)))))))))))))
      clear hi0 hz0 hz1 hz2 hrg h hP hin hlv hm1 hroom hlow hx hk hkv hJ hK hlen hPb hroot hsz hrd1 hi hm hmc hn
      by_cases hk19 : kind = 19
      · subst hk19
        gi_wp2_with (first
          | (refine wpListIn_load_mid rfl 38 _ rfl b (off + j * 3) rfl _ _ HG.out Tryd.underlying38 rfl rfl ?_)
          | (gi_at_builtin; refine wpListIn_append_lies _ rfl (.tmp 35) (.tmp 38) 22 rfl w.heap.size 3 i0 (.int .i64 0) 1 8 Tryd.underlying22 Hi.out Hz0.out Hz1.out Hz2.out rfl (by decide) v5 acc.length (intCells acc) rfl ((HH.out.2.2.2.2.1.alloc _).alloc _).out ⟨_, 0, none⟩ 1 1 [.int .i64 tok] rfl rfl (World.news_of_block (new_at _ _ _ (new_size _ _ _ _))) (by simp [Value.oneCell']) (by decide) (by have := HH.out.2.2.2.2.2.1; unfold maxLen; omega) (by have := HH.out.2.2.2.2.2.1; omega) ((HH.out.2.2.2.2.1.alloc _).alloc _).below.size _ rfl ?_))
        intro g1 cap w1 hown hgrow hat hlt1
        have HW := Lib.hid (And.intro hown (And.intro hgrow (And.intro hat hlt1)))
        clear hown hgrow hat hlt1
        gi_wp2_with fail
        obtain ⟨h, hP, hin, hlv, hm1, hroom, hlow, hx, hk, hkv, hJ, hK, hlen, hPb⟩ := HH.out
        obtain ⟨hown, hgrow, hat, hlt1⟩ := HW.out
        have hs := Tr.stack_leaf (st := st0) hlow hx rfl
        have hm2 := (hm1.alloc (.cells #[.int .i64 19, .int .i64 tok, .slice ka kids.length kc] 38)).outp hown hgrow (hat.imp_right fun e => by rw [e, ← size_alloc1, ← size_alloc1]; simp [World.setCell])
        refine hK _ _ (Handed.intro (Tr.stackSz t.nodes st0) ?_ (hJ _ _ _ ?_))
        · rw [hk, hs.2]
          omega
        refine ⟨ds, _, _, _, _, _, _, _, _, _, _, _, _, _, _, _, _, _, _, _, _, _, _, _, _, _, _, _, _, _, _, _, _, _, ⟨st0, acc ++ [tok], g, c, rfl, hin.left, ?_, ?_, hm2⟩, rfl⟩
        · rw [← hlv, hs.1]
          simp
        · rw [hs.2] at hk
          simp
          omega
      · have hk19' : (kind == 19) = false := by simp [hk19]
        have HK19 := Lib.hid hk19
        clear hk19
        gi_wp2_with (first
          | (refine wpListIn_load_mid rfl 38 _ rfl b (off + j * 3) rfl _ _ HG.out Tryd.underlying38 rfl rfl ?_)
          | (refine ⟨trivial, ?_⟩; gi_at_call 53; refine (backward_in Fence.wide _ trivial rfl (.slice ka kids.length kc) rfl _).mono ?_; rintro e w' ⟨rfl, rfl⟩))
        obtain ⟨V, hV⟩ : ∃ V, (W.setCell ⟨w.heap.size + 1 + 1, 0, none⟩ (.slice (some ⟨g, 0, none⟩) st0.length c)).alloc (.cells #[.int .i64 kind, .int .i64 tok, .slice ka kids.length kc] 38) = V := ⟨_, rfl⟩
        rw [hV]
        have hVs : V.heap.size = W.heap.size + 1 := by rw [← hV, ← size_alloc1]; simp [World.setCell]
        have hVm : LvMem w vt (.slice (some ⟨b, off, none⟩) t.nodes.length cn) (w.heap.size + 1 + 1) ds st0 acc v5 g c V := by rw [← hV]; exact HH.out.2.2.2.2.1.alloc _
        have hVk : RdW V P 1 (.slice ka kids.length kc) kids.length (intCells kids) := by
          rw [← hV]
          exact HH.out.2.2.2.2.2.2.2.2.2.1.keep (Keeps.of ((Below.refl _ _).alloc (Nat.le_refl _) _) fun k hk => Nat.lt_of_lt_of_le (HH.out.2.1 k hk) HH.out.2.2.2.2.1.below.size)
        obtain ⟨h, hP, hin, hlv, hm1, hroom, hlow, hx, hk, hkv, hJ, hK, hlen, hPb⟩ := HH.out
        have hs := Tr.stack_node (st := st0) hlow hx HK19.out
        simp only at hs
        have hin2 := (Tr.InR.left (l := [(j : Int)]) hin).kids hlow hx
        have hl2 := hin2.len
        simp only [List.length_append, List.length_reverse] at hl2
        rw [hs.2] at hk
        have hob := hm1.box.lt
        rw [show (W.setCell ⟨w.heap.size + 1 + 1, 0, none⟩ (.slice (some ⟨g, 0, none⟩) st0.length c)).heap.size = W.heap.size from by simp [World.setCell]] at hob
        have hkl : kids.length ≤ 1073741823 := by omega
        have hbB : Below V.heap.size V (V.alloc (.cells #[.slice ka kids.length kc] 22)) := (Below.refl _ _).alloc (Nat.le_refl _) _
        have hbx : Boxed (V.alloc (.cells #[.slice ka kids.length kc] 22)) (W.heap.size + 1) 22 (.slice ka kids.length kc) := by rw [← hVs]; exact Boxed.new _ _ _
        have hVB := size_alloc1 V (.cells #[.slice ka kids.length kc] 22)
        refine wpIn_rangeFunc_ownG rfl (by decide) (gf := 68) (lb := #[.pointer (some ⟨W.heap.size + 1, 0, none⟩)]) rfl trivial (enters_of Tryd.func68 (by kernel_rfl) rfl)
          (back_stops Fence.wide (5 - 1) trivial rfl (by decide) (W.heap.size + 1) P (.slice ka kids.length kc) kids (by omega) V _ hVk (fun k hk => Nat.lt_of_lt_of_le (hP k hk) hVm.below.size) hbB hbx)
          Keeps.trans (fun W0 l o o' hl ho _ _ k hk => ?keep) (Below.refl _ _) (by intro _; rfl)
          (fun pre W2 => (∃ g c, LvMem w vt (.slice (some ⟨b, off, none⟩) t.nodes.length cn) (w.heap.size + 1 + 1) ds (st0 ++ pre.map (·.2)) acc v5 g c W2) ∧ Boxed W2 (W.heap.size + 1) 22 (.slice ka kids.length kc))
          (fun _ _ _ => False) ?own (fun _ _ _ _ _ hs _ _ => hs) ⟨⟨g, c, by simpa using hVm.alloc _⟩, hbx⟩ ?act ?assign ?body ?done ?stop
        case assign =>
          intro l x W2 K2 hK2
          gi_wp2
          exact hK2
        case keep =>
          refine putObj_ne ?_
          rcases hk with hk | rfl
          · have := hP k hk
            omega
          · omega
        case own =>
          rintro pre W2 W3 row ⟨⟨g2, c2, hm2⟩, hbx2⟩ hg hr
          refine ⟨⟨g2, c2, hm2.turned hg fun r e => ⟨fun D hD => ?_, ?_, (hr r e).2⟩⟩, (hg.block _ hbx2.lt fun e => ?_).trans hbx2⟩
          · have h1 := (hr r e).1
            have h2 := lt_heap (hm1.mks D hD).2
            rw [show (W.setCell ⟨w.heap.size + 1 + 1, 0, none⟩ (.slice (some ⟨g, 0, none⟩) st0.length c)).heap.size = W.heap.size from by simp [World.setCell]] at h2
            omega
          · have h1 := (hr r e).1
            omega
          · obtain ⟨_, o, ho, hn⟩ := hr _ e.symm
            rw [show W2.heap[W.heap.size + 1]? = _ from hbx2] at ho
            cases ho
            cases hn
        case stop =>
          rintro D c0 pre W2 _ _ hf
          exact hf.elim
        case done =>
          rintro D ys W2 hD rfl ⟨⟨g2, c2, hm2⟩, hbx2⟩ hDW
          rw [backUpto_snd] at hm2
          refine hK _ _ (Handed.intro (Tr.stackSz t.nodes (st0 ++ kids.reverse)) (by omega) (hJ _ _ _ ?_))
          refine ⟨D :: ds, _, _, _, _, _, _, _, _, _, _, _, _, _, _, _, _, _, _, _, _, _, _, _, _, _, _, _, _, _, _, _, _, _, ⟨st0 ++ kids.reverse, acc, g2, c2, rfl, hin2, ?_, by omega, hm2.mark ?_ ?_ hDW⟩, rfl⟩
          · rw [← hlv, hs.1]
          · intro E hE
            have h2 := lt_heap (hm1.mks E hE).2
            rw [show (W.setCell ⟨w.heap.size + 1 + 1, 0, none⟩ (.slice (some ⟨g, 0, none⟩) st0.length c)).heap.size = W.heap.size from by simp [World.setCell]] at h2
            omega
          · omega
        case body =>
          rintro l pre x W2 ⟨⟨g2, c2, hm2⟩, hbx2⟩ hlt
          obtain ⟨s2, hs2⟩ : ∃ s2, st0 ++ pre.map (·.2) = s2 := ⟨_, rfl⟩
          have hs2l : s2.length ≤ 1073741823 := by rw [← hs2]; simp; omega
          have hnext : st0 ++ (pre ++ [x]).map (·.2) = s2 ++ [x.2] := by rw [← hs2]; simp
          rw [hs2] at hm2
          have c62 := hm2.box.cell
          have f62 := hm2.box.frozen
          have HM2 := Lib.hid (And.intro hm2 (And.intro hbx2 (And.intro hs2l hnext)))
          have HP := Lib.hid (And.intro hP (And.intro hob (And.intro hVs hbB)))
          clear hs2 hm2 hbx2 hs2l hnext hV hVs hVm hVk h hP hin hlv hm1 hroom hlow hx hk hkv hJ hK hlen hPb hs hin2 hl2 hob hkl hbB hbx hVB hlt c6 cg ct f6 HG HH HK19 hk19'
          gi_wp2_with (gi_at_builtin; refine wpListIn_append_lies _ rfl (.tmp 45) (.tmp 47) 22 rfl w.heap.size 3 i0 (.int .i64 0) 1 8 Tryd.underlying22 Hi.out Hz0.out Hz1.out Hz2.out rfl (by decide) (.slice (some ⟨g2, 0, none⟩) s2.length c2) s2.length (intCells s2) rfl (HM2.out.1.own.alloc _) ⟨_, 0, none⟩ 1 1 [.int .i64 x.2] rfl rfl (World.news_of_block (new_at _ _ _ rfl)) (by simp [Value.oneCell']) (by decide) (by have := HM2.out.2.2.1; unfold maxLen; omega) (by have := HM2.out.2.2.1; omega) (HM2.out.1.alloc _).below.size _ rfl ?_; intro g3 cap w3 hown hgrow hat hlt3; have hpu := HM2.out.1.push hown hgrow (hat.imp id fun e => by rw [e, ← size_alloc1]); have c63 := hpu.1.cell; have f63 := hpu.1.frozen; have HPU := Lib.hid hpu.2; clear hpu hown hgrow hat hlt3)
          obtain ⟨hm2, hbx2, _, hnext⟩ := HM2.out
          obtain ⟨hP, hob, _, _⟩ := HP.out
          obtain ⟨hm3, hko, hmv⟩ := HPU.out
          have hg2 := (hm2.own.lt g2 rfl).1
          have hws := hm2.below.size
          have hmb := hmv _ hbx2.lt (fun e => hbx2.not_row (by decide) hm2.own (by rw [e]; rfl)) (by omega)
          refine ⟨hko.from _, fun k hk => ?_, ⟨g3, cap, by rw [hnext]; exact hm3⟩, hmb.trans hbx2⟩
          rcases hk with hk | rfl
          · have := hP k hk
            exact hmv k (by omega) (by omega) (by omega)
          · exact hmb
end Go.Proofs.YtfoelgkkoopheaaDoor
