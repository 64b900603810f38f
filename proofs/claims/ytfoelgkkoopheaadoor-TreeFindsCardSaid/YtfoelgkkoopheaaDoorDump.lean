/- tree.dump, tree.Dump. -/
import Derived.Test.YtfoelgkkoopheaaDoorCheck
import Derived.Test.YtfoelgkkoopheaaDoorDumpP
namespace Go.Proofs.YtfoelgkkoopheaaDoor
open Go.RowKit

def IsB (w : World) (B b : Nat) (l : List UInt8) : Prop := Lib.IsBuilder 83 5 B b (Lib.byteCells l) w
theorem wl_calls {w : World} {B b : Nat} {pre : List UInt8} (h : IsB w B b pre) (l : List UInt8) (hl : pre.length + l.length ≤ 1073741824) (hB : B ≤ w.heap.size) :
    Calls Tryd.prog 52 #[.pointer (some ⟨b, 0, none⟩), .string ⟨l.toArray⟩] w fun e w' => (∃ n, e = .returned (.tuple #[.int .i64 n, .nilIface])) ∧ IsB w' B b (pre ++ l) ∧ Below B w w' ∧ NB b w w' := by
  have hs : (⟨l.toArray⟩ : ByteArray).size = l.length := by simp [ByteArray.size]
  refine (wstr_nb B b (Lib.byteCells pre) ⟨l.toArray⟩ w h (by rw [Lib.byteCells_length, hs]; omega) hB).mono ?_
  rintro e w' ⟨rfl, h1, h2, h3⟩
  refine ⟨⟨_, rfl⟩, ?_, h2, h3⟩
  unfold IsB
  rw [Lib.byteCells_append]
  exact h1
theorem IsB.lt {w : World} {B b : Nat} {l : List UInt8} (h : IsB w B b l) : b < w.heap.size ∧ B ≤ b := by
  rcases h with ⟨h1, v, h2, _⟩ | ⟨h1, v, h2, _⟩
  · exact ⟨lt_heap2 h2, h1⟩
  · exact ⟨lt_heap2 h2, h1⟩
theorem IsB.below {w w' : World} {B b : Nat} {l : List UInt8} (h : IsB w B b l) (hb : Below w.heap.size w w') : IsB w' B b l := isBuilder_below h hb

theorem NB.cells {b k : Nat} {x y : World} (h : NB b x y) {cs : Array Value} {T : TypeId} {fr : Nat × Nat} (hk : x.heap[k]? = some (.cells cs T fr)) (hne : k ≠ b) (hT : T ≠ 5) : y.heap[k]? = some (.cells cs T fr) :=
  h.block k _ hk hne fun cs2 fr2 e => by injection e with _ e2 _; exact hT e2
def DumpSays (w : World) (B b : Nat) (l : List UInt8) (e : Ending) (w' : World) : Prop := e = .returned (.tuple #[]) ∧ IsB w' B b l ∧ Below B w w' ∧ NB b w w'

set_option maxRecDepth 100000 in
set_option maxHeartbeats 2000000 in
theorem dump_leaf_calls {w : World} {P : Nat → Prop} {vt vn : Value} {t : Tr.T} {B b : Nat} {pre : List UInt8} (h : RdT w P vt vn t) (hP : ∀ k, P k → k < B) (hf : Tr.FormedTo t t.nodes.length) (hn : t.nodes.length ≤ 1073741823) (ht : t.toks.length ≤ 1073741823)
    {i : Nat} {n : Tr.Nd} (hi : t.nodes[i]? = some n) (hk : n.kind = 19) (hB : B ≤ w.heap.size) (hbu : IsB w B b pre) (hl : pre.length + (Tr.dump t i).length ≤ 1073741824) :
    Calls Tryd.prog 38 #[.agg #[vt, vn], .pointer (some ⟨b, 0, none⟩), .int .i64 (i : Int)] w (DumpSays w B b (pre ++ Tr.dump t i)) := by
  have hil := Tr.get_lt hi
  have hkt := (Tr.formed_kind (hf i n hil hi)).2.2 hk
  obtain ⟨tk, htk⟩ : ∃ tk, t.toks[n.tok.toNat]? = some tk := ⟨_, List.getElem?_eq_getElem (by omega)⟩
  rw [Tr.dump_leaf hi hk htk] at hl ⊢
  obtain ⟨kind, tok, kids⟩ := n
  simp only at hk hkt htk
  subst hk
  obtain ⟨q, rfl⟩ : ∃ q : Nat, tok = q := ⟨tok.toNat, by omega⟩
  simp only [Int.toNat_natCast] at htk
  obtain ⟨gn, on, cn, kv, rfl, hgn, hrn, hkv⟩ := h.2.node hi
  obtain ⟨gt, ot, ct, rfl, hgt, hrt⟩ := h.1.tok htk
  have hil' : (i : Int) < (t.nodes.length : Int) := by omega
  have hn' : (t.nodes.length : Int) ≤ 1073741823 := by omega
  have ht' : (t.toks.length : Int) ≤ 1073741823 := by omega
  have hqt : (q : Int) < (t.toks.length : Int) := hkt.2
  obtain ⟨ka, kc, rfl⟩ := hkv.form
  obtain ⟨kd, ld, tx, ps⟩ := tk
  have hgn2 := hP _ hgn
  have hgt2 := hP _ hgt
  have HRN : Hid (∀ w2 : World, Below B w w2 → w2.rangeAt gn (on + i * 3) [.int .i64 19, .int .i64 (q : Int), .slice ka kids.length kc]) := fun w2 h2 => rangeAt_same hrn (h2.block _ hgn2)
  have HRT : Hid (∀ w2 : World, Below B w w2 → w2.rangeAt gt (ot + q * 4) [.int .i64 kd, .string ⟨ld.toArray⟩, .string ⟨tx.toArray⟩, .int .i64 ps]) := fun w2 h2 => rangeAt_same hrt (h2.block _ hgt2)
  have HB := Lib.hid hbu
  have HL := Lib.hid hl
  have HBB : Hid (∀ o1 o2 o3 : Obj, Below B w (((w.alloc o1).alloc o2).alloc o3)) := fun o1 o2 o3 => (((Below.refl _ _).alloc hB _).alloc (by rw [← size_alloc1]; omega) _).alloc (by rw [← size_alloc1, ← size_alloc1]; omega) _
  have HBW := Lib.hid hB
  clear hbu hl hrn hrt hkv h hf hi hil hkt htk hP hgn2 hgt2 hgn hgt
  by_cases hk5 : kd = 5
  · subst hk5
    go_enter Tryd.func38, Tryd.ntmps38
    go_wp2_with (first
      | (refine wpList_load_mid rfl 38 _ rfl gn (on + i * 3) rfl _ _ (HRN.out _ ((Below.refl _ _).alloc HBW.out _)) Tryd.underlying38 rfl rfl ?_)
      | (refine wpList_load_mid rfl 34 _ rfl gt (ot + q * 4) rfl _ _ (HRT.out _ (((Below.refl _ _).alloc HBW.out _).alloc (by rw [← size_alloc1]; have := HBW.out; omega) _)) Tryd.underlying34 rfl rfl ?_))
    obtain ⟨W, hW⟩ : ∃ W, ((w.alloc (.cells #[.slice (some ⟨gt, ot, none⟩) t.toks.length ct, .slice (some ⟨gn, on, none⟩) t.nodes.length cn] 41)).alloc (.cells #[.int .i64 19, .int .i64 (q : Int), .slice ka kids.length kc] 38)).alloc (.cells #[.int .i64 5, .string ⟨ld.toArray⟩, .string ⟨tx.toArray⟩, .int .i64 ps] 34) = W := ⟨_, rfl⟩
    have hWB : Below B w W := by rw [← hW]; exact HBB.out _ _ _
    have hWb : Below w.heap.size w W := by rw [← hW]; exact (((Below.refl _ _).alloc (Nat.le_refl _) _).alloc (by rw [← size_alloc1]; omega) _).alloc (by rw [← size_alloc1, ← size_alloc1]; omega) _
    have hWt : W.heap[w.heap.size + 1 + 1]? = some (.cells #[.int .i64 5, .string ⟨ld.toArray⟩, .string ⟨tx.toArray⟩, .int .i64 ps] 34 (0, 0)) := by rw [← hW]; exact new_at _ _ _ (by rw [← size_alloc1, ← size_alloc1])
    have HW := Lib.hid (And.intro hWB (And.intro hWt (And.intro (HB.out.below hWb) hWb)))
    rw [hW]
    clear hW hWB hWb hWt
    refine (wl_calls HW.out.2.2.1 [36] (by have := HL.out; simp at this ⊢; omega) (Nat.le_trans HBW.out HW.out.2.2.2.size)).mono ?_
    rintro e w1 ⟨⟨n1, rfl⟩, hi1, hb1, hn1⟩
    have ht1 := hn1.cells HW.out.2.1 (by have := HB.out.lt; omega) (by decide)
    have d2 := cell_of_heap ht1 2 rfl
    have H1 := Lib.hid (And.intro hi1 (And.intro hb1 hn1))
    clear hi1 hb1 hn1 ht1
    dsimp only
    go_wp2_with fail
    refine (wl_calls H1.out.1 tx (by have := HL.out; simp at this ⊢; omega) (Nat.le_trans (Nat.le_trans HBW.out HW.out.2.2.2.size) H1.out.2.1.size)).mono ?_
    rintro e w2 ⟨⟨n2, rfl⟩, hi2, hb2, hn2⟩
    have H2 := Lib.hid (And.intro hi2 (And.intro hb2 hn2))
    clear hi2 hb2 hn2 d2
    dsimp only
    go_wp2_with fail
    refine bodyPost_ret (results_none rfl _ _ _) rfl ?_
    refine ⟨rfl, by simpa using H2.out.1, (HW.out.1.trans H1.out.2.1).trans H2.out.2.1, ((NB.of HW.out.2.2.2).trans H1.out.2.2).trans H2.out.2.2⟩
  · have hk5' : (kd == 5) = false := by rw [beq_eq_false_iff_ne]; exact hk5
    have HK5 := Lib.hid hk5
    clear hk5
    go_enter Tryd.func38, Tryd.ntmps38
    go_wp2_with (first
      | (refine wpList_load_mid rfl 38 _ rfl gn (on + i * 3) rfl _ _ (HRN.out _ ((Below.refl _ _).alloc HBW.out _)) Tryd.underlying38 rfl rfl ?_)
      | (refine wpList_load_mid rfl 34 _ rfl gt (ot + q * 4) rfl _ _ (HRT.out _ (((Below.refl _ _).alloc HBW.out _).alloc (by rw [← size_alloc1]; have := HBW.out; omega) _)) Tryd.underlying34 rfl rfl ?_))
    obtain ⟨W, hW⟩ : ∃ W, ((w.alloc (.cells #[.slice (some ⟨gt, ot, none⟩) t.toks.length ct, .slice (some ⟨gn, on, none⟩) t.nodes.length cn] 41)).alloc (.cells #[.int .i64 19, .int .i64 (q : Int), .slice ka kids.length kc] 38)).alloc (.cells #[.int .i64 kd, .string ⟨ld.toArray⟩, .string ⟨tx.toArray⟩, .int .i64 ps] 34) = W := ⟨_, rfl⟩
    have hWB : Below B w W := by rw [← hW]; exact HBB.out _ _ _
    have hWb : Below w.heap.size w W := by rw [← hW]; exact (((Below.refl _ _).alloc (Nat.le_refl _) _).alloc (by rw [← size_alloc1]; omega) _).alloc (by rw [← size_alloc1, ← size_alloc1]; omega) _
    have hWt : W.heap[w.heap.size + 1 + 1]? = some (.cells #[.int .i64 kd, .string ⟨ld.toArray⟩, .string ⟨tx.toArray⟩, .int .i64 ps] 34 (0, 0)) := by rw [← hW]; exact new_at _ _ _ (by rw [← size_alloc1, ← size_alloc1])
    have HW := Lib.hid (And.intro hWB (And.intro hWt (And.intro (HB.out.below hWb) hWb)))
    rw [hW]
    clear hW hWB hWb hWt
    refine (wl_calls HW.out.2.2.1 tx (by have := HL.out; rw [if_neg HK5.out] at this; simp at this ⊢; omega) (Nat.le_trans HBW.out HW.out.2.2.2.size)).mono ?_
    rintro e w2 ⟨⟨n2, rfl⟩, hi2, hb2, hn2⟩
    have H2 := Lib.hid (And.intro hi2 (And.intro hb2 hn2))
    clear hi2 hb2 hn2
    dsimp only
    go_wp2_with fail
    refine bodyPost_ret (results_none rfl _ _ _) rfl ?_
    refine ⟨rfl, by simpa using H2.out.1, HW.out.1.trans H2.out.2.1, (NB.of HW.out.2.2.2).trans H2.out.2.2⟩

/-- What the loop over a node's kids keeps. -/
def DpRel (w : World) (vt vn : Value) (t : Tr.T) (n : Tr.Nd) (B b : Nat) (pre : List UInt8) (k : Nat) (v42 : Value) (wr : World) : Prop :=
  ∃ j : Nat, v42 = .int .i64 j ∧ k = n.kids.length - j ∧ j ≤ n.kids.length ∧ IsB wr B b (pre ++ Tr.dumpTo t n j) ∧ Below B w wr ∧ NB b w wr ∧ wr.heap[w.heap.size]? = some (.cells #[vt, vn] 41 (0, 0))

set_option maxRecDepth 100000 in
set_option maxHeartbeats 2000000 in
theorem dump_calls {P : Nat → Prop} {vt vn : Value} {t : Tr.T} {B b : Nat} (hP : ∀ k, P k → k < B) (hf : Tr.FormedTo t t.nodes.length) (hn : t.nodes.length ≤ 1073741823) (ht : t.toks.length ≤ 1073741823) (hkids : ∀ n ∈ t.nodes, n.kids.length ≤ 1073741823) (i : Nat) :
    ∀ (w : World) (pre : List UInt8), i < t.nodes.length → RdT w P vt vn t → B ≤ w.heap.size → IsB w B b pre → pre.length + (Tr.dump t i).length ≤ 1073741824 →
    Calls Tryd.prog 38 #[.agg #[vt, vn], .pointer (some ⟨b, 0, none⟩), .int .i64 (i : Int)] w (DumpSays w B b (pre ++ Tr.dump t i)) := by
  induction i using Nat.strongRecOn with
  | ind i ih =>
  intro w pre hil h hB hbu hl
  obtain ⟨n, hi⟩ : ∃ n, t.nodes[i]? = some n := ⟨_, List.getElem?_eq_getElem hil⟩
  by_cases hk : n.kind = 19
  · exact dump_leaf_calls h hP hf hn ht hi hk hB hbu hl
  · have hlow := hf.low
    have hkd := Tr.formed_kind (hf i n hil hi)
    have hkl := hkids n (List.mem_of_getElem? hi)
    rw [Tr.dump_to t hlow hi hk] at hl ⊢
    have hlw := hlow i n hi
    obtain ⟨gn, on, cn, kv, rfl, hgn, hrn, hkv⟩ := h.2.node hi
    obtain ⟨at_, ct, rfl⟩ := h.1.form
    obtain ⟨ka, kc, rfl⟩ := hkv.form
    obtain ⟨kd, hkde⟩ : ∃ kd : Nat, n.kind = kd := ⟨n.kind.toNat, by omega⟩
    have hkd19 : ((kd : Int) == 19) = false := by rw [beq_eq_false_iff_ne]; omega
    have hil' : (i : Int) < (t.nodes.length : Int) := by omega
    have hn' : (t.nodes.length : Int) ≤ 1073741823 := by omega
    have hkl' : (n.kids.length : Int) ≤ 1073741823 := by omega
    have hgn2 := hP _ hgn
    rw [hkde] at hrn
    have HRN : Hid (∀ w2 : World, Below B w w2 → w2.rangeAt gn (on + i * 3) [.int .i64 (kd : Int), .int .i64 n.tok, .slice ka n.kids.length kc]) := fun w2 h2 => rangeAt_same hrn (h2.block _ hgn2)
    obtain ⟨dg, hdg⟩ : ∃ dg, Lib.decDigits kd = dg := ⟨_, rfl⟩
    have hdl : dg.length ≤ 2 := by rw [← hdg]; exact Tr.decDigits_len kd (by omega)
    have hdl' : (dg.length : Int) ≤ 2 := by omega
    have HIT : Hid (∀ W : World, Calls Tryd.prog 56 #[.int .i64 (kd : Int)] W fun e w' => e = .returned (.string ⟨dg.toArray⟩) ∧ w' = W) := by
      rw [← hdg]
      exact fun W => Tryd.strconv_Itoa_small kd (by omega) W
    have HTO : Hid (Tr.dumpTo t n 0 = [40] ++ dg) := by
      refine Lib.hid ?_
      unfold Tr.dumpTo
      rw [hkde, ← hdg]
      simp
    have HKD := Lib.hid (And.intro hkde hkd)
    have HKV := Lib.hid (And.intro h (And.intro hkv (And.intro hP hlw)))
    have HB := Lib.hid hbu
    have HL := Lib.hid hl
    have HBW := Lib.hid hB
    have HIH := Lib.hid ih
    have HT := Lib.hid (And.intro hi hlow)
    clear hbu hl hrn hkv h hf hi hil hP hgn2 hgn hkde hkd hk ih hlow hlw hkids hdg
    go_enter Tryd.func38, Tryd.ntmps38
    go_wp2_with (first
      | (refine wpList_load_mid rfl 38 _ rfl gn (on + i * 3) rfl _ _ (HRN.out _ ((Below.refl _ _).alloc HBW.out _)) Tryd.underlying38 rfl rfl ?_)
      | (go_at_call 56; refine (HIT.out _).mono ?_; rintro e w' ⟨rfl, rfl⟩))
    obtain ⟨W, hW⟩ : ∃ W, (w.alloc (.cells #[.slice at_ t.toks.length ct, .slice (some ⟨gn, on, none⟩) t.nodes.length cn] 41)).alloc (.cells #[.int .i64 (kd : Int), .int .i64 n.tok, .slice ka n.kids.length kc] 38) = W := ⟨_, rfl⟩
    have hWb : Below w.heap.size w W := by rw [← hW]; exact ((Below.refl _ _).alloc (Nat.le_refl _) _).alloc (by rw [← size_alloc1]; omega) _
    have hWt : W.heap[w.heap.size]? = some (.cells #[.slice at_ t.toks.length ct, .slice (some ⟨gn, on, none⟩) t.nodes.length cn] 41 (0, 0)) := by rw [← hW, Below.heap_alloc _ _ _ (by rw [← size_alloc1]; omega)]; exact new_at _ _ _ rfl
    have hWx : W.heap[w.heap.size + 1]? = some (.cells #[.int .i64 (kd : Int), .int .i64 n.tok, .slice ka n.kids.length kc] 38 (0, 0)) := by rw [← hW]; exact new_at _ _ _ (by rw [← size_alloc1])
    have HW := Lib.hid (And.intro hWb (And.intro hWt (And.intro hWx (And.intro (HB.out.below hWb) (hWb.mono HBW.out)))))
    rw [hW]
    clear hW hWb hWt hWx
    rw [show (⟨#[40]⟩ : ByteArray) = ⟨[40].toArray⟩ from rfl, str_add]
    refine (wl_calls HW.out.2.2.2.1 ([40] ++ dg) ?_ (Nat.le_trans HBW.out HW.out.2.2.2.2.size)).mono ?_
    · have h1 := HL.out
      have h2 := Tr.dumpTo_le t n 0
      rw [HTO.out] at h2
      simp only [List.length_append] at h1 h2 ⊢
      omega
    rintro e w1 ⟨⟨n1, rfl⟩, hi1, hb1, hn1⟩
    have ht1 := hn1.cells HW.out.2.1 (by have := HB.out.lt; omega) (by decide)
    have hx1 := hn1.cells HW.out.2.2.1 (by have := HB.out.lt; omega) (by decide)
    have d2 := cell_of_heap hx1 2 rfl
    have H1 := Lib.hid (And.intro hi1 (And.intro hb1 (And.intro hn1 ht1)))
    clear hi1 hb1 hn1 ht1 hx1
    dsimp only
    go_wp2_with fail
    go_loopg [42] n.kids.length (fun k v42 wr => DpRel w (.slice at_ t.toks.length ct) (.slice (some ⟨gn, on, none⟩) t.nodes.length cn) t n B b pre k v42 wr)
    case atStart =>
      refine ⟨0, rfl, rfl, Nat.zero_le _, ?_, HW.out.2.2.2.2.trans H1.out.2.1, (NB.of HW.out.1).trans H1.out.2.2.1, H1.out.2.2.2⟩
      rw [HTO.out]
      exact H1.out.1
    case round =>
      obtain ⟨j, rfl, hk, hj, hi2, hb2, hn2, ht2⟩ := hrel
      have HR := Lib.hid (And.intro hk (And.intro hi2 (And.intro hb2 (And.intro hn2 ht2))))
      clear hk hi2 hb2 hn2 ht2 d2
      by_cases hlt : j < n.kids.length
      · have hlt' : (j : Int) < (n.kids.length : Int) := by omega
        obtain ⟨x, hx⟩ : ∃ x, n.kids[j]? = some x := ⟨_, List.getElem?_eq_getElem hlt⟩
        have hxi := HKV.out.2.2.2.1 x (List.mem_of_getElem? hx)
        obtain ⟨y, rfl⟩ : ∃ y : Nat, x = y := ⟨x.toNat, by omega⟩
        obtain ⟨bk, ok, rfl, hcell⟩ := rt_kid HKV.out.1.2 HT.out.1 HKV.out.2.1 (fun k hk => Nat.lt_of_lt_of_le (HKV.out.2.2.1 k hk) HBW.out) (Below.refl _ _) (Keeps.of HR.out.2.2.1 HKV.out.2.2.1) hx
        have HX := Lib.hid (And.intro hx hxi)
        have HLJ : Hid (pre.length + (Tr.dumpTo t n j).length + 1 + (Tr.dump t y).length ≤ 1073741824) := by
          refine Lib.hid ?_
          have h1 := HL.out
          have h2 := Tr.dumpTo_le t n (j + 1)
          rw [Tr.dumpTo_succ t hx] at h2
          simp only [List.length_append, List.length_cons, List.length_nil, Int.toNat_natCast] at h1 h2
          omega
        clear hx hxi
        go_wp2_with fail
        refine (wl_calls HR.out.2.1 [32] (by have := HLJ.out; simp only [List.length_append, List.length_cons, List.length_nil]; omega) (Nat.le_trans HBW.out HR.out.2.2.1.size)).mono ?_
        rintro e w3 ⟨⟨n3, rfl⟩, hi3, hb3, hn3⟩
        have ht3 := hn3.cells HR.out.2.2.2.2 (by have := HB.out.lt; omega) (by decide)
        have q0 := cell_of_heap ht3 0 rfl
        have q1 := cell_of_heap ht3 1 rfl
        have H3 := Lib.hid (And.intro hi3 (And.intro hb3 (And.intro hn3 ht3)))
        clear hi3 hb3 hn3 ht3
        dsimp only
        go_wp2_with fail
        refine (HIH.out y (by have := HX.out.2; omega) w3 _ (by have := HX.out.2; omega) (HKV.out.1.keep (Keeps.of (HR.out.2.2.1.trans H3.out.2.1) HKV.out.2.2.1)) (Nat.le_trans HBW.out (HR.out.2.2.1.trans H3.out.2.1).size) H3.out.1 (by have := HLJ.out; simp only [List.length_append, List.length_cons, List.length_nil]; omega)).mono ?_
        rintro e w4 ⟨rfl, hi4, hb4, hn4⟩
        have ht4 := hn4.cells H3.out.2.2.2 (by have := HB.out.lt; omega) (by decide)
        have H4 := Lib.hid (And.intro hi4 (And.intro hb4 (And.intro hn4 ht4)))
        clear hi4 hb4 hn4 ht4 q0 q1 hcell
        dsimp only
        go_wp2_with fail
        refine Handed.intro (n.kids.length - (j + 1)) ?_ ?_
        · have := HR.out.1; omega
        go_step
        repeat apply Exists.intro
        refine ⟨?_, rfl⟩
        refine ⟨j + 1, by go_num, rfl, by omega, ?_, (HR.out.2.2.1.trans H3.out.2.1).trans H4.out.2.1, (HR.out.2.2.2.1.trans H3.out.2.2.1).trans H4.out.2.2.1, H4.out.2.2.2⟩
        have := H4.out.1
        rw [Tr.dumpTo_succ t HX.out.1]
        simpa using this
      · obtain rfl : j = n.kids.length := by omega
        go_wp2_with fail
        refine (wl_calls HR.out.2.1 [41] (by have := HL.out; simp only [List.length_append] at this ⊢; omega) (Nat.le_trans HBW.out HR.out.2.2.1.size)).mono ?_
        rintro e w3 ⟨⟨n3, rfl⟩, hi3, hb3, hn3⟩
        have H3 := Lib.hid (And.intro hi3 (And.intro hb3 hn3))
        clear hi3 hb3 hn3
        dsimp only
        go_wp2_with fail
        refine bodyPost_ret (results_none rfl _ _ _) rfl ?_
        exact ⟨rfl, by simpa using H3.out.1, HR.out.2.2.1.trans H3.out.2.1, HR.out.2.2.2.1.trans H3.out.2.2⟩
end Go.Proofs.YtfoelgkkoopheaaDoor
