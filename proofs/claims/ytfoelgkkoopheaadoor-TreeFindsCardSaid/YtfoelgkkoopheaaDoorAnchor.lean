/- The laws' anchor: the document's example. -/
import Derived.Test.YtfoelgkkoopheaaDoorDump2
namespace Go.Proofs.YtfoelgkkoopheaaDoor
open Go.RowKit

/-- A token as trees have it. -/
def toTk (t : Lx.Tok) : Tr.Tk := ⟨t.kind, t.lead, t.text, t.pos⟩
theorem toks_cells (l : List Lx.Tok) : toksCells l = tksCells (l.map toTk) := by
  simp only [toksCells, tksCells, List.flatMap_map]
  rfl
theorem Grew.low {w w' : World} {B b : Nat} {vt vn vn' : Value} {t : Tr.T} {used : Nat} (h : Grew w w' b vn vn') (hb : BuildI w B b vt vn t used) : Below B w w' := by
  refine ⟨h.1.os, h.1.tape, h.1.output, h.1.size, fun k hk => h.1.block k ?_ ?_⟩
  · have := hb.base; have := lt_heap hb.cell; omega
  · rintro (e | e)
    · have := hb.base; omega
    · obtain ⟨kvs, _, h2, _⟩ := hb.nodes
      have := (h2.lt k e).1
      omega
theorem rds_new (w : World) (l : List Int) {r : Nat} (hr : r = w.heap.size) : RdS (w.alloc (.cells (intCells l).toArray 3)) (fun k => k = w.heap.size) 1 (.slice (some ⟨r, 0, none⟩) l.length l.length) l.length (intCells l) := by
  subst hr
  refine ⟨by simp [intCells], _, _, rfl, Nat.le_refl _, Or.inr ⟨_, _, rfl, Or.inr rfl, ?_⟩⟩
  intro j v hj
  rw [Nat.zero_add]
  exact cell_of_heap (new_at _ _ _ rfl) j (by simpa using hj)
theorem BuildI.alloc {w : World} {B b : Nat} {vt vn : Value} {t : Tr.T} {used : Nat} (h : BuildI w B b vt vn t used) (o : Obj) : BuildI (w.alloc o) B b vt vn t used :=
  h.keep (by rw [← size_alloc1]; omega) fun k hk _ => Below.heap_alloc _ _ _ hk

def anchorT : Tr.T := ⟨[⟨1, [], [120], 0⟩, ⟨5, [], [], 1⟩], [⟨19, 0, []⟩, ⟨14, -1, [0]⟩, ⟨19, 1, []⟩, ⟨18, -1, [1, 2]⟩]⟩
theorem anchor_lex : Lx.lex [120] = ([⟨1, [], [120], 0⟩, ⟨5, [], [], 1⟩], 0, 0) := by rfl
theorem anchor_right : Tr.right anchorT = true := by rfl
theorem anchor_check : Tr.check anchorT 3 = 0 := by rfl
theorem anchor_dump : DumpOut anchorT 3 = [40, 49, 56, 32, 40, 49, 52, 32, 120, 41, 32, 36, 41] := by
  unfold DumpOut
  rw [anchor_check, if_pos rfl]
  simp [Tr.dump, Tr.dp, anchorT, Lib.decDigits_two]
theorem anchor_whole : wholeOf anchorT.toks = [120] := rfl

/-- All stands but block b and rows of one type. -/
structure NBt (T : TypeId) (b : Nat) (w w' : World) : Prop where
  os : w'.os = w.os
  tape : w'.tape = w.tape
  output : w'.output = w.output
  size : w.heap.size ≤ w'.heap.size
  block : ∀ (k : Nat) (o : Obj), w.heap[k]? = some o → k ≠ b → (∀ cs fr, o ≠ .cells cs T fr) → w'.heap[k]? = some o
theorem NBt.cells {T0 : TypeId} {b k : Nat} {x y : World} (h : NBt T0 b x y) {cs : Array Value} {T : TypeId} {fr : Nat × Nat} (hk : x.heap[k]? = some (.cells cs T fr)) (hne : k ≠ b) (hT : T ≠ T0) : y.heap[k]? = some (.cells cs T fr) :=
  h.block k _ hk hne fun cs2 fr2 e => by injection e with _ e2 _; exact hT e2
theorem NBt.of {T : TypeId} {b : Nat} {x y : World} (h : Below x.heap.size x y) : NBt T b x y :=
  ⟨h.os, h.tape, h.output, h.size, fun i _ hi _ _ => (h.block i (lt_heap hi)).trans hi⟩
theorem NBt.trans {T : TypeId} {b : Nat} {x y z : World} (h : NBt T b x y) (k : NBt T b y z) : NBt T b x z :=
  ⟨k.os.trans h.os, k.tape.trans h.tape, k.output.trans h.output, Nat.le_trans h.size k.size, fun i o hi hb hn => k.block i o (h.block i o hi hb hn) hb hn⟩
theorem Grew.nbt {w w' : World} {B b : Nat} {vt vn vn' : Value} {t : Tr.T} {used : Nat} (h : Grew w w' b vn vn') (hb : BuildI w B b vt vn t used) : NBt 38 b w w' := by
  refine ⟨h.1.os, h.1.tape, h.1.output, h.1.size, fun k o hk hne hn => ?_⟩
  rw [h.1.block k (lt_heap hk) ?_]
  · exact hk
  · rintro (e | e)
    · exact hne e
    · obtain ⟨kvs, _, h2, _⟩ := hb.nodes
      rcases h2.2 with ⟨rfl, _⟩ | ⟨g, cap, cur, rfl, _, hg, _⟩
      · cases e
      · injection e with e
        subst e
        rw [hg] at hk
        injection hk with hk
        exact hn _ _ hk.symm

/-- A builder at block b, made since w. -/
def Anc (w W : World) (b : Nat) (t : Tr.T) (used : Nat) : Prop := ∃ B vt vn, w.heap.size ≤ B ∧ BuildI W B b vt vn t used ∧ Below w.heap.size w W
theorem anc_after {w V w2 : World} {cs cs2 : Array Value} {T T2 : TypeId} (hV : Below w.heap.size w V) (ht : V.heap[w.heap.size]? = some (.cells cs T (0, 0))) (hb : Below (V.alloc (.cells cs2 T2)).drew.heap.size (V.alloc (.cells cs2 T2)).drew w2) :
    Below w.heap.size w w2 ∧ w2.heap[w.heap.size]? = some (.cells cs T (0, 0)) := rt_after hV ht hb
theorem anc_box {w w' : World} {k : Nat} {o : Obj} (h : w.heap[k]? = some o) (hb : Below w.heap.size w w') : w'.heap[k]? = some o := (hb.block k (lt_heap h)).trans h
theorem Anc.alloc {w W : World} {b : Nat} {t : Tr.T} {used : Nat} (h : Anc w W b t used) (o : Obj) : Anc w (W.alloc o) b t used := by
  obtain ⟨B, vt, vn, h1, h2, h3⟩ := h
  exact ⟨B, vt, vn, h1, h2.alloc o, h3.alloc h3.size _⟩
theorem Anc.below {w W : World} {b : Nat} {t : Tr.T} {used : Nat} (h : Anc w W b t used) : Below w.heap.size w W := by
  obtain ⟨B, vt, vn, h1, h2, h3⟩ := h
  exact h3
theorem Anc.lt {w W : World} {b : Nat} {t : Tr.T} {used : Nat} (h : Anc w W b t used) : w.heap.size ≤ b ∧ b < W.heap.size := by
  obtain ⟨B, vt, vn, h1, h2, h3⟩ := h
  exact ⟨Nat.le_trans h1 h2.base, lt_heap h2.cell⟩
/-- What is turned below the builder's base is no concern of its. -/
theorem Anc.past {w W W' : World} {b : Nat} {t : Tr.T} {used : Nat} (h : Anc w W b t used) (hb : Below W.heap.size W W') : Anc w W' b t used := by
  obtain ⟨B, vt, vn, h1, h2, h3⟩ := h
  exact ⟨B, vt, vn, h1, h2.keep hb.size fun k hk _ => hb.block k hk, h3.trans (hb.mono h3.size)⟩
theorem anc_new {w W : World} {P : Nat → Prop} {v : Value} {l : List Tr.Tk} (h : RdS W P 4 v l.length (tksCells l)) (hn : l.length ≤ 1073741824) (hw : Below w.heap.size w W) :
    Calls Tryd.prog 9 #[v] W fun e w' => ∃ b, e = .returned (.pointer (some ⟨b, 0, none⟩)) ∧ Anc w w' b ⟨l, []⟩ 0 ∧ W.heap.size ≤ b ∧ Below W.heap.size W w' := by
  refine (newBuilder_calls h hn).mono ?_
  rintro e w' ⟨b, vt, rfl, h1, h2⟩
  exact ⟨b, rfl, ⟨W.heap.size, vt, _, hw.size, h1, hw.trans (h2.mono hw.size)⟩, h1.base, h2⟩
theorem anc_leaf {w W : World} {b : Nat} {t : Tr.T} {used : Nat} (h : Anc w W b t used) (hn : t.nodes.length ≤ 1073741823) (ht : t.toks.length ≤ 1073741824) (hu : used < t.toks.length) :
    Calls Tryd.prog 11 #[.pointer (some ⟨b, 0, none⟩)] W fun e w' => e = .returned (.int .i64 t.nodes.length) ∧ Anc w w' b ⟨t.toks, t.nodes ++ [⟨19, used, []⟩]⟩ (used + 1) ∧ NBt 38 b W w' := by
  obtain ⟨B, vt, vn, h1, h2, h3⟩ := h
  refine (leaf_calls h2 hn ht (by omega)).mono ?_
  intro e w' hs
  unfold LeafSays at hs
  rw [if_neg (by omega)] at hs
  obtain ⟨vn', rfl, q1, q2⟩ := hs
  exact ⟨rfl, ⟨B, vt, vn', h1, q1, h3.trans ((q2.low h2).mono h1)⟩, q2.nbt h2⟩
theorem anc_leaf_end {w W : World} {b : Nat} {t : Tr.T} (h : Anc w W b t t.toks.length) (hn : t.nodes.length ≤ 1073741823) (ht : t.toks.length ≤ 1073741824) :
    Calls Tryd.prog 11 #[.pointer (some ⟨b, 0, none⟩)] W fun e w' => e = .returned (.int .i64 (-1)) ∧ Anc w w' b t t.toks.length ∧ NBt 38 b W w' := by
  obtain ⟨B, vt, vn, h1, h2, h3⟩ := h
  refine (leaf_calls h2 hn ht (Nat.le_refl _)).mono ?_
  intro e w' hs
  unfold LeafSays at hs
  rw [if_pos rfl] at hs
  obtain ⟨rfl, q1, q2⟩ := hs
  exact ⟨rfl, ⟨B, vt, vn, h1, q1, h3.trans ((q2.low h2).mono h1)⟩, q2.nbt h2⟩
theorem anc_node {w W : World} {b : Nat} {t : Tr.T} {used : Nat} (h : Anc w W b t used) (hn : t.nodes.length ≤ 1073741823) {P : Nat → Prop} {v : Value} {l : List Int} (hk : RdS W P 1 v l.length (intCells l)) (hP : ∀ k, P k → k < W.heap.size) (hl : l.length ≤ 1073741824) (kind : Int) (hok : l.any (badKid t.nodes.length) = false) :
    Calls Tryd.prog 12 #[.pointer (some ⟨b, 0, none⟩), .int .i64 kind, v] W fun e w' => e = .returned (.int .i64 t.nodes.length) ∧ Anc w w' b ⟨t.toks, t.nodes ++ [⟨kind, -1, l⟩]⟩ used ∧ NBt 38 b W w' := by
  obtain ⟨B, vt, vn, h1, h2, h3⟩ := h
  refine (node_calls h2 hn hk hP hl kind).mono ?_
  intro e w' hs
  unfold NodeSays at hs
  rw [if_neg (by simp [hok])] at hs
  obtain ⟨vn', rfl, q1, q2⟩ := hs
  exact ⟨rfl, ⟨B, vt, vn', h1, q1, h3.trans ((q2.low h2).mono h1)⟩, q2.nbt h2⟩
theorem anc_node_bad {w W : World} {b : Nat} {t : Tr.T} {used : Nat} (h : Anc w W b t used) (hn : t.nodes.length ≤ 1073741823) {P : Nat → Prop} {v : Value} {l : List Int} (hk : RdS W P 1 v l.length (intCells l)) (hP : ∀ k, P k → k < W.heap.size) (hl : l.length ≤ 1073741824) (kind : Int) (hok : l.any (badKid t.nodes.length) = true) :
    Calls Tryd.prog 12 #[.pointer (some ⟨b, 0, none⟩), .int .i64 kind, v] W fun e w' => e = .returned (.int .i64 (-1)) ∧ Anc w w' b t used ∧ NBt 38 b W w' := by
  obtain ⟨B, vt, vn, h1, h2, h3⟩ := h
  refine (node_calls h2 hn hk hP hl kind).mono ?_
  intro e w' hs
  unfold NodeSays at hs
  rw [if_pos hok] at hs
  obtain ⟨rfl, q1, q2⟩ := hs
  exact ⟨rfl, ⟨B, vt, vn, h1, q1, h3.trans ((q2.low h2).mono h1)⟩, q2.nbt h2⟩
theorem anc_done {w W : World} {b : Nat} {t : Tr.T} {used : Nat} (h : Anc w W b t used) (hn : t.nodes.length ≤ 1073741823) (ht : t.toks.length ≤ 1073741824) (hkids : ∀ n ∈ t.nodes, n.kids.length ≤ 1073741824) :
    Calls Tryd.prog 13 #[.pointer (some ⟨b, 0, none⟩)] W fun e w' => ∃ vt' vn', e = .returned (.agg #[vt', vn']) ∧ RdT w' (fun k => W.heap.size ≤ k ∧ k < w'.heap.size) vt' vn' t ∧ Below W.heap.size W w' := by
  obtain ⟨B, vt, vn, h1, h2, h3⟩ := h
  exact done_calls h2 hn ht hkids

def anchorToks : List Tr.Tk := [⟨1, [], [120], 0⟩, ⟨5, [], [], 1⟩]

set_option maxRecDepth 100000 in
set_option maxHeartbeats 2000000 in
theorem anchor_calls (w : World) : Calls Tryd.prog 7 #[] w fun e w' => e = .returned (.bool true) ∧ Below w.heap.size w w' := by
  go_enter Tryd.func7, Tryd.ntmps7
  go_wp2_with fail
  rw [show (⟨#[120]⟩ : ByteArray) = ⟨[120].toArray⟩ from rfl]
  refine (lex_calls [120] (by decide) w).mono ?_
  rintro e w1 ⟨v, rfl, ho1, hb1⟩
  rw [anchor_lex] at ho1 ⊢
  rw [toks_cells] at ho1
  obtain ⟨a1, c1, rfl⟩ := ownsRow_form ho1
  have HO1 : Hid (RdS w1 (fun k => k < w1.heap.size) 4 (.slice a1 2 c1) anchorToks.length (tksCells anchorToks)) := (RdS.own ho1).imp fun k hk => hk.2.2
  have HB1 := Lib.hid hb1
  clear ho1 hb1
  dsimp only
  go_wp2_with fail
  have hf1 : Below w1.heap.size w1 (w1.alloc (.cells #[.int .i64 0, .int .i64 0] 27)) := (Below.refl _ _).alloc (Nat.le_refl _) _
  refine (anc_new (HO1.out.keep (Keeps.of hf1 fun k hk => hk)) (by decide) (HB1.out.trans (hf1.mono HB1.out.size))).mono ?_
  rintro e w2 ⟨b, rfl, hA2, _, _⟩
  have HA2 := Lib.hid hA2
  clear hf1 hA2
  dsimp only
  go_wp2_with fail
  refine (anc_leaf HA2.out (by decide) (by decide) (by decide)).mono ?_
  rintro e w3 ⟨rfl, hA3, _⟩
  have HA3 := Lib.hid (hA3.alloc (.cells #[.int .i64 0] 3))
  clear hA3
  dsimp only
  go_wp2_with fail
  refine (anc_node HA3.out (by decide) (l := [0]) (rds_new w3 [0] rfl) (fun k hk => by rw [← size_alloc1]; omega) (by decide) 14 (by decide)).mono ?_
  rintro e w4 ⟨rfl, hA4, _⟩
  have HA4 := Lib.hid hA4
  clear hA4
  dsimp only
  go_wp2_with fail
  refine (anc_leaf HA4.out (by decide) (by decide) (by decide)).mono ?_
  rintro e w5 ⟨rfl, hA5, _⟩
  have HA5 := Lib.hid (hA5.alloc (.cells #[.int .i64 1, .int .i64 2] 3))
  clear hA5
  dsimp only
  go_wp2_with fail
  refine (anc_node HA5.out (by decide) (l := [1, 2]) (rds_new w5 [1, 2] rfl) (fun k hk => by rw [← size_alloc1]; omega) (by decide) 18 (by decide)).mono ?_
  rintro e w6 ⟨rfl, hA6, _⟩
  have HA6 := Lib.hid hA6
  clear hA6
  dsimp only
  go_wp2_with fail
  refine (anc_done HA6.out (by decide) (by decide) (by decide)).mono ?_
  rintro e w7 ⟨vt, vn, rfl, hT7, hb7⟩
  obtain ⟨at_, ct, rfl⟩ : ∃ a c, vt = .slice a 2 c := hT7.1.form
  obtain ⟨an, cn, rfl⟩ : ∃ a c, vn = .slice a 4 c := by
    obtain ⟨kvs, _, h2, _⟩ := hT7.2
    exact h2.form
  have HT7 : Hid (RdT w7 (fun k => w6.heap.size ≤ k ∧ k < w7.heap.size) (.slice at_ 2 ct) (.slice an 4 cn) anchorT) := hT7
  have HB7 : Hid (Below w.heap.size w w7) := HA6.out.below.trans (hb7.mono HA6.out.below.size)
  clear hT7 hb7
  dsimp only
  go_wp2_with fail
  have hv1 : Below w7.heap.size w7 (w7.alloc (.cells #[.slice at_ 2 ct, .slice an 4 cn] 41)) := (Below.refl _ _).alloc (Nat.le_refl _) _
  have hvt : (w7.alloc (.cells #[.slice at_ 2 ct, .slice an 4 cn] 41)).heap[w7.heap.size]? = some (.cells #[.slice at_ 2 ct, .slice an 4 cn] 41 (0, 0)) := new_at _ _ _ rfl
  generalize w7.alloc (.cells #[.slice at_ 2 ct, .slice an 4 cn] 41) = V at *
  have HRt : Hid (∀ W : World, Calls Tryd.prog 18 #[.agg #[.slice at_ 2 ct, .slice an 4 cn]] W fun e w' => e = .returned (.int .i64 3) ∧ W.alloc (.cells #[.slice at_ 2 ct, .slice an 4 cn] 41) = w') := fun W => root_succ W _ _ 3 _ (by decide)
  have HD : Hid (∀ W : World, Below w7.heap.size w7 W → Calls Tryd.prog 21 #[.agg #[.slice at_ 2 ct, .slice an 4 cn], .int .i64 3] W fun e w' => e = .returned (.tuple #[.string ⟨#[40, 49, 56, 32, 40, 49, 52, 32, 120, 41, 32, 36, 41]⟩, .int .i64 0]) ∧ Below W.heap.size W w') := by
    intro W hW
    have h := dump2_calls (HT7.out.keep (Keeps.of hW fun k hk => hk.2)) (fun k hk => Nat.lt_of_lt_of_le hk.2 hW.size) (by decide) (by decide) (by decide) 3 (by rw [anchor_dump]; decide)
    rw [anchor_dump, anchor_check] at h
    exact h
  have HRi : Hid (∀ W : World, Below w7.heap.size w7 W → Calls Tryd.prog 19 #[.agg #[.slice at_ 2 ct, .slice an 4 cn]] W fun e w' => e = .returned (.bool true) ∧ Below W.heap.size W w') := by
    intro W hW
    have h := right_calls (HT7.out.keep (Keeps.of hW fun k hk => hk.2)) (fun k hk => Nat.lt_of_lt_of_le hk.2 hW.size) (by decide) (by decide) (by decide)
    rw [anchor_right] at h
    exact h
  have HSh : Hid (∀ W : World, Below w7.heap.size w7 W → Calls Tryd.prog 14 #[.agg #[.slice at_ 2 ct, .slice an 4 cn]] W fun e w' => e = .returned (.string ⟨#[120]⟩) ∧ Below W.heap.size W w') := by
    intro W hW
    have h := show_calls (vn := .slice an 4 cn) (HT7.out.1.keep (Keeps.of hW fun k hk => hk.2)) (fun k hk => Nat.lt_of_lt_of_le hk.2 hW.size) (by decide) (by decide)
    rw [anchor_whole] at h
    exact h
  have t0 := cell_of_heap hvt 0 rfl
  have t1 := cell_of_heap hvt 1 rfl
  have l0 := cell_lt t0
  have HV := Lib.hid (And.intro hv1 hvt)
  clear hv1 hvt
  go_region_held3 (fun w' => w'.cell? ⟨w7.heap.size, 0, none⟩ = some (.slice at_ 2 ct) ∧ w'.cell? ⟨w7.heap.size, 1, none⟩ = some (.slice an 4 cn)) (first | exact ⟨t0, t1⟩ | exact ⟨e20, e21⟩ | go_keep)
    ((first
      | (go_at_call 18; refine (HRt.out _).mono ?_; rintro e w2 ⟨rfl, rfl⟩)
      | (go_at_call 21; refine (HD.out _ (HV.out.1.alloc HV.out.1.size _).drew).mono ?_; rintro e w8 ⟨rfl, hb8⟩; have hb9 := anc_after HV.out.1 HV.out.2 hb8; have e20 := cell_of_heap hb9.2 0 rfl; have e21 := cell_of_heap hb9.2 1 rfl; have HB9 := Lib.hid hb9; clear hb8 hb9)))
  clear t0 t1 l0
  go_wp2_with fail
  refine (HRi.out _ HB9.out.1).mono ?_
  rintro e w9 ⟨rfl, hb9⟩
  have hbx := anc_box HB9.out.2 hb9
  have e30 := cell_of_heap hbx 0 rfl
  have e31 := cell_of_heap hbx 1 rfl
  have HB10 := Lib.hid (And.intro hb9 hbx)
  clear hb9 hbx e20 e21
  dsimp only
  go_wp2_with fail
  refine (HSh.out _ (HB9.out.1.trans (HB10.out.1.mono HB9.out.1.size))).mono ?_
  rintro e w10 ⟨rfl, hb10⟩
  have HB11 := Lib.hid hb10
  clear hb10
  dsimp only
  go_wp2_with fail
  go_ret
  exact ⟨by simp, HB7.out.trans ((HB9.out.1.trans ((HB10.out.1.trans (HB11.out.mono HB10.out.1.size)).mono HB9.out.1.size)).mono HB7.out.size)⟩
end Go.Proofs.YtfoelgkkoopheaaDoor
