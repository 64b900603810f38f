/- Contracts and plain laws, in one text. tree.Dump. | A builder in memory, and its steps. | Layer 7 (parse) as plain functions: what the program's parser does. No program in sight. | The parser in memory. | slices.Index, slices.Contains at []string. | parse: ok, fail, next, must, kind, node, deep: the walks. | Layer 7 (parse) as plain functions: what the document's parser does. No program in sight. | Plain: forests of nodes that a parser has made, and how they grow. No program in sight. | Plain: the program's parser and the document's, step by step side by side. No program in sight. | Plain: the two parsers, level by level. No progra -/
import Derived.Test.YtpkhdlnlkeehhaaGreatDoorPdpM2
import Derived.Test.YtpkhdlnlkeehhaaGreatDoorPdpM1
import Derived.WalkKit
import Derived.WalkSpells
import Derived.Deep.LoopGhost
import Derived.Lib.Hide
/- tree.Dump. -/
namespace Go.Proofs.YtpkhdlnlkeehhaaGreatDoor
open Go.RowKit

theorem check_zero {t : Tr.T} {n : Int} (h : Tr.check t n = 0) : Tr.right t = true ∧ 0 ≤ n ∧ n < (t.nodes.length : Int) := by
  unfold Tr.check at h
  split at h
  · omega
  · rename_i h1
    split at h
    · omega
    · exact ⟨by simpa using h1, by omega, by omega⟩
theorem right_formed {t : Tr.T} (h : Tr.right t = true) : Tr.FormedTo t t.nodes.length := by
  cases hg : Tr.rightGo t 0 t.nodes (List.replicate t.nodes.length false) with
  | none => rw [Tr.right_none hg] at h; cases h
  | some kid => exact Tr.rightGo_formed hg (by simp) (fun j n hj => absurd hj (by omega))

def DumpOut (t : Tr.T) (n : Int) : List UInt8 := if Tr.check t n = 0 then Tr.dump t n.toNat else []

set_option maxRecDepth 100000 in
set_option maxHeartbeats 1000000 in
theorem dump2_calls {w : World} {P : Nat → Prop} {vt vn : Value} {t : Tr.T} (h : RdT w P vt vn t) (hP : ∀ k, P k → k < w.heap.size) (hn : t.nodes.length ≤ 1073741823) (ht : t.toks.length ≤ 1073741823) (hkids : ∀ n ∈ t.nodes, n.kids.length ≤ 1073741823) (n : Int)
    (hl : (DumpOut t n).length ≤ 1073741824) :
    Calls Tryz.prog 12 #[.agg #[vt, vn], .int .i64 n] w fun e w' => e = .returned (.tuple #[.string ⟨(DumpOut t n).toArray⟩, .int .i64 (Tr.check t n)]) ∧ Below w.heap.size w w' := by
  have hb1 : Below w.heap.size w (w.alloc (.cells #[vt, vn] 26)) := (Below.refl _ _).alloc (Nat.le_refl _) _
  have HC := Lib.hid (check_node_calls (h.keep (Keeps.of hb1 hP)) (fun k hk => Nat.lt_of_lt_of_le (hP k hk) hb1.size) hn (by omega) hkids n)
  obtain ⟨at_, ct, rfl⟩ := h.1.form
  obtain ⟨an, cn, rfl⟩ : ∃ a c, vn = .slice a t.nodes.length c := by
    obtain ⟨kvs, _, h2, _⟩ := h.2
    exact h2.form
  have HB := Lib.hid hb1
  have HH := Lib.hid (And.intro h (And.intro hP (And.intro hn (And.intro ht hkids))))
  unfold DumpOut at hl ⊢
  clear h hP hb1 hn ht hkids
  by_cases hc : Tr.check t n = 0
  · rw [if_pos hc] at hl ⊢
    rw [hc] at HC ⊢
    obtain ⟨hr, h0, h1⟩ := check_zero hc
    obtain ⟨i, rfl⟩ : ∃ i : Nat, n = i := ⟨n.toNat, by omega⟩
    rw [Int.toNat_natCast] at hl ⊢
    have HR := Lib.hid (And.intro hr (And.intro h1 hl))
    clear hc hr h0 h1 hl
    go_enter Tryz.func12, Tryz.ntmps12
    go_wp2_with fail
    refine HC.out.mono ?_
    rintro e w2 ⟨rfl, hb2⟩
    have hbx := chk_box hb2
    have c0 := cell_of_heap hbx 0 rfl
    have c1 := cell_of_heap hbx 1 rfl
    have l0 := cell_lt c0
    have hw2 : Below w.heap.size w w2 := HB.out.trans (hb2.mono HB.out.size)
    have HW := Lib.hid (And.intro hw2 hbx)
    clear hb2 hbx hw2
    dsimp only
    go_wp2_with fail
    clear c0 c1 l0
    have hwv : Below w2.heap.size w2 (w2.alloc (.cells #[.pointer none, .slice none 0 0] 59)) := (Below.refl _ _).alloc (Nat.le_refl _) _
    have hbu : IsB (w2.alloc (.cells #[.pointer none, .slice none 0 0] 59)) w2.heap.size w2.heap.size [] := Or.inl ⟨Nat.le_refl _, _, heap_alloc_new _ _, World.ownsRow_nil _ _ _ _, by simp [Value.ownBlock]⟩
    obtain ⟨h, hP, hn, ht, hkids⟩ := HH.out
    have hw0 : Below w.heap.size w (w2.alloc (.cells #[.pointer none, .slice none 0 0] 59)) := HW.out.1.trans (hwv.mono HW.out.1.size)
    refine (dump_calls (B := w2.heap.size) (b := w2.heap.size) (fun k hk => Nat.lt_of_lt_of_le (hP k hk) HW.out.1.size) (right_formed HR.out.1) hn ht hkids i _ [] (by have := HR.out.2.1; omega) (h.keep (Keeps.of hw0 hP)) hwv.size hbu (by simpa using HR.out.2.2)).mono ?_
    rintro e w3 ⟨rfl, hi3, hb3, hn3⟩
    have H3 := Lib.hid (And.intro hi3 (And.intro hb3 (And.intro hw0 hwv)))
    clear h hP hn ht hkids hw0 hwv hbu hi3 hb3 hn3
    dsimp only
    go_wp2_with fail
    refine (Tryz.Builder_String_any w2.heap.size w2.heap.size (Tr.dump t i) _ (by have := H3.out.1; rwa [List.nil_append] at this) (Nat.le_trans H3.out.2.2.2.size H3.out.2.1.size)).mono ?_
    rintro e w4 ⟨rfl, hb4⟩
    have H4 := Lib.hid hb4
    clear hb4
    dsimp only
    go_wp2_with fail
    go_ret2
    exact ⟨rfl, H3.out.2.2.1.trans ((H3.out.2.1.trans H4.out).mono HW.out.1.size)⟩
  · rw [if_neg hc]
    have hc' : (Tr.check t n != 0) = true := by simp [hc]
    generalize Tr.check t n = c at *
    clear hl hc
    go_enter Tryz.func12, Tryz.ntmps12
    go_wp2_with fail
    refine HC.out.mono ?_
    rintro e w2 ⟨rfl, hb2⟩
    have HB2 := Lib.hid hb2
    clear hb2
    dsimp only
    go_wp2_with fail
    go_ret2
    exact ⟨rfl, HB.out.trans (HB2.out.mono HB.out.size)⟩
end Go.Proofs.YtpkhdlnlkeehhaaGreatDoor
/- A builder in memory, and its steps. -/
namespace Go.Proofs.YtpkhdlnlkeehhaaGreatDoor
open Go.RowKit

section
variable {Q : Nat → Prop}

/-- A token as trees have it. -/
def toTk (t : Lx.Tok) : Tr.Tk := ⟨t.kind, t.lead, t.text, t.pos⟩
theorem toks_cells (l : List Lx.Tok) : toksCells l = tksCells (l.map toTk) := by
  simp only [toksCells, tksCells, List.flatMap_map]
  rfl
theorem Grew.low {w w' : World} {B b : Nat} {vt vn vn' : Value} {t : Tr.T} {used : Nat} (h : Grew w w' b vn vn') (hb : BuildI Q w B b vt vn t used) : Below B w w' := by
  refine ⟨h.1.os, h.1.tape, h.1.output, h.1.size, fun k hk => h.1.block k ?_ ?_⟩
  · have := hb.base; have := lt_heap hb.cell; omega
  · rintro (e | e)
    · have := hb.base; omega
    · obtain ⟨kvs, _, h2, _⟩ := hb.nodes
      have := (h2.lt k e).1
      omega
theorem rds_new (w : World) (l : List Int) {r : Nat} (hr : r = w.heap.size) : RdS (w.alloc (.cells (intCells l).toArray 3)) (fun k => k = w.heap.size) 1 (.slice (some ⟨r, 0, none⟩) l.length l.length) l.length (intCells l) := by
  subst hr
  refine ⟨by simp [intCells], _, _, rfl, Nat.le_refl _, Or.inr ⟨_, _, rfl, Or.inr rfl, ?_⟩⟩
  intro j v hj
  rw [Nat.zero_add]
  exact cell_of_heap (new_at _ _ _ rfl) j (by simpa using hj)
theorem BuildI.alloc {w : World} {B b : Nat} {vt vn : Value} {t : Tr.T} {used : Nat} (h : BuildI Q w B b vt vn t used) (o : Obj) : BuildI Q (w.alloc o) B b vt vn t used :=
  h.keep (by rw [← size_alloc1]; omega) fun k hk _ => Below.heap_alloc _ _ _ hk

def anchorT : Tr.T := ⟨[⟨1, [], [120], 0⟩, ⟨5, [], [], 1⟩], [⟨19, 0, []⟩, ⟨14, -1, [0]⟩, ⟨19, 1, []⟩, ⟨18, -1, [1, 2]⟩]⟩
theorem anchor_lex : Lx.lex [120] = ([⟨1, [], [120], 0⟩, ⟨5, [], [], 1⟩], 0, 0) := by rfl
theorem anchor_right : Tr.right anchorT = true := by rfl
theorem anchor_check : Tr.check anchorT 3 = 0 := by rfl
theorem anchor_dump : DumpOut anchorT 3 = [40, 49, 56, 32, 40, 49, 52, 32, 120, 41, 32, 36, 41] := by
  unfold DumpOut
  rw [anchor_check, if_pos rfl]
  simp [Tr.dump, Tr.dp, anchorT, Lib.decDigits_two]
theorem anchor_whole : wholeOf anchorT.toks = [120] := rfl

/-- All stands but block b and rows of one type. -/
structure NBt (T : TypeId) (b : Nat) (w w' : World) : Prop where
  os : w'.os = w.os
  tape : w'.tape = w.tape
  output : w'.output = w.output
  size : w.heap.size ≤ w'.heap.size
  block : ∀ (k : Nat) (o : Obj), w.heap[k]? = some o → k ≠ b → (∀ cs fr, o ≠ .cells cs T fr) → w'.heap[k]? = some o
theorem NBt.cells {T0 : TypeId} {b k : Nat} {x y : World} (h : NBt T0 b x y) {cs : Array Value} {T : TypeId} {fr : Nat × Nat} (hk : x.heap[k]? = some (.cells cs T fr)) (hne : k ≠ b) (hT : T ≠ T0) : y.heap[k]? = some (.cells cs T fr) :=
  h.block k _ hk hne fun cs2 fr2 e => by injection e with _ e2 _; exact hT e2
theorem NBt.of {T : TypeId} {b : Nat} {x y : World} (h : Below x.heap.size x y) : NBt T b x y :=
  ⟨h.os, h.tape, h.output, h.size, fun i _ hi _ _ => (h.block i (lt_heap hi)).trans hi⟩
theorem NBt.trans {T : TypeId} {b : Nat} {x y z : World} (h : NBt T b x y) (k : NBt T b y z) : NBt T b x z :=
  ⟨k.os.trans h.os, k.tape.trans h.tape, k.output.trans h.output, Nat.le_trans h.size k.size, fun i o hi hb hn => k.block i o (h.block i o hi hb hn) hb hn⟩
theorem Grew.nbt {w w' : World} {B b : Nat} {vt vn vn' : Value} {t : Tr.T} {used : Nat} (h : Grew w w' b vn vn') (hb : BuildI Q w B b vt vn t used) : NBt 43 b w w' := by
  refine ⟨h.1.os, h.1.tape, h.1.output, h.1.size, fun k o hk hne hn => ?_⟩
  rw [h.1.block k (lt_heap hk) ?_]
  · exact hk
  · rintro (e | e)
    · exact hne e
    · obtain ⟨kvs, _, h2, _⟩ := hb.nodes
      rcases h2.2 with ⟨rfl, _⟩ | ⟨g, cap, cur, rfl, _, hg, _⟩
      · cases e
      · injection e with e
        subst e
        rw [hg] at hk
        injection hk with hk
        exact hn _ _ hk.symm

/-- A builder at block b, made since w. -/
def Anc (Q : Nat → Prop) (w W : World) (b : Nat) (t : Tr.T) (used : Nat) : Prop := ∃ B vt vn, w.heap.size ≤ B ∧ BuildI Q W B b vt vn t used ∧ Below w.heap.size w W
theorem anc_after {w V w2 : World} {cs cs2 : Array Value} {T T2 : TypeId} (hV : Below w.heap.size w V) (ht : V.heap[w.heap.size]? = some (.cells cs T (0, 0))) (hb : Below (V.alloc (.cells cs2 T2)).drew.heap.size (V.alloc (.cells cs2 T2)).drew w2) :
    Below w.heap.size w w2 ∧ w2.heap[w.heap.size]? = some (.cells cs T (0, 0)) := rt_after hV ht hb
theorem anc_box {w w' : World} {k : Nat} {o : Obj} (h : w.heap[k]? = some o) (hb : Below w.heap.size w w') : w'.heap[k]? = some o := (hb.block k (lt_heap h)).trans h
theorem Anc.alloc {w W : World} {b : Nat} {t : Tr.T} {used : Nat} (h : Anc Q w W b t used) (o : Obj) : Anc Q w (W.alloc o) b t used := by
  obtain ⟨B, vt, vn, h1, h2, h3⟩ := h
  exact ⟨B, vt, vn, h1, h2.alloc o, h3.alloc h3.size _⟩
theorem Anc.below {w W : World} {b : Nat} {t : Tr.T} {used : Nat} (h : Anc Q w W b t used) : Below w.heap.size w W := by
  obtain ⟨B, vt, vn, h1, h2, h3⟩ := h
  exact h3
theorem Anc.lt {w W : World} {b : Nat} {t : Tr.T} {used : Nat} (h : Anc Q w W b t used) : w.heap.size ≤ b ∧ b < W.heap.size := by
  obtain ⟨B, vt, vn, h1, h2, h3⟩ := h
  exact ⟨Nat.le_trans h1 h2.base, lt_heap h2.cell⟩
/-- What is turned below the builder's base is no concern of its. -/
theorem Anc.past {w W W' : World} {b : Nat} {t : Tr.T} {used : Nat} (h : Anc Q w W b t used) (hb : Below W.heap.size W W') : Anc Q w W' b t used := by
  obtain ⟨B, vt, vn, h1, h2, h3⟩ := h
  exact ⟨B, vt, vn, h1, h2.keep hb.size fun k hk _ => hb.block k hk, h3.trans (hb.mono h3.size)⟩
theorem anc_new (Q : Nat → Prop) {w W : World} {P : Nat → Prop} {v : Value} {l : List Tr.Tk} (h : RdS W P 4 v l.length (tksCells l)) (hn : l.length ≤ 1073741824) (hw : Below w.heap.size w W) :
    Calls Tryz.prog 32 #[v] W fun e w' => ∃ b, e = .returned (.pointer (some ⟨b, 0, none⟩)) ∧ Anc Q w w' b ⟨l, []⟩ 0 ∧ W.heap.size ≤ b ∧ Below W.heap.size W w' := by
  refine (newBuilder_calls Q h hn).mono ?_
  rintro e w' ⟨b, vt, rfl, h1, h2⟩
  exact ⟨b, rfl, ⟨W.heap.size, vt, _, hw.size, h1, hw.trans (h2.mono hw.size)⟩, h1.base, h2⟩
theorem anc_leaf {w W : World} {b : Nat} {t : Tr.T} {used : Nat} (h : Anc Q w W b t used) (hn : t.nodes.length ≤ 1073741823) (ht : t.toks.length ≤ 1073741824) (hu : used < t.toks.length) :
    Calls Tryz.prog 62 #[.pointer (some ⟨b, 0, none⟩)] W fun e w' => e = .returned (.int .i64 t.nodes.length) ∧ Anc Q w w' b ⟨t.toks, t.nodes ++ [⟨19, used, []⟩]⟩ (used + 1) ∧ NBt 43 b W w' := by
  obtain ⟨B, vt, vn, h1, h2, h3⟩ := h
  refine (leaf_calls h2 hn ht (by omega)).mono ?_
  intro e w' hs
  unfold LeafSays at hs
  rw [if_neg (by omega)] at hs
  obtain ⟨vn', rfl, q1, q2⟩ := hs
  exact ⟨rfl, ⟨B, vt, vn', h1, q1, h3.trans ((q2.low h2).mono h1)⟩, q2.nbt h2⟩
theorem anc_leaf_end {w W : World} {b : Nat} {t : Tr.T} (h : Anc Q w W b t t.toks.length) (hn : t.nodes.length ≤ 1073741823) (ht : t.toks.length ≤ 1073741824) :
    Calls Tryz.prog 62 #[.pointer (some ⟨b, 0, none⟩)] W fun e w' => e = .returned (.int .i64 (-1)) ∧ Anc Q w w' b t t.toks.length ∧ NBt 43 b W w' := by
  obtain ⟨B, vt, vn, h1, h2, h3⟩ := h
  refine (leaf_calls h2 hn ht (Nat.le_refl _)).mono ?_
  intro e w' hs
  unfold LeafSays at hs
  rw [if_pos rfl] at hs
  obtain ⟨rfl, q1, q2⟩ := hs
  exact ⟨rfl, ⟨B, vt, vn, h1, q1, h3.trans ((q2.low h2).mono h1)⟩, q2.nbt h2⟩
theorem anc_node {w W : World} {b : Nat} {t : Tr.T} {used : Nat} (h : Anc Q w W b t used) (hn : t.nodes.length ≤ 1073741823) {P : Nat → Prop} {v : Value} {l : List Int} (hk : RdS W P 1 v l.length (intCells l)) (hP : ∀ k, P k → k < W.heap.size) (hl : l.length ≤ 1073741824) (hQ : ∀ k, W.heap.size ≤ k → Q k) (kind : Int) (hok : l.any (badKid t.nodes.length) = false) :
    Calls Tryz.prog 67 #[.pointer (some ⟨b, 0, none⟩), .int .i64 kind, v] W fun e w' => e = .returned (.int .i64 t.nodes.length) ∧ Anc Q w w' b ⟨t.toks, t.nodes ++ [⟨kind, -1, l⟩]⟩ used ∧ NBt 43 b W w' := by
  obtain ⟨B, vt, vn, h1, h2, h3⟩ := h
  refine (node_calls h2 hn hk hP hl hQ kind).mono ?_
  intro e w' hs
  unfold NodeSays at hs
  rw [if_neg (by simp [hok])] at hs
  obtain ⟨vn', rfl, q1, q2⟩ := hs
  exact ⟨rfl, ⟨B, vt, vn', h1, q1, h3.trans ((q2.low h2).mono h1)⟩, q2.nbt h2⟩
theorem anc_node_bad {w W : World} {b : Nat} {t : Tr.T} {used : Nat} (h : Anc Q w W b t used) (hn : t.nodes.length ≤ 1073741823) {P : Nat → Prop} {v : Value} {l : List Int} (hk : RdS W P 1 v l.length (intCells l)) (hP : ∀ k, P k → k < W.heap.size) (hl : l.length ≤ 1073741824) (hQ : ∀ k, W.heap.size ≤ k → Q k) (kind : Int) (hok : l.any (badKid t.nodes.length) = true) :
    Calls Tryz.prog 67 #[.pointer (some ⟨b, 0, none⟩), .int .i64 kind, v] W fun e w' => e = .returned (.int .i64 (-1)) ∧ Anc Q w w' b t used ∧ NBt 43 b W w' := by
  obtain ⟨B, vt, vn, h1, h2, h3⟩ := h
  refine (node_calls h2 hn hk hP hl hQ kind).mono ?_
  intro e w' hs
  unfold NodeSays at hs
  rw [if_pos hok] at hs
  obtain ⟨rfl, q1, q2⟩ := hs
  exact ⟨rfl, ⟨B, vt, vn, h1, q1, h3.trans ((q2.low h2).mono h1)⟩, q2.nbt h2⟩
theorem anc_done {w W : World} {b : Nat} {t : Tr.T} {used : Nat} (h : Anc Q w W b t used) (hn : t.nodes.length ≤ 1073741823) (ht : t.toks.length ≤ 1073741824) (hkids : ∀ n ∈ t.nodes, n.kids.length ≤ 1073741824) :
    Calls Tryz.prog 34 #[.pointer (some ⟨b, 0, none⟩)] W fun e w' => ∃ vt' vn', e = .returned (.agg #[vt', vn']) ∧ RdT w' (fun k => W.heap.size ≤ k ∧ k < w'.heap.size) vt' vn' t ∧ Below W.heap.size W w' := by
  obtain ⟨B, vt, vn, h1, h2, h3⟩ := h
  exact done_calls h2 hn ht hkids


/-- A builder stands where an own row of the caller's grows. -/
theorem BuildI.grown {w w' : World} {B b : Nat} {vt vn : Value} {t : Tr.T} {used : Nat} (h : BuildI Q w B b vt vn t used) (hs : w.heap.size ≤ w'.heap.size) (hT : ∀ (k : Nat) (cs : Array Value) (T : TypeId), w.heap[k]? = some (.cells cs T (0, 0)) → T ≠ 3 → w'.heap[k]? = w.heap[k]?)
    (hq : ∀ k, Q k → k < w.heap.size → w'.heap[k]? = w.heap[k]?) : BuildI Q w' B b vt vn t used := by
  have hbpt : ∀ T k, w'.heap[k]? = w.heap[k]? → BPt T w B b vn k → BPt T w' B b vn k := fun T k he hk => ⟨hk.1.size hs, hk.2.imp fun cs hc => he.trans hc⟩
  have hkt : Keeps (BPt 85 w B b vn) w w' := fun k hk => by
    obtain ⟨cs, hc⟩ := hk.2
    exact hT k cs _ hc (by decide)
  obtain ⟨kvs, hk1, hk2, hk3⟩ := h.nodes
  refine ⟨by rw [hT b _ _ h.cell (by decide)]; exact h.cell, h.base, h.ne, (h.toks.keep hkt).imp fun k hk => hbpt _ k (hkt k hk) hk, kvs, hk1, ownsRow_same hk2 fun k hk => ?_, fun i n kv hin hkv => ?_⟩
  · obtain ⟨cur, hc⟩ := ownsRow_cells hk2 hk
    exact hT k cur _ hc (by decide)
  · have hki : Keeps (BPq Q 3 w B b vn) w w' := fun k hk => hq k hk.2 hk.1.1.2.2.2
    exact ((hk3 i n kv hin hkv).keep hki).imp fun k hk => ⟨hbpt _ k (hki k hk) hk.1, hk.2⟩
theorem Anc.grown {w W W' : World} {b base n : Nat} {t : Tr.T} {used : Nat} {v : Value} {xs : List Value} (h : Anc Q w W b t used) (ho : W.ownsRow base 3 1 v n xs) (hbase : w.heap.size ≤ base) (hv : ∀ k, v.ownBlock = some k → ¬ Q k) (hg : W.grownBy W' v.ownBlock) : Anc Q w W' b t used := by
  obtain ⟨B, vt, vn, h1, h2, h3⟩ := h
  refine ⟨B, vt, vn, h1, h2.grown hg.size (fun k cs T hkk hT => hg.block k (lt_heap hkk) fun e => ?_) (fun k hq hk => hg.block k hk fun e => hv k e.symm hq), h3.grown hg h3.size fun k e => Nat.le_trans hbase (ho.lt k e).1⟩
  obtain ⟨cur, hc⟩ := ownsRow_cells ho e.symm
  rw [hkk] at hc
  simp only [Option.some.injEq, Obj.cells.injEq] at hc
  exact hT hc.2.1
theorem BuildI.imp {R : Nat → Prop} {w : World} {B b : Nat} {vt vn : Value} {t : Tr.T} {used : Nat} (h : BuildI Q w B b vt vn t used) (hq : ∀ k, k < w.heap.size → Q k → R k) : BuildI R w B b vt vn t used := by
  obtain ⟨kvs, hk1, hk2, hk3⟩ := h.nodes
  exact ⟨h.cell, h.base, h.ne, h.toks, kvs, hk1, hk2, fun i n kv hin hkv => (hk3 i n kv hin hkv).imp fun k hk => ⟨hk.1, hq k hk.1.1.2.2.2 hk.2⟩⟩
theorem Anc.imp {R : Nat → Prop} {w W : World} {b : Nat} {t : Tr.T} {used : Nat} (h : Anc Q w W b t used) (hq : ∀ k, k < W.heap.size → Q k → R k) : Anc R w W b t used := by
  obtain ⟨B, vt, vn, h1, h2, h3⟩ := h
  exact ⟨B, vt, vn, h1, h2.imp hq, h3⟩
end
end Go.Proofs.YtpkhdlnlkeehhaaGreatDoor
/- Layer 7 (parse) as plain functions: what the program's parser does. No program in sight. -/
namespace Go.Proofs.YtpkhdlnlkeehhaaGreatDoor.Ps
open Tr

/-- A parser's state, but for its tokens and its depth. -/
structure St where
  nodes : List Nd
  used : Nat
  clause : Bool
  e : Int
  pos : Int

/-- Texts. -/
def tImport : List UInt8 := [105, 109, 112, 111, 114, 116]
def tPub : List UInt8 := [112, 117, 98]
def tFun : List UInt8 := [102, 117, 110]
def tLet : List UInt8 := [108, 101, 116]
def tIn : List UInt8 := [105, 110]
def tIf : List UInt8 := [105, 102]
def tThen : List UInt8 := [116, 104, 101, 110]
def tElse : List UInt8 := [101, 108, 115, 101]
def tAssert : List UInt8 := [97, 115, 115, 101, 114, 116]
def tTrue : List UInt8 := [116, 114, 117, 101]
def tFalse : List UInt8 := [102, 97, 108, 115, 101]
def tNot : List UInt8 := [110, 111, 116]
def tInt : List UInt8 := [105, 110, 116]
def tBool : List UInt8 := [98, 111, 111, 108]
def tRes : List UInt8 := [114, 101, 115]
def sOr : List (List UInt8) := [[124, 124]]
def sAnd : List (List UInt8) := [[38, 38]]
def sCmp : List (List UInt8) := [[61], [60, 62], [60], [60, 61], [62], [62, 61]]
def sSum : List (List UInt8) := [[43], [45]]
def sMul : List (List UInt8) := [[42], [47], [37]]

section
variable (tk : List Tk)

def peek (u : Nat) : Tk := (tk[min u (tk.length - 1)]?).getD ⟨0, [], [], 0⟩
/-- Does the next token stand among some texts? -/
def nextB (ts : List (List UInt8)) (u : Nat) : Bool := (decide ((peek tk u).kind = 2) || decide ((peek tk u).kind = 4)) && ts.contains (peek tk u).text
def fail (e : Int) (s : St) : St := if s.e = 0 then { s with e := e, pos := (peek tk s.used).pos } else s
def leaf (s : St) : Int × St := if s.used = tk.length then (-1, s) else ((s.nodes.length : Int), { s with nodes := s.nodes ++ [⟨19, (s.used : Int), []⟩], used := s.used + 1 })
def must (ts : List (List UInt8)) (s : St) : Int × St := if s.e = 0 ∧ nextB tk ts s.used = true then leaf tk s else (0, fail tk 22 s)
def kind (k : Int) (s : St) : Int × St := if s.e = 0 ∧ (peek tk s.used).kind = k then leaf tk s else (0, fail tk 22 s)
def node (k : Int) (l : List Int) (s : St) : Int × St :=
  if s.e = 0 then
    if l.any (fun x => decide (x < 0) || decide ((s.nodes.length : Int) ≤ x)) then (-1, s) else ((s.nodes.length : Int), { s with nodes := s.nodes ++ [⟨k, -1, l⟩] })
  else (0, s)
/-- Behind the look at a nesting: d more may be nested. -/
def deep (d : Nat) (s : St) : St := if d = 0 then fail tk 23 s else s

abbrev F := St → Int × St
def rowGo (part : F) (ts : List (List UInt8)) (once : Bool) : Nat → Int → St → Int × St
  | 0, a, s => (a, s)
  | n + 1, a, s =>
    if s.e = 0 ∧ nextB tk ts s.used = true then
      if once then node 10 [a, (leaf tk s).1, (part (leaf tk s).2).1] (part (leaf tk s).2).2
      else rowGo part ts once n (node 10 [a, (leaf tk s).1, (part (leaf tk s).2).1] (part (leaf tk s).2).2).1 (node 10 [a, (leaf tk s).1, (part (leaf tk s).2).1] (part (leaf tk s).2).2).2
    else (a, s)
def row (part : F) (ts : List (List UInt8)) (once : Bool) (s : St) : Int × St := rowGo tk part ts once tk.length (part s).1 (part s).2
def unary (d : Nat) (behind : F) (s : St) : Int × St :=
  if (deep tk d (leaf tk s).2).e = 0 then node 11 [(leaf tk s).1, (behind (deep tk d (leaf tk s).2)).1] (behind (deep tk d (leaf tk s).2)).2 else (0, deep tk d (leaf tk s).2)

def listGo (one : F) : Nat → List Int → St → List Int × St
  | 0, ks, s => (ks, fail tk 15 s)
  | k + 1, ks, s =>
    if s.e = 0 then
      if (one s).2.e = 0 ∧ nextB tk [[44]] (one s).2.used = true then listGo one k (ks ++ [(one s).1, (leaf tk (one s).2).1]) (leaf tk (one s).2).2
      else (ks ++ [(one s).1], (one s).2)
    else (ks, s)
def list (one : F) (s : St) : List Int × St := if nextB tk [[41]] s.used = true then ([], s) else listGo tk one 8 [] s

/-- A level: what is nested so deep. -/
structure Lv where
  ex : F
  fo : F
  ne : F
  fa : F

def callee (s : St) (a : Int) : List Int × St := if nextB tk [[46]] s.used = true then ([a, (leaf tk s).1, (kind tk 1 (leaf tk s).2).1], (kind tk 1 (leaf tk s).2).2) else ([a], s)
def call (ex : F) (l : List Int) (s : St) : Int × St :=
  let p := must tk [[40]] s
  let ls := list tk ex p.2
  let q := must tk [[41]] ls.2
  node 13 (l ++ [p.1] ++ ls.1 ++ [q.1]) q.2
def name (ex : F) (s : St) : Int × St :=
  let a := leaf tk s
  if a.2.clause || !nextB tk [[46], [40]] a.2.used then node 14 [a.1] a.2
  else call tk ex (callee tk a.2 a.1).1 (callee tk a.2 a.1).2
def group (ex : F) (s : St) : Int × St :=
  let a := leaf tk s
  let b := ex a.2
  let c := must tk [[41]] b.2
  node 12 [a.1, b.1, c.1] c.2
def atom (ex : F) (s : St) : Int × St :=
  if s.e = 0 then
    if (peek tk s.used).kind = 3 then node 15 [(leaf tk s).1] (leaf tk s).2
    else if nextB tk [tTrue, tFalse] s.used then node 16 [(leaf tk s).1] (leaf tk s).2
    else if s.clause && nextB tk [tRes] s.used then node 17 [(leaf tk s).1] (leaf tk s).2
    else if nextB tk [[40]] s.used then group tk ex s
    else if (peek tk s.used).kind = 1 then name tk ex s
    else (0, fail tk 22 s)
  else (0, s)
def factor (d : Nat) (lo : Lv) (s : St) : Int × St := if s.e = 0 ∧ nextB tk [[45]] s.used = true then unary tk d lo.fa s else atom tk lo.ex s
def product (d : Nat) (lo : Lv) : F := row tk (factor tk d lo) sMul false
def sum (d : Nat) (lo : Lv) : F := row tk (product tk d lo) sSum false
def comparison (d : Nat) (lo : Lv) : F := row tk (sum tk d lo) sCmp true
def negation (d : Nat) (lo : Lv) (s : St) : Int × St := if s.e = 0 ∧ nextB tk [tNot] s.used = true then unary tk d lo.ne s else comparison tk d lo s
def conjunction (d : Nat) (lo : Lv) : F := row tk (negation tk d lo) sAnd false
def disjunction (d : Nat) (lo : Lv) : F := row tk (conjunction tk d lo) sOr false
def formula (d : Nat) (lo : Lv) (s : St) : Int × St :=
  let a := disjunction tk d lo s
  if a.2.e = 0 ∧ nextB tk [[61, 62]] a.2.used = true then
    let g := leaf tk a.2
    let s2 := deep tk d g.2
    if s2.e = 0 then
      let f := lo.fo s2
      node 10 [a.1, g.1, f.1] f.2
    else (0, s2)
  else a
def exLet (ex : F) (s : St) : Int × St :=
  let a := leaf tk s
  let b := kind tk 1 a.2
  let c := must tk [[61]] b.2
  let d := ex c.2
  let e := must tk [tIn] d.2
  let f := ex e.2
  node 7 [a.1, b.1, c.1, d.1, e.1, f.1] f.2
def exIf (ex : F) (s : St) : Int × St :=
  let a := leaf tk s
  let b := ex a.2
  let c := must tk [tThen] b.2
  let d := ex c.2
  let e := must tk [tElse] d.2
  let f := ex e.2
  node 8 [a.1, b.1, c.1, d.1, e.1, f.1] f.2
def exAssert (ex : F) (s : St) : Int × St :=
  let a := leaf tk s
  let b := ex a.2
  let c := must tk [tIn] b.2
  let d := ex c.2
  node 9 [a.1, b.1, c.1, d.1] d.2
/-- Where there is no fault, and it is not nested too deep. -/
def express (d : Nat) (lo : Lv) (s : St) : Int × St :=
  if s.e = 0 then
    if s.clause then formula tk d lo s
    else if nextB tk [tLet] s.used then exLet tk lo.ex s
    else if nextB tk [tIf] s.used then exIf tk lo.ex s
    else if nextB tk [tAssert] s.used then exAssert tk lo.ex s
    else formula tk d lo s
  else (0, s)
def lv : Nat → Lv
  | 0 => ⟨fun s => (0, fail tk 23 s), fun s => (0, fail tk 23 s), fun s => (0, fail tk 23 s), fun s => (0, fail tk 23 s)⟩
  | d + 1 => ⟨express tk d (lv d), formula tk d (lv d), negation tk d (lv d), factor tk d (lv d)⟩

variable (ex : F)
def typed (l : List Int) (s : St) : List Int × St :=
  let a := must tk [[58]] s
  let b := must tk [tInt, tBool] a.2
  let c := node 5 [b.1] b.2
  if c.2.e = 0 ∧ nextB tk [[123]] c.2.used = true then
    let g := leaf tk c.2
    let f := ex { g.2 with clause := true }
    let m := must tk [[125]] { f.2 with clause := false }
    let n := node 6 [g.1, f.1, m.1] m.2
    (l ++ [a.1, c.1] ++ [n.1], n.2)
  else (l ++ [a.1, c.1], c.2)
def param (s : St) : Int × St :=
  let a := kind tk 1 s
  let t := typed tk ex [a.1] a.2
  node 4 t.1 t.2
def imported (s : St) : Int × St :=
  let a := leaf tk s
  let b := kind tk 1 a.2
  let c := must tk [[59]] b.2
  node 2 [a.1, b.1, c.1] c.2
def defHead (l : List Int) (s : St) : List Int × St :=
  let a := must tk [tFun] s
  let b := kind tk 1 a.2
  let c := must tk [[40]] b.2
  (l ++ [a.1, b.1, c.1], c.2)
def defRest (l : List Int) (s : St) : Int × St :=
  let q := must tk [[41]] s
  let t := typed tk ex (l ++ [q.1]) q.2
  let u := must tk [[61]] t.2
  let v := ex u.2
  let x := must tk [[59]] v.2
  node 3 (t.1 ++ [u.1, v.1, x.1]) x.2
def defn (l : List Int) (s : St) : Int × St :=
  let h := defHead tk l s
  let p := list tk (param tk ex) h.2
  defRest tk ex (h.1 ++ p.1) p.2
def definition (s : St) : Int × St := if nextB tk [tPub] s.used then defn tk ex [(leaf tk s).1] (leaf tk s).2 else defn tk ex [] s
def severalGo (one : F) (ts : List (List UInt8)) : Nat → List Int → St → List Int × St
  | 0, ks, s => if s.e = 0 ∧ nextB tk ts s.used = true then (ks, fail tk 15 s) else (ks, s)
  | n + 1, ks, s => if s.e = 0 ∧ nextB tk ts s.used = true then severalGo one ts n (ks ++ [(one s).1]) (one s).2 else (ks, s)
def program (s : St) : Int × St :=
  let a := severalGo tk (imported tk) [tImport] 16 [] s
  let b := severalGo tk (definition tk ex) [tPub, tFun] 64 [] a.2
  let c := kind tk 5 b.2
  node 1 (a.1 ++ b.1 ++ [c.1]) c.2
def alone (s : St) : Int × St :=
  let f := ex { s with clause := true }
  let c := kind tk 5 f.2
  node 18 [f.1, c.1] c.2
end
def St.first : St := ⟨[], 0, false, 0, 0⟩
end Go.Proofs.YtpkhdlnlkeehhaaGreatDoor.Ps
/- The parser in memory. -/
namespace Go.Proofs.YtpkhdlnlkeehhaaGreatDoor
open Go.RowKit

section
variable {Q : Nat → Prop}

/-- All blocks stand but those of some types. -/
structure FrT (ts : List TypeId) (w w' : World) : Prop where
  os : w'.os = w.os
  tape : w'.tape = w.tape
  output : w'.output = w.output
  size : w.heap.size ≤ w'.heap.size
  block : ∀ (k : Nat) (o : Obj), w.heap[k]? = some o → (∀ cs T fr, o = .cells cs T fr → T ∉ ts) → w'.heap[k]? = some o
theorem FrT.refl (ts : List TypeId) (w : World) : FrT ts w w := ⟨rfl, rfl, rfl, Nat.le_refl _, fun _ _ h _ => h⟩
theorem FrT.trans {ts : List TypeId} {x y z : World} (h : FrT ts x y) (k : FrT ts y z) : FrT ts x z :=
  ⟨k.os.trans h.os, k.tape.trans h.tape, k.output.trans h.output, Nat.le_trans h.size k.size, fun i o hi hn => k.block i o (h.block i o hi hn) hn⟩
theorem FrT.of {ts : List TypeId} {x y : World} (h : Below x.heap.size x y) : FrT ts x y :=
  ⟨h.os, h.tape, h.output, h.size, fun k o hk _ => (h.block k (lt_heap hk)).trans hk⟩
theorem FrT.cells {ts : List TypeId} {x y : World} (h : FrT ts x y) {k : Nat} {cs : Array Value} {T : TypeId} {fr : Nat × Nat} (hk : x.heap[k]? = some (.cells cs T fr)) (hT : T ∉ ts) : y.heap[k]? = some (.cells cs T fr) :=
  h.block k _ hk fun cs2 T2 fr2 e => by
    injection e with _ e2 _
    rw [← e2]
    exact hT
theorem FrT.of_nbt {ts : List TypeId} {x y : World} {b : Nat} {T TB : TypeId} {cs : Array Value} {fr : Nat × Nat} (h : NBt T b x y) (hb : x.heap[b]? = some (.cells cs TB fr)) (h1 : T ∈ ts) (h2 : TB ∈ ts) : FrT ts x y := by
  refine ⟨h.os, h.tape, h.output, h.size, fun k o hk hn => h.block k o hk ?_ ?_⟩
  · rintro rfl
    rw [hb] at hk
    simp only [Option.some.injEq] at hk
    exact hn cs TB fr hk.symm h2
  · rintro cs2 fr2 rfl
    exact hn cs2 T fr2 rfl h1
/-- A row that is read stands where its blocks are of another type. -/
theorem RdS.frt {ts : List TypeId} {w w' : World} {P : Nat → Prop} {size : Nat} {v : Value} {n : Nat} {xs : List Value} (h : RdS w P size v n xs) (hf : FrT ts w w') {T : TypeId} (hT : T ∉ ts) (hP : ∀ k, P k → ∃ cs fr, w.heap[k]? = some (.cells cs T fr)) : RdS w' P size v n xs :=
  h.keep fun k hk => by
    obtain ⟨cs, fr, hc⟩ := hP k hk
    rw [hc]
    exact hf.cells hc hT
theorem ownsRow_frt {ts : List TypeId} {w w' : World} {base : Nat} {e : TypeId} {size : Nat} {v : Value} {n : Nat} {xs : List Value} (h : w.ownsRow base e size v n xs) (hf : FrT ts w w') (hT : e ∉ ts) : w'.ownsRow base e size v n xs :=
  ownsRow_same h fun k hk => by
    obtain ⟨cur, hc⟩ := ownsRow_cells h hk
    rw [hc]
    exact hf.cells hc hT

/-- A builder stands where a block of another type is turned. -/
theorem BuildI.other {w w' : World} {B b : Nat} {vt vn : Value} {t : Tr.T} {used : Nat} (h : BuildI Q w B b vt vn t used) (hs : w.heap.size ≤ w'.heap.size) {p : Nat} {cs : Array Value} {T : TypeId} (hp : w.heap[p]? = some (.cells cs T (0, 0)))
    (hT : T ≠ 85 ∧ T ≠ 43 ∧ T ≠ 3 ∧ T ≠ 101) (hk : ∀ k, k < w.heap.size → k ≠ p → w'.heap[k]? = w.heap[k]?) : BuildI Q w' B b vt vn t used := by
  have hne : ∀ (k : Nat) (cs2 : Array Value) (T2 : TypeId), T ≠ T2 → w.heap[k]? = some (.cells cs2 T2 (0, 0)) → w'.heap[k]? = some (.cells cs2 T2 (0, 0)) := by
    intro k cs2 T2 h1 h2
    rw [hk k (lt_heap h2), h2]
    rintro rfl
    rw [hp] at h2
    injection h2 with h2
    injection h2 with _ h3 _
    exact h1 h3
  have hkeep : ∀ T2, T ≠ T2 → Keeps (BPt T2 w B b vn) w w' := fun T2 h1 k hk' => by
    obtain ⟨_, cs2, h2⟩ := hk'
    rw [h2]
    exact hne k cs2 T2 h1 h2
  have hbpt : ∀ T2, T ≠ T2 → ∀ k, BPt T2 w B b vn k → BPt T2 w' B b vn k := fun T2 h1 k hk' => ⟨hk'.1.size hs, hk'.2.imp fun cs2 h2 => hne k cs2 T2 h1 h2⟩
  obtain ⟨kvs, hk1, hk2, hk3⟩ := h.nodes
  refine ⟨hne b _ _ hT.2.2.2 h.cell, h.base, h.ne, (h.toks.keep (hkeep _ hT.1)).imp (hbpt _ hT.1), kvs, hk1, ownsRow_same hk2 fun k hk' => ?_, fun i n kv hi hkv => ((hk3 i n kv hi hkv).keep fun k hk => hkeep _ hT.2.2.1 k hk.1).imp fun k hk => ⟨hbpt _ hT.2.2.1 k hk.1, hk.2⟩⟩
  obtain ⟨cur, hc⟩ := ownsRow_cells hk2 hk'
  rw [hc]
  exact hne k cur _ hT.2.1 hc

/-- The types whose blocks a parser turns. -/
def PTs : List TypeId := [71, 101, 43]
def pCells (b : Nat) (dp : Int) (s : Ps.St) : Array Value := #[.pointer (some ⟨b, 0, none⟩), .int .i64 dp, .bool s.clause, .int .i64 s.e, .int .i64 s.pos]
/-- A parser at block p, made since w0, with its builder at block b. -/
structure PI (Q : Nat → Prop) (w0 W : World) (p b : Nat) (tk : List Tr.Tk) (dp : Int) (s : Ps.St) : Prop where
  anc : Anc Q w0 W b ⟨tk, s.nodes⟩ s.used
  cell : W.heap[p]? = some (.cells (pCells b dp s) 71 (0, 0))
  low : w0.heap.size ≤ p
theorem PI.below {w0 W : World} {p b : Nat} {tk : List Tr.Tk} {dp : Int} {s : Ps.St} (h : PI Q w0 W p b tk dp s) : Below w0.heap.size w0 W := h.anc.below
theorem PI.past {w0 W W' : World} {p b : Nat} {tk : List Tr.Tk} {dp : Int} {s : Ps.St} (h : PI Q w0 W p b tk dp s) (hb : Below W.heap.size W W') : PI Q w0 W' p b tk dp s :=
  ⟨h.anc.past hb, anc_box h.cell hb, h.low⟩
theorem PI.c0 {w0 W : World} {p b : Nat} {tk : List Tr.Tk} {dp : Int} {s : Ps.St} (h : PI Q w0 W p b tk dp s) : W.cell? ⟨p, 0, none⟩ = some (.pointer (some ⟨b, 0, none⟩)) := cell_of_heap h.cell 0 rfl
theorem PI.c1 {w0 W : World} {p b : Nat} {tk : List Tr.Tk} {dp : Int} {s : Ps.St} (h : PI Q w0 W p b tk dp s) : W.cell? ⟨p, 1, none⟩ = some (.int .i64 dp) := cell_of_heap h.cell 1 rfl
theorem PI.c2 {w0 W : World} {p b : Nat} {tk : List Tr.Tk} {dp : Int} {s : Ps.St} (h : PI Q w0 W p b tk dp s) : W.cell? ⟨p, 2, none⟩ = some (.bool s.clause) := cell_of_heap h.cell 2 rfl
theorem PI.c3 {w0 W : World} {p b : Nat} {tk : List Tr.Tk} {dp : Int} {s : Ps.St} (h : PI Q w0 W p b tk dp s) : W.cell? ⟨p, 3, none⟩ = some (.int .i64 s.e) := cell_of_heap h.cell 3 rfl
theorem PI.c4 {w0 W : World} {p b : Nat} {tk : List Tr.Tk} {dp : Int} {s : Ps.St} (h : PI Q w0 W p b tk dp s) : W.cell? ⟨p, 4, none⟩ = some (.int .i64 s.pos) := cell_of_heap h.cell 4 rfl
theorem PI.frozen {w0 W : World} {p b : Nat} {tk : List Tr.Tk} {dp : Int} {s : Ps.St} (h : PI Q w0 W p b tk dp s) (j : Nat) : W.frozen? ⟨p, j, none⟩ = false := frozen_of_heap h.cell j
/-- Behind a step of the builder. -/
theorem PI.step {w0 W W' : World} {p b : Nat} {tk : List Tr.Tk} {dp : Int} {s : Ps.St} (h : PI Q w0 W p b tk dp s) {ns : List Tr.Nd} {u : Nat} (ha : Anc Q w0 W' b ⟨tk, ns⟩ u) (hn : NBt 43 b W W') :
    PI Q w0 W' p b tk dp { s with nodes := ns, used := u } ∧ FrT PTs W W' := by
  obtain ⟨B, vt, vn, _, hB, _⟩ := h.anc
  have hne : p ≠ b := by
    rintro rfl
    have h1 := hB.cell
    rw [h.cell] at h1
    injection h1 with h1
    injection h1 with _ h2 _
    exact absurd h2 (by decide)
  exact ⟨⟨ha, hn.cells h.cell hne (by decide), h.low⟩, FrT.of_nbt hn hB.cell (by decide) (by decide)⟩
/-- Behind a store into the parser's own block. -/
theorem PI.set {w0 W W' : World} {p b : Nat} {tk : List Tr.Tk} {dp : Int} {s s' : Ps.St} (h : PI Q w0 W p b tk dp s) (hs : s'.nodes = s.nodes ∧ s'.used = s.used) (ho : W'.os = W.os) (ht : W'.tape = W.tape) (hu : W'.output = W.output) (hz : W.heap.size = W'.heap.size)
    (hc : W'.heap[p]? = some (.cells (pCells b dp s') 71 (0, 0))) (hk : ∀ k, k ≠ p → W'.heap[k]? = W.heap[k]?) : PI Q w0 W' p b tk dp s' ∧ FrT PTs W W' := by
  obtain ⟨B, vt, vn, h1, hB, h3⟩ := h.anc
  refine ⟨⟨⟨B, vt, vn, h1, ?_, ?_⟩, hc, h.low⟩, ⟨ho, ht, hu, by omega, fun k o hk1 hk2 => ?_⟩⟩
  · rw [hs.1, hs.2]
    exact hB.other (by omega) h.cell (by decide) fun k _ hne => hk k hne
  · exact ⟨ho.trans h3.os, ht.trans h3.tape, hu.trans h3.output, by have := h3.size; omega, fun k hk1 => (hk k (by have := h.low; omega)).trans (h3.block k hk1)⟩
  · rw [hk k, hk1]
    rintro rfl
    rw [h.cell] at hk1
    injection hk1 with hk1
    exact hk2 _ _ _ hk1.symm (by decide)
/-- A call of the parser's: what it gives, the state behind it. -/
def Does (Q : Nat → Prop) (w0 : World) (p b : Nat) (tk : List Tr.Tk) (dp : Int) (r : Int × Ps.St) (W : World) (e : Ending) (W' : World) : Prop :=
  e = .returned (.int .i64 r.1) ∧ PI Q w0 W' p b tk dp r.2 ∧ FrT PTs W W'

/-- Q names all that is yet to be made. -/
def Up (Q : Nat → Prop) (W : World) : Prop := ∀ k, W.heap.size ≤ k → Q k
theorem Up.size {W W' : World} (h : Up Q W) (hs : W.heap.size ≤ W'.heap.size) : Up Q W' := fun k hk => h k (Nat.le_trans hs hk)
theorem Up.frt {ts : List TypeId} {W W' : World} (h : Up Q W) (hf : FrT ts W W') : Up Q W' := h.size hf.size
theorem PI.imp {R : Nat → Prop} {w0 W : World} {p b : Nat} {tk : List Tr.Tk} {dp : Int} {s : Ps.St} (h : PI Q w0 W p b tk dp s) (hq : ∀ k, k < W.heap.size → Q k → R k) : PI R w0 W p b tk dp s := ⟨h.anc.imp hq, h.cell, h.low⟩
/-- Where an own row of the caller's grows. -/
theorem PI.grown {w0 W W' : World} {p b base n : Nat} {tk : List Tr.Tk} {dp : Int} {s : Ps.St} {v : Value} {xs : List Value} (h : PI Q w0 W p b tk dp s) (ho : W.ownsRow base 3 1 v n xs) (hbase : w0.heap.size ≤ base) (hv : ∀ k, v.ownBlock = some k → ¬ Q k) (hg : W.grownBy W' v.ownBlock) : PI Q w0 W' p b tk dp s := by
  refine ⟨h.anc.grown ho hbase hv hg, ?_, h.low⟩
  rw [hg.block p (lt_heap h.cell) fun e => ?_]
  · exact h.cell
  · obtain ⟨cur, hc⟩ := ownsRow_cells ho e.symm
    rw [h.cell] at hc
    simp at hc
end
end Go.Proofs.YtpkhdlnlkeehhaaGreatDoor
/- slices.Index, slices.Contains at []string. -/
namespace Go.Proofs.YtpkhdlnlkeehhaaGreatDoor
open Go.RowKit

def strCells (l : List (List UInt8)) : List Value := l.map fun t => .string ⟨t.toArray⟩

set_option maxRecDepth 100000 in
theorem index_str {w : World} {P : Nat → Prop} {v : Value} {l : List (List UInt8)} {x : List UInt8} (h : RdS w P 1 v l.length (strCells l)) (hl : l.length ≤ 1073741824) :
    Calls Tryz.prog 109 #[v, .string ⟨x.toArray⟩] w fun e w' => ∃ r : Int, e = .returned (.int .i64 r) ∧ decide (0 ≤ r) = l.contains x ∧ w = w' := by
  obtain ⟨_, a, cl, rfl, _, hd⟩ := h
  have hl' : (l.length : Int) ≤ 1073741824 := by omega
  have HD := Lib.hid hd
  clear hd
  go_enter Tryz.func109, Tryz.ntmps109
  go_wp2
  go_loopg [8] l.length (fun k v8 wr => ∃ j : Nat, v8 = .int .i64 j ∧ k = l.length - j ∧ j ≤ l.length ∧ wr = w ∧ (l.take j).contains x = false)
  case atStart => exact ⟨0, rfl, rfl, Nat.zero_le _, rfl, by simp⟩
  case round =>
    obtain ⟨j, rfl, hk, hj, rfl, hall⟩ := hrel
    have HK := Lib.hid hk
    have HA := Lib.hid hall
    clear hk hall
    by_cases hlt : j < l.length
    · have hlt' : (j : Int) < (l.length : Int) := by omega
      obtain ⟨b2, off, rfl, _, hr⟩ := HD.out.resolve_left (fun h => by omega)
      have hcell : wr.cell? ⟨b2, off + j, none⟩ = some (.string ⟨(l[j]).toArray⟩) := hr j _ (by simp [strCells, List.getElem?_eq_getElem hlt])
      clear hr
      obtain ⟨y, hy⟩ : ∃ y, l[j] = y := ⟨_, rfl⟩
      rw [hy] at hcell
      have HY := Lib.hid hy
      clear hy
      by_cases he : x = y
      · subst he
        go_wp2
        go_ret
        refine ⟨(j : Int), rfl, ?_, rfl⟩
        have h2 : l.contains x = true := by
          rw [List.contains_iff_mem]
          have h3 := List.getElem_mem hlt
          rw [HY.out] at h3
          exact h3
        rw [h2]
        simp
      · have he2 : (x == y) = false := by simpa using he
        have HE := Lib.hid he
        clear he
        go_wp2
        go_roundg (l.length - (j + 1))
        case measure => have := HK.out; omega
        case rel =>
          refine ⟨j + 1, by go_num, rfl, by omega, rfl, ?_⟩
          rw [List.take_succ_eq_append_getElem hlt, HY.out]
          have := HA.out
          have h3 := HE.out
          simp only [List.contains_eq_mem, decide_eq_false_iff_not] at this ⊢
          simp [this, h3]
    · obtain rfl : j = l.length := by omega
      go_wp2
      go_ret
      refine ⟨-1, rfl, ?_, rfl⟩
      have h2 := HA.out
      rw [List.take_length] at h2
      rw [h2]
      rfl
theorem contains_str {w : World} {P : Nat → Prop} {v : Value} {l : List (List UInt8)} {x : List UInt8} (h : RdS w P 1 v l.length (strCells l)) (hl : l.length ≤ 1073741824) :
    Calls Tryz.prog 92 #[v, .string ⟨x.toArray⟩] w fun e w' => e = .returned (.bool (l.contains x)) ∧ w = w' := by
  have HI := Lib.hid (index_str (x := x) h hl)
  obtain ⟨a, c, rfl⟩ := h.form
  clear h
  go_enter Tryz.func92, Tryz.ntmps92
  go_wp2_with (go_at_call 109; refine HI.out.mono ?_; rintro e w1 ⟨r, rfl, hr, rfl⟩; have HR := Lib.hid hr; clear hr)
  go_ret
  exact ⟨by rw [← HR.out]; rfl, rfl⟩
end Go.Proofs.YtpkhdlnlkeehhaaGreatDoor
/- parse: ok, fail, next, must, kind, node, deep: the walks. -/
namespace Go.Proofs.YtpkhdlnlkeehhaaGreatDoor
open Go.RowKit

section
variable {Q : Nat → Prop}

/-- What the walks ask of a state. -/
def Wk (tk : List Tr.Tk) (s : Ps.St) : Prop := 0 < tk.length ∧ tk.length ≤ 1000000 ∧ s.used ≤ tk.length ∧ s.nodes.length ≤ 5000000

theorem anc_peek {w0 W : World} {b u : Nat} {tk : List Tr.Tk} {ns : List Tr.Nd} (h : Anc Q w0 W b ⟨tk, ns⟩ u) (h0 : 0 < tk.length) (h1 : tk.length ≤ 1000000) (hu : u ≤ tk.length) :
    Calls Tryz.prog 68 #[.pointer (some ⟨b, 0, none⟩)] W fun e W' => e = .returned (.agg #[.int .i64 (Ps.peek tk u).kind, .string ⟨(Ps.peek tk u).lead.toArray⟩, .string ⟨(Ps.peek tk u).text.toArray⟩, .int .i64 (Ps.peek tk u).pos]) ∧ Below W.heap.size W W' := by
  obtain ⟨B, vt, vn, _, hB, _⟩ := h
  refine peek_calls hB (by show tk.length ≤ _; omega) hu ?_
  show tk[min u (tk.length - 1)]? = _
  unfold Ps.peek
  rw [List.getElem?_eq_getElem (by omega)]
  rfl

theorem tok_field0 (k : Int) (l t : ByteArray) (q : Int) (w : World) : (Instr.field 85 (.agg #[.int .i64 k, .string l, .string t, .int .i64 q]) 0).run Tryz.prog w = .ok (.int .i64 k) w := by kernel_rfl
theorem tok_field3 (k : Int) (l t : ByteArray) (q : Int) (w : World) : (Instr.field 85 (.agg #[.int .i64 k, .string l, .string t, .int .i64 q]) 3).run Tryz.prog w = .ok (.int .i64 q) w := by kernel_rfl
section
variable {w0 W : World} {p b : Nat} {tk : List Tr.Tk} {dp : Int} {s : Ps.St}

set_option maxRecDepth 100000 in
set_option maxHeartbeats 2000000 in
theorem pok_calls (h : PI Q w0 W p b tk dp s) : Calls Tryz.prog 33 #[.pointer (some ⟨p, 0, none⟩)] W fun e W' => e = .returned (.bool (decide (s.e = 0))) ∧ W = W' := by
  have c3 := h.c3
  clear h
  go_enter Tryz.func33, Tryz.ntmps33
  go_wp2
  go_ret
  exact ⟨rfl, rfl⟩

set_option maxRecDepth 100000 in
set_option maxHeartbeats 2000000 in
theorem pfail_calls (h : PI Q w0 W p b tk dp s) (hw : Wk tk s) (x : Int) : Calls Tryz.prog 61 #[.pointer (some ⟨p, 0, none⟩), .int .i64 x] W (Does Q w0 p b tk dp (0, Ps.fail tk x s) W) := by
  have HP := Lib.hid h
  have HW := Lib.hid hw
  have hok := pok_calls h
  by_cases he : s.e = 0
  · rw [decide_eq_true he] at hok
    have HOK := Lib.hid hok
    have HF := Lib.hid (show Ps.fail tk x s = { s with e := x, pos := (Ps.peek tk s.used).pos } by unfold Ps.fail; rw [if_pos he])
    have c0 := h.c0
    clear h hw hok he
    go_enter Tryz.func61, Tryz.ntmps61
    go_wp2_with fail
    refine HOK.out.mono ?_
    rintro e W1 ⟨rfl, rfl⟩
    dsimp only
    go_wp2_with fail
    refine (anc_peek HP.out.anc HW.out.1 HW.out.2.1 HW.out.2.2.1).mono ?_
    rintro e W2 ⟨rfl, hb2⟩
    have hc2 := anc_box HP.out.cell hb2
    have d3 := (HP.out.past hb2).c3
    have d4 := (HP.out.past hb2).c4
    have f3 := frozen_of_heap hc2 3
    have f4 := frozen_of_heap hc2 4
    have H2 := Lib.hid (And.intro hb2 hc2)
    have t3 := tok_field3 (Ps.peek tk s.used).kind ⟨(Ps.peek tk s.used).lead.toArray⟩ ⟨(Ps.peek tk s.used).text.toArray⟩ (Ps.peek tk s.used).pos W2
    clear hb2 hc2 c0
    dsimp only
    go_wp2_with fail
    go_ret
    have h1 := setCell_row (j := 3) H2.out.2 (.int .i64 x)
    have h2 := setCell_row (j := 4) h1 (.int .i64 (Ps.peek tk s.used).pos)
    have h3 := (HP.out.past H2.out.1).set (s' := { s with e := x, pos := (Ps.peek tk s.used).pos }) ⟨rfl, rfl⟩ (W' := (W2.setCell ⟨p, 3, none⟩ (.int .i64 x)).setCell ⟨p, 4, none⟩ (.int .i64 (Ps.peek tk s.used).pos)) rfl rfl rfl (by simp [World.setCell]) h2 (fun k hk => by rw [Below.heap_setCell _ _ _ _ hk, Below.heap_setCell _ _ _ _ hk])
    refine ⟨rfl, ?_, (FrT.of H2.out.1).trans h3.2⟩
    rw [HF.out]
    exact h3.1
  · rw [decide_eq_false he] at hok
    have HOK := Lib.hid hok
    have HF := Lib.hid (show Ps.fail tk x s = s by unfold Ps.fail; rw [if_neg he])
    clear h hw hok he
    go_enter Tryz.func61, Tryz.ntmps61
    go_wp2_with fail
    refine HOK.out.mono ?_
    rintro e W1 ⟨rfl, rfl⟩
    dsimp only
    go_wp2_with fail
    go_ret
    exact ⟨rfl, by rw [HF.out]; exact HP.out, FrT.refl _ _⟩

set_option maxRecDepth 100000 in
set_option maxHeartbeats 2000000 in
/-- Does the next token stand among some texts? -/
theorem pnext_calls (h : PI Q w0 W p b tk dp s) (hw : Wk tk s) {ts : List (List UInt8)} {P : Nat → Prop} {v : Value} (hv : RdS W P 1 v ts.length (strCells ts)) (hP : ∀ k, P k → k < W.heap.size) (hl : ts.length ≤ 1000) :
    Calls Tryz.prog 60 #[.pointer (some ⟨p, 0, none⟩), v] W fun e W' => e = .returned (.bool (Ps.nextB tk ts s.used)) ∧ Below W.heap.size W W' := by
  have HP := Lib.hid h
  have HW := Lib.hid hw
  have HV := Lib.hid (And.intro hv (And.intro hP hl))
  obtain ⟨av, cv, rfl⟩ := hv.form
  have c0 := h.c0
  have hn : Ps.nextB tk ts s.used = ((decide ((Ps.peek tk s.used).kind = 2) || decide ((Ps.peek tk s.used).kind = 4)) && ts.contains (Ps.peek tk s.used).text) := rfl
  have hpk := anc_peek h.anc hw.1 hw.2.1 hw.2.2.1
  rw [hn]
  generalize Ps.peek tk s.used = t at *
  obtain ⟨kd, ld, tx, ps⟩ := t
  dsimp only at hpk ⊢
  have HPK := Lib.hid hpk
  clear h hw hv hP hn hpk
  by_cases hk : kd = 2 ∨ kd = 4
  · have e1 : (decide (kd = 2) || decide (kd = 4)) = true := by simpa using hk
    rw [e1, Bool.true_and]
    obtain ⟨y, hy⟩ : ∃ y, ts.contains tx = y := ⟨_, rfl⟩
    have hc0 : ∀ W', Below W.heap.size W W' → Calls Tryz.prog 92 #[.slice av ts.length cv, .string ⟨tx.toArray⟩] W' fun e w' => e = .returned (.bool y) ∧ W' = w' := fun W' hb => by
      have := contains_str (x := tx) (HV.out.1.keep (w' := W') (Keeps.of hb HV.out.2.1)) (by have := HV.out.2.2; omega)
      rwa [hy] at this
    have HC := Lib.hid hc0
    clear hc0
    rw [hy]
    clear hy
    rcases hk with rfl | rfl
    all_goals
      clear e1
      go_enter Tryz.func60, Tryz.ntmps60
      go_wp2_with fail
      refine HPK.out.mono ?_
      rintro e W2 ⟨rfl, hb2⟩
      have H2 := Lib.hid hb2
      clear hb2 c0
      dsimp only
      go_wp2_with fail
      refine (HC.out _ (H2.out.alloc H2.out.size _)).mono ?_
      rintro e W3 ⟨rfl, rfl⟩
      dsimp only
      go_wp2_with fail
      go_ret
      exact ⟨rfl, H2.out.alloc H2.out.size _⟩
  · have e1 : (decide (kd = 2) || decide (kd = 4)) = false := by simpa using hk
    rw [e1, Bool.false_and]
    have k1 : (kd == 2) = false := by simp; omega
    have k2 : (kd == 4) = false := by simp; omega
    clear hk e1
    go_enter Tryz.func60, Tryz.ntmps60
    go_wp2_with fail
    refine HPK.out.mono ?_
    rintro e W2 ⟨rfl, hb2⟩
    have H2 := Lib.hid hb2
    clear hb2 c0
    dsimp only
    go_wp2_with fail
    go_ret
    exact ⟨rfl, H2.out.alloc H2.out.size _⟩

set_option maxRecDepth 100000 in
set_option maxHeartbeats 2000000 in
/-- A leaf of the builder's. -/
theorem pleaf_calls (h : PI Q w0 W p b tk dp s) (hw : Wk tk s) : Calls Tryz.prog 62 #[.pointer (some ⟨b, 0, none⟩)] W (Does Q w0 p b tk dp (Ps.leaf tk s) W) := by
  unfold Ps.leaf
  by_cases hu : s.used = tk.length
  · rw [if_pos hu]
    have ha := h.anc
    rw [hu] at ha
    refine (anc_leaf_end (t := ⟨tk, s.nodes⟩) ha (by have := hw.2.2.2; show s.nodes.length ≤ _; omega) (by have := hw.2.1; show tk.length ≤ _; omega)).mono ?_
    rintro e W1 ⟨rfl, h1, h2⟩
    have h3 := h.step h1 h2
    refine ⟨rfl, ?_, h3.2⟩
    have h4 := h3.1
    have e1 : ({ s with nodes := s.nodes, used := tk.length } : Ps.St) = s := by rw [← hu]
    rw [e1] at h4
    exact h4
  · rw [if_neg hu]
    refine (anc_leaf (t := ⟨tk, s.nodes⟩) h.anc (by have := hw.2.2.2; show s.nodes.length ≤ _; omega) (by have := hw.2.1; show tk.length ≤ _; omega) (by have := hw.2.2.1; show s.used < tk.length; omega)).mono ?_
    rintro e W1 ⟨rfl, h1, h2⟩
    exact ⟨rfl, h.step h1 h2⟩
set_option maxRecDepth 100000 in
set_option maxHeartbeats 2000000 in
/-- A node of the builder's. -/
theorem pbnode_calls (h : PI Q w0 W p b tk dp s) (hw : Wk tk s) (he : s.e = 0) {P : Nat → Prop} {v : Value} {l : List Int} (hk : RdS W P 1 v l.length (intCells l)) (hP : ∀ k, P k → k < W.heap.size) (hl : l.length ≤ 1000000) (hQ : Up Q W) (k : Int) :
    Calls Tryz.prog 67 #[.pointer (some ⟨b, 0, none⟩), .int .i64 k, v] W (Does Q w0 p b tk dp (Ps.node k l s) W) := by
  have hbk : (l.any fun x => decide (x < 0) || decide ((s.nodes.length : Int) ≤ x)) = l.any (badKid s.nodes.length) := rfl
  unfold Ps.node
  rw [if_pos he, hbk]
  by_cases hb : l.any (badKid s.nodes.length) = true
  · rw [if_pos hb]
    refine (anc_node_bad (t := ⟨tk, s.nodes⟩) h.anc (by have := hw.2.2.2; show s.nodes.length ≤ _; omega) hk hP (by omega) hQ k hb).mono ?_
    rintro e W1 ⟨rfl, h1, h2⟩
    exact ⟨rfl, h.step h1 h2⟩
  · rw [if_neg hb]
    refine (anc_node (t := ⟨tk, s.nodes⟩) h.anc (by have := hw.2.2.2; show s.nodes.length ≤ _; omega) hk hP (by omega) hQ k (by simpa using hb)).mono ?_
    rintro e W1 ⟨rfl, h1, h2⟩
    exact ⟨rfl, h.step h1 h2⟩
theorem Wk.fail (hw : Wk tk s) (x : Int) : Wk tk (Ps.fail tk x s) := by
  unfold Ps.fail
  split
  · exact hw
  · exact hw

set_option maxRecDepth 100000 in
set_option maxHeartbeats 2000000 in
theorem pmust_calls (h : PI Q w0 W p b tk dp s) (hw : Wk tk s) {ts : List (List UInt8)} {P : Nat → Prop} {v : Value} (hv : RdS W P 1 v ts.length (strCells ts)) (hP : ∀ k, P k → k < W.heap.size) (hl : ts.length ≤ 1000) :
    Calls Tryz.prog 63 #[.pointer (some ⟨p, 0, none⟩), v] W (Does Q w0 p b tk dp (Ps.must tk ts s) W) := by
  have HP := Lib.hid h
  have HW := Lib.hid hw
  have hok := pok_calls h
  by_cases he : s.e = 0
  · rw [decide_eq_true he] at hok
    have HOK := Lib.hid hok
    have hnx := pnext_calls h hw hv hP hl
    obtain ⟨av, cv, rfl⟩ := hv.form
    unfold Ps.must
    by_cases hn : Ps.nextB tk ts s.used = true
    · rw [if_pos ⟨he, hn⟩]
      rw [hn] at hnx
      have HNX := Lib.hid hnx
      clear h hw hok he hn hnx hv hP
      go_enter Tryz.func63, Tryz.ntmps63
      go_wp2_with fail
      refine HOK.out.mono ?_
      rintro e W1 ⟨rfl, rfl⟩
      dsimp only
      go_wp2_with fail
      refine HNX.out.mono ?_
      rintro e W2 ⟨rfl, hb2⟩
      have c0 := (HP.out.past hb2).c0
      have H2 := Lib.hid hb2
      clear hb2
      dsimp only
      go_wp2_with fail
      refine (pleaf_calls (HP.out.past H2.out) HW.out).mono ?_
      rintro e W3 ⟨rfl, h3, h4⟩
      have H3 := Lib.hid (And.intro h3 h4)
      clear h3 h4 c0
      dsimp only
      go_wp2_with fail
      go_ret
      exact ⟨rfl, H3.out.1, (FrT.of H2.out).trans H3.out.2⟩
    · rw [if_neg (by simp [hn])]
      rw [Bool.not_eq_true] at hn
      rw [hn] at hnx
      have HNX := Lib.hid hnx
      clear h hw hok he hn hnx hv hP
      go_enter Tryz.func63, Tryz.ntmps63
      go_wp2_with fail
      refine HOK.out.mono ?_
      rintro e W1 ⟨rfl, rfl⟩
      dsimp only
      go_wp2_with fail
      refine HNX.out.mono ?_
      rintro e W2 ⟨rfl, hb2⟩
      have H2 := Lib.hid hb2
      clear hb2
      dsimp only
      go_wp2_with fail
      refine (pfail_calls (HP.out.past H2.out) HW.out 22).mono ?_
      rintro e W3 ⟨rfl, h3, h4⟩
      have H3 := Lib.hid (And.intro h3 h4)
      clear h3 h4
      dsimp only
      go_wp2_with fail
      go_ret
      exact ⟨rfl, H3.out.1, (FrT.of H2.out).trans H3.out.2⟩
  · rw [decide_eq_false he] at hok
    have HOK := Lib.hid hok
    obtain ⟨av, cv, rfl⟩ := hv.form
    unfold Ps.must
    rw [if_neg (by simp [he])]
    clear h hw hok he hv hP
    go_enter Tryz.func63, Tryz.ntmps63
    go_wp2_with fail
    refine HOK.out.mono ?_
    rintro e W1 ⟨rfl, rfl⟩
    dsimp only
    go_wp2_with fail
    refine (pfail_calls HP.out HW.out 22).mono ?_
    rintro e W3 ⟨rfl, h3, h4⟩
    have H3 := Lib.hid (And.intro h3 h4)
    clear h3 h4
    dsimp only
    go_wp2_with fail
    go_ret
    exact ⟨rfl, H3.out.1, H3.out.2⟩

set_option maxRecDepth 100000 in
set_option maxHeartbeats 2000000 in
theorem pkind_calls (h : PI Q w0 W p b tk dp s) (hw : Wk tk s) (k : Int) :
    Calls Tryz.prog 39 #[.pointer (some ⟨p, 0, none⟩), .int .i64 k] W (Does Q w0 p b tk dp (Ps.kind tk k s) W) := by
  have HP := Lib.hid h
  have HW := Lib.hid hw
  have hok := pok_calls h
  unfold Ps.kind
  by_cases he : s.e = 0
  · rw [decide_eq_true he] at hok
    have HOK := Lib.hid hok
    have hpk := anc_peek h.anc hw.1 hw.2.1 hw.2.2.1
    have c0 := h.c0
    by_cases hn : (Ps.peek tk s.used).kind = k
    · rw [if_pos ⟨he, hn⟩]
      rw [hn] at hpk
      have HPK := Lib.hid hpk
      clear h hw hok he hn hpk
      go_enter Tryz.func39, Tryz.ntmps39
      go_wp2_with fail
      refine HOK.out.mono ?_
      rintro e W1 ⟨rfl, rfl⟩
      dsimp only
      go_wp2_with fail
      refine HPK.out.mono ?_
      rintro e W2 ⟨rfl, hb2⟩
      have d0 := (HP.out.past hb2).c0
      have H2 := Lib.hid hb2
      have t0 := tok_field0 k ⟨(Ps.peek tk s.used).lead.toArray⟩ ⟨(Ps.peek tk s.used).text.toArray⟩ (Ps.peek tk s.used).pos W2
      clear hb2 c0
      dsimp only
      go_wp2_with fail
      refine (pleaf_calls (HP.out.past H2.out) HW.out).mono ?_
      rintro e W3 ⟨rfl, h3, h4⟩
      have H3 := Lib.hid (And.intro h3 h4)
      clear h3 h4 d0
      dsimp only
      go_wp2_with fail
      go_ret
      exact ⟨rfl, H3.out.1, (FrT.of H2.out).trans H3.out.2⟩
    · rw [if_neg (by simp [hn])]
      generalize (Ps.peek tk s.used).kind = kd at *
      have hn1 : (kd == k) = false := by simpa using hn
      have hn2 : (kd != k) = true := by simpa using hn
      have HPK := Lib.hid hpk
      clear h hw hok he hn hpk
      go_enter Tryz.func39, Tryz.ntmps39
      go_wp2_with fail
      refine HOK.out.mono ?_
      rintro e W1 ⟨rfl, rfl⟩
      dsimp only
      go_wp2_with fail
      refine HPK.out.mono ?_
      rintro e W2 ⟨rfl, hb2⟩
      have H2 := Lib.hid hb2
      have t0 := tok_field0 kd ⟨(Ps.peek tk s.used).lead.toArray⟩ ⟨(Ps.peek tk s.used).text.toArray⟩ (Ps.peek tk s.used).pos W2
      clear hb2 c0
      dsimp only
      go_wp2_with fail
      refine (pfail_calls (HP.out.past H2.out) HW.out 22).mono ?_
      rintro e W3 ⟨rfl, h3, h4⟩
      have H3 := Lib.hid (And.intro h3 h4)
      clear h3 h4
      dsimp only
      go_wp2_with fail
      go_ret
      exact ⟨rfl, H3.out.1, (FrT.of H2.out).trans H3.out.2⟩
  · rw [decide_eq_false he] at hok
    have HOK := Lib.hid hok
    rw [if_neg (by simp [he])]
    clear h hw hok he
    go_enter Tryz.func39, Tryz.ntmps39
    go_wp2_with fail
    refine HOK.out.mono ?_
    rintro e W1 ⟨rfl, rfl⟩
    dsimp only
    go_wp2_with fail
    refine (pfail_calls HP.out HW.out 22).mono ?_
    rintro e W3 ⟨rfl, h3, h4⟩
    have H3 := Lib.hid (And.intro h3 h4)
    clear h3 h4
    dsimp only
    go_wp2_with fail
    go_ret
    exact ⟨rfl, H3.out.1, H3.out.2⟩

set_option maxRecDepth 100000 in
set_option maxHeartbeats 2000000 in
theorem pnode_calls (h : PI Q w0 W p b tk dp s) (hw : Wk tk s) {P : Nat → Prop} {v : Value} {l : List Int} (hk : RdS W P 1 v l.length (intCells l)) (hP : ∀ k, P k → k < W.heap.size) (hl : l.length ≤ 1000000) (hQ : Up Q W) (k : Int) :
    Calls Tryz.prog 38 #[.pointer (some ⟨p, 0, none⟩), .int .i64 k, v] W (Does Q w0 p b tk dp (Ps.node k l s) W) := by
  have HP := Lib.hid h
  have hok := pok_calls h
  obtain ⟨av, cv, rfl⟩ := hk.form
  by_cases he : s.e = 0
  · have HN := Lib.hid (pbnode_calls h hw he hk hP hl hQ k)
    rw [decide_eq_true he] at hok
    have HOK := Lib.hid hok
    have c0 := h.c0
    clear h hw hok he hk hP hQ
    go_enter Tryz.func38, Tryz.ntmps38
    go_wp2_with fail
    refine HOK.out.mono ?_
    rintro e W1 ⟨rfl, rfl⟩
    dsimp only
    go_wp2_with fail
    refine HN.out.mono ?_
    rintro e W3 ⟨rfl, h3, h4⟩
    have H3 := Lib.hid (And.intro h3 h4)
    clear h3 h4 c0
    dsimp only
    go_wp2_with fail
    go_ret
    exact ⟨rfl, H3.out.1, H3.out.2⟩
  · rw [decide_eq_false he] at hok
    have HOK := Lib.hid hok
    have HE := Lib.hid he
    clear h hw hok he hk hP hQ
    go_enter Tryz.func38, Tryz.ntmps38
    go_wp2_with fail
    refine HOK.out.mono ?_
    rintro e W1 ⟨rfl, rfl⟩
    dsimp only
    go_wp2_with fail
    go_ret
    have e1 : Ps.node k l s = (0, s) := by unfold Ps.node; rw [if_neg HE.out]
    rw [e1]
    exact ⟨rfl, HP.out, FrT.refl _ _⟩

set_option maxRecDepth 100000 in
set_option maxHeartbeats 2000000 in
/-- Where d more may be nested. -/
theorem pdeep_calls (h : PI Q w0 W p b tk dp s) (hw : Wk tk s) {n : Int} {d : Nat} (hd : n + d = dp + 1) :
    Calls Tryz.prog 80 #[.pointer (some ⟨p, 0, none⟩), .int .i64 n] W fun e W' => e = .returned (.bool (decide ((Ps.deep tk d s).e ≠ 0))) ∧ PI Q w0 W' p b tk dp (Ps.deep tk d s) ∧ FrT PTs W W' := by
  have HP := Lib.hid h
  have HW := Lib.hid hw
  have c1 := h.c1
  unfold Ps.deep
  by_cases hz : d = 0
  · have hd1 : decide (dp < n) = true := decide_eq_true (by omega)
    rw [if_pos hz]
    clear h hw hz hd
    go_enter Tryz.func80, Tryz.ntmps80
    go_wp2_with fail
    refine (pfail_calls HP.out HW.out 23).mono ?_
    rintro e W3 ⟨rfl, h3, h4⟩
    have H3 := Lib.hid (And.intro h3 h4)
    clear h3 h4 c1
    dsimp only
    go_wp2_with fail
    refine (pok_calls H3.out.1).mono ?_
    rintro e W4 ⟨rfl, rfl⟩
    dsimp only
    go_wp2_with fail
    go_ret
    exact ⟨by simp, H3.out.1, H3.out.2⟩
  · have hd1 : decide (dp < n) = false := decide_eq_false (by omega)
    rw [if_neg hz]
    clear h hw hz hd
    go_enter Tryz.func80, Tryz.ntmps80
    go_wp2_with fail
    refine (pok_calls HP.out).mono ?_
    rintro e W4 ⟨rfl, rfl⟩
    dsimp only
    go_wp2_with fail
    go_ret
    exact ⟨by simp, HP.out, FrT.refl _ _⟩
end
end
end Go.Proofs.YtpkhdlnlkeehhaaGreatDoor
/- Layer 7 (parse) as plain functions: what the document's parser does. No program in sight. -/
namespace Go.Proofs.YtpkhdlnlkeehhaaGreatDoor.Pr
open Tr Ps

/-- The document's parser's state, but for its tokens and its depth. -/
structure Rs where
  i : Nat
  inn : Bool
  e : Int
  pos : Int
abbrev Txt := List UInt8
abbrev G := Rs → Txt × Rs

section
variable (tk : List Tk)
def tok (i : Nat) : Tk := (tk[i]?).getD ⟨0, [], [], 0⟩
def fail (e : Int) (s : Rs) : Rs := if s.e = 0 then { s with e := e, pos := (tok tk s.i).pos } else s
def is (x : Txt) (s : Rs) : Bool := decide (s.e = 0) && (decide ((tok tk s.i).kind = 2) || decide ((tok tk s.i).kind = 4)) && (tok tk s.i).text == x
def leaf (s : Rs) : Txt × Rs := if (tok tk s.i).kind = 5 then ([32, 36], s) else (32 :: (tok tk s.i).text, { s with i := s.i + 1 })
def must (x : Txt) (s : Rs) : Txt × Rs := if is tk x s then leaf tk s else ([], fail tk 22 s)
def kind (k : Int) (s : Rs) : Txt × Rs := if s.e = 0 ∧ (tok tk s.i).kind = k then leaf tk s else ([], fail tk 22 s)
def nest (d : Nat) (s : Rs) : Rs := if d = 0 then fail tk 23 s else s

/-- Does one of some texts come next? -/
def any (ts : List Txt) (s : Rs) : Bool := ts.any fun x => is tk x s
def bin (a g b : Txt) : Txt := [32, 40, 49, 48] ++ a ++ g ++ b ++ [41]
def rowGo (part : G) (ts : List Txt) : Nat → Txt → Rs → Txt × Rs
  | 0, a, s => (a, s)
  | n + 1, a, s => if any tk ts s then rowGo part ts n (bin a (leaf tk s).1 (part (leaf tk s).2).1) (part (leaf tk s).2).2 else (a, s)
def row (part : G) (ts : List Txt) (s : Rs) : Txt × Rs := rowGo tk part ts tk.length (part s).1 (part s).2
def unary (d : Nat) (behind : G) (s : Rs) : Txt × Rs :=
  let g := leaf tk s
  let s2 := nest tk d g.2
  if s2.e = 0 then
    let b := behind s2
    ([32, 40, 49, 49] ++ g.1 ++ b.1 ++ [41], b.2)
  else ([], s2)
def argsGo (ex : G) : Nat → Nat → Txt → Rs → Txt × Rs
  | 0, _, a, s => (a, s)
  | n + 1, k, a, s =>
    if is tk [44] s then
      let g := leaf tk s
      let s2 := if k = 8 then fail tk 15 g.2 else g.2
      let b := ex s2
      argsGo ex n (k + 1) (a ++ g.1 ++ b.1) b.2
    else (a, s)
def args (ex : G) (s : Rs) : Txt × Rs := argsGo tk ex tk.length 1 (ex s).1 (ex s).2

structure Lv where
  ex : G
  fo : G
  ne : G
  fa : G
def callee (a : Txt) (s : Rs) : Txt × Rs :=
  if is tk [46] s then
    let g := leaf tk s
    let k := kind tk 1 g.2
    (a ++ (g.1 ++ k.1), k.2)
  else (a, s)
def call (ex : G) (a : Txt) (s : Rs) : Txt × Rs :=
  let p := must tk [40] s
  let ls := if is tk [41] p.2 then (a ++ p.1, p.2) else ((a ++ p.1) ++ (args tk ex p.2).1, (args tk ex p.2).2)
  let q := must tk [41] ls.2
  ([32, 40, 49, 51] ++ ls.1 ++ q.1 ++ [41], q.2)
def name (ex : G) (s : Rs) : Txt × Rs :=
  let a := leaf tk s
  if a.2.inn || (!is tk [46] a.2 && !is tk [40] a.2) then ([32, 40, 49, 52] ++ a.1 ++ [41], a.2)
  else call tk ex (callee tk a.1 a.2).1 (callee tk a.1 a.2).2
def atom (ex : G) (s : Rs) : Txt × Rs :=
  if s.e = 0 then
    if (tok tk s.i).kind = 3 then ([32, 40, 49, 53] ++ (leaf tk s).1 ++ [41], (leaf tk s).2)
    else if is tk tTrue s || is tk tFalse s then ([32, 40, 49, 54] ++ (leaf tk s).1 ++ [41], (leaf tk s).2)
    else if s.inn && is tk tRes s then ([32, 40, 49, 55] ++ (leaf tk s).1 ++ [41], (leaf tk s).2)
    else if is tk [40] s then
      let a := leaf tk s
      let b := ex a.2
      let c := must tk [41] b.2
      ([32, 40, 49, 50] ++ a.1 ++ b.1 ++ c.1 ++ [41], c.2)
    else if (tok tk s.i).kind = 1 then name tk ex s
    else ([], fail tk 22 s)
  else ([], s)
def factor (d : Nat) (lo : Lv) (s : Rs) : Txt × Rs := if is tk [45] s then unary tk d lo.fa s else atom tk lo.ex s
def product (d : Nat) (lo : Lv) : G := row tk (factor tk d lo) sMul
def sum (d : Nat) (lo : Lv) : G := row tk (product tk d lo) sSum
def not (d : Nat) (lo : Lv) (s : Rs) : Txt × Rs :=
  if is tk tNot s then unary tk d lo.ne s
  else
    let a := sum tk d lo s
    if any tk sCmp a.2 then
      let g := leaf tk a.2
      let b := sum tk d lo g.2
      (bin a.1 g.1 b.1, b.2)
    else a
def and (d : Nat) (lo : Lv) : G := row tk (not tk d lo) sAnd
def or (d : Nat) (lo : Lv) : G := row tk (and tk d lo) sOr
def formula (d : Nat) (lo : Lv) (s : Rs) : Txt × Rs :=
  let a := or tk d lo s
  if is tk [61, 62] a.2 then
    let g := leaf tk a.2
    let s2 := nest tk d g.2
    if s2.e = 0 then
      let f := lo.fo s2
      (bin a.1 g.1 f.1, f.2)
    else ([], s2)
  else a
def exLet (ex : G) (s : Rs) : Txt × Rs :=
  let a := leaf tk s
  let b := kind tk 1 a.2
  let c := must tk [61] b.2
  let d := ex c.2
  let e := must tk tIn d.2
  let f := ex e.2
  ([32, 40, 55] ++ a.1 ++ b.1 ++ c.1 ++ d.1 ++ e.1 ++ f.1 ++ [41], f.2)
def exIf (ex : G) (s : Rs) : Txt × Rs :=
  let a := leaf tk s
  let b := ex a.2
  let c := must tk tThen b.2
  let d := ex c.2
  let e := must tk tElse d.2
  let f := ex e.2
  ([32, 40, 56] ++ a.1 ++ b.1 ++ c.1 ++ d.1 ++ e.1 ++ f.1 ++ [41], f.2)
def exAssert (ex : G) (s : Rs) : Txt × Rs :=
  let a := leaf tk s
  let b := ex a.2
  let c := must tk tIn b.2
  let d := ex c.2
  ([32, 40, 57] ++ a.1 ++ b.1 ++ c.1 ++ d.1 ++ [41], d.2)
def express (d : Nat) (lo : Lv) (s : Rs) : Txt × Rs :=
  if s.e = 0 then
    if !s.inn && is tk tLet s then exLet tk lo.ex s
    else if !s.inn && is tk tIf s then exIf tk lo.ex s
    else if !s.inn && is tk tAssert s then exAssert tk lo.ex s
    else formula tk d lo s
  else ([], s)
def lv : Nat → Lv
  | 0 => ⟨fun s => ([], fail tk 23 s), fun s => ([], s), fun s => ([], s), fun s => ([], s)⟩
  | d + 1 => ⟨express tk d (lv d), formula tk d (lv d), not tk d (lv d), factor tk d (lv d)⟩

variable (ex : G)
def base (a : Txt) (s : Rs) : Txt × Rs := if is tk tInt s || is tk tBool s then (a ++ ([32, 40, 53] ++ (leaf tk s).1 ++ [41]), (leaf tk s).2) else (a, fail tk 22 s)
def typed (s : Rs) : Txt × Rs :=
  let a := must tk [58] s
  let b := base tk a.1 a.2
  if is tk [123] b.2 then
    let g := leaf tk b.2
    let f := ex { g.2 with inn := true }
    let m := must tk [125] { f.2 with inn := false }
    (b.1 ++ ([32, 40, 54] ++ g.1 ++ f.1 ++ m.1 ++ [41]), m.2)
  else b
def param (s : Rs) : Txt × Rs :=
  let k := kind tk 1 s
  let t := typed tk ex k.2
  ([32, 40, 52] ++ k.1 ++ t.1 ++ [41], t.2)
def params (s : Rs) : Txt × Rs := args tk (param tk ex) s
def head (s : Rs) : Txt × Rs := if is tk tPub s then ([32, 40, 51] ++ (leaf tk s).1, (leaf tk s).2) else ([32, 40, 51], s)
def defHead (a : Txt) (s : Rs) : Txt × Rs :=
  let f := must tk tFun s
  let b := kind tk 1 f.2
  let c := must tk [40] b.2
  (a ++ (f.1 ++ b.1 ++ c.1), c.2)
def defList (a : Txt) (s : Rs) : Txt × Rs := if s.e = 0 ∧ is tk [41] s = false then (a ++ (params tk ex s).1, (params tk ex s).2) else (a, s)
def defRest (a : Txt) (s : Rs) : Txt × Rs :=
  let q := must tk [41] s
  let t := typed tk ex q.2
  let u := must tk [61] t.2
  let v := ex u.2
  let x := must tk [59] v.2
  (a ++ (q.1 ++ t.1 ++ u.1) ++ v.1 ++ x.1 ++ [41], x.2)
def defn (a : Txt) (s : Rs) : Txt × Rs :=
  let h := defHead tk a s
  let l := defList tk ex h.1 h.2
  defRest tk ex l.1 l.2
def definition (s : Rs) : Txt × Rs := defn tk ex (head tk s).1 (head tk s).2
def importsGo : Nat → Txt → Rs → Txt × Rs × Bool
  | 0, a, s => if is tk tImport s then ([], fail tk 15 s, false) else (a, s, true)
  | n + 1, a, s =>
    if is tk tImport s then
      let g := leaf tk s
      let k := kind tk 1 g.2
      let m := must tk [59] k.2
      importsGo n (a ++ ([32, 40, 50] ++ g.1 ++ k.1 ++ m.1 ++ [41])) m.2
    else (a, s, true)
def defsGo : Nat → Txt → Rs → Txt × Rs × Bool
  | 0, a, s => if is tk tPub s || is tk tFun s then ([], fail tk 15 s, false) else (a, s, true)
  | n + 1, a, s => if is tk tPub s || is tk tFun s then defsGo n (a ++ (definition tk ex s).1) (definition tk ex s).2 else (a, s, true)
def program (s : Rs) : Txt × Rs :=
  let a := importsGo tk 16 [40, 49] s
  if a.2.2 then
    let b := defsGo tk ex 64 a.1 a.2.1
    if b.2.2 then
      let c := kind tk 5 b.2.1
      (b.1 ++ c.1 ++ [41], c.2)
    else ([], b.2.1)
  else ([], a.2.1)
def alone (s : Rs) : Txt × Rs :=
  let f := ex { s with inn := true }
  let c := kind tk 5 f.2
  ([40, 49, 56] ++ f.1 ++ c.1 ++ [41], c.2)
end
def Rs.first : Rs := ⟨0, false, 0, 0⟩
end Go.Proofs.YtpkhdlnlkeehhaaGreatDoor.Pr
/- Plain: forests of nodes that a parser has made, and how they grow. No program in sight. -/
namespace Go.Proofs.YtpkhdlnlkeehhaaGreatDoor.Pc
open Tr Ps

theorem lv_app {ns m : List Nd} (h : Low ns) : ∀ (f i : Nat), i < ns.length → Tr.lv (ns ++ m) f i = Tr.lv ns f i
  | 0, _, _ => rfl
  | f + 1, i, hi => by
    unfold Tr.lv
    rw [List.getElem?_append_left hi]
    cases hn : ns[i]? with
    | none => rfl
    | some n =>
      simp only
      split
      · rfl
      · rw [List.flatMap_def, List.flatMap_def]
        congr 1
        apply List.map_congr_left
        intro k hk
        have := (h i n hn).1 k hk
        exact lv_app h f k.toNat (by omega)
theorem leafs_app {ns m : List Nd} (h : Low ns) {i : Nat} (hi : i < ns.length) : leafs (ns ++ m) i = leafs ns i := lv_app h _ _ hi
theorem dp_app {tk : List Tk} {ns m : List Nd} (h : Low ns) : ∀ (f i : Nat), i < ns.length → Tr.dp ⟨tk, ns ++ m⟩ f i = Tr.dp ⟨tk, ns⟩ f i
  | 0, _, _ => rfl
  | f + 1, i, hi => by
    unfold Tr.dp
    simp only
    rw [List.getElem?_append_left hi]
    cases hn : ns[i]? with
    | none => rfl
    | some n =>
      simp only
      split
      · rfl
      · rw [List.flatMap_def, List.flatMap_def]
        congr 3
        apply List.map_congr_left
        intro k hk
        have := (h i n hn).1 k hk
        rw [dp_app h f k.toNat (by omega)]
theorem dump_app {tk : List Tk} {ns m : List Nd} (h : Low ns) {i : Nat} (hi : i < ns.length) : dump ⟨tk, ns ++ m⟩ i = dump ⟨tk, ns⟩ i := dp_app h _ _ hi

/-- Each node is of the right form. -/
def Fm (tk : List Tk) (ns : List Nd) : Prop := ∀ (j : Nat) (n : Nd), ns[j]? = some n → formed ⟨tk, ns⟩ j n = true
theorem Fm.low {tk : List Tk} {ns : List Nd} (h : Fm tk ns) : Low ns := fun i n hn => formed_low (h i n hn)
theorem Fm.snoc {tk : List Tk} {ns : List Nd} (h : Fm tk ns) {n : Nd} (hn : formed ⟨tk, ns⟩ ns.length n = true) : Fm tk (ns ++ [n]) := by
  intro j x hj
  rcases Nat.lt_trichotomy j ns.length with h1 | h1 | h1
  · rw [List.getElem?_append_left h1] at hj
    exact h j x hj
  · subst h1
    rw [List.getElem?_append_right (Nat.le_refl _), Nat.sub_self] at hj
    simp only [List.getElem?_cons_zero, Option.some.injEq] at hj
    subst hj
    exact hn
  · rw [List.getElem?_eq_none (by simp; omega)] at hj
    cases hj

def ints (a n : Nat) : List Int := (List.range' a n).map Int.ofNat
theorem ints_app (a m n : Nat) : ints a m ++ ints (a + m) n = ints a (m + n) := by
  unfold ints
  rw [← List.map_append, List.range'_append_1]
theorem ints_one (a : Nat) : ints a 1 = [(a : Int)] := rfl
theorem mem_ints {a n : Nat} {x : Int} : x ∈ ints a n ↔ (a : Int) ≤ x ∧ x < ((a + n : Nat) : Int) := by
  unfold ints
  simp only [List.mem_map, List.mem_range'_1]
  constructor
  · rintro ⟨y, hy, rfl⟩
    show (a : Int) ≤ (y : Int) ∧ _
    simp only [Int.ofNat_eq_natCast]
    omega
  · rintro ⟨h1, h2⟩
    exact ⟨x.toNat, by omega, by simp only [Int.ofNat_eq_natCast]; omega⟩

/-- From one state to another: the nodes that have come are a forest with these roots, over the tokens that were used; and this is the roots' text. -/
structure Got (tk : List Tk) (s0 s : St) (l : List Int) (x : List UInt8) : Prop where
  nodes : ∃ m, s.nodes = s0.nodes ++ m ∧ (m.flatMap (·.kids) ++ l).Perm (ints s0.nodes.length m.length)
  used : s0.used ≤ s.used
  lvs : l.flatMap (fun k => leafs s.nodes k.toNat) = ints s0.used (s.used - s0.used)
  text : l.flatMap (fun k => 32 :: dump ⟨tk, s.nodes⟩ k.toNat) = x
  room : s.nodes.length + l.length + 3 * s0.used ≤ s0.nodes.length + 3 * s.used
theorem Got.nil (tk : List Tk) (s : St) : Got tk s s [] [] := ⟨⟨[], by simp [ints]⟩, Nat.le_refl _, by simp [ints], rfl, by simp⟩
/-- The roots are places of nodes. -/
theorem Got.mem {tk : List Tk} {s0 s : St} {l : List Int} {x : List UInt8} (h : Got tk s0 s l x) {k : Int} (hk : k ∈ l) : (s0.nodes.length : Int) ≤ k ∧ k < (s.nodes.length : Int) := by
  obtain ⟨m, hm, hp⟩ := h.nodes
  have h1 := hp.mem_iff.1 (List.mem_append_right _ hk)
  rw [mem_ints] at h1
  rw [hm, List.length_append]
  exact h1
theorem flatMap_congr' {α β : Type} {f g : α → List β} {l : List α} (h : ∀ x ∈ l, f x = g x) : l.flatMap f = l.flatMap g := by
  rw [List.flatMap_def, List.flatMap_def, List.map_congr_left h]
theorem Got.trans {tk : List Tk} {s0 s1 s2 : St} {l1 l2 : List Int} {x1 x2 : List UInt8} (hf : Fm tk s1.nodes) (h : Got tk s0 s1 l1 x1) (k : Got tk s1 s2 l2 x2) : Got tk s0 s2 (l1 ++ l2) (x1 ++ x2) := by
  obtain ⟨m1, e1, p1⟩ := h.nodes
  obtain ⟨m2, e2, p2⟩ := k.nodes
  have hlt : ∀ y ∈ l1, y.toNat < s1.nodes.length := fun y hy => by have := h.mem hy; omega
  have hu := h.used
  have ku := k.used
  refine ⟨⟨m1 ++ m2, by rw [e2, e1, List.append_assoc], ?_⟩, Nat.le_trans h.used k.used, ?_, ?_, ?_⟩
  · rw [List.length_append, ← ints_app, List.flatMap_append]
    have e3 : s0.nodes.length + m1.length = s1.nodes.length := by rw [e1, List.length_append]
    rw [e3]
    refine List.Perm.trans ?_ (p1.append p2)
    simp only [List.append_assoc]
    refine List.Perm.append_left _ ?_
    rw [← List.append_assoc, ← List.append_assoc]
    exact List.Perm.append_right _ List.perm_append_comm
  · rw [List.flatMap_append, k.lvs, flatMap_congr' (g := fun y => leafs s1.nodes y.toNat) (fun y hy => by rw [e2]; exact leafs_app hf.low (hlt y hy)), h.lvs]
    have e3 : s1.used = s0.used + (s1.used - s0.used) := by omega
    rw [e3, Nat.add_sub_cancel_left, ints_app]
    congr 1
    omega
  · rw [List.flatMap_append, k.text, flatMap_congr' (g := fun y => 32 :: dump ⟨tk, s1.nodes⟩ y.toNat) (fun y hy => by rw [e2, dump_app hf.low (hlt y hy)]), h.text]
  · have := h.room
    have := k.room
    rw [List.length_append]
    omega

theorem formed_leaf {tk : List Tk} {ns : List Nd} {i u : Nat} (h : u < tk.length) : formed ⟨tk, ns⟩ i ⟨19, (u : Int), []⟩ = true := by
  unfold formed
  rw [if_neg (by show ¬ ((19 : Int) < 1 ∨ (19 : Int) < 19); omega), if_pos rfl]
  simp only [List.isEmpty_nil, Bool.true_and, Bool.and_eq_true, decide_eq_true_eq]
  omega
theorem formed_node {tk : List Tk} {ns : List Nd} {i : Nat} {k : Int} {l : List Int} (hk : 1 ≤ k ∧ k ≤ 18) (hl : ∀ x ∈ l, 0 ≤ x ∧ x < (i : Int)) : formed ⟨tk, ns⟩ i ⟨k, -1, l⟩ = true := by
  unfold formed
  rw [if_neg (by show ¬ (k < 1 ∨ 19 < k); omega), if_neg (by show ¬ k = 19; omega)]
  simp only [decide_true, Bool.true_and, Bool.not_eq_true', List.any_eq_false]
  intro x hx
  have := hl x hx
  simp only [Bool.or_eq_true, decide_eq_true_eq, not_or]
  omega

/-- A leaf of the next token. -/
theorem got_leaf {tk : List Tk} {s : St} (hf : Fm tk s.nodes) {k : Tk} (hk : tk[s.used]? = some k) : Fm tk (leaf tk s).2.nodes ∧ (leaf tk s).2.used = s.used + 1 ∧ (leaf tk s).2.e = s.e ∧ (leaf tk s).2.nodes.length = s.nodes.length + 1 ∧ (leaf tk s).2.clause = s.clause ∧
    Got tk s (leaf tk s).2 [(leaf tk s).1] (32 :: ((if k.kind = 5 then [36] else []) ++ k.text)) := by
  have hu := get_lt hk
  have e : leaf tk s = ((s.nodes.length : Int), { s with nodes := s.nodes ++ [⟨19, (s.used : Int), []⟩], used := s.used + 1 }) := by unfold leaf; rw [if_neg (by omega)]
  rw [e]
  have hn : (s.nodes ++ [(⟨19, (s.used : Int), []⟩ : Nd)])[s.nodes.length]? = some ⟨19, (s.used : Int), []⟩ := by
    rw [List.getElem?_append_right (Nat.le_refl _), Nat.sub_self]; rfl
  refine ⟨hf.snoc (formed_leaf hu), rfl, rfl, by simp, rfl, ⟨[⟨19, (s.used : Int), []⟩], rfl, ?_⟩, Nat.le_succ _, ?_, ?_, by simp; omega⟩
  · exact List.Perm.refl _
  · simp only [List.flatMap_cons, List.flatMap_nil, List.append_nil, Int.toNat_natCast, Nat.add_sub_cancel_left]
    rw [leafs_leaf hn rfl, ints_one]
  · simp only [List.flatMap_cons, List.flatMap_nil, List.append_nil, Int.toNat_natCast]
    rw [dump_leaf (t := ⟨tk, s.nodes ++ [(⟨19, (s.used : Int), []⟩ : Nd)]⟩) hn rfl (show tk[((s.used : Int)).toNat]? = some k by simpa using hk)]

/-- A node of the roots. -/
theorem got_node {tk : List Tk} {s0 s : St} {l : List Int} {x : List UInt8} (hf : Fm tk s.nodes) (h : Got tk s0 s l x) (he : s.e = 0) {k : Int} (hk : 1 ≤ k ∧ k ≤ 18) (hr : s.nodes.length + 2 + 3 * s0.used ≤ s0.nodes.length + 3 * s.used) :
    Fm tk (node k l s).2.nodes ∧ (node k l s).2.used = s.used ∧ (node k l s).2.e = 0 ∧ (node k l s).2.nodes.length = s.nodes.length + 1 ∧ (node k l s).2.clause = s.clause ∧ Got tk s0 (node k l s).2 [(node k l s).1] ([32, 40] ++ Lib.decDigits k.toNat ++ x ++ [41]) := by
  have hm : ∀ y ∈ l, 0 ≤ y ∧ y < (s.nodes.length : Int) := fun y hy => by have := h.mem hy; omega
  have e : node k l s = ((s.nodes.length : Int), { s with nodes := s.nodes ++ [⟨k, -1, l⟩] }) := by
    unfold node
    rw [if_pos he, if_neg]
    simp only [List.any_eq_true, Bool.or_eq_true, decide_eq_true_eq, not_exists, not_and]
    intro y hy
    have := hm y hy
    omega
  rw [e]
  have hf2 : Fm tk (s.nodes ++ [⟨k, -1, l⟩]) := hf.snoc (formed_node hk hm)
  have hn : (s.nodes ++ [(⟨k, -1, l⟩ : Nd)])[s.nodes.length]? = some ⟨k, -1, l⟩ := by
    rw [List.getElem?_append_right (Nat.le_refl _), Nat.sub_self]; rfl
  obtain ⟨m, e1, p1⟩ := h.nodes
  refine ⟨hf2, rfl, he, by simp, rfl, ⟨m ++ [⟨k, -1, l⟩], by simp [e1], ?_⟩, h.used, ?_, ?_, by simp; omega⟩
  · rw [List.length_append, List.length_singleton, ← ints_app, ints_one, List.flatMap_append]
    have e3 : s0.nodes.length + m.length = s.nodes.length := by rw [e1, List.length_append]
    rw [e3]
    simp only [List.flatMap_cons, List.flatMap_nil, List.append_nil]
    exact p1.append_right _
  · simp only [List.flatMap_cons, List.flatMap_nil, List.append_nil, Int.toNat_natCast]
    rw [leafs_node hf2.low hn (by show k ≠ 19; omega), ← h.lvs]
    exact flatMap_congr' fun y hy => leafs_app hf.low (by have := hm y hy; omega)
  · simp only [List.flatMap_cons, List.flatMap_nil, List.append_nil, Int.toNat_natCast]
    rw [dump_node (t := ⟨tk, s.nodes ++ [(⟨k, -1, l⟩ : Nd)]⟩) hf2.low hn (by show k ≠ 19; omega), ← h.text]
    simp only [List.cons_append, List.nil_append, List.append_assoc, List.cons.injEq, true_and]
    congr 2
    exact flatMap_congr' fun y hy => by rw [dump_app hf.low (by have := hm y hy; omega)]
end Go.Proofs.YtpkhdlnlkeehhaaGreatDoor.Pc
/- Plain: the program's parser and the document's, step by step side by side. No program in sight. -/
namespace Go.Proofs.YtpkhdlnlkeehhaaGreatDoor.Pc
open Tr Ps

/-- Tokens as they come of a text: the last one, and no other, is the end. -/
structure Toks (tk : List Tk) : Prop where
  pos : 0 < tk.length
  last : ∀ k, tk[tk.length - 1]? = some k → k.kind = 5 ∧ k.text = []
  other : ∀ i k, i + 1 < tk.length → tk[i]? = some k → k.kind ≠ 5

def Inv (tk : List Tk) (s : St) : Prop := s.used + 1 ≤ tk.length ∧ s.nodes.length ≤ 3 * s.used ∧ Fm tk s.nodes
def Rel (s : St) (r : Pr.Rs) : Prop := r.e = s.e ∧ (s.e ≠ 0 → r.pos = s.pos) ∧ (s.e = 0 → r.i = s.used ∧ r.inn = s.clause)
def Out (tk : List Tk) (s0 s : St) (l : List Int) (r : Pr.Rs) (x : List UInt8) : Prop := Inv tk s0 ∧ Inv tk s ∧ Rel s r ∧ (s.e = 0 → Got tk s0 s l x)
structure SimL (tk : List Tk) (f : St → List Int × St) (g : Pr.G) : Prop where
  go : ∀ s r, s.e = 0 → Inv tk s → Rel s r → Out tk s (f s).2 (f s).1 (g r).2 (g r).1
  df : ∀ s, s.e ≠ 0 → (f s).2 = s
  dg : ∀ r, r.e ≠ 0 → (g r).2 = r
def lift (f : F) (s : St) : List Int × St := ([(f s).1], (f s).2)
abbrev Sim (tk : List Tk) (f : F) (g : Pr.G) : Prop := SimL tk (lift f) g

section
variable {tk : List Tk} {s0 s : St} {l : List Int} {r : Pr.Rs} {x : List UInt8}

theorem Out.cast (h : Out tk s0 s l r x) {y : List UInt8} (e : x = y) : Out tk s0 s l r y := e ▸ h
theorem Out.nil (hi : Inv tk s) (hr : Rel s r) : Out tk s s [] r [] := ⟨hi, hi, hr, fun _ => Got.nil _ _⟩
theorem Out.dead (h : Out tk s0 s l r x) (he : s.e ≠ 0) (l2 : List Int) (x2 : List UInt8) : Out tk s0 s l2 r x2 := ⟨h.1, h.2.1, h.2.2.1, fun h0 => absurd h0 he⟩
theorem Out.then (h : Out tk s0 s l r x) {f : St → List Int × St} {g : Pr.G} (k : SimL tk f g) : Out tk s0 (f s).2 (l ++ (f s).1) (g r).2 (x ++ (g r).1) := by
  by_cases he : s.e = 0
  · obtain ⟨_, h2, h3, h4⟩ := k.go s r he h.2.1 h.2.2.1
    exact ⟨h.1, h2, h3, fun e2 => (h.2.2.2 he).trans h.2.1.2.2 (h4 e2)⟩
  · have hr : r.e ≠ 0 := by rw [h.2.2.1.1]; exact he
    rw [k.df s he, k.dg r hr]
    exact h.dead he _ _

theorem Inv.get (h : Inv tk s) : ∃ k, tk[s.used]? = some k ∧ peek tk s.used = k ∧ Pr.tok tk s.used = k := by
  have h1 := h.1
  obtain ⟨k, hk⟩ : ∃ k, tk[s.used]? = some k := ⟨_, List.getElem?_eq_getElem (by omega)⟩
  refine ⟨k, hk, ?_, ?_⟩
  · unfold peek
    rw [Nat.min_eq_left (by omega), hk]
    rfl
  · unfold Pr.tok
    rw [hk]
    rfl
theorem peek_tok (hi : Inv tk s) (hr : Rel s r) (he : s.e = 0) : Pr.tok tk r.i = peek tk s.used := by
  obtain ⟨k, _, h2, h3⟩ := hi.get
  rw [(hr.2.2 he).1, h2, h3]
theorem is_dead (he : r.e ≠ 0) (y : List UInt8) : Pr.is tk y r = false := by
  unfold Pr.is
  rw [decide_eq_false he]
  rfl
theorem any_dead (he : r.e ≠ 0) (ts : List (List UInt8)) : Pr.any tk ts r = false := by
  unfold Pr.any
  rw [List.any_eq_false]
  intro y _
  rw [is_dead he]
  simp
theorem fail_dead {e : Int} (he : s.e ≠ 0) : fail tk e s = s := by unfold fail; rw [if_neg he]
theorem rfail_dead {e : Int} (he : r.e ≠ 0) : Pr.fail tk e r = r := by unfold Pr.fail; rw [if_neg he]
theorem is_eq (hi : Inv tk s) (hr : Rel s r) (he : s.e = 0) (y : List UInt8) : Pr.is tk y r = nextB tk [y] s.used := by
  unfold Pr.is nextB
  rw [peek_tok hi hr he, hr.1, decide_eq_true he, Bool.true_and]
  congr 1
  rw [Bool.eq_iff_iff]
  simp
theorem any_eq (hi : Inv tk s) (hr : Rel s r) (he : s.e = 0) (ts : List (List UInt8)) : Pr.any tk ts r = nextB tk ts s.used := by
  unfold Pr.any nextB
  have : ∀ y, Pr.is tk y r = ((decide ((peek tk s.used).kind = 2) || decide ((peek tk s.used).kind = 4)) && (peek tk s.used).text == y) := by
    intro y
    unfold Pr.is
    rw [peek_tok hi hr he, hr.1, decide_eq_true he, Bool.true_and]
  simp only [this]
  cases (decide ((peek tk s.used).kind = 2) || decide ((peek tk s.used).kind = 4)) with
  | false => simp
  | true => 
    simp only [Bool.true_and]
    rw [Bool.eq_iff_iff]
    simp
theorem both_any (h : Out tk s0 s l r x) (ts : List (List UInt8)) : (s.e = 0 ∧ nextB tk ts s.used = true) ↔ Pr.any tk ts r = true := by
  by_cases he : s.e = 0
  · rw [any_eq h.2.1 h.2.2.1 he]
    simp [he]
  · rw [any_dead (by rw [h.2.2.1.1]; exact he)]
    simp [he]
theorem both_is (h : Out tk s0 s l r x) (y : List UInt8) : (s.e = 0 ∧ nextB tk [y] s.used = true) ↔ Pr.is tk y r = true := by
  by_cases he : s.e = 0
  · rw [is_eq h.2.1 h.2.2.1 he]
    simp [he]
  · rw [is_dead (by rw [h.2.2.1.1]; exact he)]
    simp [he]
theorem next_kind {ts : List (List UInt8)} {u : Nat} (h : nextB tk ts u = true) : (peek tk u).kind ≠ 5 := by
  unfold nextB at h
  simp only [Bool.and_eq_true, Bool.or_eq_true, decide_eq_true_eq] at h
  omega

theorem Out.fail (h : Out tk s0 s l r x) {e : Int} (h0 : e ≠ 0) (l2 : List Int) (x2 : List UInt8) : Out tk s0 (fail tk e s) l2 (Pr.fail tk e r) x2 := by
  by_cases he : s.e = 0
  · have h1 : Ps.fail tk e s = { s with e := e, pos := (peek tk s.used).pos } := by unfold Ps.fail; rw [if_pos he]
    have h2 : Pr.fail tk e r = { r with e := e, pos := (Pr.tok tk r.i).pos } := by unfold Pr.fail; rw [if_pos (h.2.2.1.1.trans he)]
    rw [h1, h2, peek_tok h.2.1 h.2.2.1 he]
    exact ⟨h.1, h.2.1, ⟨rfl, fun _ => rfl, fun e2 => absurd e2 h0⟩, fun e2 => absurd e2 h0⟩
  · rw [fail_dead he, rfail_dead (by rw [h.2.2.1.1]; exact he)]
    exact h.dead he _ _
theorem Out.leaf (ht : Toks tk) (h : Out tk s0 s l r x) (he : s.e = 0) (hk : (peek tk s.used).kind ≠ 5) : Out tk s0 (leaf tk s).2 (l ++ [(leaf tk s).1]) (Pr.leaf tk r).2 (x ++ (Pr.leaf tk r).1) ∧ (Ps.leaf tk s).2.e = 0 := by
  obtain ⟨k, h1, h2, h3⟩ := h.2.1.get
  rw [h2] at hk
  obtain ⟨g1, g2, g3, g4, g6, g5⟩ := got_leaf h.2.1.2.2 h1
  rw [if_neg hk, List.nil_append] at g5
  have hl : Pr.leaf tk r = (32 :: k.text, { r with i := r.i + 1 }) := by
    unfold Pr.leaf
    rw [(h.2.2.1.2.2 he).1, h3, if_neg hk]
  have hlast : s.used + 2 ≤ tk.length := by
    have q := h.2.1.1
    rcases Nat.lt_or_ge (s.used + 1) tk.length with h4 | h4
    · exact h4
    · exact absurd (ht.last k (by rw [← h1]; congr 1; omega)).1 hk
  have q := h.2.1.2.1
  have r1 := (h.2.2.1.2.2 he).1
  rw [hl]
  refine ⟨⟨h.1, ⟨by rw [g2]; omega, by rw [g2, g4]; omega, g1⟩, ⟨?_, fun e2 => absurd (g3.trans he) e2, fun _ => ⟨by rw [g2, ← r1], ?_⟩⟩, fun _ => (h.2.2.2 he).trans h.2.1.2.2 g5⟩, g3.trans he⟩
  · rw [g3]
    exact h.2.2.1.1
  · rw [g6]
    exact (h.2.2.1.2.2 he).2
theorem Out.node (h : Out tk s0 s l r x) {k : Int} (hk : 1 ≤ k ∧ k ≤ 18) (hl : s.e = 0 → 2 ≤ l.length) : Out tk s0 (node k l s).2 [(node k l s).1] r ([32, 40] ++ Lib.decDigits k.toNat ++ x ++ [41]) := by
  by_cases he : s.e = 0
  · have hg := h.2.2.2 he
    have hr := hg.room
    have h2 := hl he
    obtain ⟨g1, g2, g3, g4, hc, g5⟩ := got_node h.2.1.2.2 hg he hk (by omega)
    have q := h.1.2.1
    refine ⟨h.1, ⟨by rw [g2]; exact h.2.1.1, by rw [g2, g4]; omega, g1⟩, ⟨by rw [g3, h.2.2.1.1, he], fun e2 => absurd g3 e2, fun _ => ⟨by rw [g2]; exact (h.2.2.1.2.2 he).1, by rw [hc]; exact (h.2.2.1.2.2 he).2⟩⟩, fun _ => g5⟩
  · have e1 : Ps.node k l s = (0, s) := by unfold Ps.node; rw [if_neg he]
    rw [e1]
    exact h.dead he _ _
theorem node_dead {k : Int} (he : s.e ≠ 0) : node k l s = (0, s) := by unfold node; rw [if_neg he]
/-- A leaf of its own, and the node over it. -/
theorem Out.one (ht : Toks tk) (hi : Inv tk s) (hr : Rel s r) (he : s.e = 0) (hk : (peek tk s.used).kind ≠ 5) {k : Int} (hk2 : 1 ≤ k ∧ k ≤ 18) :
    Out tk s (Ps.node k [(Ps.leaf tk s).1] (Ps.leaf tk s).2).2 [(Ps.node k [(Ps.leaf tk s).1] (Ps.leaf tk s).2).1] (Pr.leaf tk r).2 ([32, 40] ++ Lib.decDigits k.toNat ++ (Pr.leaf tk r).1 ++ [41]) := by
  have o1 := (Out.nil hi hr).leaf ht he hk
  obtain ⟨t, h1, h2, h3⟩ := hi.get
  obtain ⟨g1, g2, g3, g4, g6, g5⟩ := got_leaf hi.2.2 h1
  have o := o1.1
  have hg : Got tk s (Ps.leaf tk s).2 [(Ps.leaf tk s).1] (Pr.leaf tk r).1 := by simpa using o.2.2.2 o1.2
  obtain ⟨k1, k2, k3, k4, hc, k5⟩ := got_node o.2.1.2.2 hg o1.2 hk2 (by rw [g4, g2]; omega)
  have q := hi.2.1
  refine ⟨hi, ⟨by rw [k2]; exact o.2.1.1, by rw [k2, k4, g4, g2]; omega, k1⟩, ⟨by rw [k3, o.2.2.1.1, o1.2], fun e2 => absurd k3 e2, fun _ => ⟨by rw [k2]; exact (o.2.2.1.2.2 o1.2).1, by rw [hc]; exact (o.2.2.1.2.2 o1.2).2⟩⟩, fun _ => k5⟩
end

section
variable {tk : List Tk}

theorem sim_must (ht : Toks tk) (y : List UInt8) : Sim tk (must tk [y]) (Pr.must tk y) := by
  refine ⟨fun s r he hi hr => ?_, fun s he => ?_, fun r he => ?_⟩
  · have o := Out.nil hi hr
    have hb := is_eq hi hr he y
    unfold lift must Pr.must
    by_cases h : nextB tk [y] s.used = true
    · rw [if_pos ⟨he, h⟩, if_pos (by rw [hb]; exact h)]
      exact (o.leaf ht he (next_kind h)).1
    · rw [if_neg (by simp [h]), if_neg (by rw [hb]; exact h)]
      exact o.fail (by decide) _ _
  · unfold lift must
    rw [if_neg (by simp [he]), fail_dead he]
  · unfold Pr.must
    rw [is_dead he, if_neg (by simp), rfail_dead he]
theorem sim_kind (ht : Toks tk) {k : Int} (h5 : k ≠ 5) : Sim tk (kind tk k) (Pr.kind tk k) := by
  refine ⟨fun s r he hi hr => ?_, fun s he => ?_, fun r he => ?_⟩
  · have o := Out.nil hi hr
    have hb := peek_tok hi hr he
    unfold lift kind Pr.kind
    by_cases h : (peek tk s.used).kind = k
    · rw [if_pos ⟨he, h⟩, if_pos ⟨hr.1.trans he, by rw [hb]; exact h⟩]
      exact (o.leaf ht he (by rw [h]; exact h5)).1
    · rw [if_neg (by simp [h]), if_neg (by rw [hb]; simp [h])]
      exact o.fail (by decide) _ _
  · unfold lift kind
    rw [if_neg (by simp [he]), fail_dead he]
  · unfold Pr.kind
    rw [if_neg (by simp [he]), rfail_dead he]

/-- A row's parts. -/
theorem sim_rowGo (ht : Toks tk) {part : F} {gpart : Pr.G} (hp : Sim tk part gpart) (ts : List (List UInt8)) : ∀ (n : Nat) {s0 s : St} {a : Int} {r : Pr.Rs} {x : List UInt8}, Out tk s0 s [a] r x →
    Out tk s0 (rowGo tk part ts false n a s).2 [(rowGo tk part ts false n a s).1] (Pr.rowGo tk gpart ts n x r).2 (Pr.rowGo tk gpart ts n x r).1
  | 0, _, _, _, _, _, o => o
  | n + 1, s0, s, a, r, x, o => by
    unfold rowGo Pr.rowGo
    have hb := both_any o ts
    by_cases h : s.e = 0 ∧ nextB tk ts s.used = true
    · rw [if_pos h, if_pos (hb.1 h)]
      have o1 := (o.leaf ht h.1 (next_kind h.2)).1.then hp
      have o2 := (o1.node (k := 10) (by decide) (fun _ => by simp [lift])).cast (y := Pr.bin x (Pr.leaf tk r).1 (gpart (Pr.leaf tk r).2).1) (by simp [Pr.bin, Lib.decDigits_two, List.append_assoc])
      exact sim_rowGo ht hp ts n o2
    · rw [if_neg h, if_neg (fun e => h (hb.2 e))]
      exact o
theorem rowGo_dead {part : F} {ts : List (List UInt8)} {once : Bool} {s : St} (he : s.e ≠ 0) : ∀ (n : Nat) (a : Int), (rowGo tk part ts once n a s).2 = s
  | 0, _ => rfl
  | n + 1, a => by unfold rowGo; rw [if_neg (by simp [he])]
theorem rrowGo_dead {part : Pr.G} {ts : List (List UInt8)} {r : Pr.Rs} (he : r.e ≠ 0) : ∀ (n : Nat) (x : List UInt8), (Pr.rowGo tk part ts n x r).2 = r
  | 0, _ => rfl
  | n + 1, a => by unfold Pr.rowGo; rw [if_neg (by rw [any_dead he]; simp)]
theorem sim_row (ht : Toks tk) {part : F} {gpart : Pr.G} (hp : Sim tk part gpart) (ts : List (List UInt8)) : Sim tk (row tk part ts false) (Pr.row tk gpart ts) := by
  refine ⟨fun s r he hi hr => ?_, fun s he => ?_, fun r he => ?_⟩
  · exact sim_rowGo ht hp ts tk.length (hp.go s r he hi hr)
  · have h1 : (part s).2 = s := hp.df s he
    unfold lift row
    rw [h1]
    exact rowGo_dead he _ _
  · have h1 := hp.dg r he
    unfold Pr.row
    rw [h1]
    exact rrowGo_dead he _ _
end
end Go.Proofs.YtpkhdlnlkeehhaaGreatDoor.Pc
/- Plain: the two parsers, level by level. No program in sight. -/
namespace Go.Proofs.YtpkhdlnlkeehhaaGreatDoor.Pc
open Tr Ps

theorem dig1 : Lib.decDigits (1 : Int).toNat = [49] := by decide +kernel
theorem dig2 : Lib.decDigits (2 : Int).toNat = [50] := by decide +kernel
theorem dig3 : Lib.decDigits (3 : Int).toNat = [51] := by decide +kernel
theorem dig4 : Lib.decDigits (4 : Int).toNat = [52] := by decide +kernel
theorem dig5 : Lib.decDigits (5 : Int).toNat = [53] := by decide +kernel
theorem dig6 : Lib.decDigits (6 : Int).toNat = [54] := by decide +kernel
theorem dig7 : Lib.decDigits (7 : Int).toNat = [55] := by decide +kernel
theorem dig8 : Lib.decDigits (8 : Int).toNat = [56] := by decide +kernel
theorem dig9 : Lib.decDigits (9 : Int).toNat = [57] := by decide +kernel
theorem dig10 : Lib.decDigits (10 : Int).toNat = [49, 48] := by decide +kernel
theorem dig11 : Lib.decDigits (11 : Int).toNat = [49, 49] := by decide +kernel
theorem dig12 : Lib.decDigits (12 : Int).toNat = [49, 50] := by decide +kernel
theorem dig13 : Lib.decDigits (13 : Int).toNat = [49, 51] := by decide +kernel
theorem dig14 : Lib.decDigits (14 : Int).toNat = [49, 52] := by decide +kernel
theorem dig15 : Lib.decDigits (15 : Int).toNat = [49, 53] := by decide +kernel
theorem dig16 : Lib.decDigits (16 : Int).toNat = [49, 54] := by decide +kernel
theorem dig17 : Lib.decDigits (17 : Int).toNat = [49, 55] := by decide +kernel
theorem dig18 : Lib.decDigits (18 : Int).toNat = [49, 56] := by decide +kernel

section
variable {tk : List Tk}

theorem out_if {p : Prop} [Decidable p] {q : Bool} {s0 : St} {f1 f2 : List Int × St} {g1 g2 : List UInt8 × Pr.Rs} (hpq : p ↔ q = true) (h1 : p → Out tk s0 f1.2 f1.1 g1.2 g1.1) (h2 : ¬ p → Out tk s0 f2.2 f2.1 g2.2 g2.1) :
    Out tk s0 (if p then f1 else f2).2 (if p then f1 else f2).1 (if q = true then g1 else g2).2 (if q = true then g1 else g2).1 := by
  by_cases h : p
  · rw [if_pos h, if_pos (hpq.1 h)]
    exact h1 h
  · rw [if_neg h, if_neg (fun e => h (hpq.2 e))]
    exact h2 h

/-- Things with commas between them: behind the first of so many. -/
theorem sim_listGo (ht : Toks tk) {one : F} {gone : Pr.G} (ho : Sim tk one gone) : ∀ (n k c : Nat) {s0 s : St} {l : List Int} {r : Pr.Rs} {x : List UInt8}, c + k = 8 → tk.length ≤ n + s.used → Out tk s0 s l r x →
    Out tk s0 (if s.e = 0 ∧ nextB tk [[44]] s.used = true then listGo tk one k (l ++ [(leaf tk s).1]) (leaf tk s).2 else (l, s)).2 (if s.e = 0 ∧ nextB tk [[44]] s.used = true then listGo tk one k (l ++ [(leaf tk s).1]) (leaf tk s).2 else (l, s)).1 (Pr.argsGo tk gone n c x r).2 (Pr.argsGo tk gone n c x r).1
  | 0, k, c, s0, s, l, r, x, _, hn, o => by
    have := o.2.1.1
    omega
  | n + 1, k, c, s0, s, l, r, x, hc, hn, o => by
    have hb := both_is o [44]
    unfold Pr.argsGo
    refine out_if hb (fun h => ?_) (fun _ => o)
    obtain ⟨o1, e1⟩ := o.leaf ht h.1 (next_kind h.2)
    cases k with
    | zero =>
      obtain rfl : c = 8 := by omega
      unfold listGo
      simp only [if_true]
      have o2 := o1.fail (e := 15) (by decide) (l ++ [(leaf tk s).1]) (x ++ (Pr.leaf tk r).1)
      have hd : (Pr.fail tk 15 (Pr.leaf tk r).2).e ≠ 0 := by
        rw [o2.2.2.1.1]
        unfold fail
        rw [if_pos e1]
        show (15 : Int) ≠ 0
        decide
      rw [ho.dg _ hd]
      have hg : ∀ (m c : Nat) (y : List UInt8), (Pr.argsGo tk gone m c y (Pr.fail tk 15 (Pr.leaf tk r).2)).2 = Pr.fail tk 15 (Pr.leaf tk r).2 := by
        intro m c y
        cases m with
        | zero => rfl
        | succ m => unfold Pr.argsGo; rw [is_dead hd, if_neg (by simp)]
      rw [hg]
      have hd2 : (fail tk 15 (leaf tk s).2).e ≠ 0 := by rw [← o2.2.2.1.1]; exact hd
      exact o2.dead hd2 _ _
    | succ k =>
      have hc8 : c ≠ 8 := by omega
      unfold listGo
      simp only [if_neg hc8, if_pos e1]
      have o2 := o1.then ho
      have hu : (leaf tk s).2.used = s.used + 1 := by
        obtain ⟨t, h1, _⟩ := o.2.1.get
        exact (got_leaf o.2.1.2.2 h1).2.1
      have hm : (leaf tk s).2.used ≤ (one (leaf tk s).2).2.used ∨ (one (leaf tk s).2).2.e ≠ 0 := by
        by_cases he : (one (leaf tk s).2).2.e = 0
        · obtain ⟨_, _, _, h4⟩ := ho.go (leaf tk s).2 (Pr.leaf tk r).2 e1 o1.2.1 o1.2.2.1
          exact Or.inl (h4 he).used
        · exact Or.inr he
      rcases hm with hm | hm
      · have := sim_listGo ht ho n k (c + 1) (by omega) (by rw [hu] at hm; show tk.length ≤ n + (one (leaf tk s).2).2.used; omega) o2
        simp only [lift, List.append_assoc, List.cons_append, List.nil_append] at this ⊢
        exact this
      · simp only [lift] at o2
        rw [if_neg (by simp [hm])]
        have hd : (gone (Pr.leaf tk r).2).2.e ≠ 0 := by rw [o2.2.2.1.1]; exact hm
        have hg : ∀ (m c : Nat) (y : List UInt8), (Pr.argsGo tk gone m c y (gone (Pr.leaf tk r).2).2).2 = (gone (Pr.leaf tk r).2).2 := by
          intro m c y
          cases m with
          | zero => rfl
          | succ m => unfold Pr.argsGo; rw [is_dead hd, if_neg (by simp)]
        rw [hg]
        exact o2.dead hm _ _
theorem rargs_dead {gone : Pr.G} {r : Pr.Rs} (he : r.e ≠ 0) : ∀ (n c : Nat) (x : List UInt8), (Pr.argsGo tk gone n c x r).2 = r
  | 0, _, _ => rfl
  | n + 1, c, x => by unfold Pr.argsGo; rw [is_dead he, if_neg (by simp)]
/-- The list behind a parenthesis, where none is shut at once. -/
theorem sim_list (ht : Toks tk) {one : F} {gone : Pr.G} (ho : Sim tk one gone) {s0 s : St} {l : List Int} {r : Pr.Rs} {x : List UInt8} (o : Out tk s0 s l r x) :
    Out tk s0 (list tk one s).2 (l ++ (list tk one s).1) (if r.e = 0 ∧ Pr.is tk [41] r = false then (x ++ (Pr.args tk gone r).1, (Pr.args tk gone r).2) else (x, r)).2 (if r.e = 0 ∧ Pr.is tk [41] r = false then (x ++ (Pr.args tk gone r).1, (Pr.args tk gone r).2) else (x, r)).1 := by
  by_cases he : s.e = 0
  · have hb := is_eq o.2.1 o.2.2.1 he [41]
    unfold list
    by_cases hn : nextB tk [[41]] s.used = true
    · rw [if_pos hn, if_neg (by rw [hb, hn]; simp), List.append_nil]
      exact o
    · rw [if_neg hn, if_pos ⟨o.2.2.1.1.trans he, by rw [hb]; simpa using hn⟩]
      have hf : Out tk s (one s).2 [(one s).1] (gone r).2 (gone r).1 := ho.go s r he o.2.1 o.2.2.1
      unfold listGo Pr.args
      rw [if_pos he]
      have hm : s.used ≤ (one s).2.used ∨ (one s).2.e ≠ 0 := by
        by_cases h2 : (one s).2.e = 0
        · exact Or.inl (hf.2.2.2 h2).used
        · exact Or.inr h2
      have h4 : Out tk s (if (one s).2.e = 0 ∧ nextB tk [[44]] (one s).2.used = true then listGo tk one 7 ([(one s).1] ++ [(leaf tk (one s).2).1]) (leaf tk (one s).2).2 else ([(one s).1], (one s).2)).2 (if (one s).2.e = 0 ∧ nextB tk [[44]] (one s).2.used = true then listGo tk one 7 ([(one s).1] ++ [(leaf tk (one s).2).1]) (leaf tk (one s).2).2 else ([(one s).1], (one s).2)).1 (Pr.argsGo tk gone tk.length 1 (gone r).1 (gone r).2).2 (Pr.argsGo tk gone tk.length 1 (gone r).1 (gone r).2).1 := by
        by_cases h2 : (one s).2.e = 0
        · exact sim_listGo ht ho tk.length 7 1 (by omega) (by omega) hf
        · rw [if_neg (by simp [h2]), rargs_dead (by rw [hf.2.2.1.1]; exact h2)]
          exact hf.dead h2 _ _
      simp only [List.nil_append, List.singleton_append] at h4 ⊢
      exact ⟨o.1, h4.2.1, h4.2.2.1, fun e2 => (o.2.2.2 he).trans o.2.1.2.2 (h4.2.2.2 e2)⟩
  · have h1 : list tk one s = ([], s) := by
      unfold list
      split
      · rfl
      · unfold listGo; rw [if_neg he]
    rw [h1, if_neg (by rw [o.2.2.1.1]; simp [he])]
    exact o.dead he _ _
theorem list_dead {one : F} {s : St} (he : s.e ≠ 0) : list tk one s = ([], s) := by
  unfold list
  split
  · rfl
  · unfold listGo; rw [if_neg he]

theorem lift_dead {f : F} {s : St} (h : (lift f s).2 = s) : (f s).2 = s := h

/-- Once there is a fault nothing is turned. -/
theorem must_dead {ts : List (List UInt8)} {s : St} (he : s.e ≠ 0) : must tk ts s = (0, s) := by
  unfold must
  rw [if_neg (by simp [he]), fail_dead he]
theorem kind_dead {k : Int} {s : St} (he : s.e ≠ 0) : kind tk k s = (0, s) := by
  unfold kind
  rw [if_neg (by simp [he]), fail_dead he]
theorem rmust_dead {y : List UInt8} {r : Pr.Rs} (he : r.e ≠ 0) : Pr.must tk y r = ([], r) := by
  unfold Pr.must
  rw [is_dead he, if_neg (by simp), rfail_dead he]
theorem rkind_dead {k : Int} {r : Pr.Rs} (he : r.e ≠ 0) : Pr.kind tk k r = ([], r) := by
  unfold Pr.kind
  rw [if_neg (by simp [he]), rfail_dead he]

/-- A level's four. -/
structure SimV (tk : List Tk) (d : Nat) (lo : Ps.Lv) (glo : Pr.Lv) : Prop where
  ex : Sim tk lo.ex glo.ex
  rest : d ≠ 0 → Sim tk lo.fo glo.fo ∧ Sim tk lo.ne glo.ne ∧ Sim tk lo.fa glo.fa

theorem sim_unary (ht : Toks tk) {d : Nat} {f : F} {g : Pr.G} (hf : d ≠ 0 → Sim tk f g) {s : St} {r : Pr.Rs} (he : s.e = 0) (hi : Inv tk s) (hr : Rel s r) (hk : (peek tk s.used).kind ≠ 5) :
    Out tk s (unary tk d f s).2 [(unary tk d f s).1] (Pr.unary tk d g r).2 (Pr.unary tk d g r).1 := by
  obtain ⟨o, e1⟩ := (Out.nil hi hr).leaf ht he hk
  have re1 : (Pr.leaf tk r).2.e = 0 := o.2.2.1.1.trans e1
  unfold unary Pr.unary deep Pr.nest
  by_cases hd : d = 0
  · simp only [if_pos hd]
    have o2 := o.fail (e := 23) (by decide) [0] []
    have h1 : (fail tk 23 (leaf tk s).2).e ≠ 0 := by unfold fail; rw [if_pos e1]; show (23 : Int) ≠ 0; decide
    rw [if_neg h1, if_neg (by rw [o2.2.2.1.1]; exact h1)]
    exact o2
  · simp only [if_neg hd, if_pos e1, if_pos re1]
    exact ((o.then (hf hd)).node (k := 11) (by decide) (fun _ => by simp [lift])).cast (by rw [dig11]; simp)

theorem sim_list' (ht : Toks tk) {one : F} {gone : Pr.G} (ho : Sim tk one gone) {s0 s : St} {l : List Int} {r : Pr.Rs} {x : List UInt8} (o : Out tk s0 s l r x) :
    Out tk s0 (list tk one s).2 (l ++ (list tk one s).1) (if Pr.is tk [41] r then (x, r) else (x ++ (Pr.args tk gone r).1, (Pr.args tk gone r).2)).2 (if Pr.is tk [41] r then (x, r) else (x ++ (Pr.args tk gone r).1, (Pr.args tk gone r).2)).1 := by
  have o1 := sim_list ht ho o
  by_cases he : r.e = 0
  · cases h : Pr.is tk [41] r
    · rw [h, if_pos ⟨he, rfl⟩] at o1
      rw [if_neg (by simp)]
      exact o1
    · rw [h, if_neg (by simp)] at o1
      rw [if_pos rfl]
      exact o1
  · have hs : s.e ≠ 0 := by rw [← o.2.2.1.1]; exact he
    rw [list_dead hs, is_dead he, if_neg (by simp)]
    have hd : (Pr.args tk gone r).2 = r := by
      unfold Pr.args
      rw [ho.dg _ he, rargs_dead he]
    rw [hd]
    exact o.dead hs _ _
theorem sim_call (ht : Toks tk) {ex : F} {g : Pr.G} (hx : Sim tk ex g) {s0 s : St} {l : List Int} {r : Pr.Rs} {x : List UInt8} (hl : 1 ≤ l.length) (o : Out tk s0 s l r x) :
    Out tk s0 (call tk ex l s).2 [(call tk ex l s).1] (Pr.call tk g x r).2 (Pr.call tk g x r).1 :=
  (((sim_list' ht hx (o.then (sim_must ht [40]))).then (sim_must ht [41])).node (k := 13) (by decide) (fun _ => by simp [lift]; omega)).cast (by rw [dig13]; simp [Pr.call])
theorem sim_callee (ht : Toks tk) {s0 s : St} {a : Int} {r : Pr.Rs} {x : List UInt8} (he : s.e = 0) (o : Out tk s0 s [a] r x) :
    Out tk s0 (callee tk s a).2 (callee tk s a).1 (Pr.callee tk x r).2 (Pr.callee tk x r).1 ∧ 1 ≤ (callee tk s a).1.length := by
  have hb := is_eq o.2.1 o.2.2.1 he [46]
  unfold callee Pr.callee
  by_cases h : nextB tk [[46]] s.used = true
  · rw [if_pos h, if_pos (by rw [hb]; exact h)]
    exact ⟨((o.leaf ht he (next_kind h)).1.then (sim_kind ht (k := 1) (by decide))).cast (by simp), by simp⟩
  · rw [if_neg h, if_neg (by rw [hb]; exact h)]
    exact ⟨o, by simp⟩
theorem sim_name (ht : Toks tk) {ex : F} {g : Pr.G} (hx : Sim tk ex g) {s : St} {r : Pr.Rs} (he : s.e = 0) (hi : Inv tk s) (hr : Rel s r) (hk : (peek tk s.used).kind ≠ 5) :
    Out tk s (name tk ex s).2 [(name tk ex s).1] (Pr.name tk g r).2 (Pr.name tk g r).1 := by
  obtain ⟨o, e1⟩ := (Out.nil hi hr).leaf ht he hk
  have hc : (Pr.leaf tk r).2.inn = (leaf tk s).2.clause := (o.2.2.1.2.2 e1).2
  have h1 := is_eq o.2.1 o.2.2.1 e1 [46]
  have h2 := is_eq o.2.1 o.2.2.1 e1 [40]
  have h3 : nextB tk [[46], [40]] (leaf tk s).2.used = (nextB tk [[46]] (leaf tk s).2.used || nextB tk [[40]] (leaf tk s).2.used) := by
    have q := any_eq o.2.1 o.2.2.1 e1 [[46], [40]]
    rw [← q, ← h1, ← h2]
    simp [Pr.any]
  unfold name Pr.name
  simp only
  rw [hc, h1, h2, h3, Bool.not_or]
  by_cases h : ((leaf tk s).2.clause || (!nextB tk [[46]] (leaf tk s).2.used && !nextB tk [[40]] (leaf tk s).2.used)) = true
  · rw [if_pos h, if_pos h]
    exact (Out.one ht hi hr he hk (k := 14) (by decide)).cast (by rw [dig14]; simp)
  · rw [if_neg h, if_neg h]
    rw [List.nil_append, List.nil_append] at o
    have o2 := sim_callee ht e1 o
    exact sim_call ht hx o2.2 o2.1
theorem sim_atom (ht : Toks tk) {ex : F} {g : Pr.G} (hx : Sim tk ex g) : Sim tk (atom tk ex) (Pr.atom tk g) := by
  refine ⟨fun s r he hi hr => ?_, fun s he => ?_, fun r he => ?_⟩
  · have o := Out.nil hi hr
    have hp := peek_tok hi hr he
    have b1 := is_eq hi hr he tTrue
    have b2 := is_eq hi hr he tFalse
    have b3 := is_eq hi hr he tRes
    have b4 := is_eq hi hr he [40]
    have b5 : nextB tk [tTrue, tFalse] s.used = (nextB tk [tTrue] s.used || nextB tk [tFalse] s.used) := by
      have q := any_eq hi hr he [tTrue, tFalse]
      rw [← q, ← b1, ← b2]
      simp [Pr.any]
    have hc := (hr.2.2 he).2
    unfold lift atom Pr.atom
    simp only [if_pos he, if_pos (hr.1.trans he)]
    rw [hp, b1, b2, b3, b4, hc, b5]
    by_cases h1 : (peek tk s.used).kind = 3
    · rw [if_pos h1, if_pos h1]
      exact (Out.one ht hi hr he (by omega) (k := 15) (by decide)).cast (by rw [dig15]; simp)
    · rw [if_neg h1, if_neg h1]
      by_cases h2 : (nextB tk [tTrue] s.used || nextB tk [tFalse] s.used) = true
      · rw [if_pos h2, if_pos h2]
        exact (Out.one ht hi hr he (next_kind (b5.trans h2)) (k := 16) (by decide)).cast (by rw [dig16]; simp)
      · rw [if_neg h2, if_neg h2]
        by_cases h3 : (s.clause && nextB tk [tRes] s.used) = true
        · rw [if_pos h3, if_pos h3]
          exact (Out.one ht hi hr he (next_kind (by simp only [Bool.and_eq_true] at h3; exact h3.2)) (k := 17) (by decide)).cast (by rw [dig17]; simp)
        · rw [if_neg h3, if_neg h3]
          by_cases h4 : nextB tk [[40]] s.used = true
          · rw [if_pos h4, if_pos h4]
            exact ((((o.leaf ht he (next_kind h4)).1.then hx).then (sim_must ht [41])).node (k := 12) (by decide) (fun _ => by simp [lift])).cast (by rw [dig12]; simp)
          · rw [if_neg h4, if_neg h4]
            by_cases h5 : (peek tk s.used).kind = 1
            · rw [if_pos h5, if_pos h5]
              exact sim_name ht hx he hi hr (by omega)
            · rw [if_neg h5, if_neg h5]
              exact o.fail (by decide) _ _
  · unfold lift atom
    rw [if_neg he]
  · unfold Pr.atom
    rw [if_neg he]
theorem sim_factor (ht : Toks tk) {d : Nat} {lo : Ps.Lv} {glo : Pr.Lv} (h : SimV tk d lo glo) : Sim tk (factor tk d lo) (Pr.factor tk d glo) := by
  have ha := sim_atom ht h.ex
  refine ⟨fun s r he hi hr => ?_, fun s he => ?_, fun r he => ?_⟩
  · have hb := is_eq hi hr he [45]
    unfold lift factor Pr.factor
    by_cases hn : nextB tk [[45]] s.used = true
    · rw [if_pos ⟨he, hn⟩, if_pos (by rw [hb]; exact hn)]
      exact sim_unary ht (fun hd => (h.rest hd).2.2) he hi hr (next_kind hn)
    · rw [if_neg (by simp [hn]), if_neg (by rw [hb]; exact hn)]
      exact ha.go s r he hi hr
  · unfold lift factor
    rw [if_neg (by simp [he])]
    exact ha.df s he
  · unfold Pr.factor
    rw [is_dead he, if_neg (by simp)]
    exact ha.dg r he
theorem sim_comparison (ht : Toks tk) {d : Nat} {lo : Ps.Lv} {glo : Pr.Lv} (h : SimV tk d lo glo) : Sim tk (comparison tk d lo) (fun r => if Pr.any tk sCmp (Pr.sum tk d glo r).2 then (Pr.bin (Pr.sum tk d glo r).1 (Pr.leaf tk (Pr.sum tk d glo r).2).1 (Pr.sum tk d glo (Pr.leaf tk (Pr.sum tk d glo r).2).2).1, (Pr.sum tk d glo (Pr.leaf tk (Pr.sum tk d glo r).2).2).2) else Pr.sum tk d glo r) := by
  have hs : Sim tk (sum tk d lo) (Pr.sum tk d glo) := sim_row ht (sim_row ht (sim_factor ht h) sMul) sSum
  obtain ⟨n, hn⟩ : ∃ n, tk.length = n + 1 := ⟨tk.length - 1, by have := ht.pos; omega⟩
  refine ⟨fun s r he hi hr => ?_, fun s he => ?_, fun r he => ?_⟩
  · have o : Out tk s (sum tk d lo s).2 [(sum tk d lo s).1] (Pr.sum tk d glo r).2 (Pr.sum tk d glo r).1 := hs.go s r he hi hr
    have hb := both_any o sCmp
    unfold lift comparison row
    rw [hn]
    unfold rowGo
    by_cases hx : (sum tk d lo s).2.e = 0 ∧ nextB tk sCmp (sum tk d lo s).2.used = true
    · simp only [if_pos hx, if_pos (hb.1 hx), if_true]
      exact (((o.leaf ht hx.1 (next_kind hx.2)).1.then hs).node (k := 10) (by decide) (fun _ => by simp [lift])).cast (by rw [dig10]; simp [Pr.bin])
    · simp only [if_neg hx, if_neg (fun e => hx (hb.2 e))]
      exact o
  · unfold lift comparison row
    have h1 : (sum tk d lo s).2 = s := hs.df s he
    rw [h1]
    exact rowGo_dead he _ _
  · have h1 : (Pr.sum tk d glo r).2 = r := hs.dg r he
    rw [h1, any_dead he, if_neg (by simp)]
    exact h1
theorem sim_negation (ht : Toks tk) {d : Nat} {lo : Ps.Lv} {glo : Pr.Lv} (h : SimV tk d lo glo) : Sim tk (negation tk d lo) (Pr.not tk d glo) := by
  have ha := sim_comparison ht h
  refine ⟨fun s r he hi hr => ?_, fun s he => ?_, fun r he => ?_⟩
  · have hb := is_eq hi hr he tNot
    unfold lift negation Pr.not
    by_cases hn : nextB tk [tNot] s.used = true
    · rw [if_pos ⟨he, hn⟩, if_pos (by rw [hb]; exact hn)]
      exact sim_unary ht (fun hd => (h.rest hd).2.1) he hi hr (next_kind hn)
    · rw [if_neg (by simp [hn]), if_neg (by rw [hb]; exact hn)]
      exact ha.go s r he hi hr
  · unfold lift negation
    rw [if_neg (by simp [he])]
    exact ha.df s he
  · unfold Pr.not
    rw [is_dead he, if_neg (by simp)]
    exact ha.dg r he
theorem sim_formula (ht : Toks tk) {d : Nat} {lo : Ps.Lv} {glo : Pr.Lv} (h : SimV tk d lo glo) : Sim tk (formula tk d lo) (Pr.formula tk d glo) := by
  have hs : Sim tk (disjunction tk d lo) (Pr.or tk d glo) := sim_row ht (sim_row ht (sim_negation ht h) sAnd) sOr
  refine ⟨fun s r he hi hr => ?_, fun s he => ?_, fun r he => ?_⟩
  · have o : Out tk s (disjunction tk d lo s).2 [(disjunction tk d lo s).1] (Pr.or tk d glo r).2 (Pr.or tk d glo r).1 := hs.go s r he hi hr
    have hb := both_is o [61, 62]
    unfold lift formula Pr.formula
    simp only
    by_cases hx : (disjunction tk d lo s).2.e = 0 ∧ nextB tk [[61, 62]] (disjunction tk d lo s).2.used = true
    · rw [if_pos hx, if_pos (hb.1 hx)]
      obtain ⟨o1, e1⟩ := o.leaf ht hx.1 (next_kind hx.2)
      have re1 := o1.2.2.1.1.trans e1
      unfold deep Pr.nest
      by_cases hd : d = 0
      · simp only [if_pos hd]
        have o2 := o1.fail (e := 23) (by decide) [0] []
        have h1 : (fail tk 23 (leaf tk (disjunction tk d lo s).2).2).e ≠ 0 := by unfold fail; rw [if_pos e1]; show (23 : Int) ≠ 0; decide
        rw [if_neg h1, if_neg (by rw [o2.2.2.1.1]; exact h1)]
        exact o2
      · simp only [if_neg hd, if_pos e1, if_pos re1]
        exact ((o1.then (h.rest hd).1).node (k := 10) (by decide) (fun _ => by simp [lift])).cast (by rw [dig10]; simp [Pr.bin])
    · rw [if_neg hx, if_neg (fun e => hx (hb.2 e))]
      exact o
  · unfold lift formula
    have h1 : (disjunction tk d lo s).2 = s := hs.df s he
    simp only
    rw [h1, if_neg (by simp [he])]
    exact h1
  · unfold Pr.formula
    have h1 : (Pr.or tk d glo r).2 = r := hs.dg r he
    simp only
    rw [h1, is_dead he, if_neg (by simp)]
    exact h1
theorem sim_express (ht : Toks tk) {d : Nat} {lo : Ps.Lv} {glo : Pr.Lv} (h : SimV tk d lo glo) : Sim tk (express tk d lo) (Pr.express tk d glo) := by
  have hf := sim_formula ht h
  have hx := h.ex
  refine ⟨fun s r he hi hr => ?_, fun s he => ?_, fun r he => ?_⟩
  · have o := Out.nil hi hr
    have b1 := is_eq hi hr he tLet
    have b2 := is_eq hi hr he tIf
    have b3 := is_eq hi hr he tAssert
    have hc := (hr.2.2 he).2
    unfold lift express Pr.express
    simp only [if_pos he, if_pos (hr.1.trans he)]
    rw [b1, b2, b3, hc]
    cases hcl : s.clause with
    | true => simpa [lift] using hf.go s r he hi hr
    | false =>
      simp only [Bool.not_false, Bool.true_and, Bool.false_eq_true, if_false]
      by_cases h1 : nextB tk [tLet] s.used = true
      · rw [if_pos h1, if_pos h1]
        exact (((((((o.leaf ht he (next_kind h1)).1.then (sim_kind ht (k := 1) (by decide))).then (sim_must ht [61])).then hx).then (sim_must ht tIn)).then hx).node (k := 7) (by decide) (fun _ => by simp [lift])).cast (by rw [dig7]; simp [Pr.exLet])
      · rw [if_neg h1, if_neg h1]
        by_cases h2 : nextB tk [tIf] s.used = true
        · rw [if_pos h2, if_pos h2]
          exact (((((((o.leaf ht he (next_kind h2)).1.then hx).then (sim_must ht tThen)).then hx).then (sim_must ht tElse)).then hx).node (k := 8) (by decide) (fun _ => by simp [lift])).cast (by rw [dig8]; simp [Pr.exIf])
        · rw [if_neg h2, if_neg h2]
          by_cases h3 : nextB tk [tAssert] s.used = true
          · rw [if_pos h3, if_pos h3]
            exact (((((o.leaf ht he (next_kind h3)).1.then hx).then (sim_must ht tIn)).then hx).node (k := 9) (by decide) (fun _ => by simp [lift])).cast (by rw [dig9]; simp [Pr.exAssert])
          · rw [if_neg h3, if_neg h3]
            exact hf.go s r he hi hr
  · unfold lift express
    rw [if_neg he]
  · unfold Pr.express
    rw [if_neg he]
/-- All levels. -/
theorem sim_lv (ht : Toks tk) : ∀ d : Nat, SimV tk d (Ps.lv tk d) (Pr.lv tk d)
  | 0 => by
    refine ⟨⟨fun s r he hi hr => (Out.nil hi hr).fail (by decide) _ _, fun s he => ?_, fun r he => ?_⟩, fun h => absurd rfl h⟩
    · unfold lift Ps.lv
      exact fail_dead he
    · unfold Pr.lv
      exact rfail_dead he
  | d + 1 => by
    have h := sim_lv ht d
    exact ⟨sim_express ht h, fun _ => ⟨sim_formula ht h, sim_negation ht h, sim_factor ht h⟩⟩
end
end Go.Proofs.YtpkhdlnlkeehhaaGreatDoor.Pc
/- Plain: definitions and programs: the two parsers side by side; a parsed tree is right. No program in sight. -/
namespace Go.Proofs.YtpkhdlnlkeehhaaGreatDoor.Pc
open Tr Ps

section
variable {tk : List Tk}

theorem sim_base (ht : Toks tk) {s0 s : St} {l : List Int} {r : Pr.Rs} {x : List UInt8} (o : Out tk s0 s l r x) :
    Out tk s0 (node 5 [(must tk [tInt, tBool] s).1] (must tk [tInt, tBool] s).2).2 (l ++ [(node 5 [(must tk [tInt, tBool] s).1] (must tk [tInt, tBool] s).2).1]) (Pr.base tk x r).2 (Pr.base tk x r).1 := by
  by_cases he : s.e = 0
  · have b1 := is_eq o.2.1 o.2.2.1 he tInt
    have b2 := is_eq o.2.1 o.2.2.1 he tBool
    have b3 : nextB tk [tInt, tBool] s.used = (nextB tk [tInt] s.used || nextB tk [tBool] s.used) := by
      have q := any_eq o.2.1 o.2.2.1 he [tInt, tBool]
      rw [← q, ← b1, ← b2]
      simp [Pr.any]
    unfold must Pr.base
    rw [b1, b2, ← b3]
    by_cases h : nextB tk [tInt, tBool] s.used = true
    · rw [if_pos ⟨he, h⟩, if_pos h]
      have o1 := Out.one ht o.2.1 o.2.2.1 he (next_kind h) (k := 5) (by decide)
      refine ⟨o.1, o1.2.1, o1.2.2.1, fun e2 => ?_⟩
      have h2 := (o.2.2.2 he).trans o.2.1.2.2 (o1.2.2.2 e2)
      rw [dig5] at h2
      simpa using h2
    · rw [if_neg (by simp [h]), if_neg h]
      have o2 := o.fail (e := 22) (by decide) (l ++ [(node 5 [0] (fail tk 22 s)).1]) x
      have h1 : (fail tk 22 s).e ≠ 0 := by unfold fail; rw [if_pos he]; show (22 : Int) ≠ 0; decide
      simp only
      rw [node_dead h1] at o2 ⊢
      exact o2
  · have hr : r.e ≠ 0 := by rw [o.2.2.1.1]; exact he
    rw [must_dead he, node_dead he]
    unfold Pr.base
    rw [is_dead hr, is_dead hr, if_neg (by simp), rfail_dead hr]
    exact o.dead he _ _

theorem Out.clause {s0 s : St} {l : List Int} {r : Pr.Rs} {x : List UInt8} (o : Out tk s0 s l r x) (b : Bool) : Inv tk { s with clause := b } ∧ Rel { s with clause := b } { r with inn := b } := by
  refine ⟨o.2.1, o.2.2.1.1, o.2.2.1.2.1, fun e => ⟨(o.2.2.1.2.2 e).1, rfl⟩⟩
theorem Got.unclause {s0 s : St} {l : List Int} {x : List UInt8} {b c : Bool} (h : Got tk { s0 with clause := b } s l x) : Got tk s0 { s with clause := c } l x :=
  ⟨h.nodes, h.used, h.lvs, h.text, h.room⟩
/-- A formula in braces. -/
theorem sim_clause (ht : Toks tk) {ex : F} {g : Pr.G} (hx : Sim tk ex g) {s0 s : St} {l : List Int} {r : Pr.Rs} {x : List UInt8} (o : Out tk s0 s l r x) (he : s.e = 0) (hk : nextB tk [[123]] s.used = true) :
    Out tk s0 (node 6 [(leaf tk s).1, (ex { (leaf tk s).2 with clause := true }).1, (must tk [[125]] { (ex { (leaf tk s).2 with clause := true }).2 with clause := false }).1] (must tk [[125]] { (ex { (leaf tk s).2 with clause := true }).2 with clause := false }).2).2
      (l ++ [(node 6 [(leaf tk s).1, (ex { (leaf tk s).2 with clause := true }).1, (must tk [[125]] { (ex { (leaf tk s).2 with clause := true }).2 with clause := false }).1] (must tk [[125]] { (ex { (leaf tk s).2 with clause := true }).2 with clause := false }).2).1])
      (Pr.must tk [125] { (g { (Pr.leaf tk r).2 with inn := true }).2 with inn := false }).2
      (x ++ ([32, 40, 54] ++ (Pr.leaf tk r).1 ++ (g { (Pr.leaf tk r).2 with inn := true }).1 ++ (Pr.must tk [125] { (g { (Pr.leaf tk r).2 with inn := true }).2 with inn := false }).1 ++ [41])) := by
  obtain ⟨o1, e1⟩ := (Out.nil o.2.1 o.2.2.1).leaf ht he (next_kind hk)
  obtain ⟨i2, r2⟩ := o1.clause true
  have o2 : Out tk _ (ex _).2 [(ex _).1] (g _).2 (g _).1 := hx.go { (leaf tk s).2 with clause := true } { (Pr.leaf tk r).2 with inn := true } e1 i2 r2
  obtain ⟨i3, r3⟩ := o2.clause false
  have o3 : Out tk s { (ex { (leaf tk s).2 with clause := true }).2 with clause := false } ([(leaf tk s).1] ++ [(ex { (leaf tk s).2 with clause := true }).1]) { (g { (Pr.leaf tk r).2 with inn := true }).2 with inn := false } ((Pr.leaf tk r).1 ++ (g { (Pr.leaf tk r).2 with inn := true }).1) := by
    refine ⟨o.2.1, i3, r3, fun e2 => ?_⟩
    have h1 := o1.2.2.2 e1
    have h2 : Got tk (leaf tk s).2 { (ex { (leaf tk s).2 with clause := true }).2 with clause := false } _ _ := (o2.2.2.2 e2).unclause
    exact h1.trans o1.2.1.2.2 h2
  have o4 := (o3.then (sim_must ht [125])).node (k := 6) (by decide) (fun _ => by simp [lift])
  refine ⟨o.1, o4.2.1, o4.2.2.1, fun e2 => ?_⟩
  have h5 := (o.2.2.2 he).trans o.2.1.2.2 (o4.2.2.2 e2)
  rw [dig6] at h5
  simpa [lift] using h5
theorem typed_dead {ex : F} {l : List Int} {s : St} (he : s.e ≠ 0) : (typed tk ex l s).2 = s := by
  simp only [typed, must_dead he, node_dead he]
  rw [if_neg (by simp [he])]
theorem sim_typed (ht : Toks tk) {ex : F} {g : Pr.G} (hx : Sim tk ex g) {s0 s : St} {l : List Int} {r : Pr.Rs} {x : List UInt8} (o : Out tk s0 s l r x) :
    Out tk s0 (typed tk ex l s).2 (typed tk ex l s).1 (Pr.typed tk g r).2 (x ++ (Pr.typed tk g r).1) := by
  have o1 := sim_base ht ((Out.nil o.2.1 o.2.2.1).then (sim_must ht [58]))
  rw [List.nil_append, List.nil_append] at o1
  have hb := both_is o1 [123]
  have h : Out tk s (typed tk ex [] s).2 (typed tk ex [] s).1 (Pr.typed tk g r).2 (Pr.typed tk g r).1 := by
    unfold typed Pr.typed
    simp only [List.nil_append]
    refine out_if hb (fun h => ?_) (fun _ => o1)
    exact sim_clause ht hx o1 h.1 h.2
  have hl : (typed tk ex l s).2 = (typed tk ex [] s).2 ∧ (typed tk ex l s).1 = l ++ (typed tk ex [] s).1 := by
    unfold typed
    simp only
    split <;> simp
  rw [hl.1, hl.2]
  by_cases he : s.e = 0
  · exact ⟨o.1, h.2.1, h.2.2.1, fun e2 => (o.2.2.2 he).trans o.2.1.2.2 (h.2.2.2 e2)⟩
  · refine ⟨o.1, h.2.1, h.2.2.1, fun e2 => ?_⟩
    exfalso
    have h3 : (typed tk ex [] s).2 = s := typed_dead he
    rw [h3] at e2
    exact he e2
theorem rtyped_dead {g : Pr.G} {r : Pr.Rs} (he : r.e ≠ 0) : Pr.typed tk g r = ([], r) := by
  simp only [Pr.typed, Pr.base, rmust_dead he, is_dead he, rfail_dead he, Bool.or_self, Bool.false_eq_true, if_false]
end
end Go.Proofs.YtpkhdlnlkeehhaaGreatDoor.Pc
/- Plain: a parsed tree is right. No program in sight. -/
namespace Go.Proofs.YtpkhdlnlkeehhaaGreatDoor.Pc
open Tr Ps

theorem getD_set' (l : List Bool) (i j : Nat) (h : i < l.length) : (l.set i true).getD j false = (l.getD j false || decide (j = i)) := by
  simp only [List.getD]
  by_cases e : i = j
  · subst e
    rw [List.getElem?_set_self h]
    simp
  · rw [List.getElem?_set_ne e, decide_eq_false (fun h => e h.symm), Bool.or_false]
theorem marks_ok : ∀ (ks : List Int) (kid : List Bool), ks.Nodup → (∀ k ∈ ks, 0 ≤ k ∧ k.toNat < kid.length ∧ kid.getD k.toNat false = false) →
    ∃ kid', marks kid ks = some kid' ∧ kid'.length = kid.length ∧ ∀ j : Nat, kid'.getD j false = (kid.getD j false || decide ((j : Int) ∈ ks))
  | [], kid, _, _ => ⟨kid, rfl, rfl, fun j => by simp⟩
  | k :: ks, kid, hn, hk => by
    have h0 := hk k (by simp)
    rw [List.nodup_cons] at hn
    obtain ⟨kid', h1, h2, h3⟩ := marks_ok ks (kid.set k.toNat true) hn.2 (fun x hx => by
      have hx1 := hk x (by simp [hx])
      refine ⟨hx1.1, by rw [List.length_set]; exact hx1.2.1, ?_⟩
      rw [getD_set' _ _ _ h0.2.1, hx1.2.2, Bool.false_or, decide_eq_false]
      intro e
      have : x = k := by omega
      exact hn.1 (this ▸ hx))
    refine ⟨kid', ?_, by rw [h2, List.length_set], fun j => ?_⟩
    · unfold marks
      rw [h0.2.2, if_neg (by simp)]
      exact h1
    · rw [h3, getD_set' _ _ _ h0.2.1, Bool.or_assoc]
      congr 1
      rw [Bool.eq_iff_iff]
      simp only [Bool.or_eq_true, decide_eq_true_eq, List.mem_cons]
      constructor
      · rintro (h | h)
        · exact Or.inl (by omega)
        · exact Or.inr h
      · rintro (h | h)
        · exact Or.inl (by omega)
        · exact Or.inr h
theorem rightGo_ok {t : T} : ∀ (l : List Nd) (i : Nat) (kid : List Bool), t.nodes.drop i = l → (∀ j n, t.nodes[j]? = some n → formed t j n = true) → (l.flatMap (·.kids)).Nodup → (∀ k ∈ l.flatMap (·.kids), 0 ≤ k ∧ k.toNat < kid.length ∧ kid.getD k.toNat false = false) →
    ∃ kid', rightGo t i l kid = some kid' ∧ kid'.length = kid.length ∧ ∀ j : Nat, kid'.getD j false = (kid.getD j false || decide ((j : Int) ∈ l.flatMap (·.kids)))
  | [], i, kid, _, _, _, _ => ⟨kid, rfl, rfl, fun j => by simp⟩
  | n :: l, i, kid, hl, hf, hn, hk => by
    have hlt : i < t.nodes.length := by
      rcases Nat.lt_or_ge i t.nodes.length with h1 | h1
      · exact h1
      · rw [List.drop_eq_nil_of_le h1] at hl; cases hl
    have hl2 := List.drop_eq_getElem_cons hlt
    rw [hl] at hl2
    injection hl2 with e1 e2
    have hni : t.nodes[i]? = some n := by rw [List.getElem?_eq_getElem hlt, ← e1]
    rw [List.flatMap_cons, List.nodup_append] at hn
    obtain ⟨hn1, hn2, hn3⟩ := hn
    obtain ⟨k1, a1, a2, a3⟩ := marks_ok n.kids kid hn1 (fun x hx => hk x (by rw [List.flatMap_cons]; exact List.mem_append_left _ hx))
    obtain ⟨k2, b1, b2, b3⟩ := rightGo_ok l (i + 1) k1 e2.symm hf hn2 (fun x hx => by
      have hx1 := hk x (by rw [List.flatMap_cons]; exact List.mem_append_right _ hx)
      refine ⟨hx1.1, by rw [a2]; exact hx1.2.1, ?_⟩
      rw [a3, hx1.2.2, Bool.false_or, decide_eq_false]
      intro h
      rw [Int.toNat_of_nonneg hx1.1] at h
      exact hn3 x h x hx rfl)
    refine ⟨k2, ?_, by rw [b2, a2], fun j => ?_⟩
    · unfold rightGo
      rw [if_pos (hf i n hni), a1]
      exact b1
    · rw [b3, a3, Bool.or_assoc, List.flatMap_cons]
      congr 1
      rw [Bool.eq_iff_iff]
      simp only [Bool.or_eq_true, decide_eq_true_eq, List.mem_append]

/-- A parsed tree is right, its root the last node, its text what was told. -/
theorem right_of_got {tk : List Tk} {s : St} {root : Int} {x : List UInt8} (hf : Fm tk s.nodes) (hu : s.used = tk.length) (h : Got tk St.first s [root] x) :
    right ⟨tk, s.nodes⟩ = true ∧ 0 < s.nodes.length ∧ root = ((s.nodes.length - 1 : Nat) : Int) ∧ 32 :: dump ⟨tk, s.nodes⟩ (s.nodes.length - 1) = x := by
  obtain ⟨m, hm, hp⟩ := h.nodes
  have hm2 : s.nodes = m := by rw [hm]; rfl
  subst hm2
  have hz : St.first.nodes.length = 0 := rfl
  rw [hz] at hp
  have hlow := hf.low
  have hr : root ∈ ints 0 s.nodes.length := hp.mem_iff.1 (by simp)
  rw [mem_ints] at hr
  have h0 : 0 < s.nodes.length := by omega
  have hkid : ∀ k ∈ s.nodes.flatMap (·.kids), 0 ≤ k ∧ k < ((s.nodes.length - 1 : Nat) : Int) := by
    intro k hk
    rw [List.mem_flatMap] at hk
    obtain ⟨n, hn, hk⟩ := hk
    obtain ⟨j, hj⟩ := List.getElem?_of_mem hn
    have h1 := (hlow j n hj).1 k hk
    have h2 := get_lt hj
    omega
  have hroot : root = ((s.nodes.length - 1 : Nat) : Int) := by
    have h1 : ((s.nodes.length - 1 : Nat) : Int) ∈ s.nodes.flatMap (·.kids) ++ [root] := hp.mem_iff.2 (by rw [mem_ints]; omega)
    rw [List.mem_append, List.mem_singleton] at h1
    rcases h1 with h1 | h1
    · have := hkid _ h1
      omega
    · exact h1.symm
  have hnd : (s.nodes.flatMap (·.kids) ++ [root]).Nodup := hp.nodup_iff.2 (by
    unfold ints
    exact List.Pairwise.map _ (fun a b hab => fun e => hab (Int.ofNat.inj e)) List.nodup_range')
  rw [List.nodup_append] at hnd
  obtain ⟨kid, b1, b2, b3⟩ := rightGo_ok (t := ⟨tk, s.nodes⟩) s.nodes 0 (List.replicate s.nodes.length false) (by simp) hf hnd.1 (fun k hk => by
    have := hkid k hk
    refine ⟨this.1, by rw [List.length_replicate]; omega, ?_⟩
    simp only [List.getD, List.getElem?_replicate]
    split <;> rfl)
  rw [List.length_replicate] at b2
  have htx := h.text
  have hlv := h.lvs
  simp only [List.flatMap_cons, List.flatMap_nil, List.append_nil, hroot, Int.toNat_natCast] at htx hlv
  refine ⟨?_, h0, hroot, htx⟩
  rw [right_some b1]
  simp only [Bool.and_eq_true, Bool.not_eq_true', beq_iff_eq]
  refine ⟨⟨?_, ?_⟩, ?_⟩
  · cases kid with
    | nil => simp only [List.length_nil] at b2; omega
    | cons _ _ => rfl
  · rw [← Bool.not_eq_true, List.contains_iff_mem]
    intro hmem
    obtain ⟨j, hj⟩ := List.getElem?_of_mem hmem
    rw [List.getElem?_take] at hj
    split at hj
    · rename_i hj1
      have h1 := b3 j
      simp only [List.getD, hj, Option.getD_some, List.getElem?_replicate] at h1
      have h2 : (j : Int) ∈ s.nodes.flatMap (·.kids) ++ [root] := hp.mem_iff.2 (by rw [mem_ints]; omega)
      rw [List.mem_append, List.mem_singleton] at h2
      rcases h2 with h2 | h2
      · rw [decide_eq_true h2, Bool.or_true] at h1
        cases h1
      · omega
    · cases hj
  · show leafs s.nodes (s.nodes.length - 1) = _
    rw [hlv, hu]
    show (List.range' 0 (tk.length - 0)).map Int.ofNat = _
    rw [Nat.sub_zero, ← List.range_eq_range']
    rfl
end Go.Proofs.YtpkhdlnlkeehhaaGreatDoor.Pc
/- Plain: whole programs: what the program's parser says is what the document's says. No program in sight. -/
namespace Go.Proofs.YtpkhdlnlkeehhaaGreatDoor.Pc
open Tr Ps

section
variable {tk : List Tk}

theorem rargs_dead' {g : Pr.G} {r : Pr.Rs} (hg : (g r).2 = r) (he : r.e ≠ 0) : (Pr.args tk g r).2 = r := by
  unfold Pr.args
  rw [hg, rargs_dead he]
theorem sim_param (ht : Toks tk) {ex : F} {g : Pr.G} (hx : Sim tk ex g) : Sim tk (param tk ex) (Pr.param tk g) := by
  refine ⟨fun s r he hi hr => ?_, fun s he => ?_, fun r he => ?_⟩
  · have o1 := sim_typed ht hx ((Out.nil hi hr).then (sim_kind ht (k := 1) (by decide)))
    have hl : (typed tk ex [(kind tk 1 s).1] (kind tk 1 s).2).2.e = 0 → 2 ≤ (typed tk ex [(kind tk 1 s).1] (kind tk 1 s).2).1.length := by
      intro _
      unfold typed
      simp only
      split <;> simp
    exact (o1.node (k := 4) (by decide) hl).cast (by rw [dig4]; simp [Pr.param])
  · simp only [lift, param, kind_dead he]
    have h := typed_dead (tk := tk) (ex := ex) (l := [0]) he
    rw [node_dead (by rw [h]; exact he)]
    exact h
  · simp only [Pr.param, rkind_dead he, rtyped_dead he]
theorem sim_imported (ht : Toks tk) {s0 s : St} {l : List Int} {r : Pr.Rs} {x : List UInt8} (o : Out tk s0 s l r x) (he : s.e = 0) (hk : nextB tk [tImport] s.used = true) :
    Out tk s0 (imported tk s).2 (l ++ [(imported tk s).1]) (Pr.must tk [59] (Pr.kind tk 1 (Pr.leaf tk r).2).2).2 (x ++ ([32, 40, 50] ++ (Pr.leaf tk r).1 ++ (Pr.kind tk 1 (Pr.leaf tk r).2).1 ++ (Pr.must tk [59] (Pr.kind tk 1 (Pr.leaf tk r).2).2).1 ++ [41])) := by
  have o1 := ((((Out.nil o.2.1 o.2.2.1).leaf ht he (next_kind hk)).1.then (sim_kind ht (k := 1) (by decide))).then (sim_must ht [59])).node (k := 2) (by decide) (fun _ => by simp [lift])
  refine ⟨o.1, o1.2.1, o1.2.2.1, fun e2 => ?_⟩
  have h := (o.2.2.2 he).trans o.2.1.2.2 (o1.2.2.2 e2)
  rw [dig2] at h
  simpa [lift, imported] using h
theorem sim_importsGo (ht : Toks tk) : ∀ (n : Nat) {s0 s : St} {l : List Int} {r : Pr.Rs} {x : List UInt8}, Out tk s0 s l r x →
    Out tk s0 (severalGo tk (imported tk) [tImport] n l s).2 (severalGo tk (imported tk) [tImport] n l s).1 (Pr.importsGo tk n x r).2.1 (Pr.importsGo tk n x r).1 ∧
    ((Pr.importsGo tk n x r).2.2 = false → (severalGo tk (imported tk) [tImport] n l s).2.e ≠ 0)
  | 0, s0, s, l, r, x, o => by
    have hb := both_is o tImport
    unfold severalGo Pr.importsGo
    by_cases h : s.e = 0 ∧ nextB tk [tImport] s.used = true
    · rw [if_pos h, if_pos (hb.1 h)]
      refine ⟨o.fail (by decide) _ _, fun _ => ?_⟩
      unfold fail
      rw [if_pos h.1]
      show (15 : Int) ≠ 0
      decide
    · rw [if_neg h, if_neg (fun e => h (hb.2 e))]
      exact ⟨o, fun e => by cases e⟩
  | n + 1, s0, s, l, r, x, o => by
    have hb := both_is o tImport
    unfold severalGo Pr.importsGo
    by_cases h : s.e = 0 ∧ nextB tk [tImport] s.used = true
    · rw [if_pos h, if_pos (hb.1 h)]
      exact sim_importsGo ht n (sim_imported ht o h.1 h.2)
    · rw [if_neg h, if_neg (fun e => h (hb.2 e))]
      exact ⟨o, fun e => by cases e⟩
theorem sim_defHead (ht : Toks tk) {s0 s : St} {l : List Int} {r : Pr.Rs} {x : List UInt8} (o : Out tk s0 s l r x) :
    Out tk s0 (defHead tk l s).2 (defHead tk l s).1 (Pr.defHead tk x r).2 (Pr.defHead tk x r).1 := by
  have o1 := ((o.then (sim_must ht tFun)).then (sim_kind ht (k := 1) (by decide))).then (sim_must ht [40])
  have e1 : (defHead tk l s).1 = l ++ (lift (must tk [tFun]) s).1 ++ (lift (kind tk 1) (lift (must tk [tFun]) s).2).1 ++ (lift (must tk [[40]]) (lift (kind tk 1) (lift (must tk [tFun]) s).2).2).1 := by simp [lift, defHead]
  rw [e1]
  exact o1.cast (by simp [Pr.defHead])
theorem sim_defList (ht : Toks tk) {ex : F} {g : Pr.G} (hx : Sim tk ex g) {s0 s : St} {l : List Int} {r : Pr.Rs} {x : List UInt8} (o : Out tk s0 s l r x) :
    Out tk s0 (list tk (param tk ex) s).2 (l ++ (list tk (param tk ex) s).1) (Pr.defList tk g x r).2 (Pr.defList tk g x r).1 := sim_list ht (sim_param ht hx) o
theorem sim_defRest (ht : Toks tk) {ex : F} {g : Pr.G} (hx : Sim tk ex g) {s0 s : St} {l : List Int} {r : Pr.Rs} {x : List UInt8} (o : Out tk s0 s l r x) :
    Out tk s0 (defRest tk ex l s).2 [(defRest tk ex l s).1] (Pr.defRest tk g x r).2 ([32, 40, 51] ++ (Pr.defRest tk g x r).1) := by
  have o1 := sim_typed ht hx (o.then (sim_must ht [41]))
  have o2 := (((o1.then (sim_must ht [61])).then hx).then (sim_must ht [59])).node (k := 3) (by decide) (fun _ => by simp [lift])
  have e1 : defRest tk ex l s = node 3 ((typed tk ex (l ++ (lift (must tk [[41]]) s).1) (lift (must tk [[41]]) s).2).1 ++ (lift (must tk [[61]]) (typed tk ex (l ++ (lift (must tk [[41]]) s).1) (lift (must tk [[41]]) s).2).2).1 ++ (lift ex (lift (must tk [[61]]) (typed tk ex (l ++ (lift (must tk [[41]]) s).1) (lift (must tk [[41]]) s).2).2).2).1 ++ (lift (must tk [[59]]) (lift ex (lift (must tk [[61]]) (typed tk ex (l ++ (lift (must tk [[41]]) s).1) (lift (must tk [[41]]) s).2).2).2).2).1) (lift (must tk [[59]]) (lift ex (lift (must tk [[61]]) (typed tk ex (l ++ (lift (must tk [[41]]) s).1) (lift (must tk [[41]]) s).2).2).2).2).2 := by
    simp [lift, defRest]
  rw [e1]
  exact o2.cast (by rw [dig3]; simp [Pr.defRest])
theorem sim_defn (ht : Toks tk) {ex : F} {g : Pr.G} (hx : Sim tk ex g) {s0 s : St} {l : List Int} {r : Pr.Rs} {x : List UInt8} (o : Out tk s0 s l r x) :
    Out tk s0 (defn tk ex l s).2 [(defn tk ex l s).1] (Pr.defn tk g x r).2 ([32, 40, 51] ++ (Pr.defn tk g x r).1) :=
  sim_defRest ht hx (sim_defList ht hx (sim_defHead ht o))
theorem rdef_pre {g : Pr.G} (p x : List UInt8) (r : Pr.Rs) : (Pr.defn tk g (p ++ x) r).2 = (Pr.defn tk g x r).2 ∧ (Pr.defn tk g (p ++ x) r).1 = p ++ (Pr.defn tk g x r).1 := by
  have h1 : Pr.defHead tk (p ++ x) r = (p ++ (Pr.defHead tk x r).1, (Pr.defHead tk x r).2) := by simp [Pr.defHead]
  have h2 : ∀ (y : List UInt8) (q : Pr.Rs), Pr.defList tk g (p ++ y) q = (p ++ (Pr.defList tk g y q).1, (Pr.defList tk g y q).2) := by
    intro y q
    unfold Pr.defList
    split <;> simp
  unfold Pr.defn
  simp only [h1, h2]
  unfold Pr.defRest
  simp
theorem sim_definition (ht : Toks tk) {ex : F} {g : Pr.G} (hx : Sim tk ex g) {s0 s : St} {l : List Int} {r : Pr.Rs} {x : List UInt8} (o : Out tk s0 s l r x) (he : s.e = 0) :
    Out tk s0 (definition tk ex s).2 (l ++ [(definition tk ex s).1]) (Pr.definition tk g r).2 (x ++ (Pr.definition tk g r).1) := by
  have hb := is_eq o.2.1 o.2.2.1 he tPub
  have h : Out tk s (definition tk ex s).2 [(definition tk ex s).1] (Pr.definition tk g r).2 (Pr.definition tk g r).1 := by
    have o0 := Out.nil o.2.1 o.2.2.1
    unfold definition Pr.definition Pr.head
    by_cases h : nextB tk [tPub] s.used = true
    · rw [if_pos h, if_pos (by rw [hb]; exact h)]
      have := rdef_pre (tk := tk) (g := g) [32, 40, 51] (Pr.leaf tk r).1 (Pr.leaf tk r).2
      simp only
      rw [this.1, this.2]
      exact sim_defn ht hx ((o0.leaf ht he (next_kind h)).1)
    · rw [if_neg h, if_neg (by rw [hb]; exact h)]
      have := rdef_pre (tk := tk) (g := g) [32, 40, 51] [] r
      simp only [List.append_nil] at this ⊢
      rw [this.1, this.2]
      exact sim_defn ht hx o0
  exact ⟨o.1, h.2.1, h.2.2.1, fun e2 => (o.2.2.2 he).trans o.2.1.2.2 (h.2.2.2 e2)⟩
theorem sim_defsGo (ht : Toks tk) {ex : F} {g : Pr.G} (hx : Sim tk ex g) : ∀ (n : Nat) {s0 s : St} {l ks : List Int} {r : Pr.Rs} {x : List UInt8}, Out tk s0 s (l ++ ks) r x →
    Out tk s0 (severalGo tk (definition tk ex) [tPub, tFun] n ks s).2 (l ++ (severalGo tk (definition tk ex) [tPub, tFun] n ks s).1) (Pr.defsGo tk g n x r).2.1 (Pr.defsGo tk g n x r).1 ∧
    ((Pr.defsGo tk g n x r).2.2 = false → (severalGo tk (definition tk ex) [tPub, tFun] n ks s).2.e ≠ 0)
  | 0, s0, s, l, ks, r, x, o => by
    have hb : (s.e = 0 ∧ nextB tk [tPub, tFun] s.used = true) ↔ (Pr.is tk tPub r || Pr.is tk tFun r) = true := by
      rw [both_any o]; simp [Pr.any]
    unfold severalGo Pr.defsGo
    by_cases h : s.e = 0 ∧ nextB tk [tPub, tFun] s.used = true
    · rw [if_pos h, if_pos (hb.1 h)]
      refine ⟨o.fail (by decide) _ _, fun _ => ?_⟩
      unfold fail
      rw [if_pos h.1]
      show (15 : Int) ≠ 0
      decide
    · rw [if_neg h, if_neg (fun e => h (hb.2 e))]
      exact ⟨o, fun e => by cases e⟩
  | n + 1, s0, s, l, ks, r, x, o => by
    have hb : (s.e = 0 ∧ nextB tk [tPub, tFun] s.used = true) ↔ (Pr.is tk tPub r || Pr.is tk tFun r) = true := by
      rw [both_any o]; simp [Pr.any]
    unfold severalGo Pr.defsGo
    by_cases h : s.e = 0 ∧ nextB tk [tPub, tFun] s.used = true
    · rw [if_pos h, if_pos (hb.1 h)]
      refine sim_defsGo ht hx n ?_
      rw [← List.append_assoc]
      exact sim_definition ht hx o h.1
    · rw [if_neg h, if_neg (fun e => h (hb.2 e))]
      exact ⟨o, fun e => by cases e⟩

/-- The end, and the root. -/
theorem sim_end (ht : Toks tk) {s : St} {l : List Int} {r : Pr.Rs} {x : List UInt8} (o : Out tk St.first s l r x) {k : Int} (hk : 1 ≤ k ∧ k ≤ 18) :
    (Pr.kind tk 5 r).2.e = (node k (l ++ [(kind tk 5 s).1]) (kind tk 5 s).2).2.e ∧
    ((node k (l ++ [(kind tk 5 s).1]) (kind tk 5 s).2).2.e ≠ 0 → (Pr.kind tk 5 r).2.pos = (node k (l ++ [(kind tk 5 s).1]) (kind tk 5 s).2).2.pos) ∧
    ((node k (l ++ [(kind tk 5 s).1]) (kind tk 5 s).2).2.e = 0 → Fm tk (node k (l ++ [(kind tk 5 s).1]) (kind tk 5 s).2).2.nodes ∧ (node k (l ++ [(kind tk 5 s).1]) (kind tk 5 s).2).2.used = tk.length ∧
      Got tk St.first (node k (l ++ [(kind tk 5 s).1]) (kind tk 5 s).2).2 [(node k (l ++ [(kind tk 5 s).1]) (kind tk 5 s).2).1] ([32, 40] ++ Lib.decDigits k.toNat ++ (x ++ (Pr.kind tk 5 r).1) ++ [41]) ∧
      ((node k (l ++ [(kind tk 5 s).1]) (kind tk 5 s).2).2.nodes[(node k (l ++ [(kind tk 5 s).1]) (kind tk 5 s).2).2.nodes.length - 1]?).map (·.kind) = some k) := by
  by_cases he : s.e = 0
  · obtain ⟨t, h1, h2, h3⟩ := o.2.1.get
    have hp := peek_tok o.2.1 o.2.2.1 he
    by_cases h5 : (peek tk s.used).kind = 5
    · have hu : s.used + 1 = tk.length := by
        have q := o.2.1.1
        rcases Nat.lt_or_ge (s.used + 1) tk.length with h4 | h4
        · exact absurd (h2 ▸ h5) (ht.other _ _ h4 h1)
        · omega
      have htx : t.text = [] := (ht.last t (by rw [← h1]; congr 1; omega)).2
      obtain ⟨g1, g2, g3, g4, _, g5⟩ := got_leaf o.2.1.2.2 h1
      have e1 : kind tk 5 s = leaf tk s := by unfold kind; rw [if_pos ⟨he, h5⟩]
      have e2 : Pr.kind tk 5 r = ([32, 36], r) := by
        unfold Pr.kind
        rw [if_pos ⟨o.2.2.1.1.trans he, by rw [hp]; exact h5⟩]
        unfold Pr.leaf
        rw [hp, if_pos h5]
      rw [e1, e2]
      rw [h2] at h5
      rw [if_pos h5, htx] at g5
      have hg := (o.2.2.2 he).trans o.2.1.2.2 g5
      have hroom := (o.2.2.2 he).room
      have z1 : St.first.nodes.length = 0 := rfl
      have z2 : St.first.used = 0 := rfl
      obtain ⟨k1, k2, k3, k4, _, k5⟩ := got_node g1 hg (g3.trans he) hk (by rw [g4, g2]; omega)
      refine ⟨by rw [k3]; exact o.2.2.1.1.trans he, fun h => absurd k3 h, fun _ => ⟨k1, by rw [k2, g2, hu], k5, ?_⟩⟩
      have hm : ¬ ((l ++ [(leaf tk s).1]).any (fun x => decide (x < 0) || decide (((leaf tk s).2.nodes.length : Int) ≤ x)) = true) := by
        simp only [List.any_eq_true, Bool.or_eq_true, decide_eq_true_eq, not_exists, not_and]
        intro y hy
        have := hg.mem hy
        omega
      have e3 : node k (l ++ [(leaf tk s).1]) (leaf tk s).2 = (((leaf tk s).2.nodes.length : Int), { (leaf tk s).2 with nodes := (leaf tk s).2.nodes ++ [⟨k, -1, l ++ [(leaf tk s).1]⟩] }) := by
        unfold node
        rw [if_pos (g3.trans he), if_neg hm]
      rw [e3]
      simp
    · have e1 : kind tk 5 s = (0, fail tk 22 s) := by unfold kind; rw [if_neg (by simp [h5])]
      have e2 : Pr.kind tk 5 r = ([], Pr.fail tk 22 r) := by unfold Pr.kind; rw [if_neg (by rw [hp]; simp [h5])]
      have o2 := o.fail (e := 22) (by decide) [] []
      have h6 : (fail tk 22 s).e ≠ 0 := by unfold fail; rw [if_pos he]; show (22 : Int) ≠ 0; decide
      rw [e1, e2]
      simp only
      rw [node_dead h6]
      exact ⟨o2.2.2.1.1, o2.2.2.1.2.1, fun h => absurd h h6⟩
  · have hr : r.e ≠ 0 := by rw [o.2.2.1.1]; exact he
    rw [kind_dead he, rkind_dead hr]
    simp only
    rw [node_dead he]
    exact ⟨o.2.2.1.1, o.2.2.1.2.1, fun h => absurd h he⟩

theorem several_dead {one : F} {ts : List (List UInt8)} {s : St} (he : s.e ≠ 0) (n : Nat) (ks : List Int) : (severalGo tk one ts n ks s).2 = s := by
  cases n <;> (unfold severalGo; rw [if_neg (by simp [he])])
/-- What both say of a whole text. -/
structure Same (tk : List Tk) (k : Int) (s : St) (r : Pr.Rs) (x : List UInt8) : Prop where
  e : r.e = s.e
  pos : s.e ≠ 0 → r.pos = s.pos
  right : s.e = 0 → Tr.right ⟨tk, s.nodes⟩ = true ∧ 0 < s.nodes.length ∧ dump ⟨tk, s.nodes⟩ (s.nodes.length - 1) = x ∧ (s.nodes[s.nodes.length - 1]?).map (·.kind) = some k
  used : s.e = 0 → s.used = tk.length
  small : s.e = 0 → s.nodes.length ≤ 3 * tk.length ∧ ∀ n ∈ s.nodes, n.kids.length ≤ s.nodes.length
theorem small_of_got {s : St} {l : List Int} {x : List UInt8} (hu : s.used = tk.length) (h : Got tk St.first s l x) : s.nodes.length ≤ 3 * tk.length ∧ ∀ n ∈ s.nodes, n.kids.length ≤ s.nodes.length := by
  have hr := h.room
  obtain ⟨m, hm, hp⟩ := h.nodes
  have hm2 : s.nodes = m := by rw [hm]; rfl
  subst hm2
  have hz : St.first.nodes.length = 0 := rfl
  have hz2 : St.first.used = 0 := rfl
  rw [hz, hz2] at hr
  have hl := hp.length_eq
  simp only [List.length_append, ints, List.length_map, List.length_range'] at hl
  refine ⟨by omega, fun n hn => ?_⟩
  have h1 : n.kids.length ≤ (s.nodes.flatMap (·.kids)).length := by
    obtain ⟨a, b, hab⟩ := List.append_of_mem hn
    rw [hab]
    simp only [List.flatMap_append, List.flatMap_cons, List.length_append]
    omega
  omega
theorem same_of_end (ht : Toks tk) {s : St} {l : List Int} {r : Pr.Rs} {x : List UInt8} (o : Out tk St.first s l r x) {k : Int} (hk : 1 ≤ k ∧ k ≤ 18) :
    Same tk k (node k (l ++ [(kind tk 5 s).1]) (kind tk 5 s).2).2 (Pr.kind tk 5 r).2 ([40] ++ Lib.decDigits k.toNat ++ (x ++ (Pr.kind tk 5 r).1) ++ [41]) := by
  obtain ⟨h1, h2, h3⟩ := sim_end ht o hk
  refine ⟨h1, h2, fun h => ?_, fun h => (h3 h).2.1, fun h => small_of_got (h3 h).2.1 (h3 h).2.2.1⟩
  obtain ⟨g1, g2, g3, g4⟩ := h3 h
  obtain ⟨r1, r2, _, r4⟩ := right_of_got g1 g2 g3
  refine ⟨r1, r2, ?_, g4⟩
  simpa using r4
theorem first_out (ht : Toks tk) : Inv tk St.first ∧ Rel St.first Pr.Rs.first := by
  refine ⟨⟨ht.pos, Nat.zero_le _, fun j n hj => by cases hj⟩, rfl, fun h => absurd rfl h, fun _ => ⟨rfl, rfl⟩⟩
theorem same_program (ht : Toks tk) (d : Nat) : Same tk 1 (Ps.program tk (Ps.lv tk d).ex St.first).2 (Pr.program tk (Pr.lv tk d).ex Pr.Rs.first).2 (Pr.program tk (Pr.lv tk d).ex Pr.Rs.first).1 := by
  have hx := (sim_lv ht d).ex
  obtain ⟨hi, hr⟩ := first_out ht
  obtain ⟨o1, n1⟩ := sim_importsGo ht 16 (x := []) (Out.nil hi hr)
  have hpre : ∀ (n : Nat) (p x : List UInt8) (r : Pr.Rs), (Pr.importsGo tk n (p ++ x) r).2 = (Pr.importsGo tk n x r).2 ∧ ((Pr.importsGo tk n x r).2.2 = true → (Pr.importsGo tk n (p ++ x) r).1 = p ++ (Pr.importsGo tk n x r).1) := by
    intro n
    induction n with
    | zero =>
      intro p x r
      unfold Pr.importsGo
      split <;> simp
    | succ n ih =>
      intro p x r
      unfold Pr.importsGo
      split
      · simp only
        rw [List.append_assoc]
        exact ih _ _ _
      · simp
  have hpre2 : ∀ (n : Nat) (p x : List UInt8) (r : Pr.Rs), (Pr.defsGo tk (Pr.lv tk d).ex n (p ++ x) r).2 = (Pr.defsGo tk (Pr.lv tk d).ex n x r).2 ∧ ((Pr.defsGo tk (Pr.lv tk d).ex n x r).2.2 = true → (Pr.defsGo tk (Pr.lv tk d).ex n (p ++ x) r).1 = p ++ (Pr.defsGo tk (Pr.lv tk d).ex n x r).1) := by
    intro n
    induction n with
    | zero =>
      intro p x r
      unfold Pr.defsGo
      split <;> simp
    | succ n ih =>
      intro p x r
      unfold Pr.defsGo
      split
      · rw [List.append_assoc]
        exact ih _ _ _
      · simp
  have p1 := hpre 16 [40, 49] [] Pr.Rs.first
  rw [List.append_nil] at p1
  unfold Ps.program Pr.program
  simp only
  rw [p1.1]
  have o1' := o1
  rw [← List.append_nil (severalGo tk (imported tk) [tImport] 16 [] St.first).1] at o1'
  obtain ⟨o2, n2⟩ := sim_defsGo ht hx 64 o1'
  have ss := same_of_end ht o2 (k := 1) (by decide)
  by_cases hb : (Pr.importsGo tk 16 [] Pr.Rs.first).2.2 = true
  · rw [if_pos hb, p1.2 hb]
    have p2 := hpre2 64 [40, 49] (Pr.importsGo tk 16 [] Pr.Rs.first).1 (Pr.importsGo tk 16 [] Pr.Rs.first).2.1
    rw [p2.1]
    by_cases hb2 : (Pr.defsGo tk (Pr.lv tk d).ex 64 (Pr.importsGo tk 16 [] Pr.Rs.first).1 (Pr.importsGo tk 16 [] Pr.Rs.first).2.1).2.2 = true
    · rw [if_pos hb2, p2.2 hb2]
      refine ⟨ss.e, ss.pos, fun h => ?_, ss.used, ss.small⟩
      obtain ⟨q1, q2, q3, q4⟩ := ss.right h
      refine ⟨q1, q2, ?_, q4⟩
      rw [q3, dig1]
      simp
    · have hd := n2 (by simpa using hb2)
      rw [if_neg hb2, kind_dead hd]
      simp only
      rw [node_dead hd]
      exact ⟨o2.2.2.1.1, o2.2.2.1.2.1, fun h => absurd h hd, fun h => absurd h hd, fun h => absurd h hd⟩
  · have hd := n1 (by simpa using hb)
    have hd2 := fun (n : Nat) (ks : List Int) => several_dead (tk := tk) (one := definition tk (Ps.lv tk d).ex) (ts := [tPub, tFun]) hd n ks
    rw [if_neg hb, hd2, kind_dead hd]
    simp only
    rw [node_dead hd]
    exact ⟨o1.2.2.1.1, o1.2.2.1.2.1, fun h => absurd h hd, fun h => absurd h hd, fun h => absurd h hd⟩
theorem same_alone (ht : Toks tk) (d : Nat) : Same tk 18 (alone tk (Ps.lv tk d).ex St.first).2 (Pr.alone tk (Pr.lv tk d).ex Pr.Rs.first).2 (Pr.alone tk (Pr.lv tk d).ex Pr.Rs.first).1 := by
  have hx := (sim_lv ht d).ex
  obtain ⟨hi, hr⟩ := first_out ht
  obtain ⟨i2, r2⟩ := (Out.nil hi hr).clause true
  have o1 : Out tk { St.first with clause := true } _ [((Ps.lv tk d).ex { St.first with clause := true }).1] _ _ := hx.go { St.first with clause := true } { Pr.Rs.first with inn := true } rfl i2 r2
  have o2 : Out tk St.first ((Ps.lv tk d).ex { St.first with clause := true }).2 [((Ps.lv tk d).ex { St.first with clause := true }).1] ((Pr.lv tk d).ex { Pr.Rs.first with inn := true }).2 ((Pr.lv tk d).ex { Pr.Rs.first with inn := true }).1 :=
    ⟨hi, o1.2.1, o1.2.2.1, fun e2 => ⟨(o1.2.2.2 e2).nodes, (o1.2.2.2 e2).used, (o1.2.2.2 e2).lvs, (o1.2.2.2 e2).text, (o1.2.2.2 e2).room⟩⟩
  have ss := same_of_end ht o2 (k := 18) (by decide)
  unfold alone Pr.alone
  refine ⟨ss.e, ss.pos, fun h => ?_, ss.used, ss.small⟩
  obtain ⟨q1, q2, q3, q4⟩ := ss.right h
  refine ⟨q1, q2, ?_, q4⟩
  simp only
  rw [show (node 18 [((Ps.lv tk d).ex { St.first with clause := true }).1, (kind tk 5 ((Ps.lv tk d).ex { St.first with clause := true }).2).1] (kind tk 5 ((Ps.lv tk d).ex { St.first with clause := true }).2).2) = (node 18 ([((Ps.lv tk d).ex { St.first with clause := true }).1] ++ [(kind tk 5 ((Ps.lv tk d).ex { St.first with clause := true }).2).1]) (kind tk 5 ((Ps.lv tk d).ex { St.first with clause := true }).2).2) from rfl, q3, dig18]
  simp
end
end Go.Proofs.YtpkhdlnlkeehhaaGreatDoor.Pc
/- Plain: what each of the parser's functions keeps. No program in sight. -/
namespace Go.Proofs.YtpkhdlnlkeehhaaGreatDoor.Pc
open Tr Ps

section
variable {tk : List Tk}
/-- A document's state beside a program's. -/
def beside (s : St) : Pr.Rs := ⟨s.used, s.clause, s.e, s.pos⟩
theorem rel_beside (s : St) : Rel s (beside s) := ⟨rfl, fun _ => rfl, fun _ => ⟨rfl, rfl⟩⟩
theorem SimL.keep {f : St → List Int × St} {g : Pr.G} (h : SimL tk f g) {s : St} (hi : Inv tk s) : Inv tk (f s).2 := by
  by_cases he : s.e = 0
  · exact (h.go s (beside s) he hi (rel_beside s)).2.1
  · rw [h.df s he]
    exact hi
theorem SimL.used {f : St → List Int × St} {g : Pr.G} (h : SimL tk f g) {s : St} (hi : Inv tk s) (he : s.e = 0) (he2 : (f s).2.e = 0) : s.used ≤ (f s).2.used :=
  ((h.go s (beside s) he hi (rel_beside s)).2.2.2 he2).used
theorem Sim.keep {f : F} {g : Pr.G} (h : Sim tk f g) {s : St} (hi : Inv tk s) : Inv tk (f s).2 := SimL.keep h hi
theorem Out.inv {s0 s : St} {l : List Int} {r : Pr.Rs} {x : List UInt8} (o : Out tk s0 s l r x) : Inv tk s := o.2.1
/-- What a state and roots have come of. -/
def Og (tk : List Tk) (s : St) (l : List Int) : Prop := ∃ s0 r x, Out tk s0 s l r x
theorem Og.nil {s : St} (hi : Inv tk s) : Og tk s [] := ⟨s, beside s, [], Out.nil hi (rel_beside s)⟩
theorem Og.inv {s : St} {l : List Int} (h : Og tk s l) : Inv tk s := by
  obtain ⟨s0, r, x, o⟩ := h
  exact o.2.1
theorem Og.then {s : St} {l : List Int} (h : Og tk s l) {f : F} {g : Pr.G} (k : Sim tk f g) : Og tk (f s).2 (l ++ [(f s).1]) := by
  obtain ⟨s0, r, x, o⟩ := h
  exact ⟨s0, _, _, o.then k⟩
theorem Og.leaf (ht : Toks tk) {s : St} {l : List Int} (h : Og tk s l) (he : s.e = 0) (hk : (peek tk s.used).kind ≠ 5) : Og tk (Ps.leaf tk s).2 (l ++ [(Ps.leaf tk s).1]) ∧ (Ps.leaf tk s).2.e = 0 := by
  obtain ⟨s0, r, x, o⟩ := h
  exact ⟨⟨s0, _, _, (o.leaf ht he hk).1⟩, (o.leaf ht he hk).2⟩
theorem Og.node {s : St} {l : List Int} (h : Og tk s l) {k : Int} (hk : 1 ≤ k ∧ k ≤ 18) (hl : s.e = 0 → 2 ≤ l.length) : Og tk (Ps.node k l s).2 [(Ps.node k l s).1] := by
  obtain ⟨s0, r, x, o⟩ := h
  exact ⟨s0, _, _, o.node hk hl⟩
theorem Og.clause {s : St} {l : List Int} (h : Og tk s l) (b : Bool) : Og tk { s with clause := b } [] := Og.nil h.inv
theorem inv_room {s : St} (h : Inv tk s) (hl : tk.length ≤ 1000000) : 0 < tk.length ∧ tk.length ≤ 1000000 ∧ s.used ≤ tk.length ∧ s.nodes.length ≤ 5000000 := by
  have h1 := h.1
  have h2 := h.2.1
  omega
theorem node_used (k : Int) (l : List Int) (s : St) : (Ps.node k l s).2.used = s.used := by
  unfold Ps.node
  by_cases h : s.e = 0
  · rw [if_pos h]
    by_cases h2 : (l.any fun x => decide (x < 0) || decide ((s.nodes.length : Int) ≤ x)) = true
    · rw [if_pos h2]
    · rw [if_neg h2]
  · rw [if_neg h]
theorem leaf_used {s : St} (hi : Inv tk s) : (Ps.leaf tk s).2.used = s.used + 1 := by
  obtain ⟨t, h1, _⟩ := hi.get
  exact (got_leaf hi.2.2 h1).2.1
end
end Go.Proofs.YtpkhdlnlkeehhaaGreatDoor.Pc
