/- Contracts and plain laws, in one text. tree.Dump. | A builder in memory, and its steps. | Layer 7 (parse) as plain functions: what the program's parser does. No program in sight. | The parser in memory. | ParseLimits: the closure that notes the first fault: the walk. | Plain law: a text's tokens are the text; at least one stands there, the last one the end. No program in sight. | ParseLimits: the text that it builds, and its tokens. No program in sight. | Layer 7 (parse) as plain functions: what the document's parser does. No program in sight. | Plain: forests of nodes that a parser has made, and how they grow. No program in sight. -/
import Derived.Test.YtlejecaanllghaaGreatDoorPlmM3
import Derived.Test.YtlejecaanllghaaGreatDoorPlmM1
import Derived.Test.YtlejecaanllghaaGreatDoorPlmM2
/- tree.Dump. -/
namespace Go.Proofs.YtlejecaanllghaaGreatDoor
open Go.RowKit

theorem check_zero {t : Tr.T} {n : Int} (h : Tr.check t n = 0) : Tr.right t = true ∧ 0 ≤ n ∧ n < (t.nodes.length : Int) := by
  unfold Tr.check at h
  split at h
  · omega
  · rename_i h1
    split at h
    · omega
    · exact ⟨by simpa using h1, by omega, by omega⟩
theorem right_formed {t : Tr.T} (h : Tr.right t = true) : Tr.FormedTo t t.nodes.length := by
  cases hg : Tr.rightGo t 0 t.nodes (List.replicate t.nodes.length false) with
  | none => rw [Tr.right_none hg] at h; cases h
  | some kid => exact Tr.rightGo_formed hg (by simp) (fun j n hj => absurd hj (by omega))

def DumpOut (t : Tr.T) (n : Int) : List UInt8 := if Tr.check t n = 0 then Tr.dump t n.toNat else []

set_option maxRecDepth 100000 in
set_option maxHeartbeats 1000000 in
theorem dump2_calls {w : World} {P : Nat → Prop} {vt vn : Value} {t : Tr.T} (h : RdT w P vt vn t) (hP : ∀ k, P k → k < w.heap.size) (hn : t.nodes.length ≤ 1073741823) (ht : t.toks.length ≤ 1073741823) (hkids : ∀ n ∈ t.nodes, n.kids.length ≤ 1073741823) (n : Int)
    (hl : (DumpOut t n).length ≤ 1073741824) :
    Calls Tryz.prog 43 #[.agg #[vt, vn], .int .i64 n] w fun e w' => e = .returned (.tuple #[.string ⟨(DumpOut t n).toArray⟩, .int .i64 (Tr.check t n)]) ∧ Below w.heap.size w w' := by
  have hb1 : Below w.heap.size w (w.alloc (.cells #[vt, vn] 30)) := (Below.refl _ _).alloc (Nat.le_refl _) _
  have HC := Lib.hid (check_node_calls (h.keep (Keeps.of hb1 hP)) (fun k hk => Nat.lt_of_lt_of_le (hP k hk) hb1.size) hn (by omega) hkids n)
  obtain ⟨at_, ct, rfl⟩ := h.1.form
  obtain ⟨an, cn, rfl⟩ : ∃ a c, vn = .slice a t.nodes.length c := by
    obtain ⟨kvs, _, h2, _⟩ := h.2
    exact h2.form
  have HB := Lib.hid hb1
  have HH := Lib.hid (And.intro h (And.intro hP (And.intro hn (And.intro ht hkids))))
  unfold DumpOut at hl ⊢
  clear h hP hb1 hn ht hkids
  by_cases hc : Tr.check t n = 0
  · rw [if_pos hc] at hl ⊢
    rw [hc] at HC ⊢
    obtain ⟨hr, h0, h1⟩ := check_zero hc
    obtain ⟨i, rfl⟩ : ∃ i : Nat, n = i := ⟨n.toNat, by omega⟩
    rw [Int.toNat_natCast] at hl ⊢
    have HR := Lib.hid (And.intro hr (And.intro h1 hl))
    clear hc hr h0 h1 hl
    go_enter Tryz.func43, Tryz.ntmps43
    go_wp2_with fail
    refine HC.out.mono ?_
    rintro e w2 ⟨rfl, hb2⟩
    have hbx := chk_box hb2
    have c0 := cell_of_heap hbx 0 rfl
    have c1 := cell_of_heap hbx 1 rfl
    have l0 := cell_lt c0
    have hw2 : Below w.heap.size w w2 := HB.out.trans (hb2.mono HB.out.size)
    have HW := Lib.hid (And.intro hw2 hbx)
    clear hb2 hbx hw2
    dsimp only
    go_wp2_with fail
    clear c0 c1 l0
    have hwv : Below w2.heap.size w2 (w2.alloc (.cells #[.pointer none, .slice none 0 0] 115)) := (Below.refl _ _).alloc (Nat.le_refl _) _
    have hbu : IsB (w2.alloc (.cells #[.pointer none, .slice none 0 0] 115)) w2.heap.size w2.heap.size [] := Or.inl ⟨Nat.le_refl _, _, heap_alloc_new _ _, World.ownsRow_nil _ _ _ _, by simp [Value.ownBlock]⟩
    obtain ⟨h, hP, hn, ht, hkids⟩ := HH.out
    have hw0 : Below w.heap.size w (w2.alloc (.cells #[.pointer none, .slice none 0 0] 115)) := HW.out.1.trans (hwv.mono HW.out.1.size)
    refine (dump_calls (B := w2.heap.size) (b := w2.heap.size) (fun k hk => Nat.lt_of_lt_of_le (hP k hk) HW.out.1.size) (right_formed HR.out.1) hn ht hkids i _ [] (by have := HR.out.2.1; omega) (h.keep (Keeps.of hw0 hP)) hwv.size hbu (by simpa using HR.out.2.2)).mono ?_
    rintro e w3 ⟨rfl, hi3, hb3, hn3⟩
    have H3 := Lib.hid (And.intro hi3 (And.intro hb3 (And.intro hw0 hwv)))
    clear h hP hn ht hkids hw0 hwv hbu hi3 hb3 hn3
    dsimp only
    go_wp2_with fail
    refine (Tryz.Builder_String_any w2.heap.size w2.heap.size (Tr.dump t i) _ (by have := H3.out.1; rwa [List.nil_append] at this) (Nat.le_trans H3.out.2.2.2.size H3.out.2.1.size)).mono ?_
    rintro e w4 ⟨rfl, hb4⟩
    have H4 := Lib.hid hb4
    clear hb4
    dsimp only
    go_wp2_with fail
    go_ret2
    exact ⟨rfl, H3.out.2.2.1.trans ((H3.out.2.1.trans H4.out).mono HW.out.1.size)⟩
  · rw [if_neg hc]
    have hc' : (Tr.check t n != 0) = true := by simp [hc]
    generalize Tr.check t n = c at *
    clear hl hc
    go_enter Tryz.func43, Tryz.ntmps43
    go_wp2_with fail
    refine HC.out.mono ?_
    rintro e w2 ⟨rfl, hb2⟩
    have HB2 := Lib.hid hb2
    clear hb2
    dsimp only
    go_wp2_with fail
    go_ret2
    exact ⟨rfl, HB.out.trans (HB2.out.mono HB.out.size)⟩
end Go.Proofs.YtlejecaanllghaaGreatDoor
/- A builder in memory, and its steps. -/
namespace Go.Proofs.YtlejecaanllghaaGreatDoor
open Go.RowKit

section
variable {Q : Nat → Prop}

/-- A token as trees have it. -/
def toTk (t : Lx.Tok) : Tr.Tk := ⟨t.kind, t.lead, t.text, t.pos⟩
theorem toks_cells (l : List Lx.Tok) : toksCells l = tksCells (l.map toTk) := by
  simp only [toksCells, tksCells, List.flatMap_map]
  rfl
theorem Grew.low {w w' : World} {B b : Nat} {vt vn vn' : Value} {t : Tr.T} {used : Nat} (h : Grew w w' b vn vn') (hb : BuildI Q w B b vt vn t used) : Below B w w' := by
  refine ⟨h.1.os, h.1.tape, h.1.output, h.1.size, fun k hk => h.1.block k ?_ ?_⟩
  · have := hb.base; have := lt_heap hb.cell; omega
  · rintro (e | e)
    · have := hb.base; omega
    · obtain ⟨kvs, _, h2, _⟩ := hb.nodes
      have := (h2.lt k e).1
      omega
theorem rds_new (w : World) (l : List Int) {r : Nat} (hr : r = w.heap.size) : RdS (w.alloc (.cells (intCells l).toArray 3)) (fun k => k = w.heap.size) 1 (.slice (some ⟨r, 0, none⟩) l.length l.length) l.length (intCells l) := by
  subst hr
  refine ⟨by simp [intCells], _, _, rfl, Nat.le_refl _, Or.inr ⟨_, _, rfl, Or.inr rfl, ?_⟩⟩
  intro j v hj
  rw [Nat.zero_add]
  exact cell_of_heap (new_at _ _ _ rfl) j (by simpa using hj)
theorem BuildI.alloc {w : World} {B b : Nat} {vt vn : Value} {t : Tr.T} {used : Nat} (h : BuildI Q w B b vt vn t used) (o : Obj) : BuildI Q (w.alloc o) B b vt vn t used :=
  h.keep (by rw [← size_alloc1]; omega) fun k hk _ => Below.heap_alloc _ _ _ hk

def anchorT : Tr.T := ⟨[⟨1, [], [120], 0⟩, ⟨5, [], [], 1⟩], [⟨19, 0, []⟩, ⟨14, -1, [0]⟩, ⟨19, 1, []⟩, ⟨18, -1, [1, 2]⟩]⟩
theorem anchor_lex : Lx.lex [120] = ([⟨1, [], [120], 0⟩, ⟨5, [], [], 1⟩], 0, 0) := by rfl
theorem anchor_right : Tr.right anchorT = true := by rfl
theorem anchor_check : Tr.check anchorT 3 = 0 := by rfl
theorem anchor_dump : DumpOut anchorT 3 = [40, 49, 56, 32, 40, 49, 52, 32, 120, 41, 32, 36, 41] := by
  unfold DumpOut
  rw [anchor_check, if_pos rfl]
  simp [Tr.dump, Tr.dp, anchorT, Lib.decDigits_two]
theorem anchor_whole : wholeOf anchorT.toks = [120] := rfl

/-- All stands but block b and rows of one type. -/
structure NBt (T : TypeId) (b : Nat) (w w' : World) : Prop where
  os : w'.os = w.os
  tape : w'.tape = w.tape
  output : w'.output = w.output
  size : w.heap.size ≤ w'.heap.size
  block : ∀ (k : Nat) (o : Obj), w.heap[k]? = some o → k ≠ b → (∀ cs fr, o ≠ .cells cs T fr) → w'.heap[k]? = some o
theorem NBt.cells {T0 : TypeId} {b k : Nat} {x y : World} (h : NBt T0 b x y) {cs : Array Value} {T : TypeId} {fr : Nat × Nat} (hk : x.heap[k]? = some (.cells cs T fr)) (hne : k ≠ b) (hT : T ≠ T0) : y.heap[k]? = some (.cells cs T fr) :=
  h.block k _ hk hne fun cs2 fr2 e => by injection e with _ e2 _; exact hT e2
theorem NBt.of {T : TypeId} {b : Nat} {x y : World} (h : Below x.heap.size x y) : NBt T b x y :=
  ⟨h.os, h.tape, h.output, h.size, fun i _ hi _ _ => (h.block i (lt_heap hi)).trans hi⟩
theorem NBt.trans {T : TypeId} {b : Nat} {x y z : World} (h : NBt T b x y) (k : NBt T b y z) : NBt T b x z :=
  ⟨k.os.trans h.os, k.tape.trans h.tape, k.output.trans h.output, Nat.le_trans h.size k.size, fun i o hi hb hn => k.block i o (h.block i o hi hb hn) hb hn⟩
theorem Grew.nbt {w w' : World} {B b : Nat} {vt vn vn' : Value} {t : Tr.T} {used : Nat} (h : Grew w w' b vn vn') (hb : BuildI Q w B b vt vn t used) : NBt 175 b w w' := by
  refine ⟨h.1.os, h.1.tape, h.1.output, h.1.size, fun k o hk hne hn => ?_⟩
  rw [h.1.block k (lt_heap hk) ?_]
  · exact hk
  · rintro (e | e)
    · exact hne e
    · obtain ⟨kvs, _, h2, _⟩ := hb.nodes
      rcases h2.2 with ⟨rfl, _⟩ | ⟨g, cap, cur, rfl, _, hg, _⟩
      · cases e
      · injection e with e
        subst e
        rw [hg] at hk
        injection hk with hk
        exact hn _ _ hk.symm

/-- A builder at block b, made since w. -/
def Anc (Q : Nat → Prop) (w W : World) (b : Nat) (t : Tr.T) (used : Nat) : Prop := ∃ B vt vn, w.heap.size ≤ B ∧ BuildI Q W B b vt vn t used ∧ Below w.heap.size w W
theorem anc_after {w V w2 : World} {cs cs2 : Array Value} {T T2 : TypeId} (hV : Below w.heap.size w V) (ht : V.heap[w.heap.size]? = some (.cells cs T (0, 0))) (hb : Below (V.alloc (.cells cs2 T2)).drew.heap.size (V.alloc (.cells cs2 T2)).drew w2) :
    Below w.heap.size w w2 ∧ w2.heap[w.heap.size]? = some (.cells cs T (0, 0)) := rt_after hV ht hb
theorem anc_box {w w' : World} {k : Nat} {o : Obj} (h : w.heap[k]? = some o) (hb : Below w.heap.size w w') : w'.heap[k]? = some o := (hb.block k (lt_heap h)).trans h
theorem Anc.alloc {w W : World} {b : Nat} {t : Tr.T} {used : Nat} (h : Anc Q w W b t used) (o : Obj) : Anc Q w (W.alloc o) b t used := by
  obtain ⟨B, vt, vn, h1, h2, h3⟩ := h
  exact ⟨B, vt, vn, h1, h2.alloc o, h3.alloc h3.size _⟩
theorem Anc.below {w W : World} {b : Nat} {t : Tr.T} {used : Nat} (h : Anc Q w W b t used) : Below w.heap.size w W := by
  obtain ⟨B, vt, vn, h1, h2, h3⟩ := h
  exact h3
theorem Anc.lt {w W : World} {b : Nat} {t : Tr.T} {used : Nat} (h : Anc Q w W b t used) : w.heap.size ≤ b ∧ b < W.heap.size := by
  obtain ⟨B, vt, vn, h1, h2, h3⟩ := h
  exact ⟨Nat.le_trans h1 h2.base, lt_heap h2.cell⟩
/-- What is turned below the builder's base is no concern of its. -/
theorem Anc.past {w W W' : World} {b : Nat} {t : Tr.T} {used : Nat} (h : Anc Q w W b t used) (hb : Below W.heap.size W W') : Anc Q w W' b t used := by
  obtain ⟨B, vt, vn, h1, h2, h3⟩ := h
  exact ⟨B, vt, vn, h1, h2.keep hb.size fun k hk _ => hb.block k hk, h3.trans (hb.mono h3.size)⟩
theorem anc_new (Q : Nat → Prop) {w W : World} {P : Nat → Prop} {v : Value} {l : List Tr.Tk} (h : RdS W P 4 v l.length (tksCells l)) (hn : l.length ≤ 1073741824) (hw : Below w.heap.size w W) :
    Calls Tryz.prog 90 #[v] W fun e w' => ∃ b, e = .returned (.pointer (some ⟨b, 0, none⟩)) ∧ Anc Q w w' b ⟨l, []⟩ 0 ∧ W.heap.size ≤ b ∧ Below W.heap.size W w' := by
  refine (newBuilder_calls Q h hn).mono ?_
  rintro e w' ⟨b, vt, rfl, h1, h2⟩
  exact ⟨b, rfl, ⟨W.heap.size, vt, _, hw.size, h1, hw.trans (h2.mono hw.size)⟩, h1.base, h2⟩
theorem anc_leaf {w W : World} {b : Nat} {t : Tr.T} {used : Nat} (h : Anc Q w W b t used) (hn : t.nodes.length ≤ 1073741823) (ht : t.toks.length ≤ 1073741824) (hu : used < t.toks.length) :
    Calls Tryz.prog 137 #[.pointer (some ⟨b, 0, none⟩)] W fun e w' => e = .returned (.int .i64 t.nodes.length) ∧ Anc Q w w' b ⟨t.toks, t.nodes ++ [⟨19, used, []⟩]⟩ (used + 1) ∧ NBt 175 b W w' := by
  obtain ⟨B, vt, vn, h1, h2, h3⟩ := h
  refine (leaf_calls h2 hn ht (by omega)).mono ?_
  intro e w' hs
  unfold LeafSays at hs
  rw [if_neg (by omega)] at hs
  obtain ⟨vn', rfl, q1, q2⟩ := hs
  exact ⟨rfl, ⟨B, vt, vn', h1, q1, h3.trans ((q2.low h2).mono h1)⟩, q2.nbt h2⟩
theorem anc_leaf_end {w W : World} {b : Nat} {t : Tr.T} (h : Anc Q w W b t t.toks.length) (hn : t.nodes.length ≤ 1073741823) (ht : t.toks.length ≤ 1073741824) :
    Calls Tryz.prog 137 #[.pointer (some ⟨b, 0, none⟩)] W fun e w' => e = .returned (.int .i64 (-1)) ∧ Anc Q w w' b t t.toks.length ∧ NBt 175 b W w' := by
  obtain ⟨B, vt, vn, h1, h2, h3⟩ := h
  refine (leaf_calls h2 hn ht (Nat.le_refl _)).mono ?_
  intro e w' hs
  unfold LeafSays at hs
  rw [if_pos rfl] at hs
  obtain ⟨rfl, q1, q2⟩ := hs
  exact ⟨rfl, ⟨B, vt, vn, h1, q1, h3.trans ((q2.low h2).mono h1)⟩, q2.nbt h2⟩
theorem anc_node {w W : World} {b : Nat} {t : Tr.T} {used : Nat} (h : Anc Q w W b t used) (hn : t.nodes.length ≤ 1073741823) {P : Nat → Prop} {v : Value} {l : List Int} (hk : RdS W P 1 v l.length (intCells l)) (hP : ∀ k, P k → k < W.heap.size) (hl : l.length ≤ 1073741824) (hQ : ∀ k, W.heap.size ≤ k → Q k) (kind : Int) (hok : l.any (badKid t.nodes.length) = false) :
    Calls Tryz.prog 143 #[.pointer (some ⟨b, 0, none⟩), .int .i64 kind, v] W fun e w' => e = .returned (.int .i64 t.nodes.length) ∧ Anc Q w w' b ⟨t.toks, t.nodes ++ [⟨kind, -1, l⟩]⟩ used ∧ NBt 175 b W w' := by
  obtain ⟨B, vt, vn, h1, h2, h3⟩ := h
  refine (node_calls h2 hn hk hP hl hQ kind).mono ?_
  intro e w' hs
  unfold NodeSays at hs
  rw [if_neg (by simp [hok])] at hs
  obtain ⟨vn', rfl, q1, q2⟩ := hs
  exact ⟨rfl, ⟨B, vt, vn', h1, q1, h3.trans ((q2.low h2).mono h1)⟩, q2.nbt h2⟩
theorem anc_node_bad {w W : World} {b : Nat} {t : Tr.T} {used : Nat} (h : Anc Q w W b t used) (hn : t.nodes.length ≤ 1073741823) {P : Nat → Prop} {v : Value} {l : List Int} (hk : RdS W P 1 v l.length (intCells l)) (hP : ∀ k, P k → k < W.heap.size) (hl : l.length ≤ 1073741824) (hQ : ∀ k, W.heap.size ≤ k → Q k) (kind : Int) (hok : l.any (badKid t.nodes.length) = true) :
    Calls Tryz.prog 143 #[.pointer (some ⟨b, 0, none⟩), .int .i64 kind, v] W fun e w' => e = .returned (.int .i64 (-1)) ∧ Anc Q w w' b t used ∧ NBt 175 b W w' := by
  obtain ⟨B, vt, vn, h1, h2, h3⟩ := h
  refine (node_calls h2 hn hk hP hl hQ kind).mono ?_
  intro e w' hs
  unfold NodeSays at hs
  rw [if_pos hok] at hs
  obtain ⟨rfl, q1, q2⟩ := hs
  exact ⟨rfl, ⟨B, vt, vn, h1, q1, h3.trans ((q2.low h2).mono h1)⟩, q2.nbt h2⟩
theorem anc_done {w W : World} {b : Nat} {t : Tr.T} {used : Nat} (h : Anc Q w W b t used) (hn : t.nodes.length ≤ 1073741823) (ht : t.toks.length ≤ 1073741824) (hkids : ∀ n ∈ t.nodes, n.kids.length ≤ 1073741824) :
    Calls Tryz.prog 92 #[.pointer (some ⟨b, 0, none⟩)] W fun e w' => ∃ vt' vn', e = .returned (.agg #[vt', vn']) ∧ RdT w' (fun k => W.heap.size ≤ k ∧ k < w'.heap.size) vt' vn' t ∧ Below W.heap.size W w' := by
  obtain ⟨B, vt, vn, h1, h2, h3⟩ := h
  exact done_calls h2 hn ht hkids


/-- A builder stands where an own row of the caller's grows. -/
theorem BuildI.grown {w w' : World} {B b : Nat} {vt vn : Value} {t : Tr.T} {used : Nat} (h : BuildI Q w B b vt vn t used) (hs : w.heap.size ≤ w'.heap.size) (hT : ∀ (k : Nat) (cs : Array Value) (T : TypeId), w.heap[k]? = some (.cells cs T (0, 0)) → T ≠ 3 → w'.heap[k]? = w.heap[k]?)
    (hq : ∀ k, Q k → k < w.heap.size → w'.heap[k]? = w.heap[k]?) : BuildI Q w' B b vt vn t used := by
  have hbpt : ∀ T k, w'.heap[k]? = w.heap[k]? → BPt T w B b vn k → BPt T w' B b vn k := fun T k he hk => ⟨hk.1.size hs, hk.2.imp fun cs hc => he.trans hc⟩
  have hkt : Keeps (BPt 169 w B b vn) w w' := fun k hk => by
    obtain ⟨cs, hc⟩ := hk.2
    exact hT k cs _ hc (by decide)
  obtain ⟨kvs, hk1, hk2, hk3⟩ := h.nodes
  refine ⟨by rw [hT b _ _ h.cell (by decide)]; exact h.cell, h.base, h.ne, (h.toks.keep hkt).imp fun k hk => hbpt _ k (hkt k hk) hk, kvs, hk1, ownsRow_same hk2 fun k hk => ?_, fun i n kv hin hkv => ?_⟩
  · obtain ⟨cur, hc⟩ := ownsRow_cells hk2 hk
    exact hT k cur _ hc (by decide)
  · have hki : Keeps (BPq Q 3 w B b vn) w w' := fun k hk => hq k hk.2 hk.1.1.2.2.2
    exact ((hk3 i n kv hin hkv).keep hki).imp fun k hk => ⟨hbpt _ k (hki k hk) hk.1, hk.2⟩
theorem Anc.grown {w W W' : World} {b base n : Nat} {t : Tr.T} {used : Nat} {v : Value} {xs : List Value} (h : Anc Q w W b t used) (ho : W.ownsRow base 3 1 v n xs) (hbase : w.heap.size ≤ base) (hv : ∀ k, v.ownBlock = some k → ¬ Q k) (hg : W.grownBy W' v.ownBlock) : Anc Q w W' b t used := by
  obtain ⟨B, vt, vn, h1, h2, h3⟩ := h
  refine ⟨B, vt, vn, h1, h2.grown hg.size (fun k cs T hkk hT => hg.block k (lt_heap hkk) fun e => ?_) (fun k hq hk => hg.block k hk fun e => hv k e.symm hq), h3.grown hg h3.size fun k e => Nat.le_trans hbase (ho.lt k e).1⟩
  obtain ⟨cur, hc⟩ := ownsRow_cells ho e.symm
  rw [hkk] at hc
  simp only [Option.some.injEq, Obj.cells.injEq] at hc
  exact hT hc.2.1
theorem BuildI.imp {R : Nat → Prop} {w : World} {B b : Nat} {vt vn : Value} {t : Tr.T} {used : Nat} (h : BuildI Q w B b vt vn t used) (hq : ∀ k, k < w.heap.size → Q k → R k) : BuildI R w B b vt vn t used := by
  obtain ⟨kvs, hk1, hk2, hk3⟩ := h.nodes
  exact ⟨h.cell, h.base, h.ne, h.toks, kvs, hk1, hk2, fun i n kv hin hkv => (hk3 i n kv hin hkv).imp fun k hk => ⟨hk.1, hq k hk.1.1.2.2.2 hk.2⟩⟩
theorem Anc.imp {R : Nat → Prop} {w W : World} {b : Nat} {t : Tr.T} {used : Nat} (h : Anc Q w W b t used) (hq : ∀ k, k < W.heap.size → Q k → R k) : Anc R w W b t used := by
  obtain ⟨B, vt, vn, h1, h2, h3⟩ := h
  exact ⟨B, vt, vn, h1, h2.imp hq, h3⟩
end
end Go.Proofs.YtlejecaanllghaaGreatDoor
/- Layer 7 (parse) as plain functions: what the program's parser does. No program in sight. -/
namespace Go.Proofs.YtlejecaanllghaaGreatDoor.Ps
open Tr

/-- A parser's state, but for its tokens and its depth. -/
structure St where
  nodes : List Nd
  used : Nat
  clause : Bool
  e : Int
  pos : Int

/-- Texts. -/
def tImport : List UInt8 := [105, 109, 112, 111, 114, 116]
def tPub : List UInt8 := [112, 117, 98]
def tFun : List UInt8 := [102, 117, 110]
def tLet : List UInt8 := [108, 101, 116]
def tIn : List UInt8 := [105, 110]
def tIf : List UInt8 := [105, 102]
def tThen : List UInt8 := [116, 104, 101, 110]
def tElse : List UInt8 := [101, 108, 115, 101]
def tAssert : List UInt8 := [97, 115, 115, 101, 114, 116]
def tTrue : List UInt8 := [116, 114, 117, 101]
def tFalse : List UInt8 := [102, 97, 108, 115, 101]
def tNot : List UInt8 := [110, 111, 116]
def tInt : List UInt8 := [105, 110, 116]
def tBool : List UInt8 := [98, 111, 111, 108]
def tRes : List UInt8 := [114, 101, 115]
def sOr : List (List UInt8) := [[124, 124]]
def sAnd : List (List UInt8) := [[38, 38]]
def sCmp : List (List UInt8) := [[61], [60, 62], [60], [60, 61], [62], [62, 61]]
def sSum : List (List UInt8) := [[43], [45]]
def sMul : List (List UInt8) := [[42], [47], [37]]

section
variable (tk : List Tk)

def peek (u : Nat) : Tk := (tk[min u (tk.length - 1)]?).getD ⟨0, [], [], 0⟩
/-- Does the next token stand among some texts? -/
def nextB (ts : List (List UInt8)) (u : Nat) : Bool := (decide ((peek tk u).kind = 2) || decide ((peek tk u).kind = 4)) && ts.contains (peek tk u).text
def fail (e : Int) (s : St) : St := if s.e = 0 then { s with e := e, pos := (peek tk s.used).pos } else s
def leaf (s : St) : Int × St := if s.used = tk.length then (-1, s) else ((s.nodes.length : Int), { s with nodes := s.nodes ++ [⟨19, (s.used : Int), []⟩], used := s.used + 1 })
def must (ts : List (List UInt8)) (s : St) : Int × St := if s.e = 0 ∧ nextB tk ts s.used = true then leaf tk s else (0, fail tk 22 s)
def kind (k : Int) (s : St) : Int × St := if s.e = 0 ∧ (peek tk s.used).kind = k then leaf tk s else (0, fail tk 22 s)
def node (k : Int) (l : List Int) (s : St) : Int × St :=
  if s.e = 0 then
    if l.any (fun x => decide (x < 0) || decide ((s.nodes.length : Int) ≤ x)) then (-1, s) else ((s.nodes.length : Int), { s with nodes := s.nodes ++ [⟨k, -1, l⟩] })
  else (0, s)
/-- Behind the look at a nesting: d more may be nested. -/
def deep (d : Nat) (s : St) : St := if d = 0 then fail tk 23 s else s

abbrev F := St → Int × St
def rowGo (part : F) (ts : List (List UInt8)) (once : Bool) : Nat → Int → St → Int × St
  | 0, a, s => (a, s)
  | n + 1, a, s =>
    if s.e = 0 ∧ nextB tk ts s.used = true then
      if once then node 10 [a, (leaf tk s).1, (part (leaf tk s).2).1] (part (leaf tk s).2).2
      else rowGo part ts once n (node 10 [a, (leaf tk s).1, (part (leaf tk s).2).1] (part (leaf tk s).2).2).1 (node 10 [a, (leaf tk s).1, (part (leaf tk s).2).1] (part (leaf tk s).2).2).2
    else (a, s)
def row (part : F) (ts : List (List UInt8)) (once : Bool) (s : St) : Int × St := rowGo tk part ts once tk.length (part s).1 (part s).2
def unary (d : Nat) (behind : F) (s : St) : Int × St :=
  if (deep tk d (leaf tk s).2).e = 0 then node 11 [(leaf tk s).1, (behind (deep tk d (leaf tk s).2)).1] (behind (deep tk d (leaf tk s).2)).2 else (0, deep tk d (leaf tk s).2)

def listGo (one : F) : Nat → List Int → St → List Int × St
  | 0, ks, s => (ks, fail tk 15 s)
  | k + 1, ks, s =>
    if s.e = 0 then
      if (one s).2.e = 0 ∧ nextB tk [[44]] (one s).2.used = true then listGo one k (ks ++ [(one s).1, (leaf tk (one s).2).1]) (leaf tk (one s).2).2
      else (ks ++ [(one s).1], (one s).2)
    else (ks, s)
def list (one : F) (s : St) : List Int × St := if nextB tk [[41]] s.used = true then ([], s) else listGo tk one 8 [] s

/-- A level: what is nested so deep. -/
structure Lv where
  ex : F
  fo : F
  ne : F
  fa : F

def callee (s : St) (a : Int) : List Int × St := if nextB tk [[46]] s.used = true then ([a, (leaf tk s).1, (kind tk 1 (leaf tk s).2).1], (kind tk 1 (leaf tk s).2).2) else ([a], s)
def call (ex : F) (l : List Int) (s : St) : Int × St :=
  let p := must tk [[40]] s
  let ls := list tk ex p.2
  let q := must tk [[41]] ls.2
  node 13 (l ++ [p.1] ++ ls.1 ++ [q.1]) q.2
def name (ex : F) (s : St) : Int × St :=
  let a := leaf tk s
  if a.2.clause || !nextB tk [[46], [40]] a.2.used then node 14 [a.1] a.2
  else call tk ex (callee tk a.2 a.1).1 (callee tk a.2 a.1).2
def group (ex : F) (s : St) : Int × St :=
  let a := leaf tk s
  let b := ex a.2
  let c := must tk [[41]] b.2
  node 12 [a.1, b.1, c.1] c.2
def atom (ex : F) (s : St) : Int × St :=
  if s.e = 0 then
    if (peek tk s.used).kind = 3 then node 15 [(leaf tk s).1] (leaf tk s).2
    else if nextB tk [tTrue, tFalse] s.used then node 16 [(leaf tk s).1] (leaf tk s).2
    else if s.clause && nextB tk [tRes] s.used then node 17 [(leaf tk s).1] (leaf tk s).2
    else if nextB tk [[40]] s.used then group tk ex s
    else if (peek tk s.used).kind = 1 then name tk ex s
    else (0, fail tk 22 s)
  else (0, s)
def factor (d : Nat) (lo : Lv) (s : St) : Int × St := if s.e = 0 ∧ nextB tk [[45]] s.used = true then unary tk d lo.fa s else atom tk lo.ex s
def product (d : Nat) (lo : Lv) : F := row tk (factor tk d lo) sMul false
def sum (d : Nat) (lo : Lv) : F := row tk (product tk d lo) sSum false
def comparison (d : Nat) (lo : Lv) : F := row tk (sum tk d lo) sCmp true
def negation (d : Nat) (lo : Lv) (s : St) : Int × St := if s.e = 0 ∧ nextB tk [tNot] s.used = true then unary tk d lo.ne s else comparison tk d lo s
def conjunction (d : Nat) (lo : Lv) : F := row tk (negation tk d lo) sAnd false
def disjunction (d : Nat) (lo : Lv) : F := row tk (conjunction tk d lo) sOr false
def formula (d : Nat) (lo : Lv) (s : St) : Int × St :=
  let a := disjunction tk d lo s
  if a.2.e = 0 ∧ nextB tk [[61, 62]] a.2.used = true then
    let g := leaf tk a.2
    let s2 := deep tk d g.2
    if s2.e = 0 then
      let f := lo.fo s2
      node 10 [a.1, g.1, f.1] f.2
    else (0, s2)
  else a
def exLet (ex : F) (s : St) : Int × St :=
  let a := leaf tk s
  let b := kind tk 1 a.2
  let c := must tk [[61]] b.2
  let d := ex c.2
  let e := must tk [tIn] d.2
  let f := ex e.2
  node 7 [a.1, b.1, c.1, d.1, e.1, f.1] f.2
def exIf (ex : F) (s : St) : Int × St :=
  let a := leaf tk s
  let b := ex a.2
  let c := must tk [tThen] b.2
  let d := ex c.2
  let e := must tk [tElse] d.2
  let f := ex e.2
  node 8 [a.1, b.1, c.1, d.1, e.1, f.1] f.2
def exAssert (ex : F) (s : St) : Int × St :=
  let a := leaf tk s
  let b := ex a.2
  let c := must tk [tIn] b.2
  let d := ex c.2
  node 9 [a.1, b.1, c.1, d.1] d.2
/-- Where there is no fault, and it is not nested too deep. -/
def express (d : Nat) (lo : Lv) (s : St) : Int × St :=
  if s.e = 0 then
    if s.clause then formula tk d lo s
    else if nextB tk [tLet] s.used then exLet tk lo.ex s
    else if nextB tk [tIf] s.used then exIf tk lo.ex s
    else if nextB tk [tAssert] s.used then exAssert tk lo.ex s
    else formula tk d lo s
  else (0, s)
def lv : Nat → Lv
  | 0 => ⟨fun s => (0, fail tk 23 s), fun s => (0, fail tk 23 s), fun s => (0, fail tk 23 s), fun s => (0, fail tk 23 s)⟩
  | d + 1 => ⟨express tk d (lv d), formula tk d (lv d), negation tk d (lv d), factor tk d (lv d)⟩

variable (ex : F)
def typed (l : List Int) (s : St) : List Int × St :=
  let a := must tk [[58]] s
  let b := must tk [tInt, tBool] a.2
  let c := node 5 [b.1] b.2
  if c.2.e = 0 ∧ nextB tk [[123]] c.2.used = true then
    let g := leaf tk c.2
    let f := ex { g.2 with clause := true }
    let m := must tk [[125]] { f.2 with clause := false }
    let n := node 6 [g.1, f.1, m.1] m.2
    (l ++ [a.1, c.1] ++ [n.1], n.2)
  else (l ++ [a.1, c.1], c.2)
def param (s : St) : Int × St :=
  let a := kind tk 1 s
  let t := typed tk ex [a.1] a.2
  node 4 t.1 t.2
def imported (s : St) : Int × St :=
  let a := leaf tk s
  let b := kind tk 1 a.2
  let c := must tk [[59]] b.2
  node 2 [a.1, b.1, c.1] c.2
def defHead (l : List Int) (s : St) : List Int × St :=
  let a := must tk [tFun] s
  let b := kind tk 1 a.2
  let c := must tk [[40]] b.2
  (l ++ [a.1, b.1, c.1], c.2)
def defRest (l : List Int) (s : St) : Int × St :=
  let q := must tk [[41]] s
  let t := typed tk ex (l ++ [q.1]) q.2
  let u := must tk [[61]] t.2
  let v := ex u.2
  let x := must tk [[59]] v.2
  node 3 (t.1 ++ [u.1, v.1, x.1]) x.2
def defn (l : List Int) (s : St) : Int × St :=
  let h := defHead tk l s
  let p := list tk (param tk ex) h.2
  defRest tk ex (h.1 ++ p.1) p.2
def definition (s : St) : Int × St := if nextB tk [tPub] s.used then defn tk ex [(leaf tk s).1] (leaf tk s).2 else defn tk ex [] s
def severalGo (one : F) (ts : List (List UInt8)) : Nat → List Int → St → List Int × St
  | 0, ks, s => if s.e = 0 ∧ nextB tk ts s.used = true then (ks, fail tk 15 s) else (ks, s)
  | n + 1, ks, s => if s.e = 0 ∧ nextB tk ts s.used = true then severalGo one ts n (ks ++ [(one s).1]) (one s).2 else (ks, s)
def program (s : St) : Int × St :=
  let a := severalGo tk (imported tk) [tImport] 16 [] s
  let b := severalGo tk (definition tk ex) [tPub, tFun] 64 [] a.2
  let c := kind tk 5 b.2
  node 1 (a.1 ++ b.1 ++ [c.1]) c.2
def alone (s : St) : Int × St :=
  let f := ex { s with clause := true }
  let c := kind tk 5 f.2
  node 18 [f.1, c.1] c.2
end
def St.first : St := ⟨[], 0, false, 0, 0⟩
end Go.Proofs.YtlejecaanllghaaGreatDoor.Ps
/- The parser in memory. -/
namespace Go.Proofs.YtlejecaanllghaaGreatDoor
open Go.RowKit

section
variable {Q : Nat → Prop}

/-- All blocks stand but those of some types. -/
structure FrT (ts : List TypeId) (w w' : World) : Prop where
  os : w'.os = w.os
  tape : w'.tape = w.tape
  output : w'.output = w.output
  size : w.heap.size ≤ w'.heap.size
  block : ∀ (k : Nat) (o : Obj), w.heap[k]? = some o → (∀ cs T fr, o = .cells cs T fr → T ∉ ts) → w'.heap[k]? = some o
theorem FrT.refl (ts : List TypeId) (w : World) : FrT ts w w := ⟨rfl, rfl, rfl, Nat.le_refl _, fun _ _ h _ => h⟩
theorem FrT.trans {ts : List TypeId} {x y z : World} (h : FrT ts x y) (k : FrT ts y z) : FrT ts x z :=
  ⟨k.os.trans h.os, k.tape.trans h.tape, k.output.trans h.output, Nat.le_trans h.size k.size, fun i o hi hn => k.block i o (h.block i o hi hn) hn⟩
theorem FrT.of {ts : List TypeId} {x y : World} (h : Below x.heap.size x y) : FrT ts x y :=
  ⟨h.os, h.tape, h.output, h.size, fun k o hk _ => (h.block k (lt_heap hk)).trans hk⟩
theorem FrT.cells {ts : List TypeId} {x y : World} (h : FrT ts x y) {k : Nat} {cs : Array Value} {T : TypeId} {fr : Nat × Nat} (hk : x.heap[k]? = some (.cells cs T fr)) (hT : T ∉ ts) : y.heap[k]? = some (.cells cs T fr) :=
  h.block k _ hk fun cs2 T2 fr2 e => by
    injection e with _ e2 _
    rw [← e2]
    exact hT
theorem FrT.of_nbt {ts : List TypeId} {x y : World} {b : Nat} {T TB : TypeId} {cs : Array Value} {fr : Nat × Nat} (h : NBt T b x y) (hb : x.heap[b]? = some (.cells cs TB fr)) (h1 : T ∈ ts) (h2 : TB ∈ ts) : FrT ts x y := by
  refine ⟨h.os, h.tape, h.output, h.size, fun k o hk hn => h.block k o hk ?_ ?_⟩
  · rintro rfl
    rw [hb] at hk
    simp only [Option.some.injEq] at hk
    exact hn cs TB fr hk.symm h2
  · rintro cs2 fr2 rfl
    exact hn cs2 T fr2 rfl h1
/-- A row that is read stands where its blocks are of another type. -/
theorem RdS.frt {ts : List TypeId} {w w' : World} {P : Nat → Prop} {size : Nat} {v : Value} {n : Nat} {xs : List Value} (h : RdS w P size v n xs) (hf : FrT ts w w') {T : TypeId} (hT : T ∉ ts) (hP : ∀ k, P k → ∃ cs fr, w.heap[k]? = some (.cells cs T fr)) : RdS w' P size v n xs :=
  h.keep fun k hk => by
    obtain ⟨cs, fr, hc⟩ := hP k hk
    rw [hc]
    exact hf.cells hc hT
theorem ownsRow_frt {ts : List TypeId} {w w' : World} {base : Nat} {e : TypeId} {size : Nat} {v : Value} {n : Nat} {xs : List Value} (h : w.ownsRow base e size v n xs) (hf : FrT ts w w') (hT : e ∉ ts) : w'.ownsRow base e size v n xs :=
  ownsRow_same h fun k hk => by
    obtain ⟨cur, hc⟩ := ownsRow_cells h hk
    rw [hc]
    exact hf.cells hc hT

/-- A builder stands where a block of another type is turned. -/
theorem BuildI.other {w w' : World} {B b : Nat} {vt vn : Value} {t : Tr.T} {used : Nat} (h : BuildI Q w B b vt vn t used) (hs : w.heap.size ≤ w'.heap.size) {p : Nat} {cs : Array Value} {T : TypeId} (hp : w.heap[p]? = some (.cells cs T (0, 0)))
    (hT : T ≠ 169 ∧ T ≠ 175 ∧ T ≠ 3 ∧ T ≠ 210) (hk : ∀ k, k < w.heap.size → k ≠ p → w'.heap[k]? = w.heap[k]?) : BuildI Q w' B b vt vn t used := by
  have hne : ∀ (k : Nat) (cs2 : Array Value) (T2 : TypeId), T ≠ T2 → w.heap[k]? = some (.cells cs2 T2 (0, 0)) → w'.heap[k]? = some (.cells cs2 T2 (0, 0)) := by
    intro k cs2 T2 h1 h2
    rw [hk k (lt_heap h2), h2]
    rintro rfl
    rw [hp] at h2
    injection h2 with h2
    injection h2 with _ h3 _
    exact h1 h3
  have hkeep : ∀ T2, T ≠ T2 → Keeps (BPt T2 w B b vn) w w' := fun T2 h1 k hk' => by
    obtain ⟨_, cs2, h2⟩ := hk'
    rw [h2]
    exact hne k cs2 T2 h1 h2
  have hbpt : ∀ T2, T ≠ T2 → ∀ k, BPt T2 w B b vn k → BPt T2 w' B b vn k := fun T2 h1 k hk' => ⟨hk'.1.size hs, hk'.2.imp fun cs2 h2 => hne k cs2 T2 h1 h2⟩
  obtain ⟨kvs, hk1, hk2, hk3⟩ := h.nodes
  refine ⟨hne b _ _ hT.2.2.2 h.cell, h.base, h.ne, (h.toks.keep (hkeep _ hT.1)).imp (hbpt _ hT.1), kvs, hk1, ownsRow_same hk2 fun k hk' => ?_, fun i n kv hi hkv => ((hk3 i n kv hi hkv).keep fun k hk => hkeep _ hT.2.2.1 k hk.1).imp fun k hk => ⟨hbpt _ hT.2.2.1 k hk.1, hk.2⟩⟩
  obtain ⟨cur, hc⟩ := ownsRow_cells hk2 hk'
  rw [hc]
  exact hne k cur _ hT.2.1 hc

/-- The types whose blocks a parser turns. -/
def PTs : List TypeId := [163, 210, 175]
def pCells (b : Nat) (dp : Int) (s : Ps.St) : Array Value := #[.pointer (some ⟨b, 0, none⟩), .int .i64 dp, .bool s.clause, .int .i64 s.e, .int .i64 s.pos]
/-- A parser at block p, made since w0, with its builder at block b. -/
structure PI (Q : Nat → Prop) (w0 W : World) (p b : Nat) (tk : List Tr.Tk) (dp : Int) (s : Ps.St) : Prop where
  anc : Anc Q w0 W b ⟨tk, s.nodes⟩ s.used
  cell : W.heap[p]? = some (.cells (pCells b dp s) 163 (0, 0))
  low : w0.heap.size ≤ p
theorem PI.below {w0 W : World} {p b : Nat} {tk : List Tr.Tk} {dp : Int} {s : Ps.St} (h : PI Q w0 W p b tk dp s) : Below w0.heap.size w0 W := h.anc.below
theorem PI.past {w0 W W' : World} {p b : Nat} {tk : List Tr.Tk} {dp : Int} {s : Ps.St} (h : PI Q w0 W p b tk dp s) (hb : Below W.heap.size W W') : PI Q w0 W' p b tk dp s :=
  ⟨h.anc.past hb, anc_box h.cell hb, h.low⟩
theorem PI.c0 {w0 W : World} {p b : Nat} {tk : List Tr.Tk} {dp : Int} {s : Ps.St} (h : PI Q w0 W p b tk dp s) : W.cell? ⟨p, 0, none⟩ = some (.pointer (some ⟨b, 0, none⟩)) := cell_of_heap h.cell 0 rfl
theorem PI.c1 {w0 W : World} {p b : Nat} {tk : List Tr.Tk} {dp : Int} {s : Ps.St} (h : PI Q w0 W p b tk dp s) : W.cell? ⟨p, 1, none⟩ = some (.int .i64 dp) := cell_of_heap h.cell 1 rfl
theorem PI.c2 {w0 W : World} {p b : Nat} {tk : List Tr.Tk} {dp : Int} {s : Ps.St} (h : PI Q w0 W p b tk dp s) : W.cell? ⟨p, 2, none⟩ = some (.bool s.clause) := cell_of_heap h.cell 2 rfl
theorem PI.c3 {w0 W : World} {p b : Nat} {tk : List Tr.Tk} {dp : Int} {s : Ps.St} (h : PI Q w0 W p b tk dp s) : W.cell? ⟨p, 3, none⟩ = some (.int .i64 s.e) := cell_of_heap h.cell 3 rfl
theorem PI.c4 {w0 W : World} {p b : Nat} {tk : List Tr.Tk} {dp : Int} {s : Ps.St} (h : PI Q w0 W p b tk dp s) : W.cell? ⟨p, 4, none⟩ = some (.int .i64 s.pos) := cell_of_heap h.cell 4 rfl
theorem PI.frozen {w0 W : World} {p b : Nat} {tk : List Tr.Tk} {dp : Int} {s : Ps.St} (h : PI Q w0 W p b tk dp s) (j : Nat) : W.frozen? ⟨p, j, none⟩ = false := frozen_of_heap h.cell j
/-- Behind a step of the builder. -/
theorem PI.step {w0 W W' : World} {p b : Nat} {tk : List Tr.Tk} {dp : Int} {s : Ps.St} (h : PI Q w0 W p b tk dp s) {ns : List Tr.Nd} {u : Nat} (ha : Anc Q w0 W' b ⟨tk, ns⟩ u) (hn : NBt 175 b W W') :
    PI Q w0 W' p b tk dp { s with nodes := ns, used := u } ∧ FrT PTs W W' := by
  obtain ⟨B, vt, vn, _, hB, _⟩ := h.anc
  have hne : p ≠ b := by
    rintro rfl
    have h1 := hB.cell
    rw [h.cell] at h1
    injection h1 with h1
    injection h1 with _ h2 _
    exact absurd h2 (by decide)
  exact ⟨⟨ha, hn.cells h.cell hne (by decide), h.low⟩, FrT.of_nbt hn hB.cell (by decide) (by decide)⟩
/-- Behind a store into the parser's own block. -/
theorem PI.set {w0 W W' : World} {p b : Nat} {tk : List Tr.Tk} {dp : Int} {s s' : Ps.St} (h : PI Q w0 W p b tk dp s) (hs : s'.nodes = s.nodes ∧ s'.used = s.used) (ho : W'.os = W.os) (ht : W'.tape = W.tape) (hu : W'.output = W.output) (hz : W.heap.size = W'.heap.size)
    (hc : W'.heap[p]? = some (.cells (pCells b dp s') 163 (0, 0))) (hk : ∀ k, k ≠ p → W'.heap[k]? = W.heap[k]?) : PI Q w0 W' p b tk dp s' ∧ FrT PTs W W' := by
  obtain ⟨B, vt, vn, h1, hB, h3⟩ := h.anc
  refine ⟨⟨⟨B, vt, vn, h1, ?_, ?_⟩, hc, h.low⟩, ⟨ho, ht, hu, by omega, fun k o hk1 hk2 => ?_⟩⟩
  · rw [hs.1, hs.2]
    exact hB.other (by omega) h.cell (by decide) fun k _ hne => hk k hne
  · exact ⟨ho.trans h3.os, ht.trans h3.tape, hu.trans h3.output, by have := h3.size; omega, fun k hk1 => (hk k (by have := h.low; omega)).trans (h3.block k hk1)⟩
  · rw [hk k, hk1]
    rintro rfl
    rw [h.cell] at hk1
    injection hk1 with hk1
    exact hk2 _ _ _ hk1.symm (by decide)
/-- A call of the parser's: what it gives, the state behind it. -/
def Does (Q : Nat → Prop) (w0 : World) (p b : Nat) (tk : List Tr.Tk) (dp : Int) (r : Int × Ps.St) (W : World) (e : Ending) (W' : World) : Prop :=
  e = .returned (.int .i64 r.1) ∧ PI Q w0 W' p b tk dp r.2 ∧ FrT PTs W W'

/-- Q names all that is yet to be made. -/
def Up (Q : Nat → Prop) (W : World) : Prop := ∀ k, W.heap.size ≤ k → Q k
theorem Up.size {W W' : World} (h : Up Q W) (hs : W.heap.size ≤ W'.heap.size) : Up Q W' := fun k hk => h k (Nat.le_trans hs hk)
theorem Up.frt {ts : List TypeId} {W W' : World} (h : Up Q W) (hf : FrT ts W W') : Up Q W' := h.size hf.size
theorem PI.imp {R : Nat → Prop} {w0 W : World} {p b : Nat} {tk : List Tr.Tk} {dp : Int} {s : Ps.St} (h : PI Q w0 W p b tk dp s) (hq : ∀ k, k < W.heap.size → Q k → R k) : PI R w0 W p b tk dp s := ⟨h.anc.imp hq, h.cell, h.low⟩
/-- Where an own row of the caller's grows. -/
theorem PI.grown {w0 W W' : World} {p b base n : Nat} {tk : List Tr.Tk} {dp : Int} {s : Ps.St} {v : Value} {xs : List Value} (h : PI Q w0 W p b tk dp s) (ho : W.ownsRow base 3 1 v n xs) (hbase : w0.heap.size ≤ base) (hv : ∀ k, v.ownBlock = some k → ¬ Q k) (hg : W.grownBy W' v.ownBlock) : PI Q w0 W' p b tk dp s := by
  refine ⟨h.anc.grown ho hbase hv hg, ?_, h.low⟩
  rw [hg.block p (lt_heap h.cell) fun e => ?_]
  · exact h.cell
  · obtain ⟨cur, hc⟩ := ownsRow_cells ho e.symm
    rw [h.cell] at hc
    simp at hc
end
end Go.Proofs.YtlejecaanllghaaGreatDoor
/- ParseLimits: the closure that notes the first fault: the walk. -/
namespace Go.Proofs.YtlejecaanllghaaGreatDoor
open Go.RowKit

def Lm.note (over : Bool) (n : Nat) (q : Int × Int) : Int × Int := if over = true ∧ q.1 = 0 then (15, (n : Int)) else q
/-- The two variables that the law's closure captures: the text, what is wanted. -/
structure Lims (w W : World) (s : List UInt8) (q : Int × Int) : Prop where
  s : W.heap[w.heap.size]? = some (.cells #[.string ⟨s.toArray⟩] 9 (0, 0))
  q : W.heap[w.heap.size + 1]? = some (.cells #[.int .i64 q.1, .int .i64 q.2] 25 (0, 0))
  b : Below w.heap.size w W
theorem lims_new (w : World) (s : List UInt8) (q : Int × Int) : Lims w ((w.alloc (.cells #[.string ⟨s.toArray⟩] 9)).alloc (.cells #[.int .i64 q.1, .int .i64 q.2] 25)) s q :=
  ⟨by rw [Below.heap_alloc _ _ _ (by rw [← size_alloc1]; omega)]; exact heap_alloc_new _ _, heap_alloc2_new _ _ _, ((Below.refl _ _).alloc (Nat.le_refl _) _).alloc (by rw [← size_alloc1]; omega) _⟩
theorem Lims.put {w W : World} {s : List UInt8} {q : Int × Int} (h : Lims w W s q) (t : List UInt8) : Lims w (W.setCell ⟨w.heap.size, 0, none⟩ (.string ⟨t.toArray⟩)) t q :=
  ⟨setCell_row (j := 0) h.s _, by rw [Below.heap_setCell _ _ _ _ (by simp)]; exact h.q, h.b.setCell (Nat.le_refl _) _⟩
theorem Lims.mark {w W : World} {s : List UInt8} {q : Int × Int} (h : Lims w W s q) (r : Int × Int) : Lims w (W.setRow (w.heap.size + 1) #[.int .i64 r.1, .int .i64 r.2]) s r :=
  ⟨by rw [setRow_ne (by omega)]; exact h.s, setRow_at h.q, below_setRow h.b (by omega) _⟩
theorem Lims.past {w W W' : World} {s : List UInt8} {q : Int × Int} (h : Lims w W s q) (hb : Below W.heap.size W W') : Lims w W' s q :=
  ⟨by rw [hb.block _ (by have := lt_heap h.s; omega)]; exact h.s, by rw [hb.block _ (by have := lt_heap h.q; omega)]; exact h.q, h.b.trans (hb.mono h.b.size)⟩

set_option maxRecDepth 100000 in
set_option maxHeartbeats 4000000 in
theorem note_calls {w W : World} {s : List UInt8} {q : Int × Int} (h : Lims w W s q) (over : Bool) :
    Calls Tryz.prog 9 #[.bool over, .pointer (some ⟨w.heap.size + 1, 0, none⟩), .pointer (some ⟨w.heap.size, 0, none⟩)] W fun e W' => e = .returned (.tuple #[]) ∧ Lims w W' s (Lm.note over s.length q) := by
  obtain ⟨e, ps⟩ := q
  have H := Lib.hid h
  have c0 := cell_of_heap h.q 0 rfl
  have c1 := cell_of_heap h.q 1 rfl
  have c2 := cell_of_heap h.s 0 rfl
  dsimp only at c0 c1
  cases over with
  | false =>
    have hd : Lm.note false s.length (e, ps) = (e, ps) := if_neg (fun h => absurd h.1 (by decide))
    rw [hd]
    clear h hd
    go_enter Tryz.func9, Tryz.ntmps9
    go_wp2_with fail
    exact bodyPost_end (results_none rfl _ _ _) rfl ⟨rfl, H.out⟩
  | true =>
    by_cases he : e = 0
    · subst he
      have hd : Lm.note true s.length (0, ps) = (15, (s.length : Int)) := if_pos ⟨rfl, rfl⟩
      rw [hd]
      have HQ : Hid (W.heap[w.heap.size + 1]? = some (.cells #[.int .i64 0, .int .i64 ps] 25 (0, 0))) := Lib.hid h.q
      clear h hd
      go_enter Tryz.func9, Tryz.ntmps9
      go_wp2_with (refine wpList_store_row rfl 25 _ _ rfl 25 (w.heap.size + 1) _ _ rfl HQ.out rfl rfl rfl (by simp [Value.oneCell']) ?_)
      exact bodyPost_end (results_none rfl _ _ _) rfl ⟨rfl, H.out.mark (15, (s.length : Int))⟩
    · have hd : Lm.note true s.length (e, ps) = (e, ps) := if_neg (fun h => he h.2)
      have he2 : (e == 0) = false := by simp [he]
      rw [hd]
      clear h hd
      go_enter Tryz.func9, Tryz.ntmps9
      go_wp2_with fail
      exact bodyPost_end (results_none rfl _ _ _) rfl ⟨rfl, H.out⟩
end Go.Proofs.YtlejecaanllghaaGreatDoor
/- Plain law: a text's tokens are the text; at least one stands there, the last one the end. No program in sight. -/
namespace Go.Proofs.YtlejecaanllghaaGreatDoor.Lx

/-- The text of tokens. -/
def whole (l : List Tok) : List UInt8 := l.flatMap fun t => t.lead ++ t.text
theorem lexGo_whole : ∀ (n : Nat) (r : List UInt8) (p : Nat) (acc : List Tok), r.length < n → (lexGo n r p acc).2.1 = 0 → whole (lexGo n r p acc).1 = whole acc ++ r ∧ acc.length < (lexGo n r p acc).1.length ∧ (lexGo n r p acc).1.length ≤ acc.length + r.length + 1
  | 0, _, _, _, h, _ => absurd h (by omega)
  | n + 1, r, p, acc, h, hz => by
    have hb := between_take r
    by_cases he : (token (r.drop (between r).length)).2.2 = 0
    · have ht := token_text (r.drop (between r).length) he
      by_cases hk : (token (r.drop (between r).length)).1 = 5
      · rw [lexGo_end he hk]
        have h1 := ht.2.1 hk
        rw [h1] at hb
        have h2 : (token (r.drop (between r).length)).2.1 = [] := by
          have h3 := ht.1
          rw [h1] at h3 ⊢
          exact List.prefix_nil.1 h3
        have hb1 : between r = r := by
          have := hb.1
          rw [hb.2, List.append_nil] at this
          exact this
        refine ⟨?_, by simp, by simp⟩
        simp only [whole, List.flatMap_append, List.flatMap_cons, List.flatMap_nil, List.append_nil, h2]
        rw [hb1]
      · rw [lexGo_on he hk] at hz ⊢
        have h3 := ht.2.2 hk
        have h4 := ht.1.length_le
        simp only [List.length_drop] at h4
        have ih := lexGo_whole n _ _ _ (by simp only [List.length_drop]; omega) hz
        obtain ⟨i1, i2, i3⟩ := ih
        refine ⟨?_, ?_, ?_⟩
        · rw [i1]
          simp only [whole, List.flatMap_append, List.flatMap_cons, List.flatMap_nil, List.append_nil, List.append_assoc]
          congr 1
          obtain ⟨y, hy⟩ := ht.1
          have h5 : (token (r.drop (between r).length)).2.1 ++ (r.drop (between r).length).drop (token (r.drop (between r).length)).2.1.length = r.drop (between r).length := by
            generalize (token (r.drop (between r).length)).2.1 = z at hy
            rw [← hy]
            simp
          rw [h5]
          have := hb.1
          rw [hb.2] at this
          exact this
        · simp only [List.length_append, List.length_cons, List.length_nil] at i2
          omega
        · simp only [List.length_append, List.length_cons, List.length_nil, List.length_drop] at i3
          omega
    · rw [lexGo_bad he] at hz
      exact absurd hz he
theorem lex_whole {l : List UInt8} (h : (lex l).2.1 = 0) : whole (lex l).1 = l ∧ 0 < (lex l).1.length ∧ (lex l).1.length ≤ l.length + 1 := by
  unfold lex at h ⊢
  split at h
  · exact absurd h (by simp)
  · rename_i hs
    rw [if_neg hs]
    have := lexGo_whole (l.length + 1) l 0 [] (by omega) h
    simpa [whole] using this
end Go.Proofs.YtlejecaanllghaaGreatDoor.Lx
namespace Go.Proofs.YtlejecaanllghaaGreatDoor
theorem whole_toTk (l : List Lx.Tok) : wholeOf (l.map toTk) = Lx.whole l := by
  simp only [wholeOf, Lx.whole, List.flatMap_map]
  rfl
end Go.Proofs.YtlejecaanllghaaGreatDoor
/- ParseLimits: the text that it builds, and its tokens. No program in sight. -/
namespace Go.Proofs.YtlejecaanllghaaGreatDoor.Lm
open Lx

def impC : List UInt8 := [105, 109, 112, 111, 114, 116, 32, 109, 59]
def defC : List UInt8 := [102, 117, 110, 32, 102, 40, 41, 58, 105, 110, 116, 61, 49, 59]
def gC : List UInt8 := [102, 117, 110, 32, 103, 40]
def parC : List UInt8 := [120, 58, 105, 110, 116]
def hC : List UInt8 := [41, 58, 105, 110, 116, 61, 104, 40]
def argC : List UInt8 := [49]
def endC : List UInt8 := [41, 59]
def reps : Nat → List UInt8 → List UInt8
  | 0, _ => []
  | n + 1, c => c ++ reps n c
theorem reps_back : ∀ (n : Nat) (c : List UInt8), reps (n + 1) c = reps n c ++ c
  | 0, c => by simp [reps]
  | n + 1, c => by
    show c ++ reps (n + 1) c = (c ++ reps n c) ++ c
    rw [reps_back n c, List.append_assoc]
theorem reps_len : ∀ (n : Nat) (c : List UInt8), (reps n c).length = n * c.length
  | 0, c => by simp [reps]
  | n + 1, c => by rw [reps, List.length_append, reps_len n c, Nat.succ_mul, Nat.add_comm]
/-- Copies with commas between them. -/
def sep : Nat → List UInt8 → List UInt8
  | 0, _ => []
  | n + 1, c => reps n (c ++ [44]) ++ c
theorem sep_one (c : List UInt8) : sep 1 c = c := by simp [sep, reps]
theorem sep_next (n : Nat) (c : List UInt8) : sep (n + 2) c = sep (n + 1) c ++ [44] ++ c := by
  simp [sep, reps_back]
def text (i d p a : Nat) : List UInt8 := reps i impC ++ (reps d defC ++ (gC ++ (sep p parC ++ (hC ++ (sep a argC ++ endC)))))

/-- With fuel enough. -/
def Lexes (r : List UInt8) (p : Nat) (acc : List Lx.Tok) (res : List Lx.Tok × Nat × Nat) : Prop := ∀ n, r.length < n → lexGo n r p acc = res
theorem between_zero {c : UInt8} (r : List UInt8) (hb : Lx.blank c = false) (hc : c ≠ 45) : between (c :: r) = [] := by
  have h : rest ((c :: r).length + 1) (c :: r) = c :: r := by
    unfold rest
    simp only [List.dropWhile_cons, hb]
    split
    · rename_i h
      simp at h
      exact absurd h.1 hc
    · rfl
  unfold between
  rw [h]
  simp
theorem between_one {c : UInt8} (r : List UInt8) (hb : Lx.blank c = false) (hc : c ≠ 45) : between (32 :: c :: r) = [32] := by
  have h : rest ((32 :: c :: r).length + 1) (32 :: c :: r) = c :: r := by
    unfold rest
    simp only [List.dropWhile_cons, hb, show Lx.blank 32 = true from rfl]
    split
    · rename_i h
      simp at h
      exact absurd h.1 hc
    · rfl
  unfold between
  rw [h]
  simp
theorem lexes_tok (lead text r : List UInt8) {k p : Nat} {acc : List Lx.Tok} {res : List Lx.Tok × Nat × Nat} (hb : between (lead ++ (text ++ r)) = lead) (ht : token (text ++ r) = (k, text, 0)) (hk : k ≠ 5) (hx : 0 < text.length)
    (h : Lexes r (p + lead.length + text.length) (acc ++ [⟨k, lead, text, p + lead.length⟩]) res) : Lexes (lead ++ (text ++ r)) p acc res := by
  intro n hn
  cases n with
  | zero => exact absurd hn (by omega)
  | succ n =>
    have hd : (lead ++ (text ++ r)).drop (between (lead ++ (text ++ r))).length = text ++ r := by rw [hb]; exact List.drop_left
    rw [lexGo_on (by rw [hd, ht]) (by rw [hd, ht]; exact hk), hd, hb, ht]
    have hd2 : (text ++ r).drop text.length = r := List.drop_left
    rw [hd2]
    refine h n ?_
    simp only [List.length_append] at hn
    omega
theorem lexes_end (p : Nat) (acc : List Lx.Tok) : Lexes [] p acc (acc ++ [⟨5, [], [], p⟩], 0, 0) := by
  intro n hn
  cases n with
  | zero => exact absurd hn (by simp)
  | succ n =>
    have hb : between [] = [] := by rfl
    rw [lexGo_end (by rfl) (by rfl)]
    rfl
def impT (p : Nat) : List Lx.Tok := [⟨2, [], [105, 109, 112, 111, 114, 116], p⟩, ⟨1, [32], [109], p + 7⟩, ⟨4, [], [59], p + 8⟩]
def defT (p : Nat) : List Lx.Tok := [⟨2, [], [102, 117, 110], p⟩, ⟨1, [32], [102], p + 4⟩, ⟨4, [], [40], p + 5⟩, ⟨4, [], [41], p + 6⟩, ⟨4, [], [58], p + 7⟩, ⟨2, [], [105, 110, 116], p + 8⟩, ⟨4, [], [61], p + 11⟩, ⟨3, [], [49], p + 12⟩, ⟨4, [], [59], p + 13⟩]
def gT (p : Nat) : List Lx.Tok := [⟨2, [], [102, 117, 110], p⟩, ⟨1, [32], [103], p + 4⟩, ⟨4, [], [40], p + 5⟩]
def parT (p : Nat) : List Lx.Tok := [⟨1, [], [120], p⟩, ⟨4, [], [58], p + 1⟩, ⟨2, [], [105, 110, 116], p + 2⟩]
def comT (p : Nat) : List Lx.Tok := [⟨4, [], [44], p⟩]
def hT (p : Nat) : List Lx.Tok := [⟨4, [], [41], p⟩, ⟨4, [], [58], p + 1⟩, ⟨2, [], [105, 110, 116], p + 2⟩, ⟨4, [], [61], p + 5⟩, ⟨1, [], [104], p + 6⟩, ⟨4, [], [40], p + 7⟩]
def argT (p : Nat) : List Lx.Tok := [⟨3, [], [49], p⟩]
def endT (p : Nat) : List Lx.Tok := [⟨4, [], [41], p⟩, ⟨4, [], [59], p + 1⟩]
def repsT (f : Nat → List Lx.Tok) (w : Nat) : Nat → Nat → List Lx.Tok
  | 0, _ => []
  | n + 1, p => f p ++ repsT f w n (p + w)
def sepT (f : Nat → List Lx.Tok) (w : Nat) : Nat → Nat → List Lx.Tok
  | 0, _ => []
  | n + 1, p => repsT (fun q => f q ++ comT (q + w)) (w + 1) n p ++ f (p + n * (w + 1))
theorem sep_succ (n : Nat) (c : List UInt8) : sep (n + 1) c = reps n (c ++ [44]) ++ c := rfl
theorem sepT_succ (f : Nat → List Lx.Tok) (w n p : Nat) : sepT f w (n + 1) p = repsT (fun q => f q ++ comT (q + w)) (w + 1) n p ++ f (p + n * (w + 1)) := rfl
theorem imp_lexes (r : List UInt8) {p : Nat} {acc : List Lx.Tok} {res : List Lx.Tok × Nat × Nat} (h : Lexes r (p + 9) (acc ++ impT p) res) : Lexes (impC ++ r) p acc res := by
  refine lexes_tok [] [105, 109, 112, 111, 114, 116] (32 :: 109 :: 59 :: r) (k := 2) (between_zero _ rfl (by decide)) rfl (by decide) (by decide) ?_
  refine lexes_tok [32] [109] (59 :: r) (k := 1) (between_one _ rfl (by decide)) rfl (by decide) (by decide) ?_
  refine lexes_tok [] [59] r (k := 4) (between_zero _ rfl (by decide)) rfl (by decide) (by decide) ?_
  simpa [impT, Nat.add_assoc] using h
theorem def_lexes (r : List UInt8) {p : Nat} {acc : List Lx.Tok} {res : List Lx.Tok × Nat × Nat} (h : Lexes r (p + 14) (acc ++ defT p) res) : Lexes (defC ++ r) p acc res := by
  refine lexes_tok [] [102, 117, 110] (32 :: 102 :: 40 :: 41 :: 58 :: 105 :: 110 :: 116 :: 61 :: 49 :: 59 :: r) (k := 2) (between_zero _ rfl (by decide)) rfl (by decide) (by decide) ?_
  refine lexes_tok [32] [102] (40 :: 41 :: 58 :: 105 :: 110 :: 116 :: 61 :: 49 :: 59 :: r) (k := 1) (between_one _ rfl (by decide)) rfl (by decide) (by decide) ?_
  refine lexes_tok [] [40] (41 :: 58 :: 105 :: 110 :: 116 :: 61 :: 49 :: 59 :: r) (k := 4) (between_zero _ rfl (by decide)) rfl (by decide) (by decide) ?_
  refine lexes_tok [] [41] (58 :: 105 :: 110 :: 116 :: 61 :: 49 :: 59 :: r) (k := 4) (between_zero _ rfl (by decide)) rfl (by decide) (by decide) ?_
  refine lexes_tok [] [58] (105 :: 110 :: 116 :: 61 :: 49 :: 59 :: r) (k := 4) (between_zero _ rfl (by decide)) rfl (by decide) (by decide) ?_
  refine lexes_tok [] [105, 110, 116] (61 :: 49 :: 59 :: r) (k := 2) (between_zero _ rfl (by decide)) rfl (by decide) (by decide) ?_
  refine lexes_tok [] [61] (49 :: 59 :: r) (k := 4) (between_zero _ rfl (by decide)) rfl (by decide) (by decide) ?_
  refine lexes_tok [] [49] (59 :: r) (k := 3) (between_zero _ rfl (by decide)) rfl (by decide) (by decide) ?_
  refine lexes_tok [] [59] r (k := 4) (between_zero _ rfl (by decide)) rfl (by decide) (by decide) ?_
  simpa [defT, Nat.add_assoc] using h
theorem g_lexes (r : List UInt8) {p : Nat} {acc : List Lx.Tok} {res : List Lx.Tok × Nat × Nat} (h : Lexes r (p + 6) (acc ++ gT p) res) : Lexes (gC ++ r) p acc res := by
  refine lexes_tok [] [102, 117, 110] (32 :: 103 :: 40 :: r) (k := 2) (between_zero _ rfl (by decide)) rfl (by decide) (by decide) ?_
  refine lexes_tok [32] [103] (40 :: r) (k := 1) (between_one _ rfl (by decide)) rfl (by decide) (by decide) ?_
  refine lexes_tok [] [40] r (k := 4) (between_zero _ rfl (by decide)) rfl (by decide) (by decide) ?_
  simpa [gT, Nat.add_assoc] using h
theorem parc_lexes (r : List UInt8) {p : Nat} {acc : List Lx.Tok} {res : List Lx.Tok × Nat × Nat} (h : Lexes r (p + 6) (acc ++ (parT p ++ comT (p + 5))) res) : Lexes ((parC ++ [44]) ++ r) p acc res := by
  refine lexes_tok [] [120] (58 :: 105 :: 110 :: 116 :: 44 :: r) (k := 1) (between_zero _ rfl (by decide)) rfl (by decide) (by decide) ?_
  refine lexes_tok [] [58] (105 :: 110 :: 116 :: 44 :: r) (k := 4) (between_zero _ rfl (by decide)) rfl (by decide) (by decide) ?_
  refine lexes_tok [] [105, 110, 116] (44 :: r) (k := 2) (between_zero _ rfl (by decide)) rfl (by decide) (by decide) ?_
  refine lexes_tok [] [44] r (k := 4) (between_zero _ rfl (by decide)) rfl (by decide) (by decide) ?_
  simpa [parT, comT, Nat.add_assoc] using h
theorem par_lexes (r : List UInt8) {p : Nat} {acc : List Lx.Tok} {res : List Lx.Tok × Nat × Nat} (h : Lexes (41 :: r) (p + 5) (acc ++ parT p) res) : Lexes (parC ++ (41 :: r)) p acc res := by
  refine lexes_tok [] [120] (58 :: 105 :: 110 :: 116 :: 41 :: r) (k := 1) (between_zero _ rfl (by decide)) rfl (by decide) (by decide) ?_
  refine lexes_tok [] [58] (105 :: 110 :: 116 :: 41 :: r) (k := 4) (between_zero _ rfl (by decide)) rfl (by decide) (by decide) ?_
  refine lexes_tok [] [105, 110, 116] (41 :: r) (k := 2) (between_zero _ rfl (by decide)) rfl (by decide) (by decide) ?_
  simpa [parT, Nat.add_assoc] using h
theorem h_lexes (r : List UInt8) {p : Nat} {acc : List Lx.Tok} {res : List Lx.Tok × Nat × Nat} (h : Lexes r (p + 8) (acc ++ hT p) res) : Lexes (hC ++ r) p acc res := by
  refine lexes_tok [] [41] (58 :: 105 :: 110 :: 116 :: 61 :: 104 :: 40 :: r) (k := 4) (between_zero _ rfl (by decide)) rfl (by decide) (by decide) ?_
  refine lexes_tok [] [58] (105 :: 110 :: 116 :: 61 :: 104 :: 40 :: r) (k := 4) (between_zero _ rfl (by decide)) rfl (by decide) (by decide) ?_
  refine lexes_tok [] [105, 110, 116] (61 :: 104 :: 40 :: r) (k := 2) (between_zero _ rfl (by decide)) rfl (by decide) (by decide) ?_
  refine lexes_tok [] [61] (104 :: 40 :: r) (k := 4) (between_zero _ rfl (by decide)) rfl (by decide) (by decide) ?_
  refine lexes_tok [] [104] (40 :: r) (k := 1) (between_zero _ rfl (by decide)) rfl (by decide) (by decide) ?_
  refine lexes_tok [] [40] r (k := 4) (between_zero _ rfl (by decide)) rfl (by decide) (by decide) ?_
  simpa [hT, Nat.add_assoc] using h
theorem argc_lexes (r : List UInt8) {p : Nat} {acc : List Lx.Tok} {res : List Lx.Tok × Nat × Nat} (h : Lexes r (p + 2) (acc ++ (argT p ++ comT (p + 1))) res) : Lexes ((argC ++ [44]) ++ r) p acc res := by
  refine lexes_tok [] [49] (44 :: r) (k := 3) (between_zero _ rfl (by decide)) rfl (by decide) (by decide) ?_
  refine lexes_tok [] [44] r (k := 4) (between_zero _ rfl (by decide)) rfl (by decide) (by decide) ?_
  simpa [argT, comT, Nat.add_assoc] using h
theorem arg_lexes (r : List UInt8) {p : Nat} {acc : List Lx.Tok} {res : List Lx.Tok × Nat × Nat} (h : Lexes (41 :: r) (p + 1) (acc ++ argT p) res) : Lexes (argC ++ (41 :: r)) p acc res := by
  refine lexes_tok [] [49] (41 :: r) (k := 3) (between_zero _ rfl (by decide)) rfl (by decide) (by decide) ?_
  simpa [argT, Nat.add_assoc] using h
theorem end_lexes {p : Nat} {acc : List Lx.Tok} {res : List Lx.Tok × Nat × Nat} (h : Lexes [] (p + 2) (acc ++ endT p) res) : Lexes endC p acc res := by
  refine lexes_tok [] [41] [59] (k := 4) (between_zero _ rfl (by decide)) rfl (by decide) (by decide) ?_
  refine lexes_tok [] [59] [] (k := 4) (between_zero _ rfl (by decide)) rfl (by decide) (by decide) ?_
  simpa [endT, Nat.add_assoc] using h
theorem reps_lexes {c : List UInt8} {f : Nat → List Lx.Tok} {w : Nat} (hc : ∀ (r : List UInt8) {p : Nat} {acc : List Lx.Tok} {res : List Lx.Tok × Nat × Nat}, Lexes r (p + w) (acc ++ f p) res → Lexes (c ++ r) p acc res) (r : List UInt8) :
    ∀ (n : Nat) {p : Nat} {acc : List Lx.Tok} {res : List Lx.Tok × Nat × Nat}, Lexes r (p + n * w) (acc ++ repsT f w n p) res → Lexes (reps n c ++ r) p acc res
  | 0, p, acc, res, h => by simpa [reps, repsT] using h
  | n + 1, p, acc, res, h => by
    rw [reps, List.append_assoc]
    refine hc _ (reps_lexes hc r n ?_)
    rw [Nat.add_assoc, Nat.add_comm w, ← Nat.succ_mul, List.append_assoc]
    exact h
/-- All tokens. -/
def tailT (p a q : Nat) : List Lx.Tok := sepT parT 5 p q ++ (hT (q + (sep p parC).length) ++ (sepT argT 1 a (q + (sep p parC).length + 8) ++ (endT (q + (sep p parC).length + 8 + (sep a argC).length) ++ [⟨5, [], [], q + (sep p parC).length + 8 + (sep a argC).length + 2⟩])))
def toks (i d p a : Nat) : List Lx.Tok := repsT impT 9 i 0 ++ (repsT defT 14 d (i * 9) ++ (gT (i * 9 + d * 14) ++ tailT p a (i * 9 + d * 14 + 6)))
theorem args_lexes (a : Nat) {p : Nat} {acc : List Lx.Tok} : Lexes (sep a argC ++ endC) p acc (acc ++ (sepT argT 1 a p ++ (endT (p + (sep a argC).length) ++ [⟨5, [], [], p + (sep a argC).length + 2⟩])), 0, 0) := by
  cases a with
  | zero =>
    have h := end_lexes (p := p) (lexes_end (p + 2) (acc ++ endT p))
    simpa [sep, sepT] using h
  | succ n =>
    unfold sep
    rw [List.append_assoc]
    refine reps_lexes argc_lexes _ n (arg_lexes [59] ?_)
    have h := end_lexes (p := p + n * 2 + 1) (lexes_end (p + n * 2 + 1 + 2) (acc ++ repsT (fun q => argT q ++ comT (q + 1)) 2 n p ++ argT (p + n * 2) ++ endT (p + n * 2 + 1)))
    have hl : (reps n (argC ++ [44]) ++ argC).length = n * 2 + 1 := by rw [List.length_append, reps_len]; rfl
    rw [hl]
    simpa [sepT, endC, Nat.add_assoc] using h
theorem tail_lexes (p a : Nat) {q : Nat} {acc : List Lx.Tok} : Lexes (sep p parC ++ (hC ++ (sep a argC ++ endC))) q acc (acc ++ tailT p a q, 0, 0) := by
  unfold tailT
  cases p with
  | zero =>
    have h := h_lexes (sep a argC ++ endC) (p := q) (args_lexes a (p := q + 8) (acc := acc ++ hT q))
    simpa [sep, sepT, List.append_assoc] using h
  | succ n =>
    have hl : (sep (n + 1) parC).length = n * 6 + 5 := by unfold sep; rw [List.length_append, reps_len]; rfl
    rw [hl, sep_succ n parC, sepT_succ parT 5 n q, List.append_assoc]
    refine reps_lexes parc_lexes _ n (par_lexes _ ?_)
    have h := h_lexes (sep a argC ++ endC) (p := q + n * 6 + 5) (args_lexes a (p := q + n * 6 + 5 + 8) (acc := acc ++ repsT (fun q => parT q ++ comT (q + 5)) 6 n q ++ parT (q + n * 6) ++ hT (q + n * 6 + 5)))
    show Lexes (hC ++ (sep a argC ++ endC)) _ _ _
    simpa [Nat.add_assoc, List.append_assoc] using h
theorem text_len (i d p a : Nat) (h1 : i ≤ 20) (h2 : d ≤ 70) (h3 : p ≤ 12) (h4 : a ≤ 12) : (text i d p a).length ≤ 1500 := by
  have hs : ∀ (n : Nat) (c : List UInt8), (sep n c).length ≤ n * (c.length + 1) := by
    intro n c
    cases n with
    | zero => simp [sep]
    | succ n =>
      simp only [sep, List.length_append, reps_len, List.length_cons, List.length_nil, Nat.succ_mul, Nat.zero_add]
      omega
  have e1 := hs p parC
  have e2 := hs a argC
  have e3 : parC.length = 5 := rfl
  have e4 : argC.length = 1 := rfl
  have e5 : impC.length = 9 := rfl
  have e6 : defC.length = 14 := rfl
  have e7 : gC.length = 6 := rfl
  have e8 : hC.length = 8 := rfl
  have e9 : endC.length = 2 := rfl
  unfold text
  simp only [List.length_append, reps_len, e3, e4, e5, e6, e7, e8, e9] at e1 e2 ⊢
  omega
theorem text_lex (i d p a : Nat) (h1 : i ≤ 20) (h2 : d ≤ 70) (h3 : p ≤ 12) (h4 : a ≤ 12) : lex (text i d p a) = (toks i d p a, 0, 0) := by
  have hl := text_len i d p a h1 h2 h3 h4
  unfold lex
  rw [if_neg (by omega)]
  have h : Lexes (text i d p a) 0 [] (toks i d p a, 0, 0) := by
    unfold text
    refine reps_lexes imp_lexes _ i (reps_lexes def_lexes _ d (g_lexes _ ?_))
    have h := tail_lexes p a (q := 0 + i * 9 + d * 14 + 6) (acc := [] ++ repsT impT 9 i 0 ++ repsT defT 14 d (0 + i * 9) ++ gT (0 + i * 9 + d * 14))
    simpa [toks, List.append_assoc, Nat.add_assoc] using h
  exact h _ (by omega)
end Go.Proofs.YtlejecaanllghaaGreatDoor.Lm
/- Layer 7 (parse) as plain functions: what the document's parser does. No program in sight. -/
namespace Go.Proofs.YtlejecaanllghaaGreatDoor.Pr
open Tr Ps

/-- The document's parser's state, but for its tokens and its depth. -/
structure Rs where
  i : Nat
  inn : Bool
  e : Int
  pos : Int
abbrev Txt := List UInt8
abbrev G := Rs → Txt × Rs

section
variable (tk : List Tk)
def tok (i : Nat) : Tk := (tk[i]?).getD ⟨0, [], [], 0⟩
def fail (e : Int) (s : Rs) : Rs := if s.e = 0 then { s with e := e, pos := (tok tk s.i).pos } else s
def is (x : Txt) (s : Rs) : Bool := decide (s.e = 0) && (decide ((tok tk s.i).kind = 2) || decide ((tok tk s.i).kind = 4)) && (tok tk s.i).text == x
def leaf (s : Rs) : Txt × Rs := if (tok tk s.i).kind = 5 then ([32, 36], s) else (32 :: (tok tk s.i).text, { s with i := s.i + 1 })
def must (x : Txt) (s : Rs) : Txt × Rs := if is tk x s then leaf tk s else ([], fail tk 22 s)
def kind (k : Int) (s : Rs) : Txt × Rs := if s.e = 0 ∧ (tok tk s.i).kind = k then leaf tk s else ([], fail tk 22 s)
def nest (d : Nat) (s : Rs) : Rs := if d = 0 then fail tk 23 s else s

/-- Does one of some texts come next? -/
def any (ts : List Txt) (s : Rs) : Bool := ts.any fun x => is tk x s
def bin (a g b : Txt) : Txt := [32, 40, 49, 48] ++ a ++ g ++ b ++ [41]
def rowGo (part : G) (ts : List Txt) : Nat → Txt → Rs → Txt × Rs
  | 0, a, s => (a, s)
  | n + 1, a, s => if any tk ts s then rowGo part ts n (bin a (leaf tk s).1 (part (leaf tk s).2).1) (part (leaf tk s).2).2 else (a, s)
def row (part : G) (ts : List Txt) (s : Rs) : Txt × Rs := rowGo tk part ts tk.length (part s).1 (part s).2
def unary (d : Nat) (behind : G) (s : Rs) : Txt × Rs :=
  let g := leaf tk s
  let s2 := nest tk d g.2
  if s2.e = 0 then
    let b := behind s2
    ([32, 40, 49, 49] ++ g.1 ++ b.1 ++ [41], b.2)
  else ([], s2)
def argsGo (ex : G) : Nat → Nat → Txt → Rs → Txt × Rs
  | 0, _, a, s => (a, s)
  | n + 1, k, a, s =>
    if is tk [44] s then
      let g := leaf tk s
      let s2 := if k = 8 then fail tk 15 g.2 else g.2
      let b := ex s2
      argsGo ex n (k + 1) (a ++ g.1 ++ b.1) b.2
    else (a, s)
def args (ex : G) (s : Rs) : Txt × Rs := argsGo tk ex tk.length 1 (ex s).1 (ex s).2

structure Lv where
  ex : G
  fo : G
  ne : G
  fa : G
def callee (a : Txt) (s : Rs) : Txt × Rs :=
  if is tk [46] s then
    let g := leaf tk s
    let k := kind tk 1 g.2
    (a ++ (g.1 ++ k.1), k.2)
  else (a, s)
def call (ex : G) (a : Txt) (s : Rs) : Txt × Rs :=
  let p := must tk [40] s
  let ls := if is tk [41] p.2 then (a ++ p.1, p.2) else ((a ++ p.1) ++ (args tk ex p.2).1, (args tk ex p.2).2)
  let q := must tk [41] ls.2
  ([32, 40, 49, 51] ++ ls.1 ++ q.1 ++ [41], q.2)
def name (ex : G) (s : Rs) : Txt × Rs :=
  let a := leaf tk s
  if a.2.inn || (!is tk [46] a.2 && !is tk [40] a.2) then ([32, 40, 49, 52] ++ a.1 ++ [41], a.2)
  else call tk ex (callee tk a.1 a.2).1 (callee tk a.1 a.2).2
def atom (ex : G) (s : Rs) : Txt × Rs :=
  if s.e = 0 then
    if (tok tk s.i).kind = 3 then ([32, 40, 49, 53] ++ (leaf tk s).1 ++ [41], (leaf tk s).2)
    else if is tk tTrue s || is tk tFalse s then ([32, 40, 49, 54] ++ (leaf tk s).1 ++ [41], (leaf tk s).2)
    else if s.inn && is tk tRes s then ([32, 40, 49, 55] ++ (leaf tk s).1 ++ [41], (leaf tk s).2)
    else if is tk [40] s then
      let a := leaf tk s
      let b := ex a.2
      let c := must tk [41] b.2
      ([32, 40, 49, 50] ++ a.1 ++ b.1 ++ c.1 ++ [41], c.2)
    else if (tok tk s.i).kind = 1 then name tk ex s
    else ([], fail tk 22 s)
  else ([], s)
def factor (d : Nat) (lo : Lv) (s : Rs) : Txt × Rs := if is tk [45] s then unary tk d lo.fa s else atom tk lo.ex s
def product (d : Nat) (lo : Lv) : G := row tk (factor tk d lo) sMul
def sum (d : Nat) (lo : Lv) : G := row tk (product tk d lo) sSum
def not (d : Nat) (lo : Lv) (s : Rs) : Txt × Rs :=
  if is tk tNot s then unary tk d lo.ne s
  else
    let a := sum tk d lo s
    if any tk sCmp a.2 then
      let g := leaf tk a.2
      let b := sum tk d lo g.2
      (bin a.1 g.1 b.1, b.2)
    else a
def and (d : Nat) (lo : Lv) : G := row tk (not tk d lo) sAnd
def or (d : Nat) (lo : Lv) : G := row tk (and tk d lo) sOr
def formula (d : Nat) (lo : Lv) (s : Rs) : Txt × Rs :=
  let a := or tk d lo s
  if is tk [61, 62] a.2 then
    let g := leaf tk a.2
    let s2 := nest tk d g.2
    if s2.e = 0 then
      let f := lo.fo s2
      (bin a.1 g.1 f.1, f.2)
    else ([], s2)
  else a
def exLet (ex : G) (s : Rs) : Txt × Rs :=
  let a := leaf tk s
  let b := kind tk 1 a.2
  let c := must tk [61] b.2
  let d := ex c.2
  let e := must tk tIn d.2
  let f := ex e.2
  ([32, 40, 55] ++ a.1 ++ b.1 ++ c.1 ++ d.1 ++ e.1 ++ f.1 ++ [41], f.2)
def exIf (ex : G) (s : Rs) : Txt × Rs :=
  let a := leaf tk s
  let b := ex a.2
  let c := must tk tThen b.2
  let d := ex c.2
  let e := must tk tElse d.2
  let f := ex e.2
  ([32, 40, 56] ++ a.1 ++ b.1 ++ c.1 ++ d.1 ++ e.1 ++ f.1 ++ [41], f.2)
def exAssert (ex : G) (s : Rs) : Txt × Rs :=
  let a := leaf tk s
  let b := ex a.2
  let c := must tk tIn b.2
  let d := ex c.2
  ([32, 40, 57] ++ a.1 ++ b.1 ++ c.1 ++ d.1 ++ [41], d.2)
def express (d : Nat) (lo : Lv) (s : Rs) : Txt × Rs :=
  if s.e = 0 then
    if !s.inn && is tk tLet s then exLet tk lo.ex s
    else if !s.inn && is tk tIf s then exIf tk lo.ex s
    else if !s.inn && is tk tAssert s then exAssert tk lo.ex s
    else formula tk d lo s
  else ([], s)
def lv : Nat → Lv
  | 0 => ⟨fun s => ([], fail tk 23 s), fun s => ([], s), fun s => ([], s), fun s => ([], s)⟩
  | d + 1 => ⟨express tk d (lv d), formula tk d (lv d), not tk d (lv d), factor tk d (lv d)⟩

variable (ex : G)
def base (a : Txt) (s : Rs) : Txt × Rs := if is tk tInt s || is tk tBool s then (a ++ ([32, 40, 53] ++ (leaf tk s).1 ++ [41]), (leaf tk s).2) else (a, fail tk 22 s)
def typed (s : Rs) : Txt × Rs :=
  let a := must tk [58] s
  let b := base tk a.1 a.2
  if is tk [123] b.2 then
    let g := leaf tk b.2
    let f := ex { g.2 with inn := true }
    let m := must tk [125] { f.2 with inn := false }
    (b.1 ++ ([32, 40, 54] ++ g.1 ++ f.1 ++ m.1 ++ [41]), m.2)
  else b
def param (s : Rs) : Txt × Rs :=
  let k := kind tk 1 s
  let t := typed tk ex k.2
  ([32, 40, 52] ++ k.1 ++ t.1 ++ [41], t.2)
def params (s : Rs) : Txt × Rs := args tk (param tk ex) s
def head (s : Rs) : Txt × Rs := if is tk tPub s then ([32, 40, 51] ++ (leaf tk s).1, (leaf tk s).2) else ([32, 40, 51], s)
def defHead (a : Txt) (s : Rs) : Txt × Rs :=
  let f := must tk tFun s
  let b := kind tk 1 f.2
  let c := must tk [40] b.2
  (a ++ (f.1 ++ b.1 ++ c.1), c.2)
def defList (a : Txt) (s : Rs) : Txt × Rs := if s.e = 0 ∧ is tk [41] s = false then (a ++ (params tk ex s).1, (params tk ex s).2) else (a, s)
def defRest (a : Txt) (s : Rs) : Txt × Rs :=
  let q := must tk [41] s
  let t := typed tk ex q.2
  let u := must tk [61] t.2
  let v := ex u.2
  let x := must tk [59] v.2
  (a ++ (q.1 ++ t.1 ++ u.1) ++ v.1 ++ x.1 ++ [41], x.2)
def defn (a : Txt) (s : Rs) : Txt × Rs :=
  let h := defHead tk a s
  let l := defList tk ex h.1 h.2
  defRest tk ex l.1 l.2
def definition (s : Rs) : Txt × Rs := defn tk ex (head tk s).1 (head tk s).2
def importsGo : Nat → Txt → Rs → Txt × Rs × Bool
  | 0, a, s => if is tk tImport s then ([], fail tk 15 s, false) else (a, s, true)
  | n + 1, a, s =>
    if is tk tImport s then
      let g := leaf tk s
      let k := kind tk 1 g.2
      let m := must tk [59] k.2
      importsGo n (a ++ ([32, 40, 50] ++ g.1 ++ k.1 ++ m.1 ++ [41])) m.2
    else (a, s, true)
def defsGo : Nat → Txt → Rs → Txt × Rs × Bool
  | 0, a, s => if is tk tPub s || is tk tFun s then ([], fail tk 15 s, false) else (a, s, true)
  | n + 1, a, s => if is tk tPub s || is tk tFun s then defsGo n (a ++ (definition tk ex s).1) (definition tk ex s).2 else (a, s, true)
def program (s : Rs) : Txt × Rs :=
  let a := importsGo tk 16 [40, 49] s
  if a.2.2 then
    let b := defsGo tk ex 64 a.1 a.2.1
    if b.2.2 then
      let c := kind tk 5 b.2.1
      (b.1 ++ c.1 ++ [41], c.2)
    else ([], b.2.1)
  else ([], a.2.1)
def alone (s : Rs) : Txt × Rs :=
  let f := ex { s with inn := true }
  let c := kind tk 5 f.2
  ([40, 49, 56] ++ f.1 ++ c.1 ++ [41], c.2)
end
def Rs.first : Rs := ⟨0, false, 0, 0⟩
end Go.Proofs.YtlejecaanllghaaGreatDoor.Pr
/- Plain: forests of nodes that a parser has made, and how they grow. No program in sight. -/
namespace Go.Proofs.YtlejecaanllghaaGreatDoor.Pc
open Tr Ps

theorem lv_app {ns m : List Nd} (h : Low ns) : ∀ (f i : Nat), i < ns.length → Tr.lv (ns ++ m) f i = Tr.lv ns f i
  | 0, _, _ => rfl
  | f + 1, i, hi => by
    unfold Tr.lv
    rw [List.getElem?_append_left hi]
    cases hn : ns[i]? with
    | none => rfl
    | some n =>
      simp only
      split
      · rfl
      · rw [List.flatMap_def, List.flatMap_def]
        congr 1
        apply List.map_congr_left
        intro k hk
        have := (h i n hn).1 k hk
        exact lv_app h f k.toNat (by omega)
theorem leafs_app {ns m : List Nd} (h : Low ns) {i : Nat} (hi : i < ns.length) : leafs (ns ++ m) i = leafs ns i := lv_app h _ _ hi
theorem dp_app {tk : List Tk} {ns m : List Nd} (h : Low ns) : ∀ (f i : Nat), i < ns.length → Tr.dp ⟨tk, ns ++ m⟩ f i = Tr.dp ⟨tk, ns⟩ f i
  | 0, _, _ => rfl
  | f + 1, i, hi => by
    unfold Tr.dp
    simp only
    rw [List.getElem?_append_left hi]
    cases hn : ns[i]? with
    | none => rfl
    | some n =>
      simp only
      split
      · rfl
      · rw [List.flatMap_def, List.flatMap_def]
        congr 3
        apply List.map_congr_left
        intro k hk
        have := (h i n hn).1 k hk
        rw [dp_app h f k.toNat (by omega)]
theorem dump_app {tk : List Tk} {ns m : List Nd} (h : Low ns) {i : Nat} (hi : i < ns.length) : dump ⟨tk, ns ++ m⟩ i = dump ⟨tk, ns⟩ i := dp_app h _ _ hi

/-- Each node is of the right form. -/
def Fm (tk : List Tk) (ns : List Nd) : Prop := ∀ (j : Nat) (n : Nd), ns[j]? = some n → formed ⟨tk, ns⟩ j n = true
theorem Fm.low {tk : List Tk} {ns : List Nd} (h : Fm tk ns) : Low ns := fun i n hn => formed_low (h i n hn)
theorem Fm.snoc {tk : List Tk} {ns : List Nd} (h : Fm tk ns) {n : Nd} (hn : formed ⟨tk, ns⟩ ns.length n = true) : Fm tk (ns ++ [n]) := by
  intro j x hj
  rcases Nat.lt_trichotomy j ns.length with h1 | h1 | h1
  · rw [List.getElem?_append_left h1] at hj
    exact h j x hj
  · subst h1
    rw [List.getElem?_append_right (Nat.le_refl _), Nat.sub_self] at hj
    simp only [List.getElem?_cons_zero, Option.some.injEq] at hj
    subst hj
    exact hn
  · rw [List.getElem?_eq_none (by simp; omega)] at hj
    cases hj

def ints (a n : Nat) : List Int := (List.range' a n).map Int.ofNat
theorem ints_app (a m n : Nat) : ints a m ++ ints (a + m) n = ints a (m + n) := by
  unfold ints
  rw [← List.map_append, List.range'_append_1]
theorem ints_one (a : Nat) : ints a 1 = [(a : Int)] := rfl
theorem mem_ints {a n : Nat} {x : Int} : x ∈ ints a n ↔ (a : Int) ≤ x ∧ x < ((a + n : Nat) : Int) := by
  unfold ints
  simp only [List.mem_map, List.mem_range'_1]
  constructor
  · rintro ⟨y, hy, rfl⟩
    show (a : Int) ≤ (y : Int) ∧ _
    simp only [Int.ofNat_eq_natCast]
    omega
  · rintro ⟨h1, h2⟩
    exact ⟨x.toNat, by omega, by simp only [Int.ofNat_eq_natCast]; omega⟩

/-- From one state to another: the nodes that have come are a forest with these roots, over the tokens that were used; and this is the roots' text. -/
structure Got (tk : List Tk) (s0 s : St) (l : List Int) (x : List UInt8) : Prop where
  nodes : ∃ m, s.nodes = s0.nodes ++ m ∧ (m.flatMap (·.kids) ++ l).Perm (ints s0.nodes.length m.length)
  used : s0.used ≤ s.used
  lvs : l.flatMap (fun k => leafs s.nodes k.toNat) = ints s0.used (s.used - s0.used)
  text : l.flatMap (fun k => 32 :: dump ⟨tk, s.nodes⟩ k.toNat) = x
  room : s.nodes.length + l.length + 3 * s0.used ≤ s0.nodes.length + 3 * s.used
theorem Got.nil (tk : List Tk) (s : St) : Got tk s s [] [] := ⟨⟨[], by simp [ints]⟩, Nat.le_refl _, by simp [ints], rfl, by simp⟩
/-- The roots are places of nodes. -/
theorem Got.mem {tk : List Tk} {s0 s : St} {l : List Int} {x : List UInt8} (h : Got tk s0 s l x) {k : Int} (hk : k ∈ l) : (s0.nodes.length : Int) ≤ k ∧ k < (s.nodes.length : Int) := by
  obtain ⟨m, hm, hp⟩ := h.nodes
  have h1 := hp.mem_iff.1 (List.mem_append_right _ hk)
  rw [mem_ints] at h1
  rw [hm, List.length_append]
  exact h1
theorem flatMap_congr' {α β : Type} {f g : α → List β} {l : List α} (h : ∀ x ∈ l, f x = g x) : l.flatMap f = l.flatMap g := by
  rw [List.flatMap_def, List.flatMap_def, List.map_congr_left h]
theorem Got.trans {tk : List Tk} {s0 s1 s2 : St} {l1 l2 : List Int} {x1 x2 : List UInt8} (hf : Fm tk s1.nodes) (h : Got tk s0 s1 l1 x1) (k : Got tk s1 s2 l2 x2) : Got tk s0 s2 (l1 ++ l2) (x1 ++ x2) := by
  obtain ⟨m1, e1, p1⟩ := h.nodes
  obtain ⟨m2, e2, p2⟩ := k.nodes
  have hlt : ∀ y ∈ l1, y.toNat < s1.nodes.length := fun y hy => by have := h.mem hy; omega
  have hu := h.used
  have ku := k.used
  refine ⟨⟨m1 ++ m2, by rw [e2, e1, List.append_assoc], ?_⟩, Nat.le_trans h.used k.used, ?_, ?_, ?_⟩
  · rw [List.length_append, ← ints_app, List.flatMap_append]
    have e3 : s0.nodes.length + m1.length = s1.nodes.length := by rw [e1, List.length_append]
    rw [e3]
    refine List.Perm.trans ?_ (p1.append p2)
    simp only [List.append_assoc]
    refine List.Perm.append_left _ ?_
    rw [← List.append_assoc, ← List.append_assoc]
    exact List.Perm.append_right _ List.perm_append_comm
  · rw [List.flatMap_append, k.lvs, flatMap_congr' (g := fun y => leafs s1.nodes y.toNat) (fun y hy => by rw [e2]; exact leafs_app hf.low (hlt y hy)), h.lvs]
    have e3 : s1.used = s0.used + (s1.used - s0.used) := by omega
    rw [e3, Nat.add_sub_cancel_left, ints_app]
    congr 1
    omega
  · rw [List.flatMap_append, k.text, flatMap_congr' (g := fun y => 32 :: dump ⟨tk, s1.nodes⟩ y.toNat) (fun y hy => by rw [e2, dump_app hf.low (hlt y hy)]), h.text]
  · have := h.room
    have := k.room
    rw [List.length_append]
    omega

theorem formed_leaf {tk : List Tk} {ns : List Nd} {i u : Nat} (h : u < tk.length) : formed ⟨tk, ns⟩ i ⟨19, (u : Int), []⟩ = true := by
  unfold formed
  rw [if_neg (by show ¬ ((19 : Int) < 1 ∨ (19 : Int) < 19); omega), if_pos rfl]
  simp only [List.isEmpty_nil, Bool.true_and, Bool.and_eq_true, decide_eq_true_eq]
  omega
theorem formed_node {tk : List Tk} {ns : List Nd} {i : Nat} {k : Int} {l : List Int} (hk : 1 ≤ k ∧ k ≤ 18) (hl : ∀ x ∈ l, 0 ≤ x ∧ x < (i : Int)) : formed ⟨tk, ns⟩ i ⟨k, -1, l⟩ = true := by
  unfold formed
  rw [if_neg (by show ¬ (k < 1 ∨ 19 < k); omega), if_neg (by show ¬ k = 19; omega)]
  simp only [decide_true, Bool.true_and, Bool.not_eq_true', List.any_eq_false]
  intro x hx
  have := hl x hx
  simp only [Bool.or_eq_true, decide_eq_true_eq, not_or]
  omega

/-- A leaf of the next token. -/
theorem got_leaf {tk : List Tk} {s : St} (hf : Fm tk s.nodes) {k : Tk} (hk : tk[s.used]? = some k) : Fm tk (leaf tk s).2.nodes ∧ (leaf tk s).2.used = s.used + 1 ∧ (leaf tk s).2.e = s.e ∧ (leaf tk s).2.nodes.length = s.nodes.length + 1 ∧ (leaf tk s).2.clause = s.clause ∧
    Got tk s (leaf tk s).2 [(leaf tk s).1] (32 :: ((if k.kind = 5 then [36] else []) ++ k.text)) := by
  have hu := get_lt hk
  have e : leaf tk s = ((s.nodes.length : Int), { s with nodes := s.nodes ++ [⟨19, (s.used : Int), []⟩], used := s.used + 1 }) := by unfold leaf; rw [if_neg (by omega)]
  rw [e]
  have hn : (s.nodes ++ [(⟨19, (s.used : Int), []⟩ : Nd)])[s.nodes.length]? = some ⟨19, (s.used : Int), []⟩ := by
    rw [List.getElem?_append_right (Nat.le_refl _), Nat.sub_self]; rfl
  refine ⟨hf.snoc (formed_leaf hu), rfl, rfl, by simp, rfl, ⟨[⟨19, (s.used : Int), []⟩], rfl, ?_⟩, Nat.le_succ _, ?_, ?_, by simp; omega⟩
  · exact List.Perm.refl _
  · simp only [List.flatMap_cons, List.flatMap_nil, List.append_nil, Int.toNat_natCast, Nat.add_sub_cancel_left]
    rw [leafs_leaf hn rfl, ints_one]
  · simp only [List.flatMap_cons, List.flatMap_nil, List.append_nil, Int.toNat_natCast]
    rw [dump_leaf (t := ⟨tk, s.nodes ++ [(⟨19, (s.used : Int), []⟩ : Nd)]⟩) hn rfl (show tk[((s.used : Int)).toNat]? = some k by simpa using hk)]

/-- A node of the roots. -/
theorem got_node {tk : List Tk} {s0 s : St} {l : List Int} {x : List UInt8} (hf : Fm tk s.nodes) (h : Got tk s0 s l x) (he : s.e = 0) {k : Int} (hk : 1 ≤ k ∧ k ≤ 18) (hr : s.nodes.length + 2 + 3 * s0.used ≤ s0.nodes.length + 3 * s.used) :
    Fm tk (node k l s).2.nodes ∧ (node k l s).2.used = s.used ∧ (node k l s).2.e = 0 ∧ (node k l s).2.nodes.length = s.nodes.length + 1 ∧ (node k l s).2.clause = s.clause ∧ Got tk s0 (node k l s).2 [(node k l s).1] ([32, 40] ++ Lib.decDigits k.toNat ++ x ++ [41]) := by
  have hm : ∀ y ∈ l, 0 ≤ y ∧ y < (s.nodes.length : Int) := fun y hy => by have := h.mem hy; omega
  have e : node k l s = ((s.nodes.length : Int), { s with nodes := s.nodes ++ [⟨k, -1, l⟩] }) := by
    unfold node
    rw [if_pos he, if_neg]
    simp only [List.any_eq_true, Bool.or_eq_true, decide_eq_true_eq, not_exists, not_and]
    intro y hy
    have := hm y hy
    omega
  rw [e]
  have hf2 : Fm tk (s.nodes ++ [⟨k, -1, l⟩]) := hf.snoc (formed_node hk hm)
  have hn : (s.nodes ++ [(⟨k, -1, l⟩ : Nd)])[s.nodes.length]? = some ⟨k, -1, l⟩ := by
    rw [List.getElem?_append_right (Nat.le_refl _), Nat.sub_self]; rfl
  obtain ⟨m, e1, p1⟩ := h.nodes
  refine ⟨hf2, rfl, he, by simp, rfl, ⟨m ++ [⟨k, -1, l⟩], by simp [e1], ?_⟩, h.used, ?_, ?_, by simp; omega⟩
  · rw [List.length_append, List.length_singleton, ← ints_app, ints_one, List.flatMap_append]
    have e3 : s0.nodes.length + m.length = s.nodes.length := by rw [e1, List.length_append]
    rw [e3]
    simp only [List.flatMap_cons, List.flatMap_nil, List.append_nil]
    exact p1.append_right _
  · simp only [List.flatMap_cons, List.flatMap_nil, List.append_nil, Int.toNat_natCast]
    rw [leafs_node hf2.low hn (by show k ≠ 19; omega), ← h.lvs]
    exact flatMap_congr' fun y hy => leafs_app hf.low (by have := hm y hy; omega)
  · simp only [List.flatMap_cons, List.flatMap_nil, List.append_nil, Int.toNat_natCast]
    rw [dump_node (t := ⟨tk, s.nodes ++ [(⟨k, -1, l⟩ : Nd)]⟩) hf2.low hn (by show k ≠ 19; omega), ← h.text]
    simp only [List.cons_append, List.nil_append, List.append_assoc, List.cons.injEq, true_and]
    congr 2
    exact flatMap_congr' fun y hy => by rw [dump_app hf.low (by have := hm y hy; omega)]
end Go.Proofs.YtlejecaanllghaaGreatDoor.Pc
/- Plain: the program's parser and the document's, step by step side by side. No program in sight. -/
namespace Go.Proofs.YtlejecaanllghaaGreatDoor.Pc
open Tr Ps

/-- Tokens as they come of a text: the last one, and no other, is the end. -/
structure Toks (tk : List Tk) : Prop where
  pos : 0 < tk.length
  last : ∀ k, tk[tk.length - 1]? = some k → k.kind = 5 ∧ k.text = []
  other : ∀ i k, i + 1 < tk.length → tk[i]? = some k → k.kind ≠ 5

def Inv (tk : List Tk) (s : St) : Prop := s.used + 1 ≤ tk.length ∧ s.nodes.length ≤ 3 * s.used ∧ Fm tk s.nodes
def Rel (s : St) (r : Pr.Rs) : Prop := r.e = s.e ∧ (s.e ≠ 0 → r.pos = s.pos) ∧ (s.e = 0 → r.i = s.used ∧ r.inn = s.clause)
def Out (tk : List Tk) (s0 s : St) (l : List Int) (r : Pr.Rs) (x : List UInt8) : Prop := Inv tk s0 ∧ Inv tk s ∧ Rel s r ∧ (s.e = 0 → Got tk s0 s l x)
structure SimL (tk : List Tk) (f : St → List Int × St) (g : Pr.G) : Prop where
  go : ∀ s r, s.e = 0 → Inv tk s → Rel s r → Out tk s (f s).2 (f s).1 (g r).2 (g r).1
  df : ∀ s, s.e ≠ 0 → (f s).2 = s
  dg : ∀ r, r.e ≠ 0 → (g r).2 = r
def lift (f : F) (s : St) : List Int × St := ([(f s).1], (f s).2)
abbrev Sim (tk : List Tk) (f : F) (g : Pr.G) : Prop := SimL tk (lift f) g

section
variable {tk : List Tk} {s0 s : St} {l : List Int} {r : Pr.Rs} {x : List UInt8}

theorem Out.cast (h : Out tk s0 s l r x) {y : List UInt8} (e : x = y) : Out tk s0 s l r y := e ▸ h
theorem Out.nil (hi : Inv tk s) (hr : Rel s r) : Out tk s s [] r [] := ⟨hi, hi, hr, fun _ => Got.nil _ _⟩
theorem Out.dead (h : Out tk s0 s l r x) (he : s.e ≠ 0) (l2 : List Int) (x2 : List UInt8) : Out tk s0 s l2 r x2 := ⟨h.1, h.2.1, h.2.2.1, fun h0 => absurd h0 he⟩
theorem Out.then (h : Out tk s0 s l r x) {f : St → List Int × St} {g : Pr.G} (k : SimL tk f g) : Out tk s0 (f s).2 (l ++ (f s).1) (g r).2 (x ++ (g r).1) := by
  by_cases he : s.e = 0
  · obtain ⟨_, h2, h3, h4⟩ := k.go s r he h.2.1 h.2.2.1
    exact ⟨h.1, h2, h3, fun e2 => (h.2.2.2 he).trans h.2.1.2.2 (h4 e2)⟩
  · have hr : r.e ≠ 0 := by rw [h.2.2.1.1]; exact he
    rw [k.df s he, k.dg r hr]
    exact h.dead he _ _

theorem Inv.get (h : Inv tk s) : ∃ k, tk[s.used]? = some k ∧ peek tk s.used = k ∧ Pr.tok tk s.used = k := by
  have h1 := h.1
  obtain ⟨k, hk⟩ : ∃ k, tk[s.used]? = some k := ⟨_, List.getElem?_eq_getElem (by omega)⟩
  refine ⟨k, hk, ?_, ?_⟩
  · unfold peek
    rw [Nat.min_eq_left (by omega), hk]
    rfl
  · unfold Pr.tok
    rw [hk]
    rfl
theorem peek_tok (hi : Inv tk s) (hr : Rel s r) (he : s.e = 0) : Pr.tok tk r.i = peek tk s.used := by
  obtain ⟨k, _, h2, h3⟩ := hi.get
  rw [(hr.2.2 he).1, h2, h3]
theorem is_dead (he : r.e ≠ 0) (y : List UInt8) : Pr.is tk y r = false := by
  unfold Pr.is
  rw [decide_eq_false he]
  rfl
theorem any_dead (he : r.e ≠ 0) (ts : List (List UInt8)) : Pr.any tk ts r = false := by
  unfold Pr.any
  rw [List.any_eq_false]
  intro y _
  rw [is_dead he]
  simp
theorem fail_dead {e : Int} (he : s.e ≠ 0) : fail tk e s = s := by unfold fail; rw [if_neg he]
theorem rfail_dead {e : Int} (he : r.e ≠ 0) : Pr.fail tk e r = r := by unfold Pr.fail; rw [if_neg he]
theorem is_eq (hi : Inv tk s) (hr : Rel s r) (he : s.e = 0) (y : List UInt8) : Pr.is tk y r = nextB tk [y] s.used := by
  unfold Pr.is nextB
  rw [peek_tok hi hr he, hr.1, decide_eq_true he, Bool.true_and]
  congr 1
  rw [Bool.eq_iff_iff]
  simp
theorem any_eq (hi : Inv tk s) (hr : Rel s r) (he : s.e = 0) (ts : List (List UInt8)) : Pr.any tk ts r = nextB tk ts s.used := by
  unfold Pr.any nextB
  have : ∀ y, Pr.is tk y r = ((decide ((peek tk s.used).kind = 2) || decide ((peek tk s.used).kind = 4)) && (peek tk s.used).text == y) := by
    intro y
    unfold Pr.is
    rw [peek_tok hi hr he, hr.1, decide_eq_true he, Bool.true_and]
  simp only [this]
  cases (decide ((peek tk s.used).kind = 2) || decide ((peek tk s.used).kind = 4)) with
  | false => simp
  | true => 
    simp only [Bool.true_and]
    rw [Bool.eq_iff_iff]
    simp
theorem both_any (h : Out tk s0 s l r x) (ts : List (List UInt8)) : (s.e = 0 ∧ nextB tk ts s.used = true) ↔ Pr.any tk ts r = true := by
  by_cases he : s.e = 0
  · rw [any_eq h.2.1 h.2.2.1 he]
    simp [he]
  · rw [any_dead (by rw [h.2.2.1.1]; exact he)]
    simp [he]
theorem both_is (h : Out tk s0 s l r x) (y : List UInt8) : (s.e = 0 ∧ nextB tk [y] s.used = true) ↔ Pr.is tk y r = true := by
  by_cases he : s.e = 0
  · rw [is_eq h.2.1 h.2.2.1 he]
    simp [he]
  · rw [is_dead (by rw [h.2.2.1.1]; exact he)]
    simp [he]
theorem next_kind {ts : List (List UInt8)} {u : Nat} (h : nextB tk ts u = true) : (peek tk u).kind ≠ 5 := by
  unfold nextB at h
  simp only [Bool.and_eq_true, Bool.or_eq_true, decide_eq_true_eq] at h
  omega

theorem Out.fail (h : Out tk s0 s l r x) {e : Int} (h0 : e ≠ 0) (l2 : List Int) (x2 : List UInt8) : Out tk s0 (fail tk e s) l2 (Pr.fail tk e r) x2 := by
  by_cases he : s.e = 0
  · have h1 : Ps.fail tk e s = { s with e := e, pos := (peek tk s.used).pos } := by unfold Ps.fail; rw [if_pos he]
    have h2 : Pr.fail tk e r = { r with e := e, pos := (Pr.tok tk r.i).pos } := by unfold Pr.fail; rw [if_pos (h.2.2.1.1.trans he)]
    rw [h1, h2, peek_tok h.2.1 h.2.2.1 he]
    exact ⟨h.1, h.2.1, ⟨rfl, fun _ => rfl, fun e2 => absurd e2 h0⟩, fun e2 => absurd e2 h0⟩
  · rw [fail_dead he, rfail_dead (by rw [h.2.2.1.1]; exact he)]
    exact h.dead he _ _
theorem Out.leaf (ht : Toks tk) (h : Out tk s0 s l r x) (he : s.e = 0) (hk : (peek tk s.used).kind ≠ 5) : Out tk s0 (leaf tk s).2 (l ++ [(leaf tk s).1]) (Pr.leaf tk r).2 (x ++ (Pr.leaf tk r).1) ∧ (Ps.leaf tk s).2.e = 0 := by
  obtain ⟨k, h1, h2, h3⟩ := h.2.1.get
  rw [h2] at hk
  obtain ⟨g1, g2, g3, g4, g6, g5⟩ := got_leaf h.2.1.2.2 h1
  rw [if_neg hk, List.nil_append] at g5
  have hl : Pr.leaf tk r = (32 :: k.text, { r with i := r.i + 1 }) := by
    unfold Pr.leaf
    rw [(h.2.2.1.2.2 he).1, h3, if_neg hk]
  have hlast : s.used + 2 ≤ tk.length := by
    have q := h.2.1.1
    rcases Nat.lt_or_ge (s.used + 1) tk.length with h4 | h4
    · exact h4
    · exact absurd (ht.last k (by rw [← h1]; congr 1; omega)).1 hk
  have q := h.2.1.2.1
  have r1 := (h.2.2.1.2.2 he).1
  rw [hl]
  refine ⟨⟨h.1, ⟨by rw [g2]; omega, by rw [g2, g4]; omega, g1⟩, ⟨?_, fun e2 => absurd (g3.trans he) e2, fun _ => ⟨by rw [g2, ← r1], ?_⟩⟩, fun _ => (h.2.2.2 he).trans h.2.1.2.2 g5⟩, g3.trans he⟩
  · rw [g3]
    exact h.2.2.1.1
  · rw [g6]
    exact (h.2.2.1.2.2 he).2
theorem Out.node (h : Out tk s0 s l r x) {k : Int} (hk : 1 ≤ k ∧ k ≤ 18) (hl : s.e = 0 → 2 ≤ l.length) : Out tk s0 (node k l s).2 [(node k l s).1] r ([32, 40] ++ Lib.decDigits k.toNat ++ x ++ [41]) := by
  by_cases he : s.e = 0
  · have hg := h.2.2.2 he
    have hr := hg.room
    have h2 := hl he
    obtain ⟨g1, g2, g3, g4, hc, g5⟩ := got_node h.2.1.2.2 hg he hk (by omega)
    have q := h.1.2.1
    refine ⟨h.1, ⟨by rw [g2]; exact h.2.1.1, by rw [g2, g4]; omega, g1⟩, ⟨by rw [g3, h.2.2.1.1, he], fun e2 => absurd g3 e2, fun _ => ⟨by rw [g2]; exact (h.2.2.1.2.2 he).1, by rw [hc]; exact (h.2.2.1.2.2 he).2⟩⟩, fun _ => g5⟩
  · have e1 : Ps.node k l s = (0, s) := by unfold Ps.node; rw [if_neg he]
    rw [e1]
    exact h.dead he _ _
theorem node_dead {k : Int} (he : s.e ≠ 0) : node k l s = (0, s) := by unfold node; rw [if_neg he]
/-- A leaf of its own, and the node over it. -/
theorem Out.one (ht : Toks tk) (hi : Inv tk s) (hr : Rel s r) (he : s.e = 0) (hk : (peek tk s.used).kind ≠ 5) {k : Int} (hk2 : 1 ≤ k ∧ k ≤ 18) :
    Out tk s (Ps.node k [(Ps.leaf tk s).1] (Ps.leaf tk s).2).2 [(Ps.node k [(Ps.leaf tk s).1] (Ps.leaf tk s).2).1] (Pr.leaf tk r).2 ([32, 40] ++ Lib.decDigits k.toNat ++ (Pr.leaf tk r).1 ++ [41]) := by
  have o1 := (Out.nil hi hr).leaf ht he hk
  obtain ⟨t, h1, h2, h3⟩ := hi.get
  obtain ⟨g1, g2, g3, g4, g6, g5⟩ := got_leaf hi.2.2 h1
  have o := o1.1
  have hg : Got tk s (Ps.leaf tk s).2 [(Ps.leaf tk s).1] (Pr.leaf tk r).1 := by simpa using o.2.2.2 o1.2
  obtain ⟨k1, k2, k3, k4, hc, k5⟩ := got_node o.2.1.2.2 hg o1.2 hk2 (by rw [g4, g2]; omega)
  have q := hi.2.1
  refine ⟨hi, ⟨by rw [k2]; exact o.2.1.1, by rw [k2, k4, g4, g2]; omega, k1⟩, ⟨by rw [k3, o.2.2.1.1, o1.2], fun e2 => absurd k3 e2, fun _ => ⟨by rw [k2]; exact (o.2.2.1.2.2 o1.2).1, by rw [hc]; exact (o.2.2.1.2.2 o1.2).2⟩⟩, fun _ => k5⟩
end

section
variable {tk : List Tk}

theorem sim_must (ht : Toks tk) (y : List UInt8) : Sim tk (must tk [y]) (Pr.must tk y) := by
  refine ⟨fun s r he hi hr => ?_, fun s he => ?_, fun r he => ?_⟩
  · have o := Out.nil hi hr
    have hb := is_eq hi hr he y
    unfold lift must Pr.must
    by_cases h : nextB tk [y] s.used = true
    · rw [if_pos ⟨he, h⟩, if_pos (by rw [hb]; exact h)]
      exact (o.leaf ht he (next_kind h)).1
    · rw [if_neg (by simp [h]), if_neg (by rw [hb]; exact h)]
      exact o.fail (by decide) _ _
  · unfold lift must
    rw [if_neg (by simp [he]), fail_dead he]
  · unfold Pr.must
    rw [is_dead he, if_neg (by simp), rfail_dead he]
theorem sim_kind (ht : Toks tk) {k : Int} (h5 : k ≠ 5) : Sim tk (kind tk k) (Pr.kind tk k) := by
  refine ⟨fun s r he hi hr => ?_, fun s he => ?_, fun r he => ?_⟩
  · have o := Out.nil hi hr
    have hb := peek_tok hi hr he
    unfold lift kind Pr.kind
    by_cases h : (peek tk s.used).kind = k
    · rw [if_pos ⟨he, h⟩, if_pos ⟨hr.1.trans he, by rw [hb]; exact h⟩]
      exact (o.leaf ht he (by rw [h]; exact h5)).1
    · rw [if_neg (by simp [h]), if_neg (by rw [hb]; simp [h])]
      exact o.fail (by decide) _ _
  · unfold lift kind
    rw [if_neg (by simp [he]), fail_dead he]
  · unfold Pr.kind
    rw [if_neg (by simp [he]), rfail_dead he]

/-- A row's parts. -/
theorem sim_rowGo (ht : Toks tk) {part : F} {gpart : Pr.G} (hp : Sim tk part gpart) (ts : List (List UInt8)) : ∀ (n : Nat) {s0 s : St} {a : Int} {r : Pr.Rs} {x : List UInt8}, Out tk s0 s [a] r x →
    Out tk s0 (rowGo tk part ts false n a s).2 [(rowGo tk part ts false n a s).1] (Pr.rowGo tk gpart ts n x r).2 (Pr.rowGo tk gpart ts n x r).1
  | 0, _, _, _, _, _, o => o
  | n + 1, s0, s, a, r, x, o => by
    unfold rowGo Pr.rowGo
    have hb := both_any o ts
    by_cases h : s.e = 0 ∧ nextB tk ts s.used = true
    · rw [if_pos h, if_pos (hb.1 h)]
      have o1 := (o.leaf ht h.1 (next_kind h.2)).1.then hp
      have o2 := (o1.node (k := 10) (by decide) (fun _ => by simp [lift])).cast (y := Pr.bin x (Pr.leaf tk r).1 (gpart (Pr.leaf tk r).2).1) (by simp [Pr.bin, Lib.decDigits_two, List.append_assoc])
      exact sim_rowGo ht hp ts n o2
    · rw [if_neg h, if_neg (fun e => h (hb.2 e))]
      exact o
theorem rowGo_dead {part : F} {ts : List (List UInt8)} {once : Bool} {s : St} (he : s.e ≠ 0) : ∀ (n : Nat) (a : Int), (rowGo tk part ts once n a s).2 = s
  | 0, _ => rfl
  | n + 1, a => by unfold rowGo; rw [if_neg (by simp [he])]
theorem rrowGo_dead {part : Pr.G} {ts : List (List UInt8)} {r : Pr.Rs} (he : r.e ≠ 0) : ∀ (n : Nat) (x : List UInt8), (Pr.rowGo tk part ts n x r).2 = r
  | 0, _ => rfl
  | n + 1, a => by unfold Pr.rowGo; rw [if_neg (by rw [any_dead he]; simp)]
theorem sim_row (ht : Toks tk) {part : F} {gpart : Pr.G} (hp : Sim tk part gpart) (ts : List (List UInt8)) : Sim tk (row tk part ts false) (Pr.row tk gpart ts) := by
  refine ⟨fun s r he hi hr => ?_, fun s he => ?_, fun r he => ?_⟩
  · exact sim_rowGo ht hp ts tk.length (hp.go s r he hi hr)
  · have h1 : (part s).2 = s := hp.df s he
    unfold lift row
    rw [h1]
    exact rowGo_dead he _ _
  · have h1 := hp.dg r he
    unfold Pr.row
    rw [h1]
    exact rrowGo_dead he _ _
end
end Go.Proofs.YtlejecaanllghaaGreatDoor.Pc
