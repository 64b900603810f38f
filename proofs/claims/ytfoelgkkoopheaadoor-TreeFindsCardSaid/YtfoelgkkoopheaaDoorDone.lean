/- The tree's builder: Done. -/
import Derived.Test.YtfoelgkkoopheaaDoorBuildO
import Derived.Deep.Cut
namespace Go.Proofs.YtfoelgkkoopheaaDoor
open Go.RowKit

/-- A tree that the call builds: its two slices; block b holds them. -/
structure TrI (w : World) (B b : Nat) (vt vn : Value) (t : Tr.T) : Prop where
  base : B ≤ b
  lt : b < w.heap.size
  ne : vn.ownBlock ≠ some b
  toks : RdS w (BP w B b vn) 4 vt t.toks.length (tksCells t.toks)
  nodes : ∃ kvs : List Value, kvs.length = t.nodes.length ∧ w.ownsRow B 38 3 vn t.nodes.length ((t.nodes.zip kvs).flatMap ndCells) ∧
    ∀ (i : Nat) (n : Tr.Nd) (kv : Value), t.nodes[i]? = some n → kvs[i]? = some kv → RdS w (BP w B b vn) 1 kv n.kids.length (intCells n.kids)

theorem TrI.keep {w w' : World} {B b : Nat} {vt vn : Value} {t : Tr.T} (h : TrI w B b vt vn t) (hs : w.heap.size ≤ w'.heap.size) (hk : ∀ k, k < w.heap.size → k ≠ b → B ≤ k → w'.heap[k]? = w.heap[k]?) : TrI w' B b vt vn t := by
  have hkeep : Keeps (BP w B b vn) w w' := fun k hk' => hk k hk'.2.2.2 hk'.2.1 hk'.1
  obtain ⟨kvs, hk1, hk2, hk3⟩ := h.nodes
  exact ⟨h.base, Nat.lt_of_lt_of_le h.lt hs, h.ne, (h.toks.keep hkeep).imp fun k hk => hk.size hs, kvs, hk1, ownsRow_same hk2 fun k hk' => hk k (hk2.lt k hk').2 (fun e => h.ne (by rw [hk', e])) (hk2.lt k hk').1, fun i n kv hi hkv => ((hk3 i n kv hi hkv).keep hkeep).imp fun k hk => hk.size hs⟩
theorem TrI.below {w w' : World} {B b : Nat} {vt vn : Value} {t : Tr.T} (h : TrI w B b vt vn t) (hb : Below w.heap.size w w') : TrI w' B b vt vn t := h.keep hb.size fun k hk _ _ => hb.block k hk
theorem TrI.own {w w' : World} {B b : Nat} {vt vn : Value} {t : Tr.T} (h : TrI w B b vt vn t) {base : Nat} {e : TypeId} {size n : Nat} {v : Value} {xs : List Value} (ho : w'.ownsRow base e size v n xs) (hb : w.heap.size ≤ base) :
    RdS w' (BP w' B b vn) size v n xs := by
  refine (RdS.own ho).imp fun k hk => ⟨?_, ?_, ?_, hk.2.2⟩
  · have := h.base; have := h.lt; omega
  · have := h.lt; omega
  · obtain ⟨kvs, _, hk2, _⟩ := h.nodes
    intro e
    have := (hk2.lt k e).2
    omega
theorem TrI.rd {w : World} {B b : Nat} {vt vn : Value} {t : Tr.T} (h : TrI w B b vt vn t) : RdT w (fun k => B ≤ k ∧ k < w.heap.size) vt vn t := by
  obtain ⟨kvs, hk1, hk2, hk3⟩ := h.nodes
  exact ⟨h.toks.imp fun k hk => ⟨hk.1, hk.2.2.2⟩, kvs, hk1, (RdS.own hk2).imp fun k hk => hk.2, fun i n kv hi hkv => (hk3 i n kv hi hkv).weak.imp fun k hk => ⟨hk.1, hk.2.2.2⟩⟩

/-- One node more. -/
theorem TrI.push {w w1 : World} {B b : Nat} {vt vn : Value} {t : Tr.T} (h : TrI w B b vt vn t) {n : Tr.Nd} {kv : Value} (hk : RdS w (BP w B b vn) 1 kv n.kids.length (intCells n.kids)) {g cap : Nat}
    {kvs : List Value} (hk1 : kvs.length = t.nodes.length) (hk3 : ∀ (i : Nat) (n : Tr.Nd) (kv : Value), t.nodes[i]? = some n → kvs[i]? = some kv → RdS w (BP w B b vn) 1 kv n.kids.length (intCells n.kids))
    (hown : w1.ownsRow B 38 3 (.slice (some ⟨g, 0, none⟩) (t.nodes.length + 1) cap) (t.nodes.length + 1) ((t.nodes.zip kvs).flatMap ndCells ++ [.int .i64 n.kind, .int .i64 n.tok, kv]))
    (hgrow : w.grownBy w1 vn.ownBlock) (hat : vn.ownBlock = some g ∨ w.heap.size ≤ g) :
    TrI (w1.setCell ⟨b, 1, none⟩ (.slice (some ⟨g, 0, none⟩) (t.nodes.length + 1) cap)) B b vt (.slice (some ⟨g, 0, none⟩) (t.nodes.length + 1) cap) ⟨t.toks, t.nodes ++ [n]⟩ := by
  have hblt := h.lt
  have hs1 : w.heap.size ≤ w1.heap.size := hgrow.size
  have hgb : g ≠ b := by
    rcases hat with h1 | h1
    · intro e; exact h.ne (by rw [h1, e])
    · omega
  have hglt : g < w1.heap.size := (hown.lt g rfl).2
  generalize hv : Value.slice (some ⟨g, 0, none⟩) (t.nodes.length + 1) cap = v at *
  have hvo : v.ownBlock = some g := by rw [← hv]; rfl
  have hsz : (w1.setCell ⟨b, 1, none⟩ v).heap.size = w1.heap.size := by simp [World.setCell]
  have hne : ∀ k, k ≠ b → (w1.setCell ⟨b, 1, none⟩ v).heap[k]? = w1.heap[k]? := fun k h2 => Below.heap_setCell _ _ _ _ h2
  have hold : ∀ k, k < w.heap.size → k ≠ b → vn.ownBlock ≠ some k → (w1.setCell ⟨b, 1, none⟩ v).heap[k]? = w.heap[k]? := by
    intro k h1 h2 h3
    rw [hne k h2, hgrow.block k h1 (fun e => h3 e.symm)]
  have hbp : ∀ k, BP w B b vn k → BP (w1.setCell ⟨b, 1, none⟩ v) B b v k := by
    rintro k ⟨h1, h2, h3, h4⟩
    refine ⟨h1, h2, ?_, by rw [hsz]; omega⟩
    rw [hvo]
    intro e
    injection e with e
    subst e
    rcases hat with h5 | h5
    · exact h3 h5
    · omega
  have hkeep : Keeps (BP w B b vn) w (w1.setCell ⟨b, 1, none⟩ v) := fun k hk => hold k hk.2.2.2 hk.2.1 hk.2.2.1
  refine ⟨h.base, by rw [hsz]; omega, ?_, (h.toks.keep hkeep).imp hbp, kvs ++ [kv], by simp [hk1], ?_, ?_⟩
  · rw [hvo]
    intro e
    injection e with e
    exact hgb e
  · have h1 : (t.nodes ++ [n]).zip (kvs ++ [kv]) = t.nodes.zip kvs ++ [(n, kv)] := by rw [List.zip_append hk1.symm]; rfl
    simp only [h1, List.flatMap_append, List.length_append, List.length_cons, List.length_nil]
    refine ownsRow_same (by simpa [ndCells] using hown) fun k hk => ?_
    rw [hvo] at hk
    injection hk with hk
    subst hk
    exact hne g hgb
  · intro i m kv' hi hkv
    rcases Nat.lt_or_ge i t.nodes.length with hlt | hge
    · rw [List.getElem?_append_left hlt] at hi
      rw [List.getElem?_append_left (by omega)] at hkv
      exact ((hk3 i m kv' hi hkv).keep hkeep).imp hbp
    · have h0 : i = t.nodes.length := by
        rcases Nat.lt_or_ge t.nodes.length i with h1 | h1
        · rw [List.getElem?_eq_none (by simp; omega)] at hi; cases hi
        · omega
      subst h0
      rw [List.getElem?_append_right (Nat.le_refl _)] at hi
      rw [List.getElem?_append_right (by omega)] at hkv
      simp only [Nat.sub_self, List.getElem?_cons_zero, Option.some.injEq, hk1] at hi hkv
      subst hi hkv
      exact (hk.keep hkeep).imp hbp

def DoneRel (w : World) (vt : Value) (toks : List Tr.Tk) (ns : List Tr.Nd) (d : Nat) (k : Nat) (v19 : Value) (wr : World) : Prop :=
  ∃ (j : Nat) (a : Option Addr) (c : Nat), v19 = .int .i64 j ∧ k = ns.length - j ∧ j ≤ ns.length ∧ wr.heap[w.heap.size]? = some (.cells #[.slice none 0 0, .slice none 0 0] 41 (0, 0)) ∧ w.heap.size < d ∧
    wr.heap[d]? = some (.cells #[vt, .slice a j c] 41 (0, 0)) ∧ TrI wr (w.heap.size + 1) d vt (.slice a j c) ⟨toks, ns.take j⟩ ∧ Below w.heap.size w wr

theorem done_stand {w w1 : World} {B b : Nat} {vt vn : Value} {t : Tr.T} {used : Nat} (h : BuildI w B b vt vn t used) {o : Obj} (hb : Below (w.alloc o).heap.size (w.alloc o) w1) : w1.heap[b]? = some (.cells #[vt, vn, .int .i64 used] 68 (0, 0)) := by
  have hlt := lt_heap h.cell
  rw [hb.block b (by rw [← size_alloc1]; omega), Below.heap_alloc _ _ _ hlt]
  exact h.cell
theorem done_start (w : World) {w1 : World} {v : Value} {toks : List Tr.Tk} {ns : List Tr.Nd}
    (ho : w1.ownsRow (w.alloc (.cells #[.slice none 0 0, .slice none 0 0] 41)).heap.size 34 4 v toks.length (tksCells toks))
    (hb : Below (w.alloc (.cells #[.slice none 0 0, .slice none 0 0] 41)).heap.size (w.alloc (.cells #[.slice none 0 0, .slice none 0 0] 41)) w1) :
    DoneRel w v toks ns w1.heap.size ns.length (.int .i64 0) (w1.alloc (.cells #[v, .slice none 0 0] 41)) := by
  have hs := hb.size
  rw [← size_alloc1] at hs ho
  have hw1 : w1.heap[w.heap.size]? = some (.cells #[.slice none 0 0, .slice none 0 0] 41 (0, 0)) := by
    rw [hb.block _ (by rw [← size_alloc1]; omega)]
    exact heap_alloc_new _ _
  have ha : Below w1.heap.size w1 (w1.alloc (.cells #[v, .slice none 0 0] 41)) := (Below.refl _ _).alloc (Nat.le_refl _) _
  refine ⟨0, none, 0, rfl, rfl, Nat.zero_le _, by rw [ha.block _ (by omega)]; exact hw1, by omega, heap_alloc_new _ _, ⟨by omega, by rw [← size_alloc1]; omega, by simp [Value.ownBlock], ?_, [], rfl, World.ownsRow_nil _ _ _ _, fun i n kv hi => by simp at hi⟩, ?_⟩
  · exact ((RdS.own ho).keep (Keeps.of ha fun i hi => hi.2.2)).imp fun k hk => ⟨hk.2.1, by have := hk.2.2; omega, by simp [Value.ownBlock], by rw [← size_alloc1]; have := hk.2.2; omega⟩
  · exact (((Below.refl w.heap.size w).alloc (Nat.le_refl _) _).trans (hb.mono (by rw [← size_alloc1]; omega))).trans (ha.mono (by omega))

/-- A builder's nodes: their kids' slices lie somewhere. -/
def RdNs (w : World) (P : Nat → Prop) (vn : Value) (ns : List Tr.Nd) : Prop :=
  ∃ kvs : List Value, kvs.length = ns.length ∧ RdS w P 3 vn ns.length ((ns.zip kvs).flatMap ndCells) ∧ ∀ (i : Nat) (n : Tr.Nd) (kv : Value), ns[i]? = some n → kvs[i]? = some kv → RdS w P 1 kv n.kids.length (intCells n.kids)
theorem RdNs.keep {w w' : World} {P : Nat → Prop} {vn : Value} {ns : List Tr.Nd} (h : RdNs w P vn ns) (hb : Keeps P w w') : RdNs w' P vn ns := by
  obtain ⟨kvs, h1, h2, h3⟩ := h
  exact ⟨kvs, h1, h2.keep hb, fun i n kv hn hk => (h3 i n kv hn hk).keep hb⟩
theorem RdNs.node {w : World} {P : Nat → Prop} {vn : Value} {ns : List Tr.Nd} (h : RdNs w P vn ns) {i : Nat} {n : Tr.Nd} (hi : ns[i]? = some n) :
    ∃ b off c kv, vn = .slice (some ⟨b, off, none⟩) ns.length c ∧ P b ∧ w.rangeAt b (off + i * 3) [.int .i64 n.kind, .int .i64 n.tok, kv] ∧ RdS w P 1 kv n.kids.length (intCells n.kids) := by
  obtain ⟨kvs, h1, ⟨h2, a, c, rfl, hc, h4⟩, h3⟩ := h
  have hlt : i < ns.length := by
    rcases Nat.lt_or_ge i ns.length with h | h
    · exact h
    · rw [List.getElem?_eq_none h] at hi; cases hi
  have hk : kvs[i]? = some (kvs[i]'(by omega)) := List.getElem?_eq_getElem (by omega)
  rcases h4 with ⟨_, h4⟩ | ⟨b, off, rfl, h5, h6⟩
  · omega
  · refine ⟨b, off, c, kvs[i]'(by omega), rfl, h5.resolve_left (by omega), ?_, h3 i n _ hi hk⟩
    exact rangeAt_piece (f := ndCells) (s := 3) (x := (n, kvs[i]'(by omega))) (fun _ => rfl) h6 (by rw [List.getElem?_zip_eq_some]; exact ⟨hi, hk⟩)
theorem BuildI.rd {w : World} {B b : Nat} {vt vn : Value} {t : Tr.T} {used : Nat} (h : BuildI w B b vt vn t used) : RdNs w (fun k => k < w.heap.size) vn t.nodes := by
  obtain ⟨kvs, hk1, hk2, hk3⟩ := h.nodes
  exact ⟨kvs, hk1, (RdS.own hk2).imp fun k hk => hk.2.2, fun i n kv hi hkv => (hk3 i n kv hi hkv).imp fun k hk => hk.2.2.2⟩
theorem done_node {w w' : World} {cs : Array Value} {T : TypeId} (hb : Below (w.alloc (.cells cs T)).heap.size (w.alloc (.cells cs T)) w') : w'.heap[w.heap.size]? = some (.cells cs T (0, 0)) := by
  rw [hb.block _ (by rw [← size_alloc1]; omega)]
  exact heap_alloc_new _ _

theorem done_mid {wr w3 : World} {B d : Nat} {vt vn : Value} {tt : Tr.T} (htr : TrI wr B d vt vn tt) {x y kv v3 : Value} {T : TypeId}
    (hb3 : Below (wr.alloc (.cells #[x, y, kv] T)).heap.size (wr.alloc (.cells #[x, y, kv] T)) w3) {m : Nat} {xs : List Value} (ho3 : w3.ownsRow (wr.alloc (.cells #[x, y, kv] T)).heap.size 3 1 v3 m xs) :
    TrI (w3.setCell ⟨wr.heap.size, 2, none⟩ v3) B d vt vn tt ∧ RdS (w3.setCell ⟨wr.heap.size, 2, none⟩ v3) (BP (w3.setCell ⟨wr.heap.size, 2, none⟩ v3) B d vn) 1 v3 m xs ∧ Below wr.heap.size wr (w3.setCell ⟨wr.heap.size, 2, none⟩ v3) ∧
    (w3.setCell ⟨wr.heap.size, 2, none⟩ v3).heap[wr.heap.size]? = some (.cells #[x, y, v3] T (0, 0)) := by
  have hnb := done_node hb3
  have h4 : Below wr.heap.size wr (w3.setCell ⟨wr.heap.size, 2, none⟩ v3) := (((Below.refl wr.heap.size wr).alloc (Nat.le_refl _) _).trans (hb3.mono (by rw [← size_alloc1]; omega))).setCell (Nat.le_refl _) _
  refine ⟨htr.below h4, ?_, h4, setCell_row hnb _⟩
  refine htr.own (base := wr.heap.size + 1) (e := 3) (ownsRow_same (w := w3) (by rw [size_alloc1]; exact ho3) fun k hk => ?_) (Nat.le_succ _)
  have := (ho3.lt k hk).1
  rw [← size_alloc1] at this
  exact Below.heap_setCell _ _ _ _ (by simp only; omega)

theorem done_own {w4 : World} {B j : Nat} {v : Value} {ns : List Tr.Nd} {xs : List Value} (hj : (ns.take j).length = j) (h : w4.ownsRow B 38 3 v (ns.take j).length xs) (o : Obj) : (w4.alloc o).ownsRow B 38 3 v j xs := by
  rw [hj] at h
  exact h.alloc o
theorem done_push {w4 W w5 : World} {B d j : Nat} {vt vn kv : Value} {toks : List Tr.Tk} {ns : List Tr.Nd} {n : Tr.Nd} {kvs : List Value} {g cap : Nat} (hj : (ns.take j).length = j) (h : TrI w4 B d vt vn ⟨toks, ns.take j⟩) (hW : Below w4.heap.size w4 W)
    (hk : RdS w4 (BP w4 B d vn) 1 kv n.kids.length (intCells n.kids)) (q1 : kvs.length = (ns.take j).length)
    (q3 : ∀ (i : Nat) (n : Tr.Nd) (kv : Value), (ns.take j)[i]? = some n → kvs[i]? = some kv → RdS w4 (BP w4 B d vn) 1 kv n.kids.length (intCells n.kids))
    (hown : w5.ownsRow B 38 3 (.slice (some ⟨g, 0, none⟩) (j + 1) cap) (j + 1) (((ns.take j).zip kvs).flatMap ndCells ++ [.int .i64 n.kind, .int .i64 n.tok, kv]))
    (hgrow : W.grownBy w5 vn.ownBlock) (hat : vn.ownBlock = some g ∨ g = W.heap.size) :
    TrI (w5.setCell ⟨d, 1, none⟩ (.slice (some ⟨g, 0, none⟩) (j + 1) cap)) B d vt (.slice (some ⟨g, 0, none⟩) (j + 1) cap) ⟨toks, ns.take j ++ [n]⟩ := by
  have hkeep : Keeps (BP w4 B d vn) w4 W := Keeps.of hW fun k hk => hk.2.2.2
  have := (h.below hW).push (n := n) ((hk.keep hkeep).imp fun k hk => hk.size hW.size) (kvs := kvs) q1 (fun i m v hi hv => ((q3 i m v hi hv).keep hkeep).imp fun k hk => hk.size hW.size) (g := g) (cap := cap) (w1 := w5) (by simpa only [hj] using hown) hgrow (hat.imp_right fun e => by omega)
  simpa only [hj] using this
theorem done_below {w wr w4 W w5 : World} {d : Nat} {vn : Value} (hb : Below w.heap.size w wr) (hd : w.heap.size < d) (h4 : Below wr.heap.size wr w4) (hW : Below w4.heap.size w4 W) (hg : W.grownBy w5 vn.ownBlock) (hv : ∀ k, vn.ownBlock = some k → w.heap.size + 1 ≤ k) (hdl : d ≤ w4.heap.size) (u : Value) :
    (∀ {o : Obj}, wr.heap[w.heap.size]? = some o → (w5.setCell ⟨d, 1, none⟩ u).heap[w.heap.size]? = some o) ∧ Below w.heap.size w (w5.setCell ⟨d, 1, none⟩ u) := by
  have s1 := hb.size
  have s2 := h4.size
  have s3 := hW.size
  refine ⟨fun {o} ho => ?_, ?_⟩
  · have hlt := lt_heap ho
    rw [Below.heap_setCell _ _ _ _ (by simp only; omega), hg.block _ (by omega) (fun e => by have := hv _ e.symm; omega), hW.block _ (by omega), h4.block _ hlt]
    exact ho
  · exact (((hb.trans (h4.mono s1)).trans (hW.mono (Nat.le_trans s1 s2))).grown hg (by omega) (fun k hk => by have := hv k hk; omega)).setCell (by simp only; omega) _

set_option maxRecDepth 100000 in
set_option maxHeartbeats 1000000 in
theorem done_calls {w : World} {B b : Nat} {vt vn : Value} {t : Tr.T} {used : Nat} (h : BuildI w B b vt vn t used) (hn : t.nodes.length ≤ 1073741823) (ht : t.toks.length ≤ 1073741824) (hkids : ∀ n ∈ t.nodes, n.kids.length ≤ 1073741824) :
    Calls Tryd.prog 13 #[.pointer (some ⟨b, 0, none⟩)] w fun e w' => ∃ vt' vn', e = .returned (.agg #[vt', vn']) ∧ RdT w' (fun k => w.heap.size ≤ k ∧ k < w'.heap.size) vt' vn' t ∧ Below w.heap.size w w' := by
  obtain ⟨kvs, hk1, hk2, hk3⟩ := h.nodes
  obtain ⟨an, cn, rfl⟩ := ownsRow_form hk2
  have hb1 : Below w.heap.size w (w.alloc (.cells #[.slice none 0 0, .slice none 0 0] 41)) := (Below.refl _ _).alloc (Nat.le_refl _) _
  have h1 := h.keep (w' := w.alloc (.cells #[.slice none 0 0, .slice none 0 0] 41)) hb1.size fun k hk _ => hb1.block k hk
  obtain ⟨at_, ct, rfl⟩ := h.toks.form
  have e0 := cell_of_heap h1.cell 0 rfl
  have HH := Lib.hid h
  have HC := Lib.hid (clone_tok h1.toks ht (tks_one t.toks))
  have HN := Lib.hid (And.intro hn hkids)
  have HR := Lib.hid hb1
  have hn' : (t.nodes.length : Int) ≤ 1073741823 := by omega
  clear h hk1 hk2 hk3 hb1 h1 hn hkids
  go_enter Tryd.func13, Tryd.ntmps13
  go_wp2_with (go_at_call 28; refine HC.out.mono ?_; rintro e w1 ⟨v1, rfl, ho, hb⟩; obtain ⟨a1, c1, rfl⟩ := ownsRow_form ho; have e1 := cell_of_heap (done_stand HH.out hb) 1 rfl; have l1 := cell_lt e1; have HO := Lib.hid ho; have HB := Lib.hid hb; clear ho hb)
  go_loopg [19] t.nodes.length (fun k v19 wr => DoneRel w (.slice a1 t.toks.length c1) t.toks t.nodes w1.heap.size k v19 wr)
  case atStart => exact done_start w HO.out HB.out
  case round =>
    obtain ⟨j, a, c, rfl, hk, hj, hc2, hd2, hdc, htr, hb⟩ := hrel
    by_cases hlt : j < t.nodes.length
    · have hlt' : (j : Int) < (t.nodes.length : Int) := by omega
      obtain ⟨n, hnj⟩ : ∃ n, t.nodes[j]? = some n := ⟨_, List.getElem?_eq_getElem hlt⟩
      obtain ⟨g0, o0, c0, kv, he, hg0, hrg, hkv⟩ := (HH.out.rd.keep (Keeps.of hb fun _ h => h)).node hnj
      simp only [Value.slice.injEq, true_and] at he
      obtain ⟨rfl, rfl⟩ := he
      have hkl := HN.out.2 n (List.mem_of_getElem? hnj)
      have HG := Lib.hid hrg
      have hbn : Below wr.heap.size wr (wr.alloc (.cells #[.int .i64 n.kind, .int .i64 n.tok, kv] 38)) := (Below.refl _ _).alloc (Nat.le_refl _) _
      have HCI := Lib.hid (clone_int (hkv.keep (Keeps.of hbn fun i hi => Nat.lt_of_lt_of_le hi hb.size)) hkl (ints_one n.kids))
      obtain ⟨ka, kc, rfl⟩ := hkv.form
      have HRL := Lib.hid (And.intro hk (And.intro hc2 (And.intro hd2 (And.intro hdc (And.intro htr (And.intro hb (And.intro hnj hbn)))))))
      clear hk hc2 hd2 hdc htr hb hnj hrg hkv hkl hbn
      go_upto_region 6 with (first
        | (refine wpList_load_mid rfl 38 _ rfl g0 (o0 + j * 3) rfl _ _ HG.out Tryd.underlying38 rfl rfl ?_)
        | (go_at_call 32; refine HCI.out.mono ?_; rintro e w3 ⟨v3, rfl, ho, hb3⟩; obtain ⟨a3, c3, rfl⟩ := ownsRow_form ho; have hnb := done_node hb3; have d2 := cell_of_heap hnb 2 rfl; have f2 := frozen_of_heap hnb 2; have HO3 := Lib.hid ho; have HB3 := Lib.hid hb3; have HNB := Lib.hid hnb; clear ho hb3 hnb))
      have hm := done_mid HRL.out.2.2.2.2.1 HB3.out HO3.out
      clear d2 f2 l1
      generalize w3.setCell ⟨wr.heap.size, 2, none⟩ (.slice a3 n.kids.length c3) = w4 at *
      have hd4 : w4.heap[w1.heap.size]? = some (.cells #[.slice a1 t.toks.length c1, .slice a j c] 41 (0, 0)) := by rw [hm.2.2.1.block _ HRL.out.2.2.2.2.1.lt]; exact HRL.out.2.2.2.1
      obtain ⟨kvs2, q1, q2, q3⟩ := hm.1.nodes
      have hW : Below w4.heap.size w4 (w4.alloc (.cells #[.int .i64 n.kind, .int .i64 n.tok, .slice a3 n.kids.length c3] 38)) := (Below.refl _ _).alloc (Nat.le_refl _) _
      have e4 := cell_of_heap hd4 1 rfl
      have l4 := cell_lt e4
      have HM := Lib.hid hm
      have HD4 := Lib.hid hd4
      have HW := Lib.hid hW
      have HQ := Lib.hid (And.intro q1 (And.intro q2 q3))
      obtain ⟨i0, hi, hz0, hz1, hz2⟩ := info_split info_node
      have Hi := Lib.hid hi
      have Hz0 := Lib.hid hz0
      have Hz1 := Lib.hid hz1
      have Hz2 := Lib.hid hz2
      have hjl : (t.nodes.take j).length = j := by simp; omega
      have HJ := Lib.hid hjl
      clear hm hd4 hW q1 q2 q3 hi hz0 hz1 hz2 hjl
      go_wp2_with (first
        | (refine wpList_load_row rfl 38 _ rfl wr.heap.size rfl _ _ _ _ HM.out.2.2.2 Tryd.underlying38 rfl rfl ?_)
        | (at_builtin; refine wpList_append_lies _ rfl _ _ 32 rfl (w.heap.size + 1) 38 i0 (.agg #[.int .i64 0, .int .i64 0, .slice none 0 0]) 3 40 Tryd.underlying32 Hi.out Hz0.out Hz1.out Hz2.out rfl (by decide) (.slice a j c) j (((t.nodes.take j).zip kvs2).flatMap ndCells) rfl (done_own HJ.out HQ.out.2.1 _) ⟨w4.heap.size, 0, none⟩ 1 1 [.int .i64 n.kind, .int .i64 n.tok, .slice a3 n.kids.length c3] rfl rfl (World.news_of_block (heap_alloc_new _ _)) (by simp [Value.oneCell']) (by decide) (by have := HN.out.1; unfold maxLen; omega) (by have := HN.out.1; omega) (Nat.le_trans (Nat.le_trans HM.out.1.base (Nat.le_of_lt HM.out.1.lt)) HW.out.size) _ rfl ?_))
      intro g cap w5 hown hgrow hat hlt5
      have hp := done_push HJ.out HM.out.1 HW.out HM.out.2.1 HQ.out.1 HQ.out.2.2 hown hgrow (hat.imp_right fun e => e.trans (size_alloc1 _ _))
      have hd5 : w5.heap[w1.heap.size]? = some (.cells #[.slice a1 t.toks.length c1, .slice a j c] 41 (0, 0)) := by
        rw [hgrow.block _ (Nat.lt_of_lt_of_le HM.out.1.lt HW.out.size) (fun e => HM.out.1.ne e.symm), HW.out.block _ HM.out.1.lt]
        exact HD4.out
      have hst := setCell_row (j := 1) hd5 (.slice (some ⟨g, 0, none⟩) (j + 1) cap)
      have e5 := cell_of_heap hd5 1 rfl
      have f5 := frozen_of_heap hd5 1
      have hbig := done_below HRL.out.2.2.2.2.2.1 HRL.out.2.2.1 HM.out.2.2.1 HW.out hgrow (fun k hk => (HQ.out.2.1.lt k hk).1) (Nat.le_of_lt HM.out.1.lt)
      have HP := Lib.hid hp
      have HST := Lib.hid hst
      have HBG := Lib.hid hbig
      clear hp hst hbig hown hgrow hat hlt5 hd5
      go_wp2
      go_roundg (t.nodes.length - (j + 1))
      case measure => have := HRL.out.1; omega
      case rel =>
        refine ⟨j + 1, some ⟨g, 0, none⟩, cap, by go_num, rfl, by omega, ?_, HRL.out.2.2.1, HST.out, ?_, ?_⟩
        · exact (HBG.out _).1 HRL.out.2.1
        · rw [List.take_add_one, HRL.out.2.2.2.2.2.2.1]
          exact HP.out
        · exact (HBG.out _).2
    · obtain rfl : j = t.nodes.length := by omega
      have HC2 := Lib.hid hc2
      have HD2 := Lib.hid hdc
      have HTR := Lib.hid (And.intro htr (And.intro hb hd2))
      clear hc2 hdc htr hb hd2 e0 e1 l1
      go_wp2_with (first
        | (refine wpList_load_row rfl 41 _ rfl w1.heap.size rfl _ _ _ _ HD2.out Tryd.underlying41 rfl rfl ?_)
        | (refine wpList_store_row rfl 41 _ _ rfl 41 w.heap.size _ _ rfl HC2.out rfl rfl rfl (by simp [Value.oneCell']) ?_))
      refine bodyPost_ret (v := _) (results_cell_row rfl _ _ w.heap.size _ _ _ _ rfl (setRow_at HC2.out) Tryd.underlying41 rfl rfl) rfl ?_
      obtain ⟨htr, hb, hd2⟩ := HTR.out
      rw [List.take_length] at htr
      refine ⟨_, _, rfl, ?_, below_setRow hb (Nat.le_refl _) _⟩
      refine (htr.rd.keep fun k hk => setRow_ne (by omega)).imp fun k hk => ⟨by omega, ?_⟩
      have hsz : (wr.setRow w.heap.size #[.slice a1 t.toks.length c1, .slice a t.nodes.length c]).heap.size = wr.heap.size := by simp [World.setRow]
      rw [hsz]
      exact hk.2
end Go.Proofs.YtfoelgkkoopheaaDoor
