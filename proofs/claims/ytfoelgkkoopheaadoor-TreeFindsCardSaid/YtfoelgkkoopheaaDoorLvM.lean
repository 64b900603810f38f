/- What tree.leaves keeps in memory: its stack in a box, its answer, its marks. -/
import Derived.Test.YtfoelgkkoopheaaDoorIn
namespace Go.Proofs.YtfoelgkkoopheaaDoor
open Go.RowKit Go.Shelf

structure LvMem (w : World) (vt vn : Value) (ob : Nat) (ds : List Nat) (st acc : List Int) (v5 : Value) (g c : Nat) (W : World) : Prop where
  box : Boxed W ob 22 (.slice (some ⟨g, 0, none⟩) st.length c)
  own : W.ownsRow w.heap.size 3 1 (.slice (some ⟨g, 0, none⟩) st.length c) st.length (intCells st)
  out : W.ownsRow w.heap.size 3 1 v5 acc.length (intCells acc)
  ne : v5.ownBlock ≠ some g
  tbox : W.heap[w.heap.size]? = some (.cells #[vt, vn] 41 (0, 0))
  obl : w.heap.size < ob
  below : Below w.heap.size w W
  nd : ds.Nodup
  mks : ∀ D ∈ ds, w.heap.size ≤ D ∧ W.heap[D]? = some (.deferred (some []))

theorem ownsRow_cells {w : World} {base : Nat} {e : TypeId} {size : Nat} {v : Value} {n : Nat} {xs : List Value} (h : w.ownsRow base e size v n xs) {k : Nat} (hk : v.ownBlock = some k) : ∃ cur, w.heap[k]? = some (.cells cur e (0, 0)) := by
  rcases h.2 with ⟨rfl, _⟩ | ⟨g, cap, cur, rfl, _, hg, _⟩
  · cases hk
  · injection hk with hk
    subst hk
    exact ⟨cur, hg⟩
theorem boxed_of {W : World} {B : Nat} {t : TypeId} {v : Value} (h : W.heap[B]? = some (.cells #[v] t (0, 0))) : Boxed W B t v := h

variable {w : World} {vt vn : Value} {ob : Nat} {ds : List Nat} {st acc : List Int} {v5 : Value} {g c : Nat} {W : World}

/-- It abides the turn of a new block that is no cells. -/
theorem LvMem.turned (h : LvMem w vt vn ob ds st acc v5 g c W) {W' : World} {row : Option Nat} (hg : W.grownBy W' row) (hr : ∀ r, row = some r → (∀ D ∈ ds, D < r) ∧ w.heap.size ≤ r ∧ ∃ o : Obj, W.heap[r]? = some o ∧ o.isCells = false) : LvMem w vt vn ob ds st acc v5 g c W' := by
  have hc : ∀ {k : Nat} {cs : Array Value} {T : TypeId} {fr : Nat × Nat}, W.heap[k]? = some (.cells cs T fr) → W'.heap[k]? = W.heap[k]? := by
    intro k cs T fr hk
    refine hg.block k (lt_heap hk) fun e => ?_
    obtain ⟨_, _, o, ho, hn⟩ := hr k e.symm
    rw [hk] at ho
    cases ho
    cases hn
  have ho : ∀ {v : Value} {n : Nat} {xs : List Value}, W.ownsRow w.heap.size 3 1 v n xs → W'.ownsRow w.heap.size 3 1 v n xs := by
    intro v n xs hv
    refine ownsRow_same hv fun k hk => ?_
    obtain ⟨cur, hcur⟩ := ownsRow_cells hv hk
    exact hc hcur
  refine ⟨(hc h.box).trans h.box, ho h.own, ho h.out, h.ne, (hc h.tbox).trans h.tbox, h.obl, h.below.grown hg h.below.size (fun k e => (hr k e).2.1), h.nd, fun D hD => ⟨(h.mks D hD).1, ?_⟩⟩
  rw [hg.block D (lt_heap (h.mks D hD).2) fun e => by have := (hr D e.symm).1 D hD; omega]
  exact (h.mks D hD).2
theorem LvMem.alloc (h : LvMem w vt vn ob ds st acc v5 g c W) (o : Obj) : LvMem w vt vn ob ds st acc v5 g c (W.alloc o) := h.turned (World.grownBy_alloc W o none) (fun r e => by cases e)

/-- The row of ints is no box of a slice. -/
theorem LvMem.apart (h : LvMem w vt vn ob ds st acc v5 g c W) : g ≠ ob ∧ g ≠ w.heap.size ∧ v5.ownBlock ≠ some ob ∧ v5.ownBlock ≠ some w.heap.size ∧ (∀ D ∈ ds, D ≠ ob ∧ D ≠ g ∧ v5.ownBlock ≠ some D) := by
  obtain ⟨cur, hg⟩ := ownsRow_cells h.own (k := g) rfl
  have hb := h.box
  unfold Boxed at hb
  refine ⟨?_, ?_, ?_, ?_, fun D hD => ⟨?_, ?_, ?_⟩⟩
  · rintro rfl
    rw [hb] at hg
    simp at hg
  · rintro rfl
    rw [h.tbox] at hg
    simp at hg
  · intro e
    obtain ⟨c5, h5⟩ := ownsRow_cells h.out e
    rw [hb] at h5
    simp at h5
  · intro e
    obtain ⟨c5, h5⟩ := ownsRow_cells h.out e
    rw [h.tbox] at h5
    simp at h5
  · rintro rfl
    rw [(h.mks _ hD).2] at hb
    cases hb
  · rintro rfl
    rw [(h.mks _ hD).2] at hg
    cases hg
  · intro e
    obtain ⟨c5, h5⟩ := ownsRow_cells h.out e
    rw [(h.mks _ hD).2] at h5
    cases h5

theorem setCell_ne {W : World} {b j k : Nat} (v : Value) (h : k ≠ b) : (W.setCell ⟨b, j, none⟩ v).heap[k]? = W.heap[k]? := Below.heap_setCell _ _ _ _ h
theorem ownsRow_pop {w : World} {base : Nat} {e : TypeId} {g n c : Nat} {xs : List Value} {x : Value} (h : w.ownsRow base e 1 (.slice (some ⟨g, 0, none⟩) (n + 1) c) (n + 1) (xs ++ [x])) : w.ownsRow base e 1 (.slice (some ⟨g, 0, none⟩) n c) n xs := by
  obtain ⟨h1, h2⟩ := h
  have hl : xs.length = n := by simpa using h1
  rcases h2 with ⟨h2, _⟩ | ⟨k, cap, cur, hv, hb, hh, hn, hm, hs, ht⟩
  · cases h2
  · injection hv with hv1 hv2 hv3
    injection hv1 with hv1
    subst hv3
    refine ⟨by simpa using hl, Or.inr ⟨k, c, cur, by rw [hv1], hb, hh, by omega, hm, hs, ?_⟩⟩
    have h3 : (cur.toList.take ((n + 1) * 1)).take n = xs := by rw [ht, List.take_append_of_le_length (by omega), List.take_of_length_le (by omega)]
    rw [List.take_take] at h3
    rw [← h3]
    congr 1
    omega

/-- The last place is taken off. -/
theorem LvMem.pop {i : Int} {m : Nat} (hm : (st ++ [i]).length = m + 1) (h : LvMem w vt vn ob ds (st ++ [i]) acc v5 g c W) : LvMem w vt vn ob ds st acc v5 g c (W.setCell ⟨ob, 0, none⟩ (.slice (some ⟨g, 0, none⟩) m c)) := by
  have hml : st.length = m := by simpa using hm
  have ha := h.apart
  subst hml
  have hobl := h.obl
  have ho := h.own
  simp only [intCells, List.map_append, List.map_cons, List.map_nil, List.length_append, List.length_cons, List.length_nil, Nat.zero_add] at ho
  refine ⟨h.box.set _, ownsRow_same (ownsRow_pop ho) fun k hk => setCell_ne _ ?_, ownsRow_same h.out fun k hk => setCell_ne _ ?_, h.ne, ?_, h.obl, h.below.setCell (by simp only; omega) _, h.nd, fun D hD => ⟨(h.mks D hD).1, ?_⟩⟩
  · injection hk with hk
    subst hk
    exact ha.1
  · intro e
    rw [e] at hk
    exact ha.2.2.1 hk
  · rw [setCell_ne _ (by omega)]
    exact h.tbox
  · rw [setCell_ne _ (ha.2.2.2.2 D hD).1]
    exact (h.mks D hD).2

/-- A place is put on. -/
theorem LvMem.push (h : LvMem w vt vn ob ds st acc v5 g c W) {o : Obj} {x : Int} {g' cap : Nat} {w1 : World} (hown : w1.ownsRow w.heap.size 3 1 (.slice (some ⟨g', 0, none⟩) (st.length + 1) cap) (st.length + 1) (intCells st ++ [.int .i64 x]))
    (hgrow : (W.alloc o).grownBy w1 (some g)) (hat : some g = some g' ∨ g' = (W.alloc o).heap.size) :
    Boxed w1 ob 22 (.slice (some ⟨g, 0, none⟩) st.length c) ∧ LvMem w vt vn ob ds (st ++ [x]) acc v5 g' cap (w1.setCell ⟨ob, 0, none⟩ (.slice (some ⟨g', 0, none⟩) (st.length + 1) cap)) ∧
    KeepsOthers W (w1.setCell ⟨ob, 0, none⟩ (.slice (some ⟨g', 0, none⟩) (st.length + 1) cap)) ∧ (∀ k, k < W.heap.size → k ≠ g → k ≠ ob → (w1.setCell ⟨ob, 0, none⟩ (.slice (some ⟨g', 0, none⟩) (st.length + 1) cap)).heap[k]? = W.heap[k]?) := by
  have ha := h.apart
  have hA := h.alloc o
  have hobl := h.obl
  have hs : (W.alloc o).heap.size = W.heap.size + 1 := (size_alloc1 W o).symm
  have hb1 : Boxed w1 ob 22 (.slice (some ⟨g, 0, none⟩) st.length c) := hA.box.kept hgrow fun e => by injection e with e; exact ha.1 e.symm
  have hmove : ∀ k, k < W.heap.size → k ≠ g → k ≠ ob → (w1.setCell ⟨ob, 0, none⟩ (.slice (some ⟨g', 0, none⟩) (st.length + 1) cap)).heap[k]? = W.heap[k]? := by
    intro k hk h1 h2
    rw [setCell_ne _ h2, hgrow.block k (by omega) (fun e => by injection e with e; exact h1 e), Below.heap_alloc _ _ _ hk]
  have hg'ob : g' ≠ ob := by
    rcases hat with e | e
    · injection e with e
      rw [← e]
      exact ha.1
    · have := h.box.lt
      omega
  refine ⟨hb1, ⟨by simpa using hb1.set _, ownsRow_same (by simpa [intCells] using hown) fun k hk => setCell_ne _ ?_, ownsRow_same h.out fun k hk => hmove k (h.out.lt k hk).2 ?_ ?_, ?_, ?_, h.obl, ?_, h.nd, fun D hD => ⟨(h.mks D hD).1, ?_⟩⟩, ?_, hmove⟩
  · injection hk with hk
    subst hk
    exact hg'ob
  · intro e
    rw [e] at hk
    exact h.ne hk
  · intro e
    rw [e] at hk
    exact ha.2.2.1 hk
  · rcases hat with e | e
    · injection e with e
      rw [← e]
      exact h.ne
    · intro e2
      have := (h.out.lt g' e2).2
      omega
  · rw [hmove _ (lt_heap h.tbox) (fun e => ha.2.1 e.symm) (by omega)]
    exact h.tbox
  · refine (hA.below.grown hgrow hA.below.size fun k e => ?_).setCell (by simp only; omega) _
    injection e with e
    rw [← e]
    exact (h.own.lt g rfl).1
  · rw [hmove D (lt_heap (h.mks D hD).2) (ha.2.2.2.2 D hD).2.1 (ha.2.2.2.2 D hD).1]
    exact (h.mks D hD).2
  · refine ((KeepsOthers.alloc W o).trans (KeepsOthers.of_grownBy hgrow fun j oo ej hj => ?_)).trans (KeepsOthers.setCell _ _ _)
    injection ej with ej
    obtain ⟨cur, hcur⟩ := ownsRow_cells hA.own (k := g) rfl
    rw [← ej, hcur] at hj
    cases hj
    rfl

/-- A leaf's token is put onto the answer. -/
theorem LvMem.outp (h : LvMem w vt vn ob ds st acc v5 g c W) {o : Obj} {x : Int} {g' cap : Nat} {w1 : World} (hown : w1.ownsRow w.heap.size 3 1 (.slice (some ⟨g', 0, none⟩) (acc.length + 1) cap) (acc.length + 1) (intCells acc ++ [.int .i64 x]))
    (hgrow : (W.alloc o).grownBy w1 v5.ownBlock) (hat : v5.ownBlock = some g' ∨ g' = (W.alloc o).heap.size) :
    LvMem w vt vn ob ds st (acc ++ [x]) (.slice (some ⟨g', 0, none⟩) (acc.length + 1) cap) g c w1 := by
  have ha := h.apart
  have hA := h.alloc o
  have hobl := h.obl
  have hs : (W.alloc o).heap.size = W.heap.size + 1 := (size_alloc1 W o).symm
  have hmove : ∀ k, k < W.heap.size → v5.ownBlock ≠ some k → w1.heap[k]? = W.heap[k]? := by
    intro k hk h1
    rw [hgrow.block k (by omega) (fun e => h1 e.symm), Below.heap_alloc _ _ _ hk]
  refine ⟨(hmove ob h.box.lt ha.2.2.1).trans h.box, ownsRow_same h.own fun k hk => hmove k (h.own.lt k hk).2 ?_, by simpa [intCells] using hown, ?_, ?_, h.obl, ?_, h.nd, fun D hD => ⟨(h.mks D hD).1, ?_⟩⟩
  · intro e
    injection hk with hk
    rw [← hk] at e
    exact h.ne e
  · intro e
    injection e with e
    subst e
    rcases hat with e | e
    · exact h.ne e
    · have := (h.own.lt g' rfl).2
      omega
  · rw [hmove _ (lt_heap h.tbox) ha.2.2.2.1]
    exact h.tbox
  · exact hA.below.grown hgrow hA.below.size fun k e => (h.out.lt k e).1
  · rw [hmove D (lt_heap (h.mks D hD).2) (ha.2.2.2.2 D hD).2.2]
    exact (h.mks D hD).2
/-- A new mark. -/
theorem LvMem.mark (h : LvMem w vt vn ob ds st acc v5 g c W) {D : Nat} (hn : ∀ E ∈ ds, E < D) (hw : w.heap.size ≤ D) (hD : W.heap[D]? = some (.deferred (some []))) : LvMem w vt vn ob (D :: ds) st acc v5 g c W := by
  refine ⟨h.box, h.own, h.out, h.ne, h.tbox, h.obl, h.below, List.nodup_cons.2 ⟨fun hm => Nat.lt_irrefl _ (hn D hm), h.nd⟩, fun E hE => ?_⟩
  rcases List.mem_cons.1 hE with rfl | hE
  · exact ⟨hw, hD⟩
  · exact h.mks E hE
end Go.Proofs.YtfoelgkkoopheaaDoor
