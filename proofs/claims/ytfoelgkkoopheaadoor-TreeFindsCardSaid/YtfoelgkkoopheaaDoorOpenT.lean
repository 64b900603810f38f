/- A tree that came in, as the walks read it. -/
import Derived.Test.YtfoelgkkoopheaaDoorFinds
import Derived.Test.YtfoelgkkoopheaaDoorClose
import Derived.Deep.Slices
import Derived.Deep.Fields
import Derived.Deep.Grids
import Derived.ChangeSame
import Derived.Lib.SmallJoins
namespace Go.Proofs.YtfoelgkkoopheaaDoor
open Go.ChangeShapes Go.WideShapes Go.ChangeAt Go.RowKit Go.Deep Go.Joins

section
variable {H : Type} {enc : TypeId × Value → H} {P : Program} {w : World} {base : Nat} {spare : Nat → Bool} {held : Bool}
/-- An argument that is a slice of structs of fields of one cell. -/
theorem open_slice_fields {t e : TypeId} {fs : Array Field} {fuel : Nat} {cs : List Value} {x : DataW H × List MemPlace} (ht : P.underlying t = some (.slice e)) (he : P.underlying e = some (.struct fs))
    (hone : oneCellFields P fs = true) (hC : P.cellsOf e = fs.size) (h : DataW.trod enc P w base spare held fuel t cs = some x) :
    (cs = [.slice none 0 0] ∧ x = (.nil, [])) ∨
    ∃ (a : Addr) (len cap m : Nat), cs = [.slice (some a) len cap] ∧ len ≤ cap ∧ cap ≤ maxLen ∧ m = (if spare a.block then cap else len) ∧
      ∀ i, i < m → ∃ (n : Nat), ∀ (j : Nat) (f : Field), fs[j]? = some f → ∃ (v : Value) (y : DataW H × List MemPlace), w.cell? (a.add (i * fs.size + j)) = some v ∧ DataW.trod enc P w base spare held n f.type [v] = some y := by
  rcases open_slice ht h with h0 | ⟨a, len, cap, m, n, D, Pl, hcs, hb, hl, hm, hmm, hx, hi⟩
  · exact .inl h0
  · refine .inr ⟨a, len, cap, m, hcs, hl, hm, hmm, fun i him => ?_⟩
    obtain ⟨cs', hc, ht'⟩ := hi i him
    rw [hC] at hc
    obtain ⟨ys, n', hn', hy, hlen, hyl, hf⟩ := DataW.trod_struct he ht'
    obtain ⟨_, hcl, hat⟩ := World.cells?_some hc
    refine ⟨n', fun j f hj => ?_⟩
    obtain ⟨ho, hk⟩ := hone_of hone j f hj
    have hjl : j < fs.size := (Array.getElem?_eq_some_iff.1 hj).1
    have hcell := hat j hjl
    have hv : cs'[j]? = some (cs'[j]'(by omega)) := List.getElem?_eq_getElem (by omega)
    have h1 := hf j f hj
    rw [ho, hk] at h1
    have hone' : (cs'.drop j).take 1 = [cs'[j]'(by omega)] := by
      rw [List.drop_eq_getElem_cons (by omega)]
      rfl
    rw [hone'] at h1
    have hys : ys[j]? = some (ys[j]'(by omega)) := List.getElem?_eq_getElem (by omega)
    exact ⟨_, _, by rw [← Go.Deep.add_add, hcell, hv], h1.trans hys⟩
end

theorem cell_spot {w : World} {a : Addr} {v : Value} (h : w.cell? a = some v) : a.spot = none := by
  unfold World.cell? at h
  split at h
  · cases hs : a.spot with
    | none => rfl
    | some x => simp [hs] at h
  · simp at h
theorem addr_none {a : Addr} (h : a.spot = none) : a = ⟨a.block, a.off, none⟩ := by cases a; simp at h; subst h; rfl
theorem list_of {α : Type} {p : Nat → α → Prop} : ∀ (n : Nat), (∀ i, i < n → ∃ x, p i x) → ∃ l : List α, l.length = n ∧ ∀ i x, l[i]? = some x → p i x
  | 0, _ => ⟨[], rfl, fun i x h => by simp at h⟩
  | n + 1, h => by
    obtain ⟨l, hl, hp⟩ := list_of n fun i hi => h i (by omega)
    obtain ⟨x, hx⟩ := h n (by omega)
    refine ⟨l ++ [x], by simp [hl], fun i y hy => ?_⟩
    rcases Nat.lt_or_ge i n with h1 | h1
    · rw [List.getElem?_append_left (by omega)] at hy
      exact hp i y hy
    · have := Tr.get_lt hy
      simp only [List.length_append, List.length_cons, List.length_nil] at this
      obtain rfl : i = n := by omega
      rw [List.getElem?_append_right (by omega), hl, Nat.sub_self] at hy
      simp only [List.getElem?_cons_zero, Option.some.injEq] at hy
      rw [← hy]
      exact hx
theorem rangeAt_append {w : World} {b off : Nat} {xs ys : List Value} (h : w.rangeAt b off xs) (k : w.rangeAt b (off + xs.length) ys) : w.rangeAt b off (xs ++ ys) := by
  intro j v hj
  rcases Nat.lt_or_ge j xs.length with h1 | h1
  · rw [List.getElem?_append_left h1] at hj
    exact h j v hj
  · rw [List.getElem?_append_right h1] at hj
    have := k (j - xs.length) v hj
    rw [show off + xs.length + (j - xs.length) = off + j by omega] at this
    exact this
theorem rangeAt_flat {w : World} {b s : Nat} {α : Type} {f : α → List Value} (hf : ∀ x, (f x).length = s) : ∀ {l : List α} {off : Nat}, (∀ i x, l[i]? = some x → w.rangeAt b (off + i * s) (f x)) → w.rangeAt b off (l.flatMap f)
  | [], _, _ => rangeAt_nil _ _ _
  | y :: l, off, h => by
    rw [List.flatMap_cons]
    refine rangeAt_append (by simpa using h 0 y rfl) ?_
    rw [hf]
    refine rangeAt_flat hf fun i x hx => ?_
    have := h (i + 1) x (by simpa using hx)
    rw [show off + s + i * s = off + (i + 1) * s by rw [Nat.add_mul]; omega]
    exact this

/-- A slice's place where the argument is as it should be. -/
theorem okWide_spot {P : Program} {w : World} {r : Reach} {b0 : Nat} {t e : TypeId} {a : Addr} {len cap : Nat} (ht : P.underlying t = some (.slice e)) (h : Cell.okWide P w r b0 t (.slice (some a) len cap)) : a.spot = none := by
  unfold Cell.okWide at h
  rw [ht] at h
  simp only [Cell.ok, ht] at h
  exact h.2.2.2.1

theorem cellsTok : Tryd.prog.cellsOf 34 = 4 := by kernel_rfl
theorem cellsNode : Tryd.prog.cellsOf 38 = 3 := by kernel_rfl
theorem cellsTree : Tryd.prog.cellsOf 41 = 2 := by kernel_rfl
theorem cellsInt : Tryd.prog.cellsOf 3 = 1 := by kernel_rfl

section
variable {H : Type} {enc : TypeId × Value → H} {w : World} {held : Bool}
theorem trod_one_int {fuel : Nat} {v : Value} {y : DataW H × List MemPlace} (h : DataW.trod enc Tryd.prog w 0 (fun _ => true) held fuel 3 [v] = some y) : ∃ n, v = .int .i64 n := by
  obtain ⟨n, hc, _, _⟩ := DataW.trod_int Tryd.underlying3 h
  simp only [List.cons.injEq, and_true] at hc
  exact ⟨n, hc⟩
theorem trod_one_string {fuel : Nat} {v : Value} {y : DataW H × List MemPlace} (h : DataW.trod enc Tryd.prog w 0 (fun _ => true) held fuel 9 [v] = some y) : ∃ l : List UInt8, v = .string ⟨l.toArray⟩ := by
  obtain ⟨s, hc, _, _⟩ := DataW.trod_string Tryd.underlying9 h
  simp only [List.cons.injEq, and_true] at hc
  exact ⟨s.data.toList, by rw [hc]⟩
/-- Ints that came in. -/
theorem open_kids {fuel : Nat} {v : Value} {y : DataW H × List MemPlace} (h : DataW.trod enc Tryd.prog w 0 (fun _ => true) held fuel 22 [v] = some y) : ∃ l : List Int, RdW w (fun k => k < w.heap.size) 1 v l.length (intCells l) := by
  rcases open_ints Tryd.underlying22 Tryd.underlying3 cellsInt h with ⟨hcs, _⟩ | ⟨a, len, cap, zs, hcs, _, hl, hm, hzl, _, hcell, _⟩
  · simp only [List.cons.injEq, and_true] at hcs
    subst hcs
    exact ⟨[], (RdS.nil _ _ _).weak⟩
  · simp only [List.cons.injEq, and_true] at hcs
    subst hcs
    simp only [if_true] at hzl
    have hlen : (zs.take len).length = len := by simp; omega
    refine ⟨zs.take len, by simp [intCells], some a, cap, by rw [hlen], by omega, ?_⟩
    rw [hlen]
    by_cases h0 : len = 0
    · exact Or.inl ⟨h0, h0⟩
    · have hc0 := hcell 0 (by omega)
      have hs := cell_spot hc0
      have hs' : a.spot = none := by simpa [Addr.add] using hs
      have ha := addr_none hs'
      refine Or.inr ⟨a.block, a.off, by rw [← ha], Or.inr ?_, ?_⟩
      · rw [ha, Addr.add_mid] at hc0
        exact cell_lt hc0
      · intro j u hj
        have hjl := Tr.get_lt hj
        simp only [intCells, List.length_map, hlen] at hjl
        have hcj := hcell j (by omega)
        rw [ha, Addr.add_mid] at hcj
        rw [hcj, ← hj]
        have h2 : zs[j]? = some (zs[j]'(by omega)) := List.getElem?_eq_getElem (by omega)
        simp [intCells, hjl, h2]
theorem open_toks {fuel : Nat} {v : Value} {y : DataW H × List MemPlace} (h : DataW.trod enc Tryd.prog w 0 (fun _ => true) held fuel 24 [v] = some y) (hsp : ∀ a n c, v = .slice (some a) n c → a.spot = none) :
    ∃ l : List Tr.Tk, RdS w (fun k => k < w.heap.size) 4 v l.length (tksCells l) := by
  rcases open_slice_fields Tryd.underlying24 Tryd.underlying34 (by kernel_rfl) cellsTok h with ⟨hcs, _⟩ | ⟨a, len, cap, m, hcs, hl, hm, hmm, hf⟩
  · simp only [List.cons.injEq, and_true] at hcs
    subst hcs
    exact ⟨[], RdS.nil _ _ _⟩
  · simp only [List.cons.injEq, and_true] at hcs
    subst hcs
    simp only [if_true] at hmm
    subst hmm
    have ha := addr_none (hsp a len m rfl)
    obtain ⟨l, hll, hlp⟩ := list_of (p := fun i (k : Tr.Tk) => w.rangeAt a.block (a.off + i * 4) (tkCells k)) len fun i hi => by
      obtain ⟨n, hn⟩ := hf i (by omega)
      obtain ⟨v0, y0, c0, t0⟩ := hn 0 _ rfl
      obtain ⟨v1, y1, c1, t1⟩ := hn 1 _ rfl
      obtain ⟨v2, y2, c2, t2⟩ := hn 2 _ rfl
      obtain ⟨v3, y3, c3, t3⟩ := hn 3 _ rfl
      obtain ⟨k0, rfl⟩ := trod_one_int t0
      obtain ⟨k1, rfl⟩ := trod_one_string t1
      obtain ⟨k2, rfl⟩ := trod_one_string t2
      obtain ⟨k3, rfl⟩ := trod_one_int t3
      refine ⟨⟨k0, k1, k2, k3⟩, fun j u hj => ?_⟩
      rw [ha, Addr.add_mid] at c0 c1 c2 c3
      match j, hj with
      | 0, hj => simp only [tkCells, List.getElem?_cons_zero, Option.some.injEq] at hj; subst hj; simpa using c0
      | 1, hj => simp only [tkCells, List.getElem?_cons_succ, List.getElem?_cons_zero, Option.some.injEq] at hj; subst hj; simpa [Nat.add_assoc] using c1
      | 2, hj => simp only [tkCells, List.getElem?_cons_succ, List.getElem?_cons_zero, Option.some.injEq] at hj; subst hj; simpa [Nat.add_assoc] using c2
      | 3, hj => simp only [tkCells, List.getElem?_cons_succ, List.getElem?_cons_zero, Option.some.injEq] at hj; subst hj; simpa [Nat.add_assoc] using c3
      | j + 4, hj => simp [tkCells] at hj
    have hr := rangeAt_flat (f := tkCells) (s := 4) (fun _ => rfl) (off := a.off) hlp
    refine ⟨l, by rw [tksCells, flatMap_len (f := tkCells) (s := 4) (fun _ => rfl)], some a, m, by rw [hll], by omega, Or.inr ⟨a.block, a.off, by rw [← ha], ?_, hr⟩⟩
    rcases Nat.eq_zero_or_pos l.length with h0 | h0
    · exact Or.inl h0
    · refine Or.inr ?_
      obtain ⟨k, hk⟩ : ∃ k, l[0]? = some k := ⟨_, List.getElem?_eq_getElem h0⟩
      exact cell_lt (hlp 0 k hk 0 _ rfl)
theorem open_nodes {fuel : Nat} {v : Value} {y : DataW H × List MemPlace} (h : DataW.trod enc Tryd.prog w 0 (fun _ => true) held fuel 32 [v] = some y) (hsp : ∀ a n c, v = .slice (some a) n c → a.spot = none) :
    ∃ l : List Tr.Nd, RdN w (fun k => k < w.heap.size) v l := by
  rcases open_slice_fields Tryd.underlying32 Tryd.underlying38 (by kernel_rfl) cellsNode h with ⟨hcs, _⟩ | ⟨a, len, cap, m, hcs, hl, hm, hmm, hf⟩
  · simp only [List.cons.injEq, and_true] at hcs
    subst hcs
    exact ⟨[], [], rfl, RdS.nil _ _ _, fun i n kv hi => by simp at hi⟩
  · simp only [List.cons.injEq, and_true] at hcs
    subst hcs
    simp only [if_true] at hmm
    subst hmm
    have ha := addr_none (hsp a len m rfl)
    obtain ⟨l, hll, hlp⟩ := list_of (p := fun i (k : Tr.Nd × Value) => w.rangeAt a.block (a.off + i * 3) (ndCells k) ∧ RdW w (fun k => k < w.heap.size) 1 k.2 k.1.kids.length (intCells k.1.kids)) len fun i hi => by
      obtain ⟨n, hn⟩ := hf i (by omega)
      obtain ⟨v0, y0, c0, t0⟩ := hn 0 _ rfl
      obtain ⟨v1, y1, c1, t1⟩ := hn 1 _ rfl
      obtain ⟨v2, y2, c2, t2⟩ := hn 2 _ rfl
      obtain ⟨k0, rfl⟩ := trod_one_int t0
      obtain ⟨k1, rfl⟩ := trod_one_int t1
      obtain ⟨k2, hk2⟩ := open_kids t2
      refine ⟨(⟨k0, k1, k2⟩, v2), fun j u hj => ?_, hk2⟩
      rw [ha, Addr.add_mid] at c0 c1 c2
      match j, hj with
      | 0, hj => simp only [ndCells, List.getElem?_cons_zero, Option.some.injEq] at hj; subst hj; simpa using c0
      | 1, hj => simp only [ndCells, List.getElem?_cons_succ, List.getElem?_cons_zero, Option.some.injEq] at hj; subst hj; simpa [Nat.add_assoc] using c1
      | 2, hj => simp only [ndCells, List.getElem?_cons_succ, List.getElem?_cons_zero, Option.some.injEq] at hj; subst hj; simpa [Nat.add_assoc] using c2
      | j + 3, hj => simp [ndCells] at hj
    have hr := rangeAt_flat (f := ndCells) (s := 3) (fun _ => rfl) (off := a.off) fun i x hx => (hlp i x hx).1
    have hz : (l.map (·.1)).zip (l.map (·.2)) = l := by
      rw [List.zip_map']
      simp
    refine ⟨l.map (·.1), l.map (·.2), by simp, ⟨?_, some a, m, by simp [hll], by simp; omega, Or.inr ⟨a.block, a.off, by rw [← ha], ?_, by rw [hz]; exact hr⟩⟩, fun i n kv hi hkv => ?_⟩
    · rw [hz, flatMap_len (f := ndCells) (s := 3) (fun _ => rfl), List.length_map]
    · rw [List.length_map]
      rcases Nat.eq_zero_or_pos l.length with h0 | h0
      · exact Or.inl h0
      · refine Or.inr ?_
        obtain ⟨k, hk⟩ : ∃ k, l[0]? = some k := ⟨_, List.getElem?_eq_getElem h0⟩
        exact cell_lt ((hlp 0 k hk).1 0 _ rfl)
    · rw [List.getElem?_map] at hi hkv
      cases hx : l[i]? with
      | none => rw [hx] at hi; cases hi
      | some x =>
        rw [hx] at hi hkv
        simp only [Option.map_some, Option.some.injEq] at hi hkv
        subst hi hkv
        exact (hlp i x hx).2
theorem okWide_row_cell {P : Program} {r : Reach} {b0 : Nat} {t : TypeId} {cs : Array Value} {ts : List TypeId} (h : Row.okWide P w r b0 t cs) (hts : P.cellTypes P.depth t = some ts) {i : Nat} {v : Value} (hi : cs[i]? = some v) {u : TypeId} (hu : ts[i % ts.length]? = some u) : Cell.okWide P w r b0 u v := by
  obtain ⟨ts', h1, _, h2⟩ := h
  rw [hts] at h1
  obtain rfl := Option.some.inj h1
  obtain ⟨u', hu', hc⟩ := h2 i v hi
  rw [hu] at hu'
  obtain rfl := Option.some.inj hu'
  exact hc
set_option maxRecDepth 100000 in
theorem open_tree {r : Reach} {b0 : Nat} {v : Value} {d : DataW H} {p : List MemPlace} (hv : Value.okWide Tryd.prog w r b0 41 v) (h : DataW.Trod enc Tryd.prog w 0 (fun _ => true) held 41 v d p) :
    ∃ vt vn t, v = .agg #[vt, vn] ∧ RdT w (fun k => k < w.heap.size) vt vn t := by
  have hv2 := hv
  obtain ⟨v0, v1, y0, y1, n, rfl, _, _, h0, h1⟩ := open_agg2 Tryd.underlying41 (by kernel_rfl) cellsTree hv h
  unfold Value.okWide at hv2
  rw [Tryd.underlying41] at hv2
  obtain ⟨cs, hcs, _, hrow⟩ := hv2
  injection hcs with hcs
  subst hcs
  have hct : Tryd.prog.cellTypes Tryd.prog.depth 41 = some [24, 32] := by kernel_rfl
  obtain ⟨toks, ht⟩ := open_toks h0 fun a n c e => by
    subst e
    exact okWide_spot Tryd.underlying24 (okWide_row_cell hrow hct (i := 0) rfl rfl)
  obtain ⟨nodes, hn⟩ := open_nodes h1 fun a n c e => by
    subst e
    exact okWide_spot Tryd.underlying32 (okWide_row_cell hrow hct (i := 1) rfl rfl)
  exact ⟨v0, v1, ⟨toks, nodes⟩, rfl, ht, hn⟩
end
end Go.Proofs.YtfoelgkkoopheaaDoor
