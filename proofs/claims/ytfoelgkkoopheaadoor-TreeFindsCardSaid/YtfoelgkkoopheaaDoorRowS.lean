/- A whole row stored at once into a block that was just made. -/
import Derived.Test.YtfoelgkkoopheaaDoorApp
import Derived.Laws.CopyRow
namespace Go.Proofs.YtfoelgkkoopheaaDoor
open Go.RowKit

theorem setRow_new (w : World) (zs vs : Array Value) (T : TypeId) : (w.alloc (.cells zs T)).setRow w.heap.size vs = w.alloc (.cells vs T) := by
  simp only [World.setRow, World.alloc]
  congr 1
  apply Array.ext_getElem?
  intro i
  simp only [Array.getElem?_modify, Array.getElem?_push]
  by_cases h : w.heap.size = i
  · subst h; simp
  · simp [h, Ne.symm h]

theorem wpList_store_new {P : Program} {ops : Array Oper} {rest : List Oper} {o : Oper} {a : Act} {Q : Exit → Act → World → Prop} {w1 : World} (hgd : o.guard = none) (ty : TypeId) (x v : Operand) (ho : o.op = .store ty x v)
    (T : TypeId) (zs vs : Array Value) (hx : a.eval x = .pointer (some ⟨w1.heap.size, 0, none⟩)) (hv : a.eval v = .agg vs) (hz : zs.size = vs.size) (hi : (P.info? ty).map (·.size) = some vs.size) (h1 : ∀ u ∈ vs.toList, u.oneCell' = true)
    (h : wpList P ops Q rest (a.put o.dst undef) (w1.alloc (.cells vs T))) : wpList P ops Q (o :: rest) a (w1.alloc (.cells zs T)) := by
  refine wpList_plain hgd fun K hK => ?_
  have hst := run_storeCells_at (P := P) w1.heap.size 0 T vs.toList 0 zs (w1.alloc (.cells zs T)) (heap_alloc_new _ _) (by simp; omega) h1
  have e : (zs.toList.take (0 + 0) ++ vs.toList ++ zs.toList.drop (0 + 0 + vs.toList.length)).toArray = vs := by
    have hd : zs.toList.drop (0 + 0 + vs.toList.length) = [] := List.drop_eq_nil_of_le (by simp; omega)
    rw [hd]
    simp
  rw [e, setRow_new] at hst
  cases hq : P.info? ty with
  | none => simp [hq] at hi
  | some i =>
    have hs : i.size = vs.size := by simpa [hq] using hi
    unfold Oper.wp execOp
    simp only [ho, hx, hv, Instr.storeAt, Instr.sureAddr, Sem.run_bind, Sem.run_pure, Result.andThen_ok, storeVar, sizeOf, typeInfo, Value.cells]
    simp [hq, hs, hst]
    exact hK _ _ h

/-- The same where the place is written otherwise. -/
theorem wpList_store_new2 {P : Program} {ops : Array Oper} {rest : List Oper} {o : Oper} {a : Act} {Q : Exit → Act → World → Prop} {w1 : World} (hgd : o.guard = none) (ty : TypeId) (x v : Operand) (ho : o.op = .store ty x v)
    (T : TypeId) (r : Nat) (zs vs : Array Value) (hx : a.eval x = .pointer (some ⟨r, 0, none⟩)) (hr : r = w1.heap.size) (hv : a.eval v = .agg vs) (hz : zs.size = vs.size) (hi : (P.info? ty).map (·.size) = some vs.size) (h1 : ∀ u ∈ vs.toList, u.oneCell' = true)
    (h : wpList P ops Q rest (a.put o.dst undef) (w1.alloc (.cells vs T))) : wpList P ops Q (o :: rest) a (w1.alloc (.cells zs T)) :=
  wpList_store_new hgd ty x v ho T zs vs (hr ▸ hx) hv hz hi h1 h
theorem size_alloc1 (w : World) (o : Obj) : w.heap.size + 1 = (w.alloc o).heap.size := (Array.size_push (xs := w.heap) o).symm

/-- Two results: a plain one, and a row of its own. -/
theorem results_tmp_row {P : Program} {fn : Func} {u p : Tmp} {ty : TypeId} (h : fn.results = #[.tmp u, .cell p ty]) (tmps : Array Value) (w : World) (g : Nat) (t : TypeId) (cs : Array Value) (fr : Nat × Nat) (d : TypeDesc)
    (hp : tmps.getD p undef = .pointer (some ⟨g, 0, none⟩)) (hg : w.heap[g]? = some (.cells cs t fr))
    (hu : P.underlying ty = some d) (hd : (match d with | .struct _ | .array _ _ => true | _ => false) = true) (hi : (P.info? ty).map (·.size) = some cs.size) :
    (results fn tmps).run P w = .ok (.tuple #[tmps.getD u undef, .agg cs]) w := by
  have hp' : tmps[p]?.getD undef = .pointer (some ⟨g, 0, none⟩) := by simpa using hp
  simp [results, h, hp', asAddr, run_loadVar_row w g t ty cs fr d hg hu hd hi]

/-- A whole row stored at once into a block that is there. -/
theorem wpList_store_row {P : Program} {ops : Array Oper} {rest : List Oper} {o : Oper} {a : Act} {Q : Exit → Act → World → Prop} {w1 : World} (hgd : o.guard = none) (ty : TypeId) (x v : Operand) (ho : o.op = .store ty x v)
    (T : TypeId) (g : Nat) (zs vs : Array Value) (hx : a.eval x = .pointer (some ⟨g, 0, none⟩)) (hg : w1.heap[g]? = some (.cells zs T (0, 0))) (hv : a.eval v = .agg vs) (hz : zs.size = vs.size) (hi : (P.info? ty).map (·.size) = some vs.size) (h1 : ∀ u ∈ vs.toList, u.oneCell' = true)
    (h : wpList P ops Q rest (a.put o.dst undef) (w1.setRow g vs)) : wpList P ops Q (o :: rest) a w1 := by
  refine wpList_plain hgd fun K hK => ?_
  have hst := run_storeCells_at (P := P) g 0 T vs.toList 0 zs w1 hg (by simp; omega) h1
  have e : (zs.toList.take (0 + 0) ++ vs.toList ++ zs.toList.drop (0 + 0 + vs.toList.length)).toArray = vs := by
    have hd : zs.toList.drop (0 + 0 + vs.toList.length) = [] := List.drop_eq_nil_of_le (by simp; omega)
    rw [hd]
    simp
  rw [e] at hst
  cases hq : P.info? ty with
  | none => simp [hq] at hi
  | some i =>
    have hs : i.size = vs.size := by simpa [hq] using hi
    unfold Oper.wp execOp
    simp only [ho, hx, hv, Instr.storeAt, Instr.sureAddr, Sem.run_bind, Sem.run_pure, Result.andThen_ok, storeVar, sizeOf, typeInfo, Value.cells]
    simp [hq, hs, hst]
    exact hK _ _ h
theorem setRow_at {w : World} {g : Nat} {zs vs : Array Value} {T : TypeId} (hg : w.heap[g]? = some (.cells zs T (0, 0))) : (w.setRow g vs).heap[g]? = some (.cells vs T (0, 0)) := setRow_heap w g zs vs T (0, 0) hg
theorem setRow_ne {w : World} {g k : Nat} {vs : Array Value} (h : k ≠ g) : (w.setRow g vs).heap[k]? = w.heap[k]? := by
  simp only [World.setRow, Array.getElem?_modify]
  rw [if_neg (by omega)]
theorem below_setRow {B : Nat} {a w : World} (h : Below B a w) {g : Nat} (hg : B ≤ g) (vs : Array Value) : Below B a (w.setRow g vs) :=
  h.trans ⟨rfl, rfl, rfl, by simp [World.setRow], fun k hk => setRow_ne (by omega)⟩
theorem ownsRow_setRow {w : World} {base : Nat} {e : TypeId} {size : Nat} {v : Value} {n : Nat} {xs : List Value} (h : w.ownsRow base e size v n xs) {g : Nat} (ha : g < base) (vs : Array Value) : (w.setRow g vs).ownsRow base e size v n xs := by
  obtain ⟨h1, h2⟩ := h
  refine ⟨h1, ?_⟩
  rcases h2 with h2 | ⟨k, cap, cur, hv, hg, hh, r⟩
  · exact Or.inl h2
  · exact Or.inr ⟨k, cap, cur, hv, hg, by rw [setRow_ne (by omega)]; exact hh, r⟩
/-- What is owned from a place on stays so while only what lies from a higher place on is written, and none of it. -/
theorem ownsRow_below {w w' : World} {base : Nat} {e : TypeId} {size : Nat} {v : Value} {n : Nat} {xs : List Value} (h : w.ownsRow base e size v n xs) (hb : Below w.heap.size w w') : w'.ownsRow base e size v n xs := by
  obtain ⟨h1, h2⟩ := h
  refine ⟨h1, ?_⟩
  rcases h2 with h2 | ⟨k, cap, cur, hv, hg, hh, r⟩
  · exact Or.inl h2
  · have hlt : k < w.heap.size := by
      rcases Nat.lt_or_ge k w.heap.size with h | h
      · exact h
      · rw [Array.getElem?_eq_none h] at hh; cases hh
    exact Or.inr ⟨k, cap, cur, hv, hg, by rw [hb.block k hlt]; exact hh, r⟩
theorem ownsRow_low {w : World} {base base' : Nat} {e : TypeId} {size : Nat} {v : Value} {n : Nat} {xs : List Value} (h : w.ownsRow base e size v n xs) (hb : base' ≤ base) : w.ownsRow base' e size v n xs := by
  obtain ⟨h1, h2⟩ := h
  refine ⟨h1, ?_⟩
  rcases h2 with h2 | ⟨k, cap, cur, hv, hg, r⟩
  · exact Or.inl h2
  · exact Or.inr ⟨k, cap, cur, hv, Nat.le_trans hb hg, r⟩
/-- 'append(s, x)' of one, where the place of x is written otherwise. -/
theorem wpList_append_one2 {P : Program} {ops : Array Oper} {rest : List Oper} {o : Oper} {a : Act} {Q : Exit → Act → World → Prop} {w1 : World} (hgd : o.guard = none) (s x : Operand) (t : TypeId)
    (ho : o.op = .call { callee := .builtin .append, args := #[s, x], argTypes := #[t, t] })
    (base : Nat) (e T : TypeId) (i : TypeInfo) (z : Value) (size bytes : Nat) (ht : P.underlying t = some (.slice e)) (hi : P.info? e = some i) (hz : i.zero = some z)
    (hsize : i.size = size) (hby : i.bytes = bytes) (hzs : z.cells.size = size) (hsz : 0 < size)
    (v : Value) (n : Nat) (xs : List Value) (hs : a.eval s = v) (hown : w1.ownsRow base e size v n xs)
    (r c : Nat) (news : List Value) (hx : a.eval x = .slice (some ⟨r, 0, none⟩) 1 c) (hr : r = w1.heap.size) (hl : news.length = size) (h1 : ∀ u ∈ news, u.oneCell' = true)
    (hn : n ≤ 1073741824) (hb : bytes ≤ 4096) (hbase : base ≤ w1.heap.size)
    (h : ∀ v' w', w'.ownsRow base e size v' (n + 1) (xs ++ news) → (w1.alloc (.cells news.toArray T)).grownBy w' v.ownBlock → wpList P ops Q rest (a.put o.dst v') w') :
    wpList P ops Q (o :: rest) a (w1.alloc (.cells news.toArray T)) :=
  wpList_append_one hgd s x t ho base e T i z size bytes ht hi hz hsize hby hzs hsz v n xs hs hown c news (hr ▸ hx) hl h1 hn hb hbase h
end Go.Proofs.YtfoelgkkoopheaaDoor
