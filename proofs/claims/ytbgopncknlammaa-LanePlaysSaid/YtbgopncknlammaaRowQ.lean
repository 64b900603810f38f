/- A slice of one-cell elements that the call itself owns, resliced and appended to; the reference's two lists in memory. -/
import Derived.Test.YtbgopncknlammaaApp
import Derived.Test.YtbgopncknlammaaLaneP
namespace Go.Proofs.Ytbgopncknlammaa
open Go.RowKit

/-- The value v is a slice that holds xs; its array, if it has one, is block 'row', at 'base' or above. -/
def OwnQ (w : World) (base e : Nat) (v : Value) (xs : List Value) (row : Option Nat) : Prop :=
  (v = .slice none 0 0 ∧ xs = [] ∧ row = none) ∨
  ∃ g off cap cur, v = .slice (some ⟨g, off, none⟩) xs.length cap ∧ row = some g ∧ base ≤ g ∧ w.heap[g]? = some (.cells cur e (0, 0)) ∧ xs.length ≤ cap ∧ cap ≤ maxLen ∧ off + cap ≤ cur.size ∧
    ∀ j, j < xs.length → cur[off + j]? = xs[j]?

section
variable {w w' : World} {base e : Nat} {v : Value} {xs : List Value} {row : Option Nat}

theorem OwnQ.keep (h : OwnQ w base e v xs row) (hk : ∀ g, row = some g → w'.heap[g]? = w.heap[g]?) : OwnQ w' base e v xs row := by
  rcases h with h | ⟨g, off, cap, cur, h1, h2, h3, h4, h5⟩
  · exact Or.inl h
  · exact Or.inr ⟨g, off, cap, cur, h1, h2, h3, by rw [hk g h2]; exact h4, h5⟩
theorem OwnQ.lt (h : OwnQ w base e v xs row) {g : Nat} (hg : row = some g) : base ≤ g ∧ g < w.heap.size := by
  rcases h with ⟨_, _, h⟩ | ⟨g', off, cap, cur, h1, h2, h3, h4, h5⟩
  · rw [h] at hg; cases hg
  · rw [h2] at hg; cases hg; exact ⟨h3, lt_of_heap h4⟩
theorem OwnQ.nil (w : World) (base e : Nat) : OwnQ w base e (.slice none 0 0) [] none := Or.inl ⟨rfl, rfl, rfl⟩

/-- Its value, whatever it is. -/
theorem OwnQ.value (h : OwnQ w base e v xs row) : ∃ ao cap, v = .slice ao xs.length cap := by
  rcases h with ⟨rfl, rfl, _⟩ | ⟨g, off, cap, cur, rfl, _⟩
  · exact ⟨none, 0, rfl⟩
  · exact ⟨_, cap, rfl⟩

/-- Where there is a first one: its cell; and what is left. -/
theorem OwnQ.pop {x : Value} (h : OwnQ w base e v (x :: xs) row) : ∃ g off off' cap, v = .slice (some ⟨g, off, none⟩) (xs.length + 1) cap ∧ row = some g ∧ w.cell? ⟨g, off, none⟩ = some x ∧ xs.length + 1 ≤ cap ∧ cap ≤ maxLen ∧
    (cap = 1 ∧ off' = off ∨ cap ≠ 1 ∧ off' = off + 1) ∧ OwnQ w base e (.slice (some ⟨g, off', none⟩) xs.length (cap - 1)) xs row := by
  rcases h with ⟨_, h, _⟩ | ⟨g, off, cap, cur, rfl, rfl, hb, hh, hl, hm, hsz, hc⟩
  · cases h
  · simp only [List.length_cons] at hl
    have h0 : w.cell? ⟨g, off, none⟩ = some x := by
      have := hc 0 (by simp)
      simp only [Nat.add_zero, List.getElem?_cons_zero] at this
      simp [World.cell?, hh, this]
    by_cases h1 : cap = 1
    · have hx : xs = [] := List.eq_nil_of_length_eq_zero (by omega)
      subst hx
      exact ⟨g, off, off, cap, rfl, rfl, h0, by simpa using hl, hm, Or.inl ⟨h1, rfl⟩, Or.inr ⟨g, off, cap - 1, cur, rfl, rfl, hb, hh, by simp, by omega, by omega, fun j hj => absurd hj (by simp)⟩⟩
    · refine ⟨g, off, off + 1, cap, rfl, rfl, h0, hl, hm, Or.inr ⟨h1, rfl⟩, Or.inr ⟨g, off + 1, cap - 1, cur, rfl, rfl, hb, hh, by omega, by omega, by omega, fun j hj => ?_⟩⟩
      have := hc (j + 1) (by simp; omega)
      rw [show off + 1 + j = off + (j + 1) from by omega, this]
      simp

theorem own_of_row {n : Nat} (h : w.ownsRow base e 1 v n xs) : ∃ row, OwnQ w base e v xs row ∧ v.ownBlock = row := by
  obtain ⟨h0, ⟨rfl, rfl⟩ | ⟨g, cap, cur, rfl, hg, hh, hn, hm, hs, ht⟩⟩ := h
  · have : xs = [] := List.eq_nil_of_length_eq_zero (by simpa using h0)
    subst this
    exact ⟨none, OwnQ.nil _ _ _, rfl⟩
  · have hl : xs.length = n := by simpa using h0
    refine ⟨some g, Or.inr ⟨g, 0, cap, cur, by rw [hl], rfl, hg, hh, by omega, hm, by omega, fun j hj => ?_⟩, rfl⟩
    have hj2 : j < n * 1 := by omega
    rw [← ht, List.getElem?_take, if_pos hj2]

    simp
end

/-- 'append(s, x)' of one cell, onto such a slice: it stays one, in its array or in a new one. -/
theorem wpList_append_q {P : Program} {ops : Array Oper} {rest : List Oper} {o : Oper} {a : Act} {Q : Exit → Act → World → Prop} {w1 : World} (hgd : o.guard = none) (s x : Operand) (t : TypeId)
    (ho : o.op = .call { callee := .builtin .append, args := #[s, x], argTypes := #[t, t] })
    (base e T : Nat) (i : TypeInfo) (z : Value) (bytes : Nat) (ht : P.underlying t = some (.slice e)) (hi : P.info? e = some i) (hz : i.zero = some z)
    (hsize : i.size = 1) (hby : i.bytes = bytes) (hzs : z.cells.size = 1)
    (v : Value) (xs : List Value) (row : Option Nat) (hs : a.eval s = v) (hown : OwnQ w1 base e v xs row)
    (c : Nat) (y : Value) (hx : a.eval x = .slice (some ⟨w1.heap.size, 0, none⟩) 1 c) (h1 : y.oneCell' = true)
    (hn : xs.length ≤ 1073741824) (hb : bytes ≤ 4096) (hbase : base ≤ w1.heap.size)
    (h : ∀ v' w' row', OwnQ w' base e v' (xs ++ [y]) row' → w'.os = w1.os → w'.tape = w1.tape → w'.output = w1.output → w1.heap.size ≤ w'.heap.size → (∀ k, k < w1.heap.size → some k ≠ row → w'.heap[k]? = w1.heap[k]?) →
      (row' = row ∨ ∃ k, row' = some k ∧ w1.heap.size ≤ k) → wpList P ops Q rest (a.put o.dst v') w') :
    wpList P ops Q (o :: rest) a (w1.alloc (.cells #[y] T)) := by
  have hy : ∀ j u, [y][j]? = some u → (w1.alloc (.cells #[y] T)).cell? ((⟨w1.heap.size, 0, none⟩ : Addr).add j) = some u := by
    intro j u hj
    match j, hj with
    | 0, hj =>
      simp only [List.getElem?_cons_zero, Option.some.injEq] at hj
      subst hj
      show World.cell? _ ⟨w1.heap.size, 0, none⟩ = _
      unfold World.cell?
      simp only
      rw [heap_alloc_new]
      rfl
  have hby2 : (xs.length + 1) * bytes ≤ 140737488355328 := by
    calc (xs.length + 1) * bytes ≤ 1073741825 * 4096 := Nat.mul_le_mul (by omega) hb
      _ ≤ 140737488355328 := by decide
  have hgrow : ∀ v' w', w'.ownsRow (w1.alloc (.cells #[y] T)).heap.size e 1 v' (xs.length + 1) (xs ++ [y]) → (w1.alloc (.cells #[y] T)).grownBy w' none → wpList P ops Q rest (a.put o.dst v') w' := by
    intro v' w' hr hg
    obtain ⟨row', ho', hrow'⟩ := own_of_row hr
    have hlt := fun k (hk : row' = some k) => ho'.lt hk
    refine h v' w' row' ?_ hg.os hg.tape hg.output (Nat.le_trans (by simp) hg.size) (fun k hk _ => ?_) ?_
    · rcases ho' with h' | ⟨g, off, cap, cur, q1, q2, q3, q4⟩
      · exact Or.inl h'
      · exact Or.inr ⟨g, off, cap, cur, q1, q2, by simp only [World.size_alloc] at q3; omega, q4⟩
    · rw [hg.block k (by simp; omega) (by simp), Below.heap_alloc _ _ _ hk]
    · cases hr' : row' with
      | none =>
        rcases ho' with ⟨_, h0, _⟩ | ⟨g, _, _, _, _, q2, _⟩
        · simp at h0
        · rw [hr'] at q2; cases q2
      | some k =>
        right
        have := (hlt k hr').1
        simp only [World.size_alloc] at this
        exact ⟨k, rfl, by omega⟩
  rcases hown with ⟨rfl, rfl, rfl⟩ | ⟨g, off, cap, cur, rfl, rfl, hb0, hh, hl, hm, hsz, hc⟩
  · exact wpList_append_grows _ hgd s x t ho e i z 1 bytes ht hi hz hsize hby hzs (by decide) none 0 0 [] hs (fun _ => ⟨rfl, rfl⟩) rfl (fun b hb => by cases hb)
      ⟨w1.heap.size, 0, none⟩ 1 c [y] hx rfl hy (by simpa using h1) (by decide) (by unfold maxLen; decide) (by simpa using hby2) (by simpa using hgrow)
  · have hglt := lt_of_heap hh
    have hcell : ∀ j, j < cur.size → (w1.alloc (.cells #[y] T)).cell? ⟨g, j, none⟩ = cur[j]? := by
      intro j _
      unfold World.cell?
      simp only
      rw [Below.heap_alloc _ _ _ hglt, hh]
      rfl
    refine wpList_append_arg _ hgd s x t ho e i z 1 bytes ht hi hz hsize hby hzs (by decide) g off xs.length cap xs hs (by simp) (fun j u hj => ?_)
      ⟨w1.heap.size, 0, none⟩ 1 c [y] hx rfl hy (by simpa using h1) (fun hroom j hj => ?_) (by unfold maxLen; omega) hby2 (fun hroom => ?_) (fun _ v' w' h2 h3 => hgrow v' w' h2 h3)
    · have hj' : j < xs.length := by
        rcases Nat.lt_or_ge j xs.length with h | h
        · exact h
        · rw [List.getElem?_eq_none h] at hj; cases hj
      rw [hcell _ (by omega), hc j hj', hj]
    · simp only [List.length_cons, List.length_nil] at hj
      obtain rfl : j = 0 := by omega
      refine ⟨?_, ?_⟩
      · rw [hcell _ (by omega)]
        simp
        omega
      · unfold World.frozen?
        simp only
        rw [Below.heap_alloc _ _ _ hglt, hh]
        simp
    · have hset : (w1.alloc (.cells #[y] T)).setCells g (off + xs.length * 1) [y] = (w1.alloc (.cells #[y] T)).setCell ⟨g, off + xs.length, none⟩ y := by
        simp [World.setCells]
      rw [hset]
      refine h _ _ (some g) ?_ rfl rfl rfl (by simp [World.setCell]) (fun k hk hne => ?_) (Or.inl rfl)
      · refine Or.inr ⟨g, off, cap, cur.setIfInBounds (off + xs.length) y, by simp, rfl, hb0, ?_, by simpa using hroom, hm, by simpa using hsz, fun j hj => ?_⟩
        · have h2 := Below.heap_alloc w1 (.cells #[y] T) g hglt
          simp only [World.setCell, Array.getElem?_modify, if_true, h2, hh]
          rfl
        · simp only [List.length_append, List.length_cons, List.length_nil] at hj
          by_cases hj' : j < xs.length
          · rw [Array.getElem?_setIfInBounds_ne (by omega), hc j hj', List.getElem?_append_left hj']
          · obtain rfl : j = xs.length := by omega
            rw [Array.getElem?_setIfInBounds_self_of_lt (by omega)]
            simp
      · rw [Below.heap_setCell _ _ _ _ (by simp only; intro e; exact hne (by rw [e])), Below.heap_alloc _ _ _ hk]
end Go.Proofs.Ytbgopncknlammaa
