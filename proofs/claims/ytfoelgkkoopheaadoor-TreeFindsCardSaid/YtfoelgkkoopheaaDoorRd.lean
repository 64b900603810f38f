/- What is read of memory: slices of rows, in blocks of some kind. -/
import Derived.Test.YtfoelgkkoopheaaDoorRowS
import Derived.Deep.MidRow
namespace Go.Proofs.YtfoelgkkoopheaaDoor
open Go.RowKit

/-- v is a slice of n elements of so many cells; these are xs; they lie in a block that P names. -/
def RdS (w : World) (P : Nat → Prop) (size : Nat) (v : Value) (n : Nat) (xs : List Value) : Prop :=
  xs.length = n * size ∧ ∃ a c, v = .slice a n c ∧ n ≤ c ∧ ((a = none ∧ n = 0) ∨ ∃ b off, a = some ⟨b, off, none⟩ ∧ (n = 0 ∨ P b) ∧ w.rangeAt b off xs)

/-- All blocks that P names stand as they stood. -/
def Keeps (P : Nat → Prop) (w w' : World) : Prop := ∀ k, P k → w'.heap[k]? = w.heap[k]?
theorem Keeps.refl (P : Nat → Prop) (w : World) : Keeps P w w := fun _ _ => rfl
theorem Keeps.trans {P : Nat → Prop} {a b c : World} (h : Keeps P a b) (k : Keeps P b c) : Keeps P a c := fun i hi => (k i hi).trans (h i hi)
theorem Keeps.imp {P Q : Nat → Prop} {a b : World} (h : Keeps P a b) (k : ∀ i, Q i → P i) : Keeps Q a b := fun i hi => h i (k i hi)
theorem Keeps.of {B : Nat} {a b : World} (h : Below B a b) {P : Nat → Prop} (k : ∀ i, P i → i < B) : Keeps P a b := fun i hi => h.block i (k i hi)

theorem rangeAt_same {w w' : World} {b off : Nat} {xs : List Value} (h : w.rangeAt b off xs) (hb : w'.heap[b]? = w.heap[b]?) : w'.rangeAt b off xs := by
  intro j v hj
  have h2 := h j v hj
  rw [← h2]
  exact World.cell?_of_block (a := ⟨b, off + j, none⟩) hb
theorem rangeAt_nil (w : World) (b off : Nat) : w.rangeAt b off [] := fun j v hj => by simp at hj
theorem RdS.keep {w w' : World} {P : Nat → Prop} {size : Nat} {v : Value} {n : Nat} {xs : List Value} (h : RdS w P size v n xs) (hb : Keeps P w w') : RdS w' P size v n xs := by
  obtain ⟨h1, a, c, h2, hc, h3⟩ := h
  refine ⟨h1, a, c, h2, hc, ?_⟩
  rcases h3 with h3 | ⟨b, off, h4, h5, h6⟩
  · exact Or.inl h3
  · refine Or.inr ⟨b, off, h4, h5, ?_⟩
    rcases h5 with h5 | h5
    · have : xs = [] := List.eq_nil_of_length_eq_zero (by rw [h1, h5]; simp)
      rw [this]
      exact rangeAt_nil _ _ _
    · exact rangeAt_same h6 (hb b h5)
theorem RdS.imp {w : World} {P Q : Nat → Prop} {size : Nat} {v : Value} {n : Nat} {xs : List Value} (h : RdS w P size v n xs) (hb : ∀ k, P k → Q k) : RdS w Q size v n xs := by
  obtain ⟨h1, a, c, h2, hc, h3⟩ := h
  refine ⟨h1, a, c, h2, hc, ?_⟩
  rcases h3 with h3 | ⟨b, off, h4, h5, h6⟩
  · exact Or.inl h3
  · exact Or.inr ⟨b, off, h4, h5.imp_right (hb b), h6⟩
theorem RdS.nil (w : World) (P : Nat → Prop) (size : Nat) : RdS w P size (.slice none 0 0) 0 [] := ⟨by simp, none, 0, rfl, Nat.le_refl _, Or.inl ⟨rfl, rfl⟩⟩
theorem RdS.form {w : World} {P : Nat → Prop} {size : Nat} {v : Value} {n : Nat} {xs : List Value} (h : RdS w P size v n xs) : ∃ a c, v = .slice a n c := by
  obtain ⟨h1, a, c, h2, _⟩ := h
  exact ⟨a, c, h2⟩
theorem RdS.one {w : World} {P : Nat → Prop} {size : Nat} {v : Value} {n : Nat} {xs : List Value} (h : RdS w P size v n xs) : v.oneCell' = true := by
  obtain ⟨a, c, rfl⟩ := h.form
  rfl

/-- The same, where of a slice of none nothing is said of its place. -/
def RdW (w : World) (P : Nat → Prop) (size : Nat) (v : Value) (n : Nat) (xs : List Value) : Prop :=
  xs.length = n * size ∧ ∃ a c, v = .slice a n c ∧ n ≤ c ∧ ((n = 0 ∧ n = 0) ∨ ∃ b off, a = some ⟨b, off, none⟩ ∧ (n = 0 ∨ P b) ∧ w.rangeAt b off xs)
theorem RdS.weak {w : World} {P : Nat → Prop} {size : Nat} {v : Value} {n : Nat} {xs : List Value} (h : RdS w P size v n xs) : RdW w P size v n xs := by
  obtain ⟨h1, a, c, h2, hc, h3⟩ := h
  exact ⟨h1, a, c, h2, hc, h3.imp_left fun h => ⟨h.2, h.2⟩⟩
theorem RdW.keep {w w' : World} {P : Nat → Prop} {size : Nat} {v : Value} {n : Nat} {xs : List Value} (h : RdW w P size v n xs) (hb : Keeps P w w') : RdW w' P size v n xs := by
  obtain ⟨h1, a, c, h2, hc, h3⟩ := h
  refine ⟨h1, a, c, h2, hc, ?_⟩
  rcases h3 with h3 | ⟨b, off, h4, h5, h6⟩
  · exact Or.inl h3
  · refine Or.inr ⟨b, off, h4, h5, ?_⟩
    rcases h5 with h5 | h5
    · have : xs = [] := List.eq_nil_of_length_eq_zero (by rw [h1, h5]; simp)
      rw [this]
      exact rangeAt_nil _ _ _
    · exact rangeAt_same h6 (hb b h5)
theorem RdW.imp {w : World} {P Q : Nat → Prop} {size : Nat} {v : Value} {n : Nat} {xs : List Value} (h : RdW w P size v n xs) (hb : ∀ k, P k → Q k) : RdW w Q size v n xs := by
  obtain ⟨h1, a, c, h2, hc, h3⟩ := h
  refine ⟨h1, a, c, h2, hc, ?_⟩
  rcases h3 with h3 | ⟨b, off, h4, h5, h6⟩
  · exact Or.inl h3
  · exact Or.inr ⟨b, off, h4, h5.imp_right (hb b), h6⟩
theorem RdW.form {w : World} {P : Nat → Prop} {size : Nat} {v : Value} {n : Nat} {xs : List Value} (h : RdW w P size v n xs) : ∃ a c, v = .slice a n c := by
  obtain ⟨h1, a, c, h2, _⟩ := h
  exact ⟨a, c, h2⟩

/-- What the call owns is read. -/
theorem RdS.own {w : World} {base : Nat} {e : TypeId} {size : Nat} {v : Value} {n : Nat} {xs : List Value} (h : w.ownsRow base e size v n xs) : RdS w (fun k => v.ownBlock = some k ∧ base ≤ k ∧ k < w.heap.size) size v n xs := by
  have hlt := h.lt
  obtain ⟨h1, h2⟩ := h
  refine ⟨h1, ?_⟩
  rcases h2 with ⟨rfl, rfl⟩ | ⟨g, cap, cur, rfl, hg, hh, hn, hm, hs, ht⟩
  · exact ⟨none, 0, rfl, Nat.le_refl _, Or.inl ⟨rfl, rfl⟩⟩
  · refine ⟨_, cap, rfl, hn, Or.inr ⟨g, 0, rfl, Or.inr ⟨rfl, hlt g rfl⟩, ?_⟩⟩
    intro j u hj
    rw [← ht, List.getElem?_take] at hj
    split at hj
    · simp only [World.cell?, hh, Nat.zero_add]
      simpa using hj
    · cases hj

/-- A piece of a range. -/
theorem rangeAt_piece {w : World} {b off s : Nat} {α : Type} {f : α → List Value} (hf : ∀ x, (f x).length = s) : ∀ {l : List α} {i : Nat} {x : α}, w.rangeAt b off (l.flatMap f) → l[i]? = some x → w.rangeAt b (off + i * s) (f x)
  | [], _, _, _, h => by simp at h
  | y :: l, 0, x, h, hx => by
    simp only [List.getElem?_cons_zero, Option.some.injEq] at hx
    subst hx
    intro j v hj
    rw [Nat.zero_mul, Nat.add_zero]
    refine h j v ?_
    have hlt : j < (f y).length := by
      rcases Nat.lt_or_ge j (f y).length with h | h
      · exact h
      · rw [List.getElem?_eq_none h] at hj; cases hj
    rw [List.flatMap_cons, List.getElem?_append_left hlt]
    exact hj
  | y :: l, i + 1, x, h, hx => by
    have h2 : w.rangeAt b (off + s) (l.flatMap f) := by
      intro j v hj
      rw [Nat.add_assoc]
      refine h (s + j) v ?_
      rw [List.flatMap_cons, List.getElem?_append_right (by rw [hf]; omega), hf]
      simpa using hj
    have h3 := rangeAt_piece hf h2 (by simpa using hx : l[i]? = some x)
    rw [show off + (i + 1) * s = off + s + i * s from by rw [Nat.add_mul]; omega]
    exact h3
theorem flatMap_len {α : Type} {f : α → List Value} {s : Nat} (hf : ∀ x, (f x).length = s) : ∀ (l : List α), (l.flatMap f).length = l.length * s
  | [] => by simp
  | x :: l => by rw [List.flatMap_cons, List.length_append, hf, flatMap_len hf l, List.length_cons, Nat.add_mul]; omega
end Go.Proofs.YtfoelgkkoopheaaDoor
