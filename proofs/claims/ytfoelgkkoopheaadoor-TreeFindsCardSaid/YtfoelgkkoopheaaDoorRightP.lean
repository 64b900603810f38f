/- Plain laws behind tree.Right. No program in sight. -/
import Derived.Test.YtfoelgkkoopheaaDoorLvP
namespace Go.Proofs.YtfoelgkkoopheaaDoor.Tr

theorem right_none {t : T} (h : rightGo t 0 t.nodes (List.replicate t.nodes.length false) = none) : right t = false := by
  unfold right
  rw [h]
theorem right_some {t : T} {kid : List Bool} (h : rightGo t 0 t.nodes (List.replicate t.nodes.length false) = some kid) :
    right t = (!kid.isEmpty && !((kid.take (kid.length - 1)).contains false) && (leafs t.nodes (t.nodes.length - 1) == (List.range t.toks.length).map fun i : Nat => (i : Int))) := by
  unfold right
  rw [h]
theorem get_lt {α : Type} {l : List α} {j : Nat} {x : α} (h : l[j]? = some x) : j < l.length := by
  rcases Nat.lt_or_ge j l.length with h1 | h1
  · exact h1
  · rw [List.getElem?_eq_none h1] at h; cases h
theorem drop_get {α : Type} {l : List α} {j : Nat} {x : α} (h : l[j]? = some x) : l.drop j = x :: l.drop (j + 1) := by
  have hlt := get_lt h
  rw [List.getElem?_eq_getElem hlt, Option.some.injEq] at h
  rw [List.drop_eq_getElem_cons hlt, h]
theorem rightGo_bad {t : T} {j : Nat} {n : Nd} (h : t.nodes[j]? = some n) (kid : List Bool) (hf : formed t j n = false) : rightGo t j (t.nodes.drop j) kid = none := by
  rw [drop_get h]
  simp [rightGo, hf]
theorem rightGo_twice {t : T} {j : Nat} {n : Nd} (h : t.nodes[j]? = some n) (kid : List Bool) (hm : marks kid n.kids = none) : rightGo t j (t.nodes.drop j) kid = none := by
  rw [drop_get h]
  simp [rightGo, hm]
theorem rightGo_step {t : T} {j : Nat} {n : Nd} (h : t.nodes[j]? = some n) {kid kid' : List Bool} (hf : formed t j n = true) (hm : marks kid n.kids = some kid') : rightGo t j (t.nodes.drop j) kid = rightGo t (j + 1) (t.nodes.drop (j + 1)) kid' := by
  rw [drop_get h]
  simp [rightGo, hf, hm]
theorem marks_bad {kid : List Bool} {ks : List Int} {j : Nat} {k : Int} (h : ks[j]? = some k) (hb : kid.getD k.toNat false = true) : marks kid (ks.drop j) = none := by
  rw [drop_get h]
  simp only [marks, hb, if_true]
theorem marks_step {kid : List Bool} {ks : List Int} {j : Nat} {k : Int} (h : ks[j]? = some k) (hb : kid.getD k.toNat false = false) : marks kid (ks.drop j) = marks (kid.set k.toNat true) (ks.drop (j + 1)) := by
  rw [drop_get h]
  simp only [marks, hb]
  rfl
theorem formed_kid {t : T} {j : Nat} {n : Nd} (hf : formed t j n = true) {i : Nat} {k : Int} (h : n.kids[i]? = some k) : 0 ≤ k ∧ k < (j : Int) := (formed_low hf).1 k (List.mem_of_getElem? h)

theorem lv_len (ns : List Nd) : ∀ (f i : Nat), (lv ns f i).length ≤ sz ns f i
  | 0, _ => by simp [lv]
  | f + 1, i => by
    unfold lv sz
    cases hn : ns[i]? with
    | none => simp
    | some n =>
      simp only
      split
      · simp
      · have h : ∀ ks : List Int, (ks.flatMap fun k => lv ns f k.toNat).length ≤ (ks.map fun k => sz ns f k.toNat).sum := by
          intro ks
          induction ks with
          | nil => simp
          | cons k ks ih =>
            have := lv_len ns f k.toNat
            simp only [List.flatMap_cons, List.length_append, List.map_cons, List.sum_cons]
            omega
        have := h n.kids
        omega
theorem leafs_len (ns : List Nd) (i : Nat) : (leafs ns i).length ≤ size ns i := lv_len ns (i + 1) i
/-- What Right's last loop says. -/
theorem range_ne {l : List Int} {m j : Nat} {x : Int} (h : l[j]? = some x) (hx : (j : Int) ≠ x) : (l == (List.range m).map fun i : Nat => (i : Int)) = false := by
  rw [beq_eq_false_iff_ne]
  rintro rfl
  have hlt := get_lt h
  simp at hlt
  rw [List.getElem?_map, List.getElem?_range hlt] at h
  simp at h
  exact hx h
theorem range_eq {l : List Int} {m : Nat} (h : ∀ j, j < l.length → l[j]? = some (j : Int)) : (l == (List.range m).map fun i : Nat => (i : Int)) = decide ((l.length : Int) = (m : Int)) := by
  have e : l = (List.range l.length).map fun i : Nat => (i : Int) := by
    apply List.ext_getElem?
    intro i
    by_cases hi : i < l.length
    · rw [h i hi, List.getElem?_map, List.getElem?_range hi]
      rfl
    · rw [List.getElem?_eq_none (by omega), List.getElem?_eq_none (by simp; omega)]
  by_cases hm : l.length = m
  · subst hm
    rw [← e]
    simp
  · rw [decide_eq_false (by omega), beq_eq_false_iff_ne]
    rintro rfl
    simp at hm

/-- What a tree whose nodes are of the right form is good for. -/
theorem right_facts {t : T} {kid : List Bool} (h : rightGo t 0 t.nodes (List.replicate t.nodes.length false) = some kid) :
    Low t.nodes ∧ (∀ j, j < t.nodes.length → size t.nodes j ≤ j + 1) ∧ kid.length = t.nodes.length := by
  have hf := rightGo_formed h (by simp) (fun j n hj => absurd hj (by omega))
  have hl := hf.low
  have hz : ∀ j, (List.replicate t.nodes.length false).getD j false = false := fun j => by
    simp only [List.getD, List.getElem?_replicate]
    split <;> rfl
  have hs := rightGo_size hl h (by simp) (by simp) (fun j _ => hz j) (by simp [open_]) (fun j hj => absurd hj (by omega)) (Nat.zero_le _)
  exact ⟨hl, hs.1, hs.2.1⟩
end Go.Proofs.YtfoelgkkoopheaaDoor.Tr
