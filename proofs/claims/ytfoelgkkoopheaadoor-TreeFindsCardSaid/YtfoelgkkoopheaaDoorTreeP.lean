/- Plain laws of trees: sizes, leaves, what Right says of the nodes. No program in sight. -/
import Derived.Test.YtfoelgkkoopheaaDoorTreeM
namespace Go.Proofs.YtfoelgkkoopheaaDoor.Tr

/-- How many nodes are gone through beneath a place (with so much fuel); the leaves' tokens from left to right. -/
def sz (ns : List Nd) : Nat → Nat → Nat
  | 0, _ => 0
  | f + 1, i => match ns[i]? with
    | none => 0
    | some n => 1 + (n.kids.map fun k => sz ns f k.toNat).sum
def lv (ns : List Nd) : Nat → Nat → List Int
  | 0, _ => []
  | f + 1, i => match ns[i]? with
    | none => []
    | some n => if n.kind = 19 then [n.tok] else n.kids.flatMap fun k => lv ns f k.toNat

/-- All kids lie ahead of their node; a leaf has none. -/
def Low (ns : List Nd) : Prop := ∀ (i : Nat) (n : Nd), ns[i]? = some n → (∀ k ∈ n.kids, 0 ≤ k ∧ k < (i : Int)) ∧ (n.kind = 19 → n.kids = [])

theorem sz_fuel {ns : List Nd} (h : Low ns) : ∀ (f g i : Nat), i < f → i < g → sz ns f i = sz ns g i
  | 0, _, _, h1, _ => absurd h1 (by omega)
  | _, 0, _, _, h1 => absurd h1 (by omega)
  | f + 1, g + 1, i, h1, h2 => by
    unfold sz
    cases hn : ns[i]? with
    | none => rfl
    | some n =>
      simp only
      congr 2
      apply List.map_congr_left
      intro k hk
      have := (h i n hn).1 k hk
      exact sz_fuel h f g k.toNat (by omega) (by omega)
theorem lv_fuel {ns : List Nd} (h : Low ns) : ∀ (f g i : Nat), i < f → i < g → lv ns f i = lv ns g i
  | 0, _, _, h1, _ => absurd h1 (by omega)
  | _, 0, _, _, h1 => absurd h1 (by omega)
  | f + 1, g + 1, i, h1, h2 => by
    unfold lv
    cases hn : ns[i]? with
    | none => rfl
    | some n =>
      simp only
      split
      · rfl
      · rw [List.flatMap_def, List.flatMap_def]
        congr 1
        apply List.map_congr_left
        intro k hk
        have := (h i n hn).1 k hk
        exact lv_fuel h f g k.toNat (by omega) (by omega)

/-- The size and the leaves of a place. -/
def size (ns : List Nd) (i : Nat) : Nat := sz ns (i + 1) i
def leafs (ns : List Nd) (i : Nat) : List Int := lv ns (i + 1) i
theorem size_node {ns : List Nd} (h : Low ns) {i : Nat} {n : Nd} (hn : ns[i]? = some n) : size ns i = 1 + (n.kids.map fun k => size ns k.toNat).sum := by
  unfold size
  conv => lhs; unfold sz
  rw [hn]
  simp only
  congr 2
  apply List.map_congr_left
  intro k hk
  have := (h i n hn).1 k hk
  exact sz_fuel h i (k.toNat + 1) k.toNat (by omega) (by omega)
theorem leafs_leaf {ns : List Nd} {i : Nat} {n : Nd} (hn : ns[i]? = some n) (hk : n.kind = 19) : leafs ns i = [n.tok] := by
  unfold leafs lv
  rw [hn]
  simp only [if_pos hk]
theorem leafs_node {ns : List Nd} (h : Low ns) {i : Nat} {n : Nd} (hn : ns[i]? = some n) (hk : n.kind ≠ 19) : leafs ns i = n.kids.flatMap fun k => leafs ns k.toNat := by
  unfold leafs
  conv => lhs; unfold lv
  rw [hn]
  simp only [if_neg hk]
  rw [List.flatMap_def, List.flatMap_def]
  congr 1
  apply List.map_congr_left
  intro k hk
  have := (h i n hn).1 k hk
  exact lv_fuel h i (k.toNat + 1) k.toNat (by omega) (by omega)
theorem size_pos {ns : List Nd} {i : Nat} (h : i < ns.length) : 0 < size ns i := by
  unfold size sz
  rw [List.getElem?_eq_getElem h]
  simp only
  omega

/-- Kids are marked, each once. -/
def marks : List Bool → List Int → Option (List Bool)
  | kid, [] => some kid
  | kid, k :: ks => if kid.getD k.toNat false then none else marks (kid.set k.toNat true) ks
/-- The nodes from a place on: each of the right form, no kid twice. -/
def rightGo (t : T) : Nat → List Nd → List Bool → Option (List Bool)
  | _, [], kid => some kid
  | i, n :: l, kid => if formed t i n then (match marks kid n.kids with | none => none | some kid' => rightGo t (i + 1) l kid') else none
def right (t : T) : Bool :=
  match rightGo t 0 t.nodes (List.replicate t.nodes.length false) with
  | none => false
  | some kid => !kid.isEmpty && !((kid.take (kid.length - 1)).contains false) && (leafs t.nodes (t.nodes.length - 1) == (List.range t.toks.length).map fun i : Nat => (i : Int))

theorem formed_low {t : T} {i : Nat} {n : Nd} (h : formed t i n = true) : (∀ k ∈ n.kids, 0 ≤ k ∧ k < (i : Int)) ∧ (n.kind = 19 → n.kids = []) := by
  unfold formed at h
  split at h
  · cases h
  · split at h
    · rename_i h1
      simp only [Bool.and_eq_true, List.isEmpty_iff] at h
      exact ⟨fun k hk => (by rw [h.1.1] at hk; cases hk), fun _ => h.1.1⟩
    · rename_i h1
      refine ⟨fun k hk => ?_, fun h2 => absurd h2 h1⟩
      simp only [Bool.and_eq_true, Bool.not_eq_true', List.any_eq_false] at h
      have := h.2 k hk
      simp only [Bool.or_eq_true, decide_eq_true_eq, not_or] at this
      omega

/-- What the places ahead of one, that are no kids yet, weigh. -/
def open_ (ns : List Nd) (kid : List Bool) (i : Nat) : Nat := ((List.range i).map fun j => if kid.getD j false then 0 else size ns j).sum
theorem open_succ (ns : List Nd) (kid : List Bool) (i : Nat) : open_ ns kid (i + 1) = open_ ns kid i + (if kid.getD i false then 0 else size ns i) := by
  unfold open_
  rw [List.range_succ, List.map_append, List.sum_append]
  simp
theorem open_set {ns : List Nd} {kid : List Bool} {k : Nat} (hk : kid.getD k false = false) (hl : k < kid.length) : ∀ i, k < i → open_ ns (kid.set k true) i + size ns k = open_ ns kid i
  | 0, h => absurd h (by omega)
  | i + 1, h => by
    rw [open_succ, open_succ]
    by_cases he : k = i
    · subst he
      have e1 : (kid.set k true).getD k false = true := by simp [List.getD, hl]
      have e2 : open_ ns (kid.set k true) k = open_ ns kid k := by
        unfold open_
        congr 1
        apply List.map_congr_left
        intro j hj
        have : j < k := List.mem_range.1 hj
        have e3 : (kid.set k true).getD j false = kid.getD j false := by simp only [List.getD]; rw [List.getElem?_set_ne (by omega)]
        rw [e3]
      rw [e1, e2, hk]
      simp
    · have e3 : (kid.set k true).getD i false = kid.getD i false := by simp only [List.getD]; rw [List.getElem?_set_ne he]
      have := open_set (ns := ns) hk hl i (by omega)
      rw [e3]
      omega
theorem marks_open {ns : List Nd} {i : Nat} : ∀ {ks : List Int} {kid kid' : List Bool}, marks kid ks = some kid' → (∀ k ∈ ks, 0 ≤ k ∧ k < (i : Int)) → i ≤ kid.length → (∀ j, i ≤ j → kid.getD j false = false) →
    open_ ns kid' i + (ks.map fun k => size ns k.toNat).sum = open_ ns kid i ∧ kid'.length = kid.length ∧ (∀ j, i ≤ j → kid'.getD j false = false)
  | [], kid, kid', h, _, _, hz => by
    simp only [marks, Option.some.injEq] at h
    subst h
    exact ⟨by simp, rfl, hz⟩
  | k :: ks, kid, kid', h, hk, hi, hz => by
    unfold marks at h
    split at h
    · cases h
    · rename_i h1
      have hk0 := hk k (by simp)
      have h2 : kid.getD k.toNat false = false := by simpa using h1
      have ih := marks_open (ns := ns) h (fun x hx => hk x (by simp [hx])) (by simpa using hi) (fun j hj => by
        simp only [List.getD]
        rw [List.getElem?_set_ne (by omega)]
        exact hz j hj)
      have h3 := open_set (ns := ns) h2 (by omega) i (by omega)
      refine ⟨?_, by rw [ih.2.1]; simp, ih.2.2⟩
      rw [List.map_cons, List.sum_cons]
      omega

/-- All nodes ahead of a place are of the right form. -/
def FormedTo (t : T) (i : Nat) : Prop := ∀ (j : Nat) (n : Nd), j < i → t.nodes[j]? = some n → formed t j n = true
theorem rightGo_formed {t : T} : ∀ {l : List Nd} {i : Nat} {kid kid' : List Bool}, rightGo t i l kid = some kid' → t.nodes.drop i = l → FormedTo t i → FormedTo t t.nodes.length
  | [], i, kid, kid', _, hl, hf => by
    intro j n hj hn
    have : t.nodes.length ≤ i := List.drop_eq_nil_iff.1 hl
    exact hf j n (by omega) hn
  | n :: l, i, kid, kid', h, hl, hf => by
    have hlt : i < t.nodes.length := by
      rcases Nat.lt_or_ge i t.nodes.length with h1 | h1
      · exact h1
      · rw [List.drop_eq_nil_of_le h1] at hl; cases hl
    have hl2 := List.drop_eq_getElem_cons hlt
    rw [hl] at hl2
    injection hl2 with e1 e2
    unfold rightGo at h
    split at h
    · rename_i hfm
      split at h
      · cases h
      · rename_i kid1 hm
        refine rightGo_formed h e2.symm fun j m hj hm2 => ?_
        rcases Nat.lt_or_ge j i with h1 | h1
        · exact hf j m h1 hm2
        · have : j = i := by omega
          subst this
          rw [List.getElem?_eq_getElem hlt, ← e1, Option.some.injEq] at hm2
          rw [← hm2]
          exact hfm
    · cases h
theorem FormedTo.low {t : T} (h : FormedTo t t.nodes.length) : Low t.nodes := fun i n hn => formed_low (h i n (by
  rcases Nat.lt_or_ge i t.nodes.length with h1 | h1
  · exact h1
  · rw [List.getElem?_eq_none h1] at hn; cases hn) hn)
/-- Each place weighs at most as much as there are nodes up to it. -/
theorem rightGo_size {t : T} (hlow : Low t.nodes) : ∀ {l : List Nd} {i : Nat} {kid kid' : List Bool}, rightGo t i l kid = some kid' → t.nodes.drop i = l → kid.length = t.nodes.length → (∀ j, i ≤ j → kid.getD j false = false) → open_ t.nodes kid i = i →
    (∀ j, j < i → size t.nodes j ≤ j + 1) → i ≤ t.nodes.length → (∀ j, j < t.nodes.length → size t.nodes j ≤ j + 1) ∧ kid'.length = t.nodes.length ∧ open_ t.nodes kid' t.nodes.length = t.nodes.length ∧ (∀ j, t.nodes.length ≤ j → kid'.getD j false = false) ∧ (0 < t.nodes.length → i < t.nodes.length → kid'.getD (t.nodes.length - 1) false = false)
  | [], i, kid, kid', h, hl, hkl, hz, ho, hs, hi => by
    have : t.nodes.length ≤ i := List.drop_eq_nil_iff.1 hl
    have hi2 : i = t.nodes.length := by omega
    subst hi2
    simp only [rightGo, Option.some.injEq] at h
    subst h
    exact ⟨hs, hkl, ho, hz, fun _ h => absurd h (by omega)⟩
  | n :: l, i, kid, kid', h, hl, hkl, hz, ho, hs, hi => by
    have hlt : i < t.nodes.length := by
      rcases Nat.lt_or_ge i t.nodes.length with h1 | h1
      · exact h1
      · rw [List.drop_eq_nil_of_le h1] at hl; cases hl
    have hl2 := List.drop_eq_getElem_cons hlt
    rw [hl] at hl2
    injection hl2 with e1 e2
    have hn : t.nodes[i]? = some n := by rw [List.getElem?_eq_getElem hlt, ← e1]
    unfold rightGo at h
    split at h
    · split at h
      · cases h
      · rename_i kid1 hm
        have h1 := marks_open (ns := t.nodes) hm (hlow i n hn).1 (by omega) hz
        have h2 := size_node hlow hn
        have h3 := open_succ t.nodes kid1 i
        rw [h1.2.2 i (Nat.le_refl _)] at h3
        simp only [Bool.false_eq_true, if_false] at h3
        have h4 : open_ t.nodes kid1 (i + 1) = i + 1 := by omega
        have h5 : size t.nodes i ≤ i + 1 := by omega
        have ih := rightGo_size hlow h e2.symm (by rw [h1.2.1]; exact hkl) (fun j hj => h1.2.2 j (by omega)) h4 (fun j hj => by
          rcases Nat.lt_or_ge j i with h6 | h6
          · exact hs j h6
          · have : j = i := by omega
            rw [this]; exact h5) hlt
        refine ⟨ih.1, ih.2.1, ih.2.2.1, ih.2.2.2.1, fun h0 _ => ?_⟩
        rcases Nat.lt_or_ge (i + 1) t.nodes.length with h6 | h6
        · exact ih.2.2.2.2 h0 h6
        · have e3 : l = [] := by rw [e2]; exact List.drop_eq_nil_of_le h6
          subst e3
          simp only [rightGo, Option.some.injEq] at h
          subst h
          have e4 : t.nodes.length - 1 = i := by omega
          rw [e4]
          exact h1.2.2 i (Nat.le_refl _)
    · cases h
end Go.Proofs.YtfoelgkkoopheaaDoor.Tr
