/- Plain laws of a stack of places: what tree.leaves goes through. No program in sight. -/
import Derived.Test.YtfoelgkkoopheaaDoorTreeP
namespace Go.Proofs.YtfoelgkkoopheaaDoor.Tr

/-- What is still to come of a stack of places (the last one first), and how many places it weighs. -/
def stackLv (ns : List Nd) (st : List Int) : List Int := st.reverse.flatMap fun k => leafs ns k.toNat
def stackSz (ns : List Nd) (st : List Int) : Nat := (st.map fun k => size ns k.toNat).sum
def InR (ns : List Nd) (st : List Int) : Prop := ∀ k ∈ st, 0 ≤ k ∧ k < (ns.length : Int)

theorem stackLv_snoc (ns : List Nd) (st : List Int) (i : Int) : stackLv ns (st ++ [i]) = leafs ns i.toNat ++ stackLv ns st := by simp [stackLv]
theorem stackSz_snoc (ns : List Nd) (st : List Int) (i : Int) : stackSz ns (st ++ [i]) = stackSz ns st + size ns i.toNat := by simp [stackSz]
theorem stackLv_kids (ns : List Nd) (st ks : List Int) : stackLv ns (st ++ ks.reverse) = (ks.flatMap fun k => leafs ns k.toNat) ++ stackLv ns st := by simp [stackLv]
theorem stackSz_kids (ns : List Nd) (st ks : List Int) : stackSz ns (st ++ ks.reverse) = stackSz ns st + (ks.map fun k => size ns k.toNat).sum := by
  simp [stackSz, List.map_reverse, List.sum_reverse]
theorem InR.len {ns : List Nd} : ∀ {st : List Int}, InR ns st → st.length ≤ stackSz ns st
  | [], _ => by simp [stackSz]
  | k :: st, h => by
    have h1 := InR.len (st := st) fun x hx => h x (by simp [hx])
    have h2 := h k (by simp)
    have h3 := size_pos (ns := ns) (i := k.toNat) (by omega)
    simp only [stackSz, List.map_cons, List.sum_cons, List.length_cons] at h1 ⊢
    omega
theorem InR.left {ns : List Nd} {st l : List Int} (h : InR ns (st ++ l)) : InR ns st := fun k hk => h k (by simp [hk])
theorem InR.kids {ns : List Nd} (hl : Low ns) {st : List Int} (h : InR ns st) {i : Nat} {n : Nd} (hn : ns[i]? = some n) : InR ns (st ++ n.kids.reverse) := by
  have hlt : i < ns.length := by
    rcases Nat.lt_or_ge i ns.length with h1 | h1
    · exact h1
    · rw [List.getElem?_eq_none h1] at hn; cases hn
  intro k hk
  simp only [List.mem_append, List.mem_reverse] at hk
  rcases hk with hk | hk
  · exact h k hk
  · have := (hl i n hn).1 k hk
    omega
/-- The top is a leaf. -/
theorem stack_leaf {ns : List Nd} (hl : Low ns) {st : List Int} {i : Nat} {n : Nd} (hn : ns[i]? = some n) (hk : n.kind = 19) :
    stackLv ns (st ++ [(i : Int)]) = n.tok :: stackLv ns st ∧ stackSz ns (st ++ [(i : Int)]) = stackSz ns st + 1 := by
  rw [stackLv_snoc, stackSz_snoc]
  simp only [Int.toNat_natCast]
  rw [leafs_leaf hn hk, size_node hl hn, (hl i n hn).2 hk]
  exact ⟨rfl, rfl⟩
/-- .. is another node. -/
theorem stack_node {ns : List Nd} (hl : Low ns) {st : List Int} {i : Nat} {n : Nd} (hn : ns[i]? = some n) (hk : n.kind ≠ 19) :
    stackLv ns (st ++ [(i : Int)]) = stackLv ns (st ++ n.kids.reverse) ∧ stackSz ns (st ++ [(i : Int)]) = stackSz ns (st ++ n.kids.reverse) + 1 := by
  rw [stackLv_snoc, stackSz_snoc, stackLv_kids, stackSz_kids]
  simp only [Int.toNat_natCast]
  rw [leafs_node hl hn hk, size_node hl hn]
  exact ⟨rfl, by omega⟩
end Go.Proofs.YtfoelgkkoopheaaDoor.Tr
