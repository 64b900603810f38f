/- Plain laws of a node's dump. No program in sight. -/
import Derived.Test.YtfoelgkkoopheaaDoorRightP
import Derived.Test.YtfoelgkkoopheaaDoorWstr
namespace Go.Proofs.YtfoelgkkoopheaaDoor.Tr

/-- A node's dump, with so much fuel. -/
def dp (t : T) : Nat → Nat → List UInt8
  | 0, _ => []
  | f + 1, i => match t.nodes[i]? with
    | none => []
    | some n => if n.kind = 19 then (match t.toks[n.tok.toNat]? with | none => [] | some k => (if k.kind = 5 then [36] else []) ++ k.text)
      else [40] ++ Lib.decDigits n.kind.toNat ++ (n.kids.flatMap fun k => [32] ++ dp t f k.toNat) ++ [41]
def dump (t : T) (i : Nat) : List UInt8 := dp t (i + 1) i

theorem dp_fuel {t : T} (h : Low t.nodes) : ∀ (f g i : Nat), i < f → i < g → dp t f i = dp t g i
  | 0, _, _, h1, _ => absurd h1 (by omega)
  | _, 0, _, _, h1 => absurd h1 (by omega)
  | f + 1, g + 1, i, h1, h2 => by
    unfold dp
    cases hn : t.nodes[i]? with
    | none => rfl
    | some n =>
      simp only
      split
      · rfl
      · rw [List.flatMap_def, List.flatMap_def]
        congr 3
        apply List.map_congr_left
        intro k hk
        have := (h i n hn).1 k hk
        rw [dp_fuel h f g k.toNat (by omega) (by omega)]
theorem dump_leaf {t : T} {i : Nat} {n : Nd} {k : Tk} (hn : t.nodes[i]? = some n) (hk : n.kind = 19) (ht : t.toks[n.tok.toNat]? = some k) : dump t i = (if k.kind = 5 then [36] else []) ++ k.text := by
  unfold dump dp
  rw [hn]
  simp only [if_pos hk, ht]
theorem dump_node {t : T} (h : Low t.nodes) {i : Nat} {n : Nd} (hn : t.nodes[i]? = some n) (hk : n.kind ≠ 19) : dump t i = [40] ++ Lib.decDigits n.kind.toNat ++ (n.kids.flatMap fun k => [32] ++ dump t k.toNat) ++ [41] := by
  unfold dump
  conv => lhs; unfold dp
  rw [hn]
  simp only [if_neg hk]
  rw [List.flatMap_def, List.flatMap_def]
  congr 3
  apply List.map_congr_left
  intro k hk
  have := (h i n hn).1 k hk
  rw [dp_fuel h i (k.toNat + 1) k.toNat (by omega) (by omega)]
/-- What stands ahead of the loop's place. -/
def dumpTo (t : T) (n : Nd) (j : Nat) : List UInt8 := [40] ++ Lib.decDigits n.kind.toNat ++ ((n.kids.take j).flatMap fun k => [32] ++ dump t k.toNat)
theorem dumpTo_succ (t : T) {n : Nd} {j : Nat} {k : Int} (h : n.kids[j]? = some k) : dumpTo t n (j + 1) = dumpTo t n j ++ [32] ++ dump t k.toNat := by
  unfold dumpTo
  rw [List.take_add_one, h]
  simp
theorem dumpTo_le (t : T) (n : Nd) (j : Nat) : (dumpTo t n j).length ≤ (dumpTo t n n.kids.length).length := by
  unfold dumpTo
  rw [List.take_length]
  have e : (n.kids.flatMap fun k => [32] ++ dump t k.toNat) = ((n.kids.take j).flatMap fun k => [32] ++ dump t k.toNat) ++ ((n.kids.drop j).flatMap fun k => [32] ++ dump t k.toNat) := by
    rw [← List.flatMap_append, List.take_append_drop]
  rw [e]
  simp only [List.length_append]
  omega
theorem dump_to (t : T) (h : Low t.nodes) {i : Nat} {n : Nd} (hn : t.nodes[i]? = some n) (hk : n.kind ≠ 19) : dump t i = dumpTo t n n.kids.length ++ [41] := by
  rw [dump_node h hn hk]
  unfold dumpTo
  rw [List.take_length]

theorem decDigits_len (k : Nat) (h : k < 100) : (Lib.decDigits k).length ≤ 2 := by
  by_cases h1 : k < 10
  · rw [Lib.decDigits_one h1]
    simp
  · rw [Lib.decDigits_two h1 h]
    simp
theorem formed_kind {t : T} {i : Nat} {n : Nd} (h : formed t i n = true) : 1 ≤ n.kind ∧ n.kind ≤ 19 ∧ (n.kind = 19 → 0 ≤ n.tok ∧ n.tok < (t.toks.length : Int)) := by
  unfold formed at h
  split at h
  · cases h
  · rename_i h1
    refine ⟨by omega, by omega, fun h2 => ?_⟩
    rw [if_pos h2] at h
    simp only [Bool.and_eq_true, decide_eq_true_eq] at h
    exact ⟨h.1.2, h.2⟩
/-- A dump is no longer than its nodes allow. -/
theorem dump_len {t : T} {L : Nat} (hL : ∀ k ∈ t.toks, k.text.length ≤ L) (hf : FormedTo t t.nodes.length) (i : Nat) : i < t.nodes.length → (dump t i).length + 1 ≤ (L + 6) * size t.nodes i := by
  induction i using Nat.strongRecOn with
  | ind i ih =>
    intro hi
    have hl := hf.low
    obtain ⟨n, hn⟩ : ∃ n, t.nodes[i]? = some n := ⟨_, List.getElem?_eq_getElem hi⟩
    have hfn := formed_kind (hf i n hi hn)
    rw [size_node hl hn, Nat.mul_add, Nat.mul_one]
    by_cases hk : n.kind = 19
    · have h2 := hfn.2.2 hk
      obtain ⟨k, hkk⟩ : ∃ k, t.toks[n.tok.toNat]? = some k := ⟨_, List.getElem?_eq_getElem (by omega)⟩
      have h3 := hL k (List.mem_of_getElem? hkk)
      rw [dump_leaf hn hk hkk]
      simp only [List.length_append]
      split <;> simp <;> omega
    · have h2 := decDigits_len n.kind.toNat (by omega)
      have h : ∀ ks : List Int, (∀ k ∈ ks, 0 ≤ k ∧ k < (i : Int)) → (ks.flatMap fun k => [32] ++ dump t k.toNat).length ≤ (L + 6) * (ks.map fun k => size t.nodes k.toNat).sum := by
        intro ks hks
        induction ks with
        | nil => simp
        | cons k ks ihk =>
          have h3 := hks k (by simp)
          have h4 := ih k.toNat (by omega) (by omega)
          have h5 := ihk fun x hx => hks x (by simp [hx])
          simp only [List.flatMap_cons, List.length_append, List.length_cons, List.length_nil, List.map_cons, List.sum_cons, Nat.mul_add] at h5 ⊢
          omega
      have h6 := h n.kids (hl i n hn).1
      rw [dump_node hl hn hk]
      simp only [List.length_append, List.length_cons, List.length_nil] at h6 ⊢
      omega
end Go.Proofs.YtfoelgkkoopheaaDoor.Tr
