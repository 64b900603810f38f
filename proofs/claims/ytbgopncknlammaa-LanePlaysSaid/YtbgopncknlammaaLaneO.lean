/- LaneOrder: whatever is offered, in each lane first come is first served, and nothing is lost or doubled: the walk. -/
import Derived.Test.YtbgopncknlammaaLaneA
namespace Go.Proofs.Ytbgopncknlammaa
open Go.Conc Go.RowKit

/-- A list made of two, the order of each kept. -/
inductive Inter : List Value → List Value → List Value → Prop
  | nil : Inter [] [] []
  | left {x : Value} {U S l : List Value} : Inter U S l → Inter (x :: U) S (x :: l)
  | right {x : Value} {U S l : List Value} : Inter U S l → Inter U (x :: S) (x :: l)

theorem inter_drain : ∀ (n : Nat) (U S : List Value) (st : Nat), U.length + S.length < n → Inter U S (drainQ n U S st)
  | 0, _, _, _, h => absurd h (by omega)
  | n + 1, U, S, st, h => by
    unfold drainQ takeQ
    match S, h with
    | [], h =>
      match U, h with
      | [], _ => exact .nil
      | x :: U, h => exact .left (inter_drain n U [] 0 (by simp at h ⊢; omega))
    | y :: S, h =>
      by_cases h4 : 4 ≤ st
      · simp only [h4, if_true]
        exact .right (inter_drain n U S 0 (by simp at h ⊢; omega))
      · simp only [h4, if_false]
        match U, h with
        | [], h => exact .right (inter_drain n [] S 0 (by simp at h ⊢; omega))
        | x :: U, h => exact .left (inter_drain n U (y :: S) (st + 1) (by simp at h ⊢; omega))

theorem Inter.length {U S l : List Value} (h : Inter U S l) : l.length = U.length + S.length := by
  induction h with
  | nil => rfl
  | left _ ih => simp [ih]; omega
  | right _ ih => simp [ih]; omega

/-- The places of the urgent ones, and of the others, among the first j. -/
def ups (bs : List Bool) (j : Nat) : List Value := ((List.range j).filter fun i => bs.getD i false).map fun i : Nat => Value.int .i64 (i : Int)
def downs (bs : List Bool) (j : Nat) : List Value := ((List.range j).filter fun i => !bs.getD i false).map fun i : Nat => Value.int .i64 (i : Int)
theorem ups_true {bs : List Bool} {j : Nat} (h : bs.getD j false = true) : ups bs (j + 1) = ups bs j ++ [.int .i64 (j : Int)] := by
  simp only [ups, List.range_succ, List.filter_append, List.filter_cons, h, List.filter_nil, if_true, List.map_append, List.map_cons, List.map_nil]
theorem ups_false {bs : List Bool} {j : Nat} (h : bs.getD j false = false) : ups bs (j + 1) = ups bs j := by
  simp only [ups, List.range_succ, List.filter_append, List.filter_cons, h, List.filter_nil, Bool.false_eq_true, if_false, List.append_nil]
theorem downs_true {bs : List Bool} {j : Nat} (h : bs.getD j false = true) : downs bs (j + 1) = downs bs j := by
  simp only [downs, List.range_succ, List.filter_append, List.filter_cons, h, List.filter_nil, Bool.not_true, Bool.false_eq_true, if_false, List.append_nil]
theorem downs_false {bs : List Bool} {j : Nat} (h : bs.getD j false = false) : downs bs (j + 1) = downs bs j ++ [.int .i64 (j : Int)] := by
  simp only [downs, List.range_succ, List.filter_append, List.filter_cons, h, List.filter_nil, Bool.not_false, if_true, List.map_append, List.map_cons, List.map_nil]
theorem len_both (bs : List Bool) (j : Nat) : (ups bs j).length + (downs bs j).length = j := by
  induction j with
  | zero => rfl
  | succ j ih =>
    cases h : bs.getD j false
    · rw [ups_false h, downs_false h]; simp; omega
    · rw [ups_true h, downs_true h]; simp; omega

/-- What is still to come of one lane: places of that lane, rising, all above a bound. -/
def Coming (bs : List Bool) (kind : Bool) (low : Int) (U : List Value) : Prop :=
  U.Pairwise (fun a b => intOf a < intOf b) ∧ ∀ x ∈ U, ∃ i : Nat, x = .int .i64 (i : Int) ∧ i < bs.length ∧ bs.getD i false = kind ∧ low < i

theorem coming_ups (bs : List Bool) : Coming bs true (-1) (ups bs bs.length) := by
  refine ⟨?_, ?_⟩
  · unfold ups
    rw [List.pairwise_map]
    refine List.Pairwise.filter _ (List.pairwise_lt_range.imp ?_)
    intro a b h
    simp [intOf]; omega
  · intro x hx
    simp only [ups, List.mem_map, List.mem_filter, List.mem_range] at hx
    obtain ⟨i, ⟨h1, h2⟩, rfl⟩ := hx
    exact ⟨i, rfl, h1, h2, by omega⟩
theorem coming_downs (bs : List Bool) : Coming bs false (-1) (downs bs bs.length) := by
  refine ⟨?_, ?_⟩
  · unfold downs
    rw [List.pairwise_map]
    refine List.Pairwise.filter _ (List.pairwise_lt_range.imp ?_)
    intro a b h
    simp [intOf]; omega
  · intro x hx
    simp only [downs, List.mem_map, List.mem_filter, List.mem_range] at hx
    obtain ⟨i, ⟨h1, h2⟩, rfl⟩ := hx
    exact ⟨i, rfl, h1, by simpa using h2, by omega⟩
theorem Coming.tail {bs : List Bool} {kind : Bool} {low : Int} {i : Nat} {U : List Value} (h : Coming bs kind low (.int .i64 (i : Int) :: U)) : Coming bs kind i U := by
  obtain ⟨h1, h2⟩ := h
  rw [List.pairwise_cons] at h1
  refine ⟨h1.2, fun x hx => ?_⟩
  obtain ⟨k, rfl, h3, h4, _⟩ := h2 x (List.mem_cons_of_mem _ hx)
  have := h1.1 _ hx
  exact ⟨k, rfl, h3, h4, by simpa [intOf] using this⟩
theorem Coming.head {bs : List Bool} {kind : Bool} {low : Int} {x : Value} {U : List Value} (h : Coming bs kind low (x :: U)) : ∃ i : Nat, x = .int .i64 (i : Int) ∧ i < bs.length ∧ bs.getD i false = kind ∧ low < i :=
  h.2 x (List.mem_cons_self ..)

/-- A slice of bools, as it is read. -/
def BoolsAt (w : World) (a : Option Addr) (bs : List Bool) : Prop :=
  ∀ j, j < bs.length → ∃ b off, a = some ⟨b, off, none⟩ ∧ w.cell? ⟨b, off + j, none⟩ = some (.bool (bs.getD j false)) ∧ b < w.heap.size
end Go.Proofs.Ytbgopncknlammaa
