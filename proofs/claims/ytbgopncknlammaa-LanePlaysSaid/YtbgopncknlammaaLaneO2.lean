/- LaneOrder: whatever is offered, in each lane first come is first served, and nothing is lost or doubled: the walk of the law. -/
import Derived.Test.YtbgopncknlammaaLaneO
namespace Go.Proofs.Ytbgopncknlammaa
open Go.Conc Go.RowKit

theorem BoolsAt.below {w w' : World} {a : Option Addr} {bs : List Bool} (h : BoolsAt w a bs) (hb : Below w.heap.size w w') : BoolsAt w' a bs := by
  intro j hj
  obtain ⟨b, off, rfl, hc, hlt⟩ := h j hj
  exact ⟨b, off, rfl, by rw [hb.cell (p := ⟨b, off + j, none⟩) hlt]; exact hc, Nat.lt_of_lt_of_le hlt hb.size⟩

def OrRel1 (bs : List Bool) (w : World) (b cu cs : Nat) (k : Nat) (i : Value) (wr : World) : Prop :=
  ∃ j : Nat, k = bs.length - j ∧ j ≤ bs.length ∧ i = .int .i64 j ∧ Lane wr b cu cs 60 (ups bs j) (downs bs j) 0 false ∧ Below w.heap.size w wr

/-- What a slice of so many things holds, in a block g0 or above. -/
def RowAt (g0 : Nat) (w : World) (ao : Option Addr) (out : List Value) : Prop :=
  ∀ m, m < out.length → ∃ g, ao = some ⟨g, 0, none⟩ ∧ w.cell? ⟨g, m, none⟩ = out[m]? ∧ g0 ≤ g ∧ g < w.heap.size

/-- The second loop: what is still to come; the two last ones stand in block g. -/
def OrRel2 (bs : List Bool) (w : World) (g : Nat) (ao : Option Addr) (out : List Value) (k : Nat) (i : Value) (wr : World) : Prop :=
  ∃ (j : Nat) (l0 l1 : Int) (U S : List Value), k = out.length - j ∧ j ≤ out.length ∧ i = .int .i64 j ∧ Below w.heap.size w wr ∧ Inter U S (out.drop j) ∧
    Coming bs true l1 U ∧ Coming bs false l0 S ∧ (wr.cell? ⟨g, 0, none⟩ = some (.int .i64 l0) ∧ wr.cell? ⟨g, 1, none⟩ = some (.int .i64 l1) ∧ wr.frozen? ⟨g, 0, none⟩ = false ∧ wr.frozen? ⟨g, 1, none⟩ = false) ∧ -1 ≤ l0 ∧ -1 ≤ l1 ∧
    (∀ m, m < out.length → ∃ go, ao = some ⟨go, 0, none⟩ ∧ wr.cell? ⟨go, m, none⟩ = out[m]? ∧ go ≠ g)

theorem lt_of_cell {w : World} {g o m : Nat} {l : List Value} (h : w.cell? ⟨g, o, none⟩ = l[m]?) (hm : m < l.length) : g < w.heap.size := by
  rcases Nat.lt_or_ge g w.heap.size with h1 | h1
  · exact h1
  · rw [List.getElem?_eq_getElem hm] at h
    simp [World.cell?, Array.getElem?_eq_none h1] at h

theorem order_drain {w : World} {b cu cs : Nat} {bs : List Bool} (h : Lane w b cu cs 60 (ups bs bs.length) (downs bs bs.length) 0 false) (hn : bs.length ≤ 60) :
    Calls Try.prog 9 #[.pointer (some ⟨b, 0, none⟩)] w fun e w' => ∃ (ao : Option Addr) (cap : Nat) (out : List Value), e = .returned (.slice ao out.length cap) ∧
      RowAt w.heap.size w' ao out ∧ out.length = bs.length ∧ Inter (ups bs bs.length) (downs bs bs.length) out ∧ Fr b cu cs w w' := by
  have e1 : (ups bs bs.length).length + (downs bs bs.length).length = bs.length := len_both bs bs.length
  refine (LI.drain_calls h (by omega) ?_ ?_).mono ?_
  · intro x hx
    obtain ⟨i, rfl, _⟩ := (coming_ups bs).2 x hx
    exact ⟨_, rfl⟩
  · intro x hx
    obtain ⟨i, rfl, _⟩ := (coming_downs bs).2 x hx
    exact ⟨_, rfl⟩
  · rintro e w' ⟨v, rfl, hown, _, hf⟩
    have hi := inter_drain ((ups bs bs.length).length + (downs bs bs.length).length + 1) (ups bs bs.length) (downs bs bs.length) 0 (by omega)
    generalize drainQ ((ups bs bs.length).length + (downs bs bs.length).length + 1) (ups bs bs.length) (downs bs bs.length) 0 = out at hown hi
    have hl : out.length = bs.length := by rw [hi.length]; exact e1
    rcases Nat.eq_zero_or_pos out.length with h0 | h0
    · obtain ⟨_, ⟨rfl, _⟩ | ⟨g, cap, cur, rfl, hg, hh, _⟩⟩ := hown
      · exact ⟨none, 0, out, by rw [h0], fun m hm => absurd hm (by omega), hl, hi, hf⟩
      · exact ⟨_, cap, out, rfl, fun m hm => absurd hm (by omega), hl, hi, hf⟩
    · obtain ⟨g, cap, rfl, hg, _, hc⟩ := row_at hown h0
      exact ⟨_, cap, out, rfl, fun m hm => ⟨g, rfl, hc m (by omega), hg, lt_of_cell (hc 0 (by omega)) h0⟩, hl, hi, hf⟩
end Go.Proofs.Ytbgopncknlammaa
