/- LaneFair: a thing that waits in the usual lane is passed by at most four urgent ones, however many come: the walk. -/
import Derived.Test.YtbgopncknlammaaLaneS3
import Derived.Test.YtbgopncknlammaaLaneA
namespace Go.Proofs.Ytbgopncknlammaa
open Go.Conc Go.RowKit

/-- The three words. -/
def usualV : Value := .string ⟨#[117, 115, 117, 97, 108]⟩
def mineV : Value := .string ⟨#[109, 105, 110, 101]⟩
def urgentV : Value := .string ⟨#[117, 114, 103, 101, 110, 116]⟩

/-- What waits: so many urgent ones; so many usual ones, and mine behind them. -/
def Waits (k u : Nat) (st : Nat) (l : List Value) : Prop :=
  l = drainQ (u + k + 1 + 1) (List.replicate u urgentV) (List.replicate k usualV ++ [mineV]) st

theorem waits_len (k u st : Nat) (l : List Value) (h : Waits k u st l) : l ≠ [] := by
  intro e
  rw [h] at e
  unfold drainQ takeQ at e
  cases k with
  | zero =>
    simp only [List.replicate_zero, List.nil_append] at e
    by_cases h4 : 4 ≤ st
    · simp [h4] at e
    · cases u <;> simp [h4, List.replicate_succ] at e
  | succ k =>
    simp only [List.replicate_succ, List.cons_append] at e
    by_cases h4 : 4 ≤ st
    · simp [h4] at e
    · cases u <;> simp [h4, List.replicate_succ] at e

/-- The next one: mine; a usual one; an urgent one, if not four have come. -/
theorem waits_next {k u st : Nat} {x : Value} {l : List Value} (h : Waits k u st (x :: l)) (h4 : st ≤ 4) :
    (x = mineV) ∨ (∃ k', k = k' + 1 ∧ x = usualV ∧ Waits k' u 0 l) ∨ (∃ u', u = u' + 1 ∧ x = urgentV ∧ st + 1 ≤ 4 ∧ Waits k u' (st + 1) l) := by
  unfold Waits at h
  cases k with
  | zero =>
    by_cases hs : 4 ≤ st
    · left
      have e : takeQ (List.replicate u urgentV) (List.replicate 0 usualV ++ [mineV]) st = (some mineV, List.replicate u urgentV, [], 0) := by simp [takeQ, hs]
      rw [drainQ_some e] at h
      simp only [List.cons.injEq] at h
      exact h.1
    · cases u with
      | zero =>
        left
        have e : takeQ (List.replicate 0 urgentV) (List.replicate 0 usualV ++ [mineV]) st = (some mineV, [], [], 0) := by simp [takeQ, hs]
        rw [drainQ_some e] at h
        simp only [List.cons.injEq] at h
        exact h.1
      | succ u =>
        right; right
        have e : takeQ (List.replicate (u + 1) urgentV) (List.replicate 0 usualV ++ [mineV]) st = (some urgentV, List.replicate u urgentV, List.replicate 0 usualV ++ [mineV], st + 1) := by simp [takeQ, hs, List.replicate_succ]
        rw [drainQ_some e] at h
        simp only [List.cons.injEq] at h
        refine ⟨u, rfl, h.1, by omega, ?_⟩
        unfold Waits
        rw [h.2]
  | succ k =>
    by_cases hs : 4 ≤ st
    · right; left
      have e : takeQ (List.replicate u urgentV) (List.replicate (k + 1) usualV ++ [mineV]) st = (some usualV, List.replicate u urgentV, List.replicate k usualV ++ [mineV], 0) := by simp [takeQ, hs, List.replicate_succ]
      rw [drainQ_some e] at h
      simp only [List.cons.injEq] at h
      refine ⟨k, rfl, h.1, ?_⟩
      unfold Waits
      rw [h.2]
      congr 1
    · cases u with
      | zero =>
        right; left
        have e : takeQ (List.replicate 0 urgentV) (List.replicate (k + 1) usualV ++ [mineV]) st = (some usualV, [], List.replicate k usualV ++ [mineV], 0) := by simp [takeQ, hs, List.replicate_succ]
        rw [drainQ_some e] at h
        simp only [List.cons.injEq] at h
        refine ⟨k, rfl, h.1, ?_⟩
        unfold Waits
        rw [h.2, show 0 + (k + 1) + 1 = 0 + k + 1 + 1 from by omega, List.replicate_zero]
      | succ u =>
        right; right
        have e : takeQ (List.replicate (u + 1) urgentV) (List.replicate (k + 1) usualV ++ [mineV]) st = (some urgentV, List.replicate u urgentV, List.replicate (k + 1) usualV ++ [mineV], st + 1) := by simp [takeQ, hs, List.replicate_succ]
        rw [drainQ_some e] at h
        simp only [List.cons.injEq] at h
        refine ⟨u, rfl, h.1, by omega, ?_⟩
        unfold Waits
        rw [h.2]
        congr 1
        omega

/-- What a slice of so many things holds. -/
def CellsAt (w : World) (ao : Option Addr) (out : List Value) : Prop :=
  ∀ m, m < out.length → ∃ g, ao = some ⟨g, 0, none⟩ ∧ w.cell? ⟨g, m, none⟩ = out[m]?

theorem fair_drain {w : World} {b cu cs k u : Nat} (h : Lane w b cu cs 60 (List.replicate u urgentV) (List.replicate k usualV ++ [mineV]) 0 false) (hk : k ≤ 20) (hu : u ≤ 40) :
    Calls Try.prog 12 #[.pointer (some ⟨b, 0, none⟩)] w fun e w' => ∃ (ao : Option Addr) (cap : Nat) (out : List Value), e = .returned (.slice ao out.length cap) ∧
      CellsAt w' ao out ∧ Waits k u 0 out ∧ Fr b cu cs w w' ∧ out.length ≤ 100 := by
  refine (LS.drain_calls h (by simp; omega) ?_ ?_).mono ?_
  · intro x hx
    exact ⟨_, (List.mem_replicate.1 hx).2⟩
  · intro x hx
    rcases List.mem_append.1 hx with h1 | h1
    · exact ⟨_, (List.mem_replicate.1 h1).2⟩
    · simp only [List.mem_singleton] at h1
      exact ⟨_, h1⟩
  · rintro e w' ⟨v, rfl, hown, _, hf⟩
    have e1 : (List.replicate u urgentV).length + (List.replicate k usualV ++ [mineV]).length + 1 = u + k + 1 + 1 := by simp; omega
    rw [e1] at hown
    have hlen := drainQ_len (u + k + 1 + 1) (List.replicate u urgentV) (List.replicate k usualV ++ [mineV]) 0
    generalize hout : drainQ (u + k + 1 + 1) (List.replicate u urgentV) (List.replicate k usualV ++ [mineV]) 0 = out at hown hlen
    have hne : out ≠ [] := waits_len k u 0 out hout.symm
    obtain ⟨g, cap, rfl, hg, _, hc⟩ := row_at hown (List.length_pos_iff.2 hne)
    exact ⟨_, cap, out, rfl, fun m hm => ⟨g, rfl, hc m (by omega)⟩, hout.symm, hf, by omega⟩

def FaRel1 (w : World) (b cu cs n : Nat) (k : Nat) (i : Value) (wr : World) : Prop :=
  ∃ j : Nat, k = n - j ∧ j ≤ n ∧ i = .int .i64 j ∧ Lane wr b cu cs 60 [] (List.replicate j usualV) 0 false ∧ Below w.heap.size w wr
def FaRel2 (w : World) (b cu cs a n : Nat) (k : Nat) (i : Value) (wr : World) : Prop :=
  ∃ j : Nat, k = n - j ∧ j ≤ n ∧ i = .int .i64 j ∧ Lane wr b cu cs 60 (List.replicate j urgentV) (List.replicate a usualV ++ [mineV]) 0 false ∧ Below w.heap.size w wr
def FaRel3 (w : World) (out : List Value) (g : Nat) (n i : Value) (wr : World) : Prop :=
  ∃ j k u st : Nat, g = out.length - j ∧ i = .int .i64 j ∧ n = .int .i64 st ∧ st ≤ 4 ∧ Waits k u st (out.drop j) ∧ wr = w

theorem offer_f {b cu cs : Nat} {U S : List Value} {st : Nat} {w : World} (h : Lane w b cu cs 60 U S st false) (hr : S.length < 60) :
    Calls Try.prog 11 #[.pointer (some ⟨b, 0, none⟩), .string ⟨#[117, 115, 117, 97, 108]⟩, .bool false] w fun e w' => e = .returned (.int .i64 0) ∧ Lane w' b cu cs 60 U (S ++ [usualV]) st false ∧ Fr b cu cs w w' := LS.offer_s h _ hr
theorem offer_m {b cu cs : Nat} {U S : List Value} {st : Nat} {w : World} (h : Lane w b cu cs 60 U S st false) (hr : S.length < 60) :
    Calls Try.prog 11 #[.pointer (some ⟨b, 0, none⟩), .string ⟨#[109, 105, 110, 101]⟩, .bool false] w fun e w' => e = .returned (.int .i64 0) ∧ Lane w' b cu cs 60 U (S ++ [mineV]) st false ∧ Fr b cu cs w w' := LS.offer_s h _ hr
theorem offer_g {b cu cs : Nat} {U S : List Value} {st : Nat} {w : World} (h : Lane w b cu cs 60 U S st false) (hr : U.length < 60) :
    Calls Try.prog 11 #[.pointer (some ⟨b, 0, none⟩), .string ⟨#[117, 114, 103, 101, 110, 116]⟩, .bool true] w fun e w' => e = .returned (.int .i64 0) ∧ Lane w' b cu cs 60 (U ++ [urgentV]) S st false ∧ Fr b cu cs w w' := LS.offer_u h _ hr

set_option maxHeartbeats 1000000 in
theorem fair_calls (a n : Nat) (w : World) (ha : a ≤ 20) (hn : n ≤ 40) :
    Calls Try.prog 4 #[.int .i64 (a : Int), .int .i64 (n : Int)] w fun e w' => e = .returned (.bool true) ∧ Below w.heap.size w w' := by
  have ha' : (a : Int) ≤ 20 := by omega
  have hn' : (n : Int) ≤ 40 := by omega
  go_enter Try.func4, Try.ntmps4
  go_wp2_with (first
    | (go_at_call 6; refine (anchor_calls _).mono ?_; rintro e w1 ⟨rfl, hb1⟩; have HB1 := Lib.hid hb1; clear hb1)
    | (go_at_call 10; refine (LS.new_60 _).mono ?_; rintro e w2 ⟨b, cu, cs, rfl, hl, hb2, h1, h2, h3⟩; have HB := Lib.hid (And.intro hb2 (And.intro h1 (And.intro h2 h3))); clear hb2 h1 h2 h3))
  have hrel0 : FaRel1 w b cu cs a a (.int .i64 0) w2 := ⟨0, by omega, by omega, rfl, hl, HB1.out.trans (HB.out.1.mono HB1.out.size)⟩
  have HR := Lib.hid hrel0
  clear hrel0 hl
  go_loopg [33] a (fun k i wr => FaRel1 w b cu cs a k i wr)
  case atStart => exact HR.out
  case round =>
    obtain ⟨j, hk, hj, rfl, hl, hB⟩ := hrel
    have HK := Lib.hid hk
    have HB2 := Lib.hid hB
    clear hk hB
    by_cases hlt : j < a
    · have hlt' : (j : Int) < (a : Int) := by omega
      go_wp2_with (go_at_call 11; refine (offer_f hl (by simp; omega)).mono ?_; rintro e w3 ⟨rfl, hl3, hf3⟩; have HF3 := Lib.hid hf3; clear hf3)
      go_roundg (a - (j + 1))
      case measure => have := HK.out; omega
      case rel =>
        obtain ⟨_, h1, h2, h3⟩ := HB.out
        have h0 := HB1.out.size
        exact ⟨j + 1, rfl, by omega, by go_num, by rw [List.replicate_succ']; exact hl3, HB2.out.trans (HF3.out.below (by omega) (by omega) (by omega) HB2.out.size)⟩
    · obtain rfl : j = a := by omega
      clear hlt hj
      go_wp2_with (go_at_call 11; refine (offer_m hl (by simp; omega)).mono ?_; rintro e w3 ⟨rfl, hl3, hf3⟩; have HF3 := Lib.hid hf3; clear hf3)
      have hrel0 : FaRel2 w b cu cs j n n (.int .i64 0) w3 := by
        obtain ⟨_, h1, h2, h3⟩ := HB.out
        have h0 := HB1.out.size
        exact ⟨0, by omega, by omega, rfl, hl3, HB2.out.trans (HF3.out.below (by omega) (by omega) (by omega) HB2.out.size)⟩
      have HR2 := Lib.hid hrel0
      clear hrel0 hl3 hl
      go_loopg [41] n (fun k i wr => FaRel2 w b cu cs j n k i wr)
      case atStart => exact HR2.out
      case round =>
        obtain ⟨m, hk, hm, rfl, hl, hB⟩ := hrel
        have HK2 := Lib.hid hk
        have HB4 := Lib.hid hB
        clear hk hB
        by_cases hlt : m < n
        · have hlt' : (m : Int) < (n : Int) := by omega
          go_wp2_with (go_at_call 11; refine (offer_g hl (by simp; omega)).mono ?_; rintro e w5 ⟨rfl, hl5, hf5⟩; have HF5 := Lib.hid hf5; clear hf5)
          go_roundg (n - (m + 1))
          case measure => have := HK2.out; omega
          case rel =>
            obtain ⟨_, h1, h2, h3⟩ := HB.out
            have h0 := HB1.out.size
            exact ⟨m + 1, rfl, by omega, by go_num, by rw [List.replicate_succ']; exact hl5, HB4.out.trans (HF5.out.below (by omega) (by omega) (by omega) HB4.out.size)⟩
        · obtain rfl : m = n := by omega
          clear hlt hm
          go_wp2_with (go_at_call 12; refine (fair_drain hl ha hn).mono ?_; rintro e w6 ⟨ao, cap, out, rfl, hcell, hwait, hf6, hlen⟩; have HD := Lib.hid (And.intro hcell (And.intro hwait (And.intro hf6 hlen))); clear hcell hwait hf6 hlen)
          have hrel0 : FaRel3 w6 out out.length (.int .i64 0) (.int .i64 0) w6 := ⟨0, j, m, 0, by omega, rfl, rfl, by omega, HD.out.2.1, rfl⟩
          have HR3 := Lib.hid hrel0
          have HB6 := Lib.hid (show Below w.heap.size w w6 by
            obtain ⟨_, h1, h2, h3⟩ := HB.out
            have h0 := HB1.out.size
            exact HB4.out.trans (HD.out.2.2.1.below (by omega) (by omega) (by omega) HB4.out.size))
          clear hrel0
          have hlen : (out.length : Int) ≤ 100 := by have := HD.out.2.2.2; omega
          go_loopg [7, 49] out.length (fun k n i wr => FaRel3 w6 out k n i wr)
          case atStart => exact HR3.out
          case round =>
            obtain ⟨q, k', u', st, hk, rfl, rfl, h4, hw, rfl⟩ := hrel
            have hlt : q < out.length := by
              rcases Nat.lt_or_ge q out.length with h | h
              · exact h
              · exact absurd (List.drop_eq_nil_of_le h) (waits_len _ _ _ _ hw)
            have hdrop : out.drop q = out[q] :: out.drop (q + 1) := List.drop_eq_getElem_cons hlt
            rw [hdrop] at hw
            obtain ⟨g, rfl, hgc⟩ := HD.out.1 q hlt
            rw [List.getElem?_eq_getElem hlt] at hgc
            have hn3 := waits_next hw h4
            generalize out[q] = x at hgc hn3
            have HK3 := Lib.hid hk
            have hlt' : (q : Int) < (out.length : Int) := by omega
            have h4' : (st : Int) ≤ 4 := by omega
            clear hk hw hdrop
            rcases hn3 with rfl | ⟨k2, rfl, rfl, hw2⟩ | ⟨u2, rfl, rfl, h5, hw2⟩
            · unfold mineV at hgc
              go_wp2
              all_goals go_ret
              all_goals exact ⟨rfl, HB6.out⟩
            · have HW := Lib.hid hw2
              clear hw2
              unfold usualV at hgc
              go_wp2
              all_goals go_roundg (out.length - (q + 1))
              case measure => have := HK3.out; omega
              case rel => exact ⟨q + 1, k2, u', 0, rfl, by go_num, rfl, by omega, HW.out, rfl⟩
            · have HW := Lib.hid hw2
              clear hw2
              unfold urgentV at hgc
              go_wp2
              all_goals go_roundg (out.length - (q + 1))
              case measure => have := HK3.out; omega
              case rel => exact ⟨q + 1, k', u2, st + 1, rfl, by go_num, by go_num, h5, HW.out, rfl⟩
end Go.Proofs.Ytbgopncknlammaa
