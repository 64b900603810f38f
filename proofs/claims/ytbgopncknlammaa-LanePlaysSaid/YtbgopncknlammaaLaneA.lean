/- The anchor of the lanes' laws: it returns true. -/
import Derived.Test.YtbgopncknlammaaLaneI3
namespace Go.Proofs.Ytbgopncknlammaa
open Go.Conc Go.RowKit

theorem row_at {w : World} {base e size n : Nat} {v : Value} {xs : List Value} (h : w.ownsRow base e size v n xs) (hn : 0 < n) :
    ∃ g cap, v = .slice (some ⟨g, 0, none⟩) n cap ∧ base ≤ g ∧ n ≤ cap ∧ ∀ j, j < n * size → w.cell? ⟨g, j, none⟩ = xs[j]? := by
  have h' := h
  obtain ⟨_, ⟨_, h0⟩ | ⟨g, cap, cur, rfl, hg, hh, hc, _⟩⟩ := h
  · omega
  · exact ⟨g, cap, rfl, hg, hc, fun j hj => h'.cellAt j hj⟩

/-- The first so many numbers. -/
def upTo (k : Nat) : List Value := (List.range k).map fun i : Nat => Value.int .i64 (i : Int)
theorem upTo_succ (k : Nat) : upTo (k + 1) = upTo k ++ [.int .i64 (k : Int)] := by simp [upTo, List.range_succ]
theorem upTo_len (k : Nat) : (upTo k).length = k := by simp [upTo]

theorem drain_anchor : drainQ ((upTo 5).length + 1 + 1) (upTo 5) [.int .i64 9] 0 = [.int .i64 0, .int .i64 1, .int .i64 2, .int .i64 3, .int .i64 9, .int .i64 4] := by rfl

def AnRel (w : World) (b cu cs : Nat) (k : Nat) (i : Value) (wr : World) : Prop :=
  ∃ j : Nat, k = 5 - j ∧ j ≤ 5 ∧ i = .int .i64 j ∧ Lane wr b cu cs 9 (upTo j) [.int .i64 9] 0 false ∧ Below w.heap.size w wr

theorem anchor_drain {w : World} {b cu cs : Nat} (h : Lane w b cu cs 9 (upTo 5) [.int .i64 9] 0 false) :
    Calls Try.prog 9 #[.pointer (some ⟨b, 0, none⟩)] w fun e w' => ∃ g cap, e = .returned (.slice (some ⟨g, 0, none⟩) 6 cap) ∧
      w'.cell? ⟨g, 3, none⟩ = some (.int .i64 3) ∧ w'.cell? ⟨g, 4, none⟩ = some (.int .i64 9) ∧ w'.cell? ⟨g, 5, none⟩ = some (.int .i64 4) ∧ Fr b cu cs w w' := by
  refine (LI.drain_calls h (by rw [upTo_len]; decide) ?_ ?_).mono ?_
  · intro x hx
    obtain ⟨i, _, rfl⟩ := List.mem_map.1 hx
    exact ⟨_, rfl⟩
  · intro x hx
    simp only [List.mem_singleton] at hx
    exact ⟨9, hx⟩
  · rintro e w' ⟨v, rfl, hown, _, hf⟩
    have e1 : drainQ ((upTo 5).length + [Value.int .i64 9].length + 1) (upTo 5) [.int .i64 9] 0 = [.int .i64 0, .int .i64 1, .int .i64 2, .int .i64 3, .int .i64 9, .int .i64 4] := drain_anchor
    rw [e1] at hown
    obtain ⟨g, cap, rfl, _, _, hc⟩ := row_at hown (by decide)
    exact ⟨g, cap, rfl, hc 3 (by decide), hc 4 (by decide), hc 5 (by decide), hf⟩

set_option maxHeartbeats 1000000 in
theorem anchor_calls (w : World) : Calls Try.prog 6 #[] w fun e w' => e = .returned (.bool true) ∧ Below w.heap.size w w' := by
  go_enter Try.func6, Try.ntmps6
  go_wp2_with (first
    | (go_at_call 7; refine (LI.new_9 _).mono ?_; rintro e w1 ⟨b, cu, cs, rfl, hl, hb1, h1, h2, h3⟩; have HB := Lib.hid (And.intro hb1 (And.intro h1 (And.intro h2 h3))); clear hb1 h1 h2 h3)
    | (go_at_call 8; refine (LI.offer_s hl _ (by decide)).mono ?_; rintro e w2 ⟨rfl, hl2, hf2⟩; have HF2 := Lib.hid hf2; clear hf2))
  obtain ⟨hb1, h1, h2, h3⟩ := HB.out
  have hrel0 : AnRel w b cu cs 5 (.int .i64 0) w2 := ⟨0, rfl, by omega, rfl, hl2, hb1.trans (HF2.out.below h1 h2 h3 hb1.size)⟩
  have HR := Lib.hid hrel0
  clear hrel0 hb1 h1 h2 h3 hl2 hl
  go_loopg [20] 5 (fun k i wr => AnRel w b cu cs k i wr)
  case atStart => exact HR.out
  case round =>
    obtain ⟨j, hk, hj, rfl, hl, hB⟩ := hrel
    have HK := Lib.hid hk
    have HB2 := Lib.hid hB
    clear hk hB
    by_cases hlt : j < 5
    · have hlt' : (j : Int) < 5 := by omega
      go_wp2_with (go_at_call 8; refine (LI.offer_u hl _ (by rw [upTo_len]; omega)).mono ?_; rintro e w3 ⟨rfl, hl3, hf3⟩; have HF3 := Lib.hid hf3; clear hf3)
      go_roundg (5 - (j + 1))
      case measure => have := HK.out; omega
      case rel =>
        obtain ⟨hb1, h1, h2, h3⟩ := HB.out
        exact ⟨j + 1, rfl, by omega, by go_num, by rw [upTo_succ]; exact hl3, HB2.out.trans (HF3.out.below h1 h2 h3 HB2.out.size)⟩
    · obtain rfl : j = 5 := by omega
      go_wp2_with (go_at_call 9; refine (anchor_drain hl).mono ?_; rintro e w3 ⟨g, cap, rfl, c3, c4, c5, hf3⟩; have HF3 := Lib.hid hf3; clear hf3)
      go_ret
      obtain ⟨hb1, h1, h2, h3⟩ := HB.out
      exact ⟨rfl, HB2.out.trans (HF3.out.below h1 h2 h3 HB2.out.size)⟩
end Go.Proofs.Ytbgopncknlammaa
