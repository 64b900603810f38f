/- LaneOrder: the walk of the law, for at most sixty. -/
import Derived.Test.YtbgopncknlammaaLaneO2
namespace Go.Proofs.Ytbgopncknlammaa
open Go.Conc Go.RowKit

set_option maxHeartbeats 1000000 in
theorem order_calls (bs : List Bool) (a : Option Addr) (cap : Nat) (w : World) (hn : bs.length ≤ 60) (hb : BoolsAt w a bs) :
    Calls Try.prog 3 #[.slice a bs.length cap] w fun e w' => e = .returned (.bool true) ∧ Below w.heap.size w w' := by
  have Hn := Lib.hid hn
  have hn' : (bs.length : Int) ≤ 60 := by omega
  have HBS := Lib.hid hb
  clear hb hn
  go_enter Try.func3, Try.ntmps3
  go_wp2_with (first
    | (go_at_call 6; refine (anchor_calls _).mono ?_; rintro e w1 ⟨rfl, hb1⟩; have HB1 := Lib.hid hb1; clear hb1)
    | (go_at_call 7; refine (LI.new_60 _).mono ?_; rintro e w2 ⟨b, cu, cs, rfl, hl, hb2, h1, h2, h3⟩; have HB := Lib.hid (And.intro hb2 (And.intro h1 (And.intro h2 h3))); clear hb2 h1 h2 h3))
  have hrel0 : OrRel1 bs w b cu cs bs.length (.int .i64 0) w2 := ⟨0, by omega, by omega, rfl, hl, HB1.out.trans (HB.out.1.mono HB1.out.size)⟩
  have HR := Lib.hid hrel0
  clear hrel0 hl
  go_loopg [25] bs.length (fun k i wr => OrRel1 bs w b cu cs k i wr)
  case atStart => exact HR.out
  case round =>
    obtain ⟨j, hk, hj, rfl, hl, hB⟩ := hrel
    have HK := Lib.hid hk
    have HB2 := Lib.hid hB
    clear hk hB
    by_cases hlt : j < bs.length
    · obtain ⟨bb, off, rfl, hc, _⟩ := (HBS.out.below HB2.out) j hlt
      cases hbj : bs.getD j false
      all_goals
        rw [hbj] at hc
        have HBJ := Lib.hid hbj
        clear hbj
        have hroom : (ups bs j).length < 60 ∧ (downs bs j).length < 60 := by have h1 := len_both bs j; have h2 := Hn.out; omega
        have Hroom := Lib.hid hroom
        clear hroom
        go_wp2_with (first
          | (go_at_call 8; (with_reducible refine (LI.offer_u hl _ Hroom.out.1).mono ?_); rintro e w3 ⟨rfl, hl3, hf3⟩; have HF3 := Lib.hid hf3; clear hf3)
          | (go_at_call 8; (with_reducible refine (LI.offer_s hl _ Hroom.out.2).mono ?_); rintro e w3 ⟨rfl, hl3, hf3⟩; have HF3 := Lib.hid hf3; clear hf3))
        go_roundg (bs.length - (j + 1))
        case measure => have := HK.out; omega
        case rel =>
          obtain ⟨_, h1, h2, h3⟩ := HB.out
          have h0 := HB1.out.size
          refine ⟨j + 1, rfl, by omega, by go_num, ?_, HB2.out.trans (HF3.out.below (by omega) (by omega) (by omega) HB2.out.size)⟩
          first
            | (rw [ups_true HBJ.out, downs_true HBJ.out]; exact hl3)
            | (rw [ups_false HBJ.out, downs_false HBJ.out]; exact hl3)
    · obtain rfl : j = bs.length := by omega
      clear hlt hj
      go_wp2_with (go_at_call 9; refine (order_drain hl Hn.out).mono ?_; rintro e w3 ⟨ao, cap', out, rfl, hcell, hlen, hint, hf3⟩; have HD := Lib.hid (And.intro hcell (And.intro hlen (And.intro hint hf3))); clear hcell hlen hint hf3)
      have hrel0 : OrRel2 bs w w3.heap.size ao out out.length (.int .i64 0) (w3.alloc (.cells #[.int .i64 (-1), .int .i64 (-1)] 31)) := by
        obtain ⟨hcell, hlen, hint, hf3⟩ := HD.out
        obtain ⟨_, h1, h2, h3⟩ := HB.out
        have h0 := HB1.out.size
        have hB3 : Below w.heap.size w w3 := HB2.out.trans (hf3.below (by omega) (by omega) (by omega) HB2.out.size)
        have hnew := heap_alloc_new w3 (.cells #[.int .i64 (-1), .int .i64 (-1)] 31)
        refine ⟨0, -1, -1, _, _, by omega, by omega, rfl, hB3.alloc hB3.size _, hint, coming_ups bs, coming_downs bs, ⟨?_, ?_, ?_, ?_⟩, by omega, by omega, ?_⟩
        · unfold World.cell?; rw [hnew]; rfl
        · unfold World.cell?; rw [hnew]; rfl
        · unfold World.frozen?; rw [hnew]; rfl
        · unfold World.frozen?; rw [hnew]; rfl
        · intro m hm
          obtain ⟨g, e1, e2, _, e3⟩ := hcell m hm
          refine ⟨g, e1, ?_, by omega⟩
          rw [← e2]
          exact World.cell?_of_block (w := w3) (a := ⟨g, m, none⟩) (Below.heap_alloc _ _ _ e3)
      have HR2 := Lib.hid hrel0
      have HG := Lib.hid (show w.heap.size ≤ w3.heap.size from Nat.le_trans HB2.out.size HD.out.2.2.2.size)
      have HL := Lib.hid HD.out.2.1
      clear hrel0
      generalize (w3.alloc (.cells #[.int .i64 (-1), .int .i64 (-1)] 31)) = w4 at *
      generalize w3.heap.size = g at *
      go_loopg [41] out.length (fun k i wr => OrRel2 bs w g ao out k i wr)
      case atStart => exact HR2.out
      case round =>
        obtain ⟨m, l0, l1, U, S, hk, hm, rfl, hB5, hint, hcu, hcs, ⟨c0, c1, f0, f1⟩, hl0, hl1, hrow⟩ := hrel
        by_cases hlt : m < out.length
        · have hdrop : out.drop m = out[m] :: out.drop (m + 1) := List.drop_eq_getElem_cons hlt
          rw [hdrop] at hint
          obtain ⟨go, rfl, hgc, hgne⟩ := hrow m hlt
          rw [List.getElem?_eq_getElem hlt] at hgc
          generalize hx : out[m] = x at *
          clear hx
          have hrow' := Lib.hid hrow
          have HK := Lib.hid hk
          have HB5 := Lib.hid hB5
          have HGN := Lib.hid hgne
          clear hk hB5 hrow hgne hdrop
          cases hint with
          | left hint' =>
            obtain ⟨i, rfl, hi1, hi2, hi3⟩ := hcu.head
            have HC := Lib.hid (And.intro hint' (And.intro hcu.tail hcs))
            obtain ⟨bb, off, rfl, hc, _⟩ := (HBS.out.below HB5.out) i hi1
            rw [hi2] at hc
            clear hint' hcu hcs hi2
            have hi1' : (i : Int) < (bs.length : Int) := by omega
            have hm60 : (m : Int) < 100 := by have h1 := HL.out; have h2 := Hn.out; omega
            go_wp2
            go_roundg (out.length - (m + 1))
            case measure => have := HK.out; omega
            case rel =>
              obtain ⟨q1, q2, q3⟩ := HC.out
              refine ⟨m + 1, l0, (i : Int), _, _, rfl, by omega, by go_num, HB5.out.setCell HG.out _, q1, q2, q3, ⟨?_, ?_, by simpa using f0, by simpa using f1⟩, hl0, by omega, ?_⟩
              · rw [cell_set_ne (Or.inr (by decide))]; exact c0
              · exact cell_set_eq c1
              · intro m' hm'
                obtain ⟨go', e1, e2, e3⟩ := hrow'.out m' hm'
                refine ⟨go', e1, ?_, e3⟩
                rw [cell_set_ne (Or.inl (Ne.symm e3))]; exact e2
          | right hint' =>
            obtain ⟨i, rfl, hi1, hi2, hi3⟩ := hcs.head
            have HC := Lib.hid (And.intro hint' (And.intro hcu hcs.tail))
            obtain ⟨bb, off, rfl, hc, _⟩ := (HBS.out.below HB5.out) i hi1
            rw [hi2] at hc
            clear hint' hcu hcs hi2
            have hi1' : (i : Int) < (bs.length : Int) := by omega
            have hm60 : (m : Int) < 100 := by have h1 := HL.out; have h2 := Hn.out; omega
            go_wp2
            go_roundg (out.length - (m + 1))
            case measure => have := HK.out; omega
            case rel =>
              obtain ⟨q1, q2, q3⟩ := HC.out
              refine ⟨m + 1, (i : Int), l1, _, _, rfl, by omega, by go_num, HB5.out.setCell HG.out _, q1, q2, q3, ⟨?_, ?_, by simpa using f0, by simpa using f1⟩, by omega, hl1, ?_⟩
              · exact cell_set_eq c0
              · rw [cell_set_ne (Or.inr (by decide))]; exact c1
              · intro m' hm'
                obtain ⟨go', e1, e2, e3⟩ := hrow'.out m' hm'
                refine ⟨go', e1, ?_, e3⟩
                rw [cell_set_ne (Or.inl (Ne.symm e3))]; exact e2
        · obtain rfl : m = out.length := by omega
          have HX := Lib.hid (And.intro hk (And.intro hint (And.intro hcu (And.intro hcs hrow))))
          have HB5 := Lib.hid hB5
          clear hk hint hcu hcs hrow hB5
          go_wp2
          go_ret
          rw [HL.out]
          exact ⟨by simp, HB5.out⟩
end Go.Proofs.Ytbgopncknlammaa
