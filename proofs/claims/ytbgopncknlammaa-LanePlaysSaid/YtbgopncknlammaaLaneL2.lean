/- LanePlays: the walk of the law, where the steps are at most a hundred and there is room for one to forty. -/
import Derived.Test.YtbgopncknlammaaLaneL
namespace Go.Proofs.Ytbgopncknlammaa
open Go.Conc Go.RowKit

theorem fr_cell {b cu cs ob o : Nat} {w5 w6 : World} (h : Fr b cu cs w5.drew w6) (hl : ob < w5.heap.size ∧ b < ob ∧ cu < ob ∧ cs < ob) : w6.cell? ⟨ob, o, none⟩ = w5.cell? ⟨ob, o, none⟩ :=
  World.cell?_of_block (w := w5) (a := ⟨ob, o, none⟩) (h.block ob hl.1 (by omega) (by omega) (by omega))

set_option maxRecDepth 100000 in
set_option maxHeartbeats 4000000 in
theorem plays_calls (ops : List (Int × Int × Bool)) (a : Option Addr) (cap : Nat) (room : Nat) (w : World) (hn : ops.length ≤ 100) (h1 : 1 ≤ room) (h40 : room ≤ 40) (ho : OpsAt w a ops) :
    Calls Try.prog 5 #[.int .i64 (room : Int), .slice a ops.length cap] w fun e w' => e = .returned (.bool true) ∧ Below w.heap.size w w' := by
  have Hn := Lib.hid hn
  have HR1 := Lib.hid h1
  have HR40 := Lib.hid h40
  have hn' : (ops.length : Int) ≤ 100 := by omega
  have hr1' : (1 : Int) ≤ (room : Int) := by omega
  have hr40' : (room : Int) ≤ 40 := by omega
  have HO := Lib.hid ho
  clear hn h1 h40 ho
  go_enter Try.func5, Try.ntmps5
  go_wp2_with (first
    | (go_at_call 6; refine (anchor_calls _).mono ?_; rintro e w1 ⟨rfl, hb1⟩; have HB1 := Lib.hid hb1; clear hb1)
    | (go_at_call 7; refine (LI.new_ok room HR1.out (Nat.le_trans HR40.out (by decide)) _).mono ?_; rintro e w2 ⟨b, cu, cs, rfl, hl, hb2, h1, h2, h3⟩; have HB := Lib.hid (And.intro hl (And.intro hb2 (And.intro h1 (And.intro h2 h3)))); clear hl hb2 h1 h2 h3))
  have hL : Lies w w2.heap.size b cu cs w2.heap.size := by
    obtain ⟨hl, hb2, h1, h2, h3⟩ := HB.out
    have h0 := HB1.out.size
    have h9 := hl.lts
    exact ⟨h9.1, h9.2.1, h9.2.2, by omega, by omega, by omega, Nat.le_trans h0 hb2.size, Nat.le_refl _⟩
  have hM : Mid w w2.heap.size b cu cs w2.heap.size room [] [] 0 false (w2.alloc (.cells #[.slice none 0 0, .slice none 0 0, .int .i64 (room : Int), .int .i64 0, .bool false] 43)) := by
    obtain ⟨hl, hb2, h1, h2, h3⟩ := HB.out
    refine ⟨hl.alloc _, ⟨_, _, none, none, ⟨⟨43, heap_alloc_new _ _⟩, OwnQ.nil _ _ _, OwnQ.nil _ _ _, Nat.le_refl _, by simp, by simp, Or.inl rfl, by omega⟩⟩, ?_, by simp, by simp, by simp, by simp, by simp⟩
    exact (HB1.out.trans (hb2.mono HB1.out.size)).alloc (Nat.le_trans HB1.out.size hb2.size) _
  have HL := Lib.hid hL
  have HM := Lib.hid hM
  clear hL hM
  generalize w2.alloc (.cells #[.slice none 0 0, .slice none 0 0, .int .i64 (room : Int), .int .i64 0, .bool false] 43) = w3 at *
  generalize hg : w2.heap.size = g at *
  clear hg
  go_loopg [55] ops.length (fun k i wr => PlRel w g b cu cs g room ops.length k i wr)
  case atStart => exact ⟨0, [], [], 0, false, by omega, by omega, rfl, HM.out⟩
  case round =>
    obtain ⟨j, U, S, st, sh, hk, hj, rfl, hM⟩ := hrel
    have HK := Lib.hid hk
    clear hk
    by_cases hlt : j < ops.length
    · have hlt' : (j : Int) < (ops.length : Int) := by omega
      obtain ⟨ba, off, rfl, k0, k1, k2, hba⟩ := (HO.out.below hM.below) j hlt
      generalize ops.getD j (0, 0, false) = op at k0 k1 k2
      obtain ⟨kind, x, u⟩ := op
      simp only at k0 k1 k2
      have HM2 := Lib.hid hM
      clear hM
      by_cases hk1 : kind = 1
      · subst hk1
        go_wp2_with fail
        have HRC := Lib.hid ((HM2.out.ref.toC).below ((Below.refl wr.heap.size wr).alloc (Nat.le_refl _) (.cells #[.int .i64 1, .int .i64 x, .bool u] 45)) (Nat.le_refl _))
        have d1 : (wr.alloc (.cells #[.int .i64 1, .int .i64 x, .bool u] 45)).cell? ⟨wr.heap.size, 1, none⟩ = some (.int .i64 x) := by simp
        have d2 : (wr.alloc (.cells #[.int .i64 1, .int .i64 x, .bool u] 45)).cell? ⟨wr.heap.size, 2, none⟩ = some (.bool u) := by simp
        have HM3 := Lib.hid (HM2.out.more ((Below.refl wr.heap.size wr).alloc (Nat.le_refl _) (.cells #[.int .i64 1, .int .i64 x, .bool u] 45)))
        have HOB := Lib.hid (show wr.heap.size < (wr.alloc (.cells #[.int .i64 1, .int .i64 x, .bool u] 45)).heap.size ∧ b < wr.heap.size ∧ cu < wr.heap.size ∧ cs < wr.heap.size from ⟨by simp, HM2.out.lane.lts⟩)
        clear k0 k1 k2
        generalize wr.alloc (.cells #[.int .i64 1, .int .i64 x, .bool u] 45) = w5 at *
        generalize wr.heap.size = ob at *
        go_region_held3 (fun w' => w'.cell? ⟨ob, 1, none⟩ = some (.int .i64 x) ∧ w'.cell? ⟨ob, 2, none⟩ = some (.bool u)) (first | exact ⟨d1, d2⟩ | exact ⟨d1', d2'⟩ | go_keep)
          (first
            | (go_at_call 8; refine (LI.offer_calls (HM3.out.lane.drew) _ _).mono ?_; rintro e w6 ⟨rfl, hl6, hf6⟩; have d1' : w6.cell? ⟨ob, 1, none⟩ = some (.int .i64 x) := (fr_cell hf6 HOB.out).trans d1; have d2' : w6.cell? ⟨ob, 2, none⟩ = some (.bool u) := (fr_cell hf6 HOB.out).trans d2; have H6 := Lib.hid (And.intro hl6 hf6); clear hl6 hf6)
            | (go_at_call 13; refine (roffer ((HRC.out.below (D := w5.heap.size) (Below.refl _ _).drew (Nat.le_refl _)).fr H6.out.2 HL.out.b1 HL.out.b2 HL.out.b3) _ _ (Nat.le_trans HR40.out (by decide)) (Nat.le_trans HM3.out.size H6.out.2.size)).mono ?_; rintro e w7 ⟨rfl, hr7, hb7, hk7⟩; have d1' : w7.cell? ⟨ob, 1, none⟩ = some (.int .i64 x) := (World.cell?_of_block (w := w6) (a := ⟨ob, 1, none⟩) (hk7 ob (Nat.le_refl _) (Nat.lt_of_lt_of_le HOB.out.1 H6.out.2.size))).trans d1'; have d2' : w7.cell? ⟨ob, 2, none⟩ = some (.bool u) := (World.cell?_of_block (w := w6) (a := ⟨ob, 2, none⟩) (hk7 ob (Nat.le_refl _) (Nat.lt_of_lt_of_le HOB.out.1 H6.out.2.size))).trans d2'; have H7 := Lib.hid (And.intro hr7 hb7); clear hr7 hb7 hk7))
        have HM8 := Lib.hid ((HM3.out.more (Below.refl _ _).drew).step HL.out H6.out.1 H6.out.2 H7.out.1 H7.out.2 (offQ_el HM3.out.elU HM3.out.elS HM3.out.lenU HM3.out.lenS).1 (offQ_el HM3.out.elU HM3.out.elS HM3.out.lenU HM3.out.lenS).2.1 (offQ_el HM3.out.elU HM3.out.elS HM3.out.lenU HM3.out.lenS).2.2.1 (offQ_el HM3.out.elU HM3.out.elS HM3.out.lenU HM3.out.lenS).2.2.2)
        clear d1 d2 d1' d2'
        generalize LI.offQ room U S sh (.int .i64 x) u = q at *
        obtain ⟨aU, cU, aS, cS, e0, e1⟩ := HM8.out.cells
        go_wp2_with (go_at_call 17; refine (LI.len_calls HM8.out.lane).mono ?_; rintro e w9 ⟨rfl, rfl⟩)
        all_goals go_roundg (ops.length - (j + 1))
        case measure => have := HK.out; omega
        case rel => exact ⟨j + 1, _, _, _, _, rfl, by omega, by go_num, HM8.out.more (Below.refl _ _).drew⟩
      · by_cases hk2 : kind = 2
        · subst hk2
          clear hk1
          have HM3 := Lib.hid (HM2.out.more ((Below.refl wr.heap.size wr).alloc (Nat.le_refl _) (.cells #[.int .i64 2, .int .i64 x, .bool u] 45)))
          rcases ht : takeQ U S st with ⟨_ | y, U', S', st'⟩
          · have Ht := Lib.hid ht
            clear ht
            go_wp2_with (first
              | (go_at_call 14; refine (LI.take_none HM3.out.lane Ht.out).mono ?_; rintro e w6 ⟨rfl, hl6, hf6⟩; have H6 := Lib.hid (And.intro hl6 hf6); clear hl6 hf6)
              | (go_at_call 15; refine (mid_none HM3.out HL.out H6.out Ht.out).mono ?_; rintro e w7 ⟨rfl, hm8⟩; have HM8 := Lib.hid hm8; obtain ⟨aU, cU, aS, cS, e0, e1⟩ := hm8.cells; clear hm8)
              | (go_at_call 17; refine (LI.len_calls HM8.out.lane).mono ?_; rintro e w9 ⟨rfl, rfl⟩))
            all_goals go_roundg (ops.length - (j + 1))
            case measure => have := HK.out; omega
            case rel => exact ⟨j + 1, _, _, _, _, rfl, by omega, by go_num, HM8.out.more (Below.refl _ _).drew⟩
          · obtain ⟨yn, rfl⟩ := HM2.out.el ht
            have Ht := Lib.hid ht
            clear ht
            go_wp2_with (first
              | (go_at_call 14; refine (LI.take_some HM3.out.lane Ht.out).mono ?_; rintro e w6 ⟨rfl, hl6, hf6⟩; have H6 := Lib.hid (And.intro hl6 hf6); clear hl6 hf6)
              | (go_at_call 15; refine (mid_some HM3.out HL.out H6.out Ht.out).mono ?_; rintro e w7 ⟨rfl, hm8⟩; have HM8 := Lib.hid hm8; obtain ⟨aU, cU, aS, cS, e0, e1⟩ := hm8.cells; clear hm8)
              | (go_at_call 17; refine (LI.len_calls HM8.out.lane).mono ?_; rintro e w9 ⟨rfl, rfl⟩))
            all_goals go_roundg (ops.length - (j + 1))
            case measure => have := HK.out; omega
            case rel => exact ⟨j + 1, _, _, _, _, rfl, by omega, by go_num, HM8.out.more (Below.refl _ _).drew⟩
        · by_cases hk3 : kind = 3
          · subst hk3
            clear hk1 hk2
            have HM3 := Lib.hid (HM2.out.more ((Below.refl wr.heap.size wr).alloc (Nat.le_refl _) (.cells #[.int .i64 3, .int .i64 x, .bool u] 45)))
            go_wp2_with (go_at_call 16; refine (mid_shut HM3.out HL.out).mono ?_; rintro e w6 ⟨rfl, c4, f4, hm8⟩; have HM8 := Lib.hid hm8; obtain ⟨aU, cU, aS, cS, e0, e1⟩ := hm8.cells; clear hm8)
            all_goals go_wp2_with (go_at_call 17; refine (LI.len_calls HM8.out.lane).mono ?_; rintro e w9 ⟨rfl, rfl⟩)
            all_goals go_roundg (ops.length - (j + 1))
            case measure => have := HK.out; omega
            case rel => exact ⟨j + 1, _, _, _, _, rfl, by omega, by go_num, HM8.out.more (Below.refl _ _).drew⟩
          · by_cases hk4 : kind = 4
            · subst hk4
              clear hk1 hk2 hk3
              have HM3 := Lib.hid (HM2.out.more ((Below.refl wr.heap.size wr).alloc (Nat.le_refl _) (.cells #[.int .i64 4, .int .i64 x, .bool u] 45)))
              go_wp2_with (go_at_call 9; refine (mid_drain HM3.out HL.out HR40.out).mono ?_; rintro e w6 ⟨ao, cap2, out, rfl, hrel2, hlen2⟩; have HR2 := Lib.hid hrel2; have hlen2' : (out.length : Int) ≤ 100 := Int.ofNat_le.2 hlen2; clear hrel2)
              go_loopg [108] out.length (fun k i wr => PlRel2 w g b cu cs g room sh ao out k i wr)
              case atStart => exact HR2.out
              case round =>
                obtain ⟨m, U2, S2, st2, hk6, hm, rfl, hr2, hl2, hb2, hs2, eU2, eS2, hd2, ha2⟩ := hrel
                have HK6 := Lib.hid hk6
                clear hk6
                by_cases hlt2 : m < out.length
                · have hlt2' : (m : Int) < (out.length : Int) := by omega
                  rw [List.drop_eq_getElem_cons hlt2] at hd2
                  obtain ⟨go, rfl, hgc, hgne⟩ := ha2 m hlt2
                  rw [List.getElem?_eq_getElem hlt2] at hgc
                  obtain ⟨U7, S7, st7, ht, hd7⟩ := pl2_next hd2
                  generalize out[m] = y at *
                  have hy : LI.El y := by
                    rcases (takeQ_mem ht).2.2 y rfl with h | h
                    · exact eU2 y h
                    · exact eS2 y h
                  obtain ⟨yn, rfl⟩ := hy
                  have HX := Lib.hid (And.intro ht (And.intro hd7 (And.intro hr2 (And.intro hl2 (And.intro hb2 (And.intro hs2 (And.intro eU2 (And.intro eS2 ha2))))))))
                  have HGN := Lib.hid hgne
                  clear ht hd7 hr2 hl2 hb2 hs2 eU2 eS2 ha2 hd2 hgne
                  go_wp2_with (go_at_call 15; refine (rtake_some HX.out.2.2.1 HX.out.2.2.2.2.2.2.1 HX.out.2.2.2.2.2.2.2.1 HX.out.1).mono ?_; rintro e w7 ⟨rfl, hr7, hb7⟩; have H7 := Lib.hid (And.intro hr7 hb7); clear hr7 hb7)
                  all_goals go_roundg (out.length - (m + 1))
                  case measure => have := HK6.out; omega
                  case rel =>
                    obtain ⟨ht, hd7, hr2, hl2, hb2, hs2, eU2, eS2, ha2⟩ := HX.out
                    have h9 := HL.out
                    refine ⟨m + 1, U7, S7, st7, rfl, by omega, by go_num, H7.out.1, hl2.keep ?_ ?_ ?_, hb2.trans (H7.out.2.1.mono h9.l4), Nat.le_trans hs2 H7.out.2.1.size, fun z hz => eU2 z ((takeQ_mem ht).1 z hz), fun z hz => eS2 z ((takeQ_mem ht).2.1 z hz), hd7, ?_⟩
                    · exact H7.out.2.2 _ (by have := h9.b1; have := h9.l5; omega)
                    · exact H7.out.2.2 _ (by have := h9.b2; have := h9.l5; omega)
                    · exact H7.out.2.2 _ (by have := h9.b3; have := h9.l5; omega)
                    · intro m' hm'
                      obtain ⟨go', q1, q2, q3⟩ := ha2 m' hm'
                      exact ⟨go', q1, (World.cell?_of_block (a := ⟨go', m', none⟩) (H7.out.2.2 go' q3)).trans q2, q3⟩
                · obtain rfl : m = out.length := by omega
                  rw [List.drop_length] at hd2
                  obtain ⟨st9, ht, rfl, rfl, rfl⟩ := pl2_end hd2
                  have HX := Lib.hid (And.intro ht (And.intro hr2 (And.intro hl2 (And.intro hb2 hs2))))
                  clear ht hr2 hl2 hb2 hs2 eU2 eS2 ha2 hd2
                  go_wp2_with (first
                    | (go_at_call 15; refine (pl2_last HL.out HX.out).mono ?_; rintro e w7 ⟨rfl, hm8⟩; have HM8 := Lib.hid hm8; obtain ⟨aU, cU, aS, cS, e0, e1⟩ := hm8.cells; clear hm8)
                    | (go_at_call 17; refine (LI.len_calls HM8.out.lane).mono ?_; rintro e w9 ⟨rfl, rfl⟩))
                  all_goals go_roundg (ops.length - (j + 1))
                  case measure => have := HK.out; omega
                  case rel => exact ⟨j + 1, _, _, _, _, rfl, by omega, by go_num, HM8.out.more (Below.refl _ _).drew⟩
            · have b1 : (kind == 1) = false := by simpa using hk1
              have b2 : (kind == 2) = false := by simpa using hk2
              have b3 : (kind == 3) = false := by simpa using hk3
              have b4 : (kind == 4) = false := by simpa using hk4
              clear hk1 hk2 hk3 hk4
              have HM8 := Lib.hid (HM2.out.more ((Below.refl wr.heap.size wr).alloc (Nat.le_refl _) (.cells #[.int .i64 kind, .int .i64 x, .bool u] 45)))
              obtain ⟨aU, cU, aS, cS, e0, e1⟩ := HM8.out.cells
              go_wp2_with (go_at_call 17; refine (LI.len_calls HM8.out.lane).mono ?_; rintro e w9 ⟨rfl, rfl⟩)
              all_goals go_roundg (ops.length - (j + 1))
              case measure => have := HK.out; omega
              case rel => exact ⟨j + 1, _, _, _, _, rfl, by omega, by go_num, HM8.out.more (Below.refl _ _).drew⟩
    · obtain rfl : j = ops.length := by omega
      have HM9 := Lib.hid hM
      clear hM
      go_wp2
      all_goals go_ret
      all_goals exact ⟨rfl, HM9.out.below⟩
end Go.Proofs.Ytbgopncknlammaa
