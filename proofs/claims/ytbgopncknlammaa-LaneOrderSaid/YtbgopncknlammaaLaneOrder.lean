/- LaneOrder: for every list of bools, of whatever length, the law returns true, and the list reads as it did. No condition. -/
import Derived.Test.YtbgopncknlammaaClose
import Derived.Test.YtbgopncknlammaaLaneO3
import Derived.Deep.Grids
namespace Go.Proofs.Ytbgopncknlammaa
open Go.ChangeShapes Go.WideShapes Go.ChangeAt Go.RowKit Go.Deep

theorem order_long (a : Option Addr) (n cap : Nat) (w : World) (hn : 60 < n) :
    Calls Try.prog 3 #[.slice a n cap] w fun e w' => e = .returned (.bool true) ∧ Below w.heap.size w w' := by
  have hn' : (60 : Int) < (n : Int) := by omega
  clear hn
  go_enter Try.func3, Try.ntmps3
  go_wp2_with (go_at_call 6; refine (anchor_calls _).mono ?_; rintro e w1 ⟨rfl, hb1⟩; have HB1 := Lib.hid hb1; clear hb1)
  go_ret
  exact ⟨rfl, HB1.out⟩

theorem order_any (bs : List Bool) (a : Option Addr) (cap : Nat) (w : World) (hb : BoolsAt w a bs) :
    Calls Try.prog 3 #[.slice a bs.length cap] w fun e w' => e = .returned (.bool true) ∧ Below w.heap.size w w' := by
  by_cases h : bs.length ≤ 60
  · exact order_calls bs a cap w h hb
  · exact order_long a bs.length cap w (by omega)

theorem own : ownKnob Try.prog.godebug = none := by kernel_rfl
theorem laidOut : laidOutB Try.prog = true := by kernel_rfl
theorem cellsBool : Try.prog.cellsOf 4 = 1 := by kernel_rfl

theorem order_law {H : Type} {enc : TypeId × Value → H} (W : World) (args : Array Value) (ds : List (DataW H)) :
    LawWalk enc Try.prog 3 Try.f3 W args ds := by
  intro base hval p hA hlt
  have hA' : DataW.TrodAll enc Try.prog W 0 (fun _ => true) true Try.f3.params.toList args.toList ds p := hA
  rw [Try.params3] at hA' hval
  obtain ⟨v0, d0, rfl, rfl, h0⟩ := trodAll_one hA'
  obtain ⟨a0, len, cap, rfl⟩ := okWide_slice Try.underlying22 (hval 0 22 v0 rfl rfl)
  obtain ⟨fuel, hf⟩ := h0
  rcases open_bools Try.underlying22 Try.underlying4 cellsBool hf with ⟨hcs, _⟩ | ⟨a, len', cap', B, hcs, _, hl, hm, hx, hcell⟩
  · simp [Value.cells] at hcs
    obtain ⟨rfl, rfl, rfl⟩ := hcs
    exact order_any [] none 0 W (fun j hj => absurd hj (by simp))
  · simp [Value.cells] at hcs
    obtain ⟨rfl, rfl, rfl⟩ := hcs
    have h := order_any ((List.range len).map B) (some a) cap W (fun j hj => by
      simp only [List.length_map, List.length_range] at hj
      have hc := hcell j (by omega)
      have hsp : a.spot = none := by
        have h0 := hcell 0 (by omega)
        unfold World.cell? at h0
        split at h0
        · cases hs : (a.add 0).spot with
          | none => simpa [Addr.add] using hs
          | some x => simp [hs] at h0
        · simp at h0
      have ha : a = ⟨a.block, a.off, none⟩ := by cases a; simp at hsp; subst hsp; rfl
      have hadd : a.add j = ⟨a.block, a.off + j, none⟩ := by
        rw [ha]; unfold Addr.add; split
        · rename_i h; subst h; rfl
        · rfl
      rw [hadd] at hc
      refine ⟨a.block, a.off, by rw [← ha], ?_, lt_of_cell (l := [.bool (B j)]) (m := 0) (by rw [hc]; rfl) (by simp)⟩
      rw [hc]
      simp [hj])
    simpa using h

set_option maxRecDepth 100000 in
theorem order_lifted (os : Os) (started : os.Started) (H : Type) (enc : TypeId × Value → H) :
    ReturnsInHanded {} Try.checked os 3 .any (Rows.laneOrderSpec.pre6 enc Try.prog Try.f3 Rows.laneOrderRow.domain false) (Rows.laneOrderSpec.post enc Try.prog Try.f3 false true false false) := by
  refine returnsInHanded_of_change (C := Try.checked) own started (by kernel_rfl) Try.func3
    (ChangeSpec.witness6 (enc := enc) (C := Try.checked) false ⟨#[], #[.slice none 0 0], []⟩ 8 (by kernel_rfl) (by kernel_rfl) (by kernel_rfl) (by kernel_rfl)) ?_
  intro W base args ds gs before hval hW _ _
  have hA := hW
  obtain ⟨p, q, hA, _⟩ := hA
  obtain ⟨v0, d0, rfl, rfl, _⟩ := trodAll_one (t := 22) hA
  exact law_contract (s := Rows.laneOrderSpec) laidOut (by kernel_rfl) rfl Try.underlying4 rfl ⟨rfl, rfl, rfl⟩ hval hW (order_law W _ _)

theorem lane_order : Rows.LaneOrderSaid :=
  OpenClaim.holds_of_wide 3 Try.f3 rfl rfl rfl rfl rfl rfl rfl ⟨rfl, rfl, rfl, rfl, rfl⟩ rfl rfl rfl rfl rfl (by kernel_rfl) Try.func3 (by kernel_rfl)
    (of_decide_eq_true (by kernel_rfl)) (by unfold Func.isWrapper; first | (rw [if_pos (by decide +kernel)]; kernel_rfl) | (rw [if_neg (by decide +kernel)]; exact ⟨rfl, rfl⟩))
    (fun os started H enc _ => order_lifted os started H enc)

#print axioms lane_order
end Go.Proofs.Ytbgopncknlammaa
