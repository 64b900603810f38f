/- What the rows of this seat share: the closed facts, the world in which the listed variables are laid. -/
import Derived.Test.YtfoelgkkoopheaaDoorOpenT
import Derived.Test.YtfoelgkkoopheaaDoorCards
import Derived.Test.YtfoelgkkoopheaaDoorTie
import Derived.Lay
import Derived.LaidLaws
import Derived.MakeChecks
import Derived.SevenTiedAt
namespace Go.Proofs.YtfoelgkkoopheaaDoor
open Go.ChangeShapes Go.WideShapes Go.ChangeAt Go.RowKit Go.Deep

theorem own : ownKnob Tryd.prog.godebug = none := by kernel_rfl
theorem laidOut : laidOutB Tryd.prog = true := by kernel_rfl
/-- Two arguments. -/
theorem trodAll_two' {H : Type} {enc : TypeId × Value → H} {P : Program} {w : World} {base : Nat} {spare : Nat → Bool} {held : Bool} {t0 t1 : TypeId} {args : Array Value} {ds : List (DataW H)} {ps : List MemPlace} (h : DataW.TrodAll enc P w base spare held (#[t0, t1] : Array TypeId).toList args.toList ds ps) :
    ∃ v0 v1 d0 d1 p0 p1, DataW.Trod enc P w base spare held t0 v0 d0 p0 ∧ DataW.Trod enc P w base spare held t1 v1 d1 p1 ∧ args = #[v0, v1] ∧ ds = [d0, d1] ∧ ps = p0 ++ p1 := by
  obtain ⟨v, v', d, d', p, p', h1, h2, h3, h4, h5⟩ := trodAll_two h
  exact ⟨v, v', d, d', p, p', h4, h5, h1, h2, h3⟩
/-- What the rows list. -/
def theLaid : List (String × DataW Unit) := Rows.treeFindsRow.laid
theorem laid_plain (w : World) : laidMetH Tryd.prog theLaid w = laidMet Tryd.prog theLaid w := MakeChecks.laidMetH_plain _ _ _ (by kernel_rfl)
set_option maxRecDepth 100000 in
theorem laid_met (os : Os) (args : Array Value) : laidMet Tryd.prog theLaid ((World.laidAll Tryd.prog os theLaid).forCall (fun _ _ => 0) ⟨#[], args, []⟩).memory := laidMet_laidAll _ (by kernel_rfl) (by kernel_rfl)
end Go.Proofs.YtfoelgkkoopheaaDoor
