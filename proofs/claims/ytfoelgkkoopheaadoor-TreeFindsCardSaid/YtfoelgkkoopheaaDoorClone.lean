/- slices.Clone at tokens and at ints. -/
import Derived.Test.YtfoelgkkoopheaaDoorTreeW
import Derived.Test.YtfoelgkkoopheaaDoorShelf
namespace Go.Proofs
def Tryd.cloneTok_ren : Go.Shelf.Ren := ⟨fun | 41 => 28 | n => n, fun | 22 => 24 | 23 => 34 | 4 => 4 | n => n, fun | n => n⟩
theorem Tryd.cloneTok : Go.Proofs.SlLaysE0.n41 Tryd.prog Tryd.cloneTok_ren := {
  mixed := by kernel_rfl
  f41 := ⟨Tryd.f28.name, by decide, Tryd.func28.trans (congrArg some (by kernel_rfl))⟩
  t4 := Tryd.underlying4
  a4 := Tryd.isAgg4
  z4 := Tryd.sizeOf4
  v4 := Tryd.zeroValue4
  t22 := Tryd.underlying24
  a22 := Tryd.isAgg24
  z22 := Tryd.sizeOf24
  v22 := Tryd.zeroValue24 }
def Tryd.cloneInt_ren : Go.Shelf.Ren := ⟨fun | 41 => 32 | n => n, fun | 22 => 22 | 23 => 3 | 4 => 4 | n => n, fun | n => n⟩
theorem Tryd.cloneInt : Go.Proofs.SlLaysE0.n41 Tryd.prog Tryd.cloneInt_ren := {
  mixed := by kernel_rfl
  f41 := ⟨Tryd.f32.name, by decide, Tryd.func32.trans (congrArg some (by kernel_rfl))⟩
  t4 := Tryd.underlying4
  a4 := Tryd.isAgg4
  z4 := Tryd.sizeOf4
  v4 := Tryd.zeroValue4
  t22 := Tryd.underlying22
  a22 := Tryd.isAgg22
  z22 := Tryd.sizeOf22
  v22 := Tryd.zeroValue22 }
end Go.Proofs
namespace Go.Proofs.YtfoelgkkoopheaaDoor
open Go.RowKit
theorem clone_tok {w : World} {P : Nat → Prop} {v : Value} {n : Nat} {xs : List Value} (h : RdS w P 4 v n xs) (hn : n ≤ 1073741824) (h1 : ∀ u ∈ xs, u.oneCell' = true) :
    Calls Tryd.prog 28 #[v] w fun e w' => ∃ v', e = .returned v' ∧ w'.ownsRow w.heap.size 34 4 v' n xs ∧ Below w.heap.size w w' := by
  obtain ⟨hl, a, c, rfl, hc, ⟨rfl, rfl⟩ | ⟨b, off, rfl, _, hr⟩⟩ := h
  · have : xs = [] := List.eq_nil_of_length_eq_zero (by simpa using hl)
    subst this
    exact (AnyE.slices_Clone_nil Tryd.cloneTok 0 c w).mono fun e w' ⟨h1, h2⟩ => ⟨_, h1, World.ownsRow_nil _ _ _ _, by rw [h2]; exact Below.refl _ _⟩
  · obtain ⟨i0, hi, hz0, hz1, hz2⟩ := info_split info_tok
    exact (AnyE.slices_Clone Tryd.cloneTok i0 (.agg #[.int .i64 0, .string ⟨#[]⟩, .string ⟨#[]⟩, .int .i64 0]) 4 48 hi hz0 hz1 hz2 rfl (by decide) (fun w => by kernel_rfl) b off n c xs w hl (by unfold maxLen; omega) (by omega) hr h1).mono
      fun e w' ⟨v', q1, q2, _, q3⟩ => ⟨v', q1, q2, q3⟩
theorem clone_int {w : World} {P : Nat → Prop} {v : Value} {n : Nat} {xs : List Value} (h : RdS w P 1 v n xs) (hn : n ≤ 1073741824) (h1 : ∀ u ∈ xs, u.oneCell' = true) :
    Calls Tryd.prog 32 #[v] w fun e w' => ∃ v', e = .returned v' ∧ w'.ownsRow w.heap.size 3 1 v' n xs ∧ Below w.heap.size w w' := by
  obtain ⟨hl, a, c, rfl, hc, ⟨rfl, rfl⟩ | ⟨b, off, rfl, _, hr⟩⟩ := h
  · have : xs = [] := List.eq_nil_of_length_eq_zero (by simpa using hl)
    subst this
    exact (AnyE.slices_Clone_nil Tryd.cloneInt 0 c w).mono fun e w' ⟨h1, h2⟩ => ⟨_, h1, World.ownsRow_nil _ _ _ _, by rw [h2]; exact Below.refl _ _⟩
  · obtain ⟨i0, hi, hz0, hz1, hz2⟩ := info_split info_int
    exact (AnyE.slices_Clone Tryd.cloneInt i0 (.int .i64 0) 1 8 hi hz0 hz1 hz2 rfl (by decide) (fun w => by kernel_rfl) b off n c xs w hl (by unfold maxLen; omega) (by omega) hr h1).mono
      fun e w' ⟨v', q1, q2, _, q3⟩ => ⟨v', q1, q2, q3⟩
end Go.Proofs.YtfoelgkkoopheaaDoor
