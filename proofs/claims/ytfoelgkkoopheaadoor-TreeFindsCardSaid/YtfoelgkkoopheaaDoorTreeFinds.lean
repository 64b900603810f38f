/- TreeFinds: for every tree and every kind the law returns true, and the tree reads as it did. Condition: the listed package-level variables are laid as the program's text lays them (the card ties them). -/
import Derived.Test.YtfoelgkkoopheaaDoorCardK
namespace Go.Proofs.YtfoelgkkoopheaaDoor
open Go.ChangeShapes Go.WideShapes Go.ChangeAt Go.RowKit Go.Deep

set_option maxRecDepth 100000 in
theorem finds_law {H : Type} {enc : TypeId × Value → H} (W : World) (args : Array Value) (ds : List (DataW H)) :
    LawWalk enc Tryd.prog 4 Tryd.f4 W args ds := by
  intro base hval p hA hlt
  have hA' : DataW.TrodAll enc Tryd.prog W 0 (fun _ => true) true Tryd.f4.params.toList args.toList ds p := hA
  rw [Tryd.params4] at hA' hval
  obtain ⟨v0, v1, d0, d1, p0, p1, h0, h1, hargs, hds, hp⟩ := trodAll_two' hA'
  have h2 := hval 0 41 v0 rfl (by rw [hargs]; rfl)
  have h3 := hval 1 3 v1 rfl (by rw [hargs]; rfl)
  obtain ⟨vt, vn, t, rfl, ht⟩ := open_tree h2 h0
  obtain ⟨kind, rfl, _⟩ := open_int Tryd.underlying3 h3 h1
  rw [hargs]
  exact finds_calls ht (fun k hk => hk) kind

set_option maxRecDepth 100000 in
theorem finds_lifted (os : Os) (started : os.Started) (H : Type) (enc : TypeId × Value → H) :
    ReturnsInHanded {} Tryd.checked os 4 .any (fun w args => (Rows.treeFindsSpec.pre enc Tryd.prog Tryd.f4 Rows.treeFindsRow.domain false w args ∧ laidMetH Tryd.prog theLaid w) ∧ sizedMet enc Tryd.prog Tryd.f4 (OpenSpec.ofChange Rows.treeFindsSpec) false w args)
      (Rows.treeFindsSpec.post enc Tryd.prog Tryd.f4 false true false false) := by
  refine returnsInHanded_of_change_and (C := Tryd.checked) (X := fun w _ => laidMetH Tryd.prog theLaid w) (fun _ _ _ hh h => h.of_heap hh) own started (by kernel_rfl) Tryd.func4
    (ChangeSpec.witness_shaped (enc := enc) (C := Tryd.checked) (os := os) (X := fun w _ => laidMetH Tryd.prog theLaid w) false (World.laidAll Tryd.prog os theLaid) #[.agg #[.slice none 0 0, .slice none 0 0], .int .i64 0] 8 (World.laidAll_os _ _ _)
      (World.shaped_of_ZipB (by kernel_rfl) (by kernel_rfl)) (by kernel_rfl) (by kernel_rfl) (by kernel_rfl) (by rw [laid_plain]; exact laid_met os _)) ?_
  intro W base args ds gs before hval hW _ _ _ _
  have hA := hW
  obtain ⟨p, q, hA, _⟩ := hA
  have hA' : DataW.TrodAll enc Tryd.prog W 0 (fun _ => true) true Tryd.f4.params.toList args.toList ds p := hA
  rw [Tryd.params4] at hA'
  obtain ⟨v0, v1, d0, d1, p0, p1, h0, h1, hargs, hds, hp⟩ := trodAll_two' hA'
  subst hds
  exact law_contract (s := Rows.treeFindsSpec) laidOut (by kernel_rfl) rfl Tryd.underlying4 rfl ⟨rfl, rfl, rfl⟩ hval hW (finds_law W _ _)

theorem finds_row : Rows.TreeFindsSaid :=
  OpenClaim.holds_of_wide 4 Tryd.f4 rfl rfl rfl rfl rfl rfl rfl ⟨rfl, rfl, rfl, rfl, rfl⟩ rfl rfl rfl rfl rfl (by kernel_rfl) Tryd.func4 (by kernel_rfl)
    (of_decide_eq_true (by kernel_rfl)) (by unfold Func.isWrapper; first | (rw [if_pos (by decide +kernel)]; kernel_rfl) | (rw [if_neg (by decide +kernel)]; exact ⟨rfl, rfl⟩))
    (fun os started H enc _ => finds_lifted os started H enc)
theorem tree_finds : Rows.TreeFindsCardSaid :=
  Claim7.holds_tied_plain_at .later [] [.data, .data, .data, .data, .pinned] true (true, "4e97a17132743d3a96b764d1e85d85c7fa0fbe0e54f8e82b5b480c8ba7bd7756") false finds_row (fun _ h => by cases h) (by kernel_rfl) (fun _ h => by cases h) treeFinds_row_tie rfl ⟨rfl, rfl⟩ (by kernel_rfl) rfl
    (fun f fn hf hfn => by
      obtain rfl : f = 4 := Option.some.inj ((show Tryd.prog.funcNamed "touchstone/touchstonelaw06.TreeFinds" = some 4 by kernel_rfl).symm.trans hf) |>.symm
      obtain rfl : fn = Tryd.f4 := (Option.some.inj (Tryd.func4.symm.trans hfn)).symm
      exact ⟨by kernel_rfl, fun j t ht => by
        rw [Tryd.params4] at ht
        have hm : t ∈ [41, 3] := by simpa using Array.mem_of_getElem? ht
        have hall : ([41, 3].all fun u => !Tryd.prog.wantsStandIn u) = true := by kernel_rfl
        exact (show Tryd.prog.wantsStandIn t = false by simpa using List.all_eq_true.1 hall t hm)⟩)
    (by kernel_rfl)
#print axioms tree_finds
end Go.Proofs.YtfoelgkkoopheaaDoor
