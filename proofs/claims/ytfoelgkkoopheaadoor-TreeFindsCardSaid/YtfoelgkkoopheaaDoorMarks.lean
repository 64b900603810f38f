/- A function whose loop holds ranges over functions: many marks are taken up at its return. -/
import Derived.Test.YtfoelgkkoopheaaDoorBack
import Derived.Sort.LoopGhostIn
namespace Go.Proofs.YtfoelgkkoopheaaDoor
open Go.RowKit Go.Shelf

/-- The frame's deferred entries: one mark for each range that was gone through. -/
def markDs (ds : List Nat) : List Deferred := ds.map fun D => { target := .collected D, args := #[] }

theorem putObj_ne {w : World} {k D : Nat} {o : Obj} (h : k ≠ D) : (w.putObj D o).heap[k]? = w.heap[k]? := by
  simp only [World.putObj]
  rw [Array.getElem?_setIfInBounds_ne (by omega)]

/-- All marks are taken up, one by one; what is behind them is left as it is. -/
theorem leaves_marks {P : Program} {F : Fence} {n : Nat} {fn : Func} {tmps : Array Value} {R : Ending → World → Prop} : ∀ (ds : List Nat) (w : World), ds.Nodup → (∀ D ∈ ds, w.heap[D]? = some (.deferred (some []))) →
    (∀ w' : World, w'.os = w.os → w'.tape = w.tape → w'.output = w.output → w'.heap.size = w.heap.size → (∀ k, k ∉ ds → w'.heap[k]? = w.heap[k]?) → ∃ v, (results fn tmps).run P w' = .ok v w' ∧ R (.returned v) w') →
    LeavesInM F n P fn tmps R (markDs ds) .returning w
  | [], w, _, _, h => h w rfl rfl rfl rfl fun _ _ => rfl
  | D :: ds, w, hnd, hD, h => by
    refine ⟨by simp, .inl ⟨D, _, rfl, run_takeDeferred (hD D (by simp)), ?_⟩⟩
    have hn := List.nodup_cons.1 hnd
    refine leaves_marks ds _ hn.2 (fun E hE => ?_) fun w' h1 h2 h3 h4 h5 => h w' h1 h2 h3 (by rw [h4]; simp [World.putObj]) fun k hk => ?_
    · rw [putObj_ne (fun e => hn.1 (by rw [← e]; exact hE))]
      exact hD E (by simp [hE])
    · simp only [List.mem_cons, not_or] at hk
      rw [h5 k hk.2, putObj_ne hk.1]
end Go.Proofs.YtfoelgkkoopheaaDoor
