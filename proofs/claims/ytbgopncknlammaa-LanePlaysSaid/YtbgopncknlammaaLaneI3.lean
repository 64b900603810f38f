/- New, Len and Shut of lanes. -/
import Derived.Test.YtbgopncknlammaaLaneI2
import Derived.RegionTactic
namespace Go.Proofs.Ytbgopncknlammaa.LI
open Go.Conc Go.RowKit

theorem new_range (n : Int) (hn : n < 1 ∨ 1024 < n) (w : World) :
    Calls Try.prog 7 #[.int .i64 n] w fun e w' => e = .returned (.tuple #[.pointer none, .int .i64 12]) ∧ w = w' := by
  by_cases h1 : n < 1
  · go_enter Try.func7, Try.ntmps7
    go_wp2
    go_ret2
    exact ⟨rfl, rfl⟩
  · have h2 : 1024 < n := by omega
    go_enter Try.func7, Try.ntmps7
    go_wp2
    go_ret2
    exact ⟨rfl, rfl⟩

def NewPost (n : Nat) (w : World) (e : Ending) (w' : World) : Prop :=
  ∃ b cu cs, e = .returned (.tuple #[.pointer (some ⟨b, 0, none⟩), .int .i64 0]) ∧ Lane w' b cu cs n [] [] 0 false ∧ Below w.heap.size w w' ∧ w.heap.size ≤ b ∧ w.heap.size ≤ cu ∧ w.heap.size ≤ cs

theorem info_el2 : ∃ i, Try.prog.info? 3 = some i ∧ i.bytes = 8 := by
  have h : (Try.prog.info? 3).map (·.bytes) = some 8 := by kernel_rfl
  obtain ⟨i, hi, hb⟩ := Option.map_eq_some_iff.1 h
  exact ⟨i, hi, hb⟩
theorem mkc (n : Nat) (hn : n ≤ 1024) (w : World) : (Instr.makeChan 52 (.int .i64 (n : Int))).run Try.prog w = .ok (.chan (some w.heap.size)) (w.alloc (.chan n #[] false 0 0 false)) := by
  obtain ⟨i, hi, hb⟩ := info_el2
  simpa using run_makeChan (P := Try.prog) (w := w) Try.underlying52 hi .i64 n (by omega) (by rw [hb]; omega)

theorem new_lane (w : World) (n T : Nat) (cu cs : Nat) (h : cu = w.heap.size ∧ cs = w.heap.size + 1 ∨ cu = w.heap.size + 1 ∧ cs = w.heap.size) :
    Lane (((w.alloc (.chan n #[] false 0 0 false)).alloc (.chan n #[] false 0 0 false)).alloc (.cells #[.chan (some cu), .chan (some cs), .int .i64 0, .bool false] T)).drew (w.heap.size + 2) cu cs n [] [] 0 false := by
  have hz : ((w.alloc (.chan n #[] false 0 0 false)).alloc (.chan n #[] false 0 0 false)).heap.size = w.heap.size + 2 := by simp
  have e0 : ((w.alloc (.chan n #[] false 0 0 false)).alloc (.chan n #[] false 0 0 false)).heap[w.heap.size]? = some (.chan n #[] false 0 0 false) := by
    rw [Below.heap_alloc _ _ _ (by simp)]
    exact heap_alloc_new w _
  have e1 : ((w.alloc (.chan n #[] false 0 0 false)).alloc (.chan n #[] false 0 0 false)).heap[w.heap.size + 1]? = some (.chan n #[] false 0 0 false) := by
    have := heap_alloc_new (w.alloc (.chan n #[] false 0 0 false)) (.chan n #[] false 0 0 false)
    simpa only [World.size_alloc] using this
  refine Lane.drew ⟨⟨T, ?_⟩, ⟨0, 0, ?_⟩, ⟨0, 0, ?_⟩, by omega, by omega, by omega, by omega⟩
  · have := heap_alloc_new ((w.alloc (.chan n #[] false 0 0 false)).alloc (.chan n #[] false 0 0 false)) (.cells #[.chan (some cu), .chan (some cs), .int .i64 0, .bool false] T)
    rw [hz] at this
    exact this
  · rw [Below.heap_alloc _ _ _ (by omega)]
    rcases h with ⟨rfl, _⟩ | ⟨rfl, _⟩
    · exact e0
    · exact e1
  · rw [Below.heap_alloc _ _ _ (by omega)]
    rcases h with ⟨_, rfl⟩ | ⟨_, rfl⟩
    · exact e1
    · exact e0
theorem new_below (w : World) (n : Nat) (o : Obj) : Below w.heap.size w (((w.alloc (.chan n #[] false 0 0 false)).alloc (.chan n #[] false 0 0 false)).alloc o).drew :=
  ((((Below.refl _ _).alloc (Nat.le_refl _) _).alloc (by simp) _).alloc (by simp; omega) _).drew

theorem new_ok (n : Nat) (h1 : 1 ≤ n) (h2 : n ≤ 1024) (w : World) :
    Calls Try.prog 7 #[.int .i64 (n : Int)] w (NewPost n w) := by
  have hm := mkc n h2
  have a1 : (1 : Int) ≤ (n : Int) := by omega
  have a2 : (n : Int) ≤ 1024 := by omega
  go_enter Try.func7, Try.ntmps7
  go_wp2
  go_region
  all_goals go_wp2
  all_goals go_ret2
  · exact ⟨w.heap.size + 2, w.heap.size, w.heap.size + 1, rfl, new_lane w n 54 _ _ (Or.inl ⟨rfl, rfl⟩), new_below w n _, by omega, by omega, by omega⟩
  · exact ⟨w.heap.size + 2, w.heap.size + 1, w.heap.size, rfl, new_lane w n 54 _ _ (Or.inr ⟨rfl, rfl⟩), new_below w n _, by omega, by omega, by omega⟩

/-- Where there is room. -/
theorem offer_u {b cu cs cap : Nat} {U S : List Value} {st : Nat} {w : World} (h : Lane w b cu cs cap U S st false) (x : Value) (hr : U.length < cap) :
    Calls Try.prog 8 #[.pointer (some ⟨b, 0, none⟩), x, .bool true] w fun e w' => e = .returned (.int .i64 0) ∧ Lane w' b cu cs cap (U ++ [x]) S st false ∧ Fr b cu cs w w' :=
  (offer_calls h x true).mono fun e w' ⟨h1, h2, h3⟩ => by
    have e1 : offQ cap U S false x true = (0, U ++ [x], S) := by simp [offQ, hr]
    rw [e1] at h1 h2
    exact ⟨h1, h2, h3⟩
theorem offer_s {b cu cs cap : Nat} {U S : List Value} {st : Nat} {w : World} (h : Lane w b cu cs cap U S st false) (x : Value) (hr : S.length < cap) :
    Calls Try.prog 8 #[.pointer (some ⟨b, 0, none⟩), x, .bool false] w fun e w' => e = .returned (.int .i64 0) ∧ Lane w' b cu cs cap U (S ++ [x]) st false ∧ Fr b cu cs w w' :=
  (offer_calls h x false).mono fun e w' ⟨h1, h2, h3⟩ => by
    have e1 : offQ cap U S false x false = (0, U, S ++ [x]) := by simp [offQ, hr]
    rw [e1] at h1 h2
    exact ⟨h1, h2, h3⟩
theorem new_9 (w : World) : Calls Try.prog 7 #[.int .i64 9] w (NewPost 9 w) := new_ok 9 (by decide) (by decide) w
theorem new_60 (w : World) : Calls Try.prog 7 #[.int .i64 60] w (NewPost 60 w) := new_ok 60 (by decide) (by decide) w

end Go.Proofs.Ytbgopncknlammaa.LI
