/- Shut and Len of lanes. -/
import Derived.Test.YtbgopncknlammaaLaneI3
import Derived.RegionTactic
namespace Go.Proofs.Ytbgopncknlammaa.LI
open Go.Conc Go.RowKit

theorem shut_calls {b cu cs cap : Nat} {U S : List Value} {st : Nat} {sh : Bool} {w : World} (h : Lane w b cu cs cap U S st sh) :
    Calls Try.prog 16 #[.pointer (some ⟨b, 0, none⟩)] w fun e w' => e = .returned (.tuple #[]) ∧ w.setCell ⟨b, 3, none⟩ (.bool true) = w' := by
  have c3 := h.c3
  have f3 := h.free 3
  have H := Lib.hid h
  clear h
  go_enter Try.func16, Try.ntmps16
  go_wp2
  go_end0
  exact ⟨rfl, rfl⟩

theorem len_calls {b cu cs cap : Nat} {U S : List Value} {st : Nat} {sh : Bool} {w : World} (h : Lane w b cu cs cap U S st sh) :
    Calls Try.prog 17 #[.pointer (some ⟨b, 0, none⟩)] w fun e w' => e = .returned (.tuple #[.int .i64 U.length, .int .i64 S.length]) ∧ w.drew = w' := by
  obtain ⟨su, ru, hu⟩ := h.hu
  obtain ⟨ss, rs, hs⟩ := h.hs
  have l1 := fun ty => run_len_chan (P := Try.prog) (w := w.drew) 52 ty Try.underlying52 (show w.drew.heap[cu]? = _ from hu)
  have l2 := fun ty => run_len_chan (P := Try.prog) (w := w.drew) 52 ty Try.underlying52 (show w.drew.heap[cs]? = _ from hs)
  simp only [List.size_toArray] at l1 l2
  have c0 := h.c0
  have c1 := h.c1
  have H := Lib.hid h
  clear h hu hs
  go_enter Try.func17, Try.ntmps17
  go_wp2
  go_region
  all_goals go_wp2
  all_goals go_ret2
  all_goals exact ⟨rfl, rfl⟩
end Go.Proofs.Ytbgopncknlammaa.LI
