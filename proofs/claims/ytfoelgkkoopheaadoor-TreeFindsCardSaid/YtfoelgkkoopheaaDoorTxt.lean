/- Small facts on texts as lists of bytes. -/
import Derived.Test.YtfoelgkkoopheaaDoorChecked
import Derived.WalkKit
import Derived.WalkSpells
import Derived.Lib.Hide
namespace Go.Proofs.YtfoelgkkoopheaaDoor
open Go.RowKit

/-- A text of a list of bytes. -/
abbrev tx (l : List UInt8) : ByteArray := ⟨l.toArray⟩

theorem tx_extract (l : List UInt8) (a b : Nat) : (⟨l.toArray⟩ : ByteArray).extract a b = ⟨((l.drop a).take (b - a)).toArray⟩ := by
  apply ByteArray.ext
  simp [ByteArray.data_extract]

theorem takeWhile_stop {α : Type} {p : α → Bool} {l : List α} {j : Nat} (hj : j < l.length) (h1 : (l.take j).all p = true) (h2 : p l[j] = false) : l.takeWhile p = l.take j := by
  have e : l = l.take j ++ l[j] :: l.drop (j + 1) := by
    conv => lhs; rw [← List.take_append_drop j l, List.drop_eq_getElem_cons hj]
  conv => lhs; rw [e]
  rw [List.takeWhile_append_of_pos (by simpa using h1)]
  have e2 : (l[j] :: l.drop (j + 1)).takeWhile p = [] := by rw [List.takeWhile_cons, h2]; rfl
  rw [e2, List.append_nil]

theorem takeWhile_whole {α : Type} {p : α → Bool} {l : List α} (h1 : l.all p = true) : l.takeWhile p = l := by
  induction l with
  | nil => rfl
  | cons x l ih =>
    simp only [List.all_cons, Bool.and_eq_true] at h1
    rw [List.takeWhile_cons, if_pos h1.1, ih h1.2]

theorem take_all_succ {α : Type} {p : α → Bool} {l : List α} {j : Nat} (hj : j < l.length) (h1 : (l.take j).all p = true) (h2 : p l[j] = true) : (l.take (j + 1)).all p = true := by
  rw [List.take_succ_eq_append_getElem hj, List.all_append, h1]
  simp [h2]
end Go.Proofs.YtfoelgkkoopheaaDoor
