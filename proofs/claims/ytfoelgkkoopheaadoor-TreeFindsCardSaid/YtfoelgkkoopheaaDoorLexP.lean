/- Plain laws of the layer lex. No program in sight. -/
import Derived.Test.YtfoelgkkoopheaaDoorLexM
namespace Go.Proofs.YtfoelgkkoopheaaDoor.Lx

theorem between_len (l : List UInt8) : (between l).length = l.length - (rest (l.length + 1) l).length := by
  have := rest_len (l.length + 1) l
  simp [between]
theorem between_take (l : List UInt8) : l.take (between l).length ++ l.drop (between l).length = l ∧ l.take (between l).length = between l := by
  refine ⟨List.take_append_drop _ _, ?_⟩
  rw [between_len]
  rfl

theorem takeWhile_pos {α : Type} {p : α → Bool} {c : α} {t : List α} (h : p c = true) : 0 < ((c :: t).takeWhile p).length := by
  simp [h]

/-- A token's text begins the text; it is none just at the end. -/
theorem token_text (r : List UInt8) (h : (token r).2.2 = 0) : (token r).2.1 <+: r ∧ ((token r).1 = 5 → r = []) ∧ ((token r).1 ≠ 5 → 0 < (token r).2.1.length) := by
  cases r with
  | nil => exact ⟨List.prefix_refl _, fun _ => rfl, fun h => absurd rfl h⟩
  | cons c t =>
    unfold token at h ⊢
    simp only at h ⊢
    by_cases hl : letter c = true
    · rw [if_pos hl] at h ⊢
      unfold word at h ⊢
      have hi : inside c = true := by simp [inside, hl]
      by_cases h1 : 40 < ((c :: t).takeWhile inside).length
      · rw [if_pos h1] at h
        exact absurd h (by simp)
      · rw [if_neg h1] at h ⊢
        split <;> exact ⟨List.takeWhile_prefix _, fun h => absurd h (by simp), fun _ => takeWhile_pos hi⟩
    · rw [if_neg hl] at h ⊢
      by_cases hd : digit c = true
      · rw [if_pos hd] at h ⊢
        unfold number at h ⊢
        split
        · rename_i h1
          rw [if_pos h1] at h
          exact absurd h (by simp)
        · exact ⟨List.takeWhile_prefix _, fun h => absurd h (by simp), fun _ => takeWhile_pos hd⟩
      · rw [if_neg hd] at h ⊢
        cases hf : signList.find? (fun x => x.isPrefixOf (c :: t)) with
        | none => rw [hf] at h; exact absurd h (by simp)
        | some x =>
          have h1 := List.find?_some hf
          have h2 := List.mem_of_find?_eq_some hf
          have h3 : ∀ y ∈ signList, 0 < y.length := by decide
          exact ⟨List.isPrefixOf_iff_prefix.1 h1, fun h => absurd h (by simp), fun _ => h3 x h2⟩

theorem lexGo_fuel : ∀ (n m : Nat) (r : List UInt8) (p : Nat) (acc : List Tok), r.length < n → r.length < m → lexGo n r p acc = lexGo m r p acc
  | 0, _, _, _, _, h, _ => absurd h (by omega)
  | _, 0, _, _, _, _, h => absurd h (by omega)
  | n + 1, m + 1, r, p, acc, h1, h2 => by
    unfold lexGo
    simp only
    by_cases he : (token (r.drop (between r).length)).2.2 ≠ 0
    · rw [if_pos he, if_pos he]
    · rw [if_neg he, if_neg he]
      by_cases hk : (token (r.drop (between r).length)).1 = 5
      · rw [if_pos hk, if_pos hk]
      · rw [if_neg hk, if_neg hk]
        have ht := token_text (r.drop (between r).length) (by omega)
        have h3 := ht.2.2 hk
        have h4 := ht.1.length_le
        simp only [List.length_drop] at h4
        exact lexGo_fuel n m _ _ _ (by simp only [List.length_drop]; omega) (by simp only [List.length_drop]; omega)

/-- One step. -/
theorem lexGo_bad {n p : Nat} {r : List UInt8} {acc : List Tok} (he : (token (r.drop (between r).length)).2.2 ≠ 0) :
    lexGo (n + 1) r p acc = ([], (token (r.drop (between r).length)).2.2, p + (between r).length) := by
  conv => lhs; unfold lexGo
  simp only
  rw [if_pos he]
theorem lexGo_end {n p : Nat} {r : List UInt8} {acc : List Tok} (he : (token (r.drop (between r).length)).2.2 = 0) (hk : (token (r.drop (between r).length)).1 = 5) :
    lexGo (n + 1) r p acc = (acc ++ [⟨(token (r.drop (between r).length)).1, between r, (token (r.drop (between r).length)).2.1, p + (between r).length⟩], 0, 0) := by
  conv => lhs; unfold lexGo
  simp only
  rw [if_neg (by omega), if_pos hk]
theorem lexGo_on {n p : Nat} {r : List UInt8} {acc : List Tok} (he : (token (r.drop (between r).length)).2.2 = 0) (hk : (token (r.drop (between r).length)).1 ≠ 5) :
    lexGo (n + 1) r p acc = lexGo n ((r.drop (between r).length).drop (token (r.drop (between r).length)).2.1.length) (p + (between r).length + (token (r.drop (between r).length)).2.1.length)
      (acc ++ [⟨(token (r.drop (between r).length)).1, between r, (token (r.drop (between r).length)).2.1, p + (between r).length⟩]) := by
  conv => lhs; unfold lexGo
  simp only
  rw [if_neg (by omega), if_neg hk]
end Go.Proofs.YtfoelgkkoopheaaDoor.Lx
