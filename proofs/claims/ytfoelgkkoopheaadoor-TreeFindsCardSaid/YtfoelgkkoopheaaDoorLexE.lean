/- lex: a word's token, a number's. -/
import Derived.Test.YtfoelgkkoopheaaDoorLexD
namespace Go.Proofs.YtfoelgkkoopheaaDoor
open Go.RowKit

/-- A key's place is found, and a word that is none is not. -/
theorem key_found (x : List UInt8) :
    (decide (Lib.bsGo (fun t => Op.bytesLess (⟨(Lx.keyList.getD t []).toArray⟩ : ByteArray).toList (⟨x.toArray⟩ : ByteArray).toList) 15 0 15 < 15 ∧
      (⟨(Lx.keyList.getD (Lib.bsGo (fun t => Op.bytesLess (⟨(Lx.keyList.getD t []).toArray⟩ : ByteArray).toList (⟨x.toArray⟩ : ByteArray).toList) 15 0 15) []).toArray⟩ : ByteArray) = ⟨x.toArray⟩)) = Lx.isKey x := by
  cases h : Lx.isKey x
  · generalize Lib.bsGo _ 15 0 15 = I
    apply decide_eq_false
    rintro ⟨h1, h2⟩
    have h3 : Lx.keyList.getD I [] = x := by simpa using h2
    have h4 : I < Lx.keyList.length := h1
    have h5 : x ∈ Lx.keyList := by
      rw [← h3]
      simp [List.getD, List.getElem?_eq_getElem h4]
    have h6 : Lx.isKey x = true := by simpa [Lx.isKey] using h5
    rw [h] at h6
    exact absurd h6 (by simp)
  · have h5 : x ∈ Lx.keyList := by simpa [Lx.isKey] using h
    have h6 : ∀ x ∈ Lx.keyList, (decide (Lib.bsGo (fun t => Op.bytesLess (⟨(Lx.keyList.getD t []).toArray⟩ : ByteArray).toList (⟨x.toArray⟩ : ByteArray).toList) 15 0 15 < 15 ∧
      (Lx.keyList.getD (Lib.bsGo (fun t => Op.bytesLess (⟨(Lx.keyList.getD t []).toArray⟩ : ByteArray).toList (⟨x.toArray⟩ : ByteArray).toList) 15 0 15) []) = x)) = true := by
      have hl : ∀ x : List UInt8, (⟨x.toArray⟩ : ByteArray).toList = x := fun x => by rw [Lib.toList_data]
      simp only [hl]
      decide
    have h7 := of_decide_eq_true (h6 x h5)
    apply decide_eq_true
    exact ⟨h7.1, by rw [h7.2]⟩

theorem keys_cell (w : World) (j : Nat) (hj : j < 15) : (w.alloc (.cells keysA 109)).cell? ⟨w.heap.size, 0 + j, none⟩ = some (.string ⟨(Lx.keyList.getD j []).toArray⟩) := by
  have h : ∀ j, j < 15 → keysA[0 + j]? = some (.string ⟨(Lx.keyList.getD j []).toArray⟩) := by
    intro j hj
    match j, hj with
    | 0, _ | 1, _ | 2, _ | 3, _ | 4, _ | 5, _ | 6, _ | 7, _ | 8, _ | 9, _ | 10, _ | 11, _ | 12, _ | 13, _ | 14, _ => rfl
    | n + 15, h => omega
  have h2 := heap_alloc_new w (.cells keysA 109)
  unfold World.cell?
  simp only [h2, h j hj]
  rfl

set_option maxRecDepth 100000 in
theorem word_calls (l : List UInt8) (hl : l.length ≤ 1073741824) (w : World) :
    Calls Tryd.prog 47 #[.string ⟨l.toArray⟩] w fun e w' => e = .returned (.tuple #[.int .i64 (Lx.word l).1, .string ⟨(Lx.word l).2.1.toArray⟩, .int .i64 (Lx.word l).2.2]) ∧ Below w.heap.size w w' := by
  have HR := fun w => Lib.hid (run_inside l hl w)
  obtain ⟨v, hv⟩ : ∃ v, l.takeWhile Lx.inside = v := ⟨_, rfl⟩
  have HW := Lib.hid (show Lx.word l = if 40 < v.length then (0, [], 20) else if Lx.isKey v then (2, v, 0) else (1, v, 0) from by rw [← hv]; rfl)
  rw [hv] at HR
  have hvl : (v.length : Int) ≤ 1073741824 := by
    have := Lx.takeWhile_len Lx.inside l
    rw [hv] at this
    omega
  have ha := keys_alloc
  by_cases hlt : 40 < v.length
  · have hlt' : 40 < (v.length : Int) := by omega
    go_enter Tryd.func47, Tryd.ntmps47
    go_wp2_with (go_at_call 63; refine (HR _).out.mono ?_; rintro e w1 ⟨rfl, rfl⟩)
    go_ret3
    exact ⟨by rw [HW.out, if_pos hlt]; rfl, Below.refl _ _⟩
  · have hlt' : ¬ 40 < (v.length : Int) := by omega
    cases hk : Lx.isKey v
    all_goals
      have HK := Lib.hid hk
      clear hk
      go_enter Tryd.func47, Tryd.ntmps47
      go_wp2_with (first
        | (go_at_call 63; refine (HR _).out.mono ?_; rintro e w1 ⟨rfl, rfl⟩)
        | (go_at_call 65; refine (keys_calls _).mono ?_; rintro e w2 ⟨rfl, rfl⟩)
        | (refine wpList_store_new2 rfl 109 _ _ rfl 109 _ keysZ keysA rfl (size_alloc1 _ _) rfl keysZsize keysSize keys_one ?_)
        | (go_at_call 66; refine (Tryd.BinarySearch_string _ 0 15 15 (fun t => ⟨(Lx.keyList.getD t []).toArray⟩) ⟨v.toArray⟩ _ (by decide) (by rw [size_alloc1 _ (.cells keysA 109)]; exact keys_cell _)).mono ?_; rintro e w2 ⟨rfl, q, rfl⟩; rw [key_found, HK.out]))
      go_ret3
      exact ⟨by rw [HW.out, if_neg hlt, HK.out]; rfl, by
        have h1 : Below w.heap.size w (w.alloc (.cells keysA 109)) := (Below.refl _ _).alloc (Nat.le_refl _) _
        exact (h1.alloc h1.size (.cells keysA 109)).trans ⟨rfl, rfl, rfl, Nat.le_refl _, fun _ _ => rfl⟩⟩

theorem number_eq (l : List UInt8) : Lx.number l = if 60 < (l.takeWhile Lx.digit).length ∨ (1 < (l.takeWhile Lx.digit).length ∧ (l.takeWhile Lx.digit).head? = some 48) then (0, [], 21) else (3, l.takeWhile Lx.digit, 0) := by
  unfold Lx.number
  cases l with
  | nil => rfl
  | cons c t =>
    rw [List.takeWhile_cons]
    cases Lx.digit c <;> simp
theorem number_calls (l : List UInt8) (hl : l.length ≤ 1073741824) (w : World) :
    Calls Tryd.prog 49 #[.string ⟨l.toArray⟩] w fun e w' => e = .returned (.tuple #[.int .i64 (Lx.number l).1, .string ⟨(Lx.number l).2.1.toArray⟩, .int .i64 (Lx.number l).2.2]) ∧ w = w' := by
  have HR := fun w => Lib.hid (run_digit l hl w)
  obtain ⟨v, hv⟩ : ∃ v, l.takeWhile Lx.digit = v := ⟨_, rfl⟩
  have HW := Lib.hid (show Lx.number l = if 60 < v.length ∨ (1 < v.length ∧ v.head? = some 48) then (0, [], 21) else (3, v, 0) from by rw [← hv]; exact number_eq l)
  rw [hv] at HR
  have hvl : (v.length : Int) ≤ 1073741824 := by
    have := Lx.takeWhile_len Lx.digit l
    rw [hv] at this
    omega
  clear hv
  by_cases hlt : 60 < v.length
  · have hlt' : 60 < (v.length : Int) := by omega
    go_enter Tryd.func49, Tryd.ntmps49
    go_wp2_with (go_at_call 63; refine (HR _).out.mono ?_; rintro e w1 ⟨rfl, rfl⟩)
    go_ret3
    exact ⟨by rw [HW.out, if_pos (Or.inl hlt)]; rfl, rfl⟩
  · have hlt' : ¬ 60 < (v.length : Int) := by omega
    by_cases h1 : 1 < v.length
    · have h0 : 0 < v.length := by omega
      have h1' : 1 < (v.length : Int) := by omega
      have h0' : 0 < (v.length : Int) := by omega
      have hget : v[0]? = some (v[0]'h0) := List.getElem?_eq_getElem h0
      have HH := Lib.hid (show v.head? = some (v[0]'h0) from by rw [List.head?_eq_getElem?]; exact hget)
      clear hget
      go_enter Tryd.func49, Tryd.ntmps49
      go_wp2_with (go_at_call 63; refine (HR _).out.mono ?_; rintro e w1 ⟨rfl, rfl⟩)
      · rename_i hx
        have hx' : v[0]'h0 = 48 := by
          rcases hx with h | h
          · exact absurd h (by omega)
          · have h2 : (((v[0]'h0).toNat : Int) == 48) = true := h
            exact UInt8.toNat_inj.1 (Int.ofNat.inj (by simpa using h2))
        go_ret3
        exact ⟨by rw [HW.out, if_pos (Or.inr ⟨h1, by rw [HH.out, hx']⟩)]; rfl, rfl⟩
      · rename_i hx
        have hx' : v[0]'h0 ≠ 48 := by
          intro h3
          have h2 : (((v[0]'h0).toNat : Int) == 48) = false := hx.2
          rw [h3] at h2
          exact absurd h2 (by decide)
        go_ret3
        exact ⟨by rw [HW.out, if_neg (by rw [HH.out]; simp [hx']; omega)]; rfl, rfl⟩
    · have h1' : ¬ 1 < (v.length : Int) := by omega
      go_enter Tryd.func49, Tryd.ntmps49
      go_wp2_with (go_at_call 63; refine (HR _).out.mono ?_; rintro e w1 ⟨rfl, rfl⟩)
      go_ret3
      exact ⟨by rw [HW.out, if_neg (by omega)]; rfl, rfl⟩
end Go.Proofs.YtfoelgkkoopheaaDoor
