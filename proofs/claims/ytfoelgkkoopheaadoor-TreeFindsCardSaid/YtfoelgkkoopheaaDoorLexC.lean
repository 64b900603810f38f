/- lex: what stands ahead of a token. -/
import Derived.Test.YtfoelgkkoopheaaDoorLexB
import Derived.Test.YtfoelgkkoopheaaDoorShelf
namespace Go.Proofs.YtfoelgkkoopheaaDoor
open Go.RowKit

theorem trim_calls (r : List UInt8) (w : World) :
    Calls Tryd.prog 43 #[.string ⟨r.toArray⟩, .string ⟨#[32, 9, 13, 10]⟩] w fun e w' => e = .returned (.string ⟨(r.dropWhile Lx.blank).toArray⟩) ∧ Below w.heap.size w w' := by
  have h := Tryd.TrimLeft_blank ⟨r.toArray⟩ w
  have e1 : Lib.trimLeftS (⟨r.toArray⟩ : ByteArray).data.toList [32, 9, 13, 10] = r.dropWhile Lx.blank := by
    unfold Lib.trimLeftS
    congr 1
    funext c
    rw [Bool.eq_iff_iff]
    simp [Lx.blank, or_assoc]
  rw [e1] at h
  exact h
theorem pre2_calls (r p : List UInt8) (w : World) :
    Calls Tryd.prog 44 #[.string ⟨r.toArray⟩, .string ⟨p.toArray⟩] w fun e w' => e = .returned (.bool (p.isPrefixOf r)) ∧ w = w' :=
  (Tryd.strings_HasPrefix ⟨r.toArray⟩ ⟨p.toArray⟩ w).mono fun _ _ ⟨h1, h2⟩ => ⟨by simpa [Lib.hasPrefix] using h1, h2.symm⟩
theorem feed_calls (r : List UInt8) (w : World) :
    Calls Tryd.prog 45 #[.string ⟨r.toArray⟩, .string ⟨#[10]⟩] w fun e w' => e = .returned (.int .i64 (Lib.indexByte r 10)) ∧ w = w' :=
  (Tryd.strings_Index_one ⟨r.toArray⟩ 10 w).mono fun _ _ ⟨h1, h2⟩ => ⟨by simpa using h1, h2.symm⟩

theorem line_none {r : List UInt8} (h : Lib.indexByte r 10 = -1) : Lx.line r = [] := by
  have h2 := Lib.indexByte_none h
  unfold Lx.line
  have : ∀ (r : List UInt8), (∀ k : Nat, r[k]? ≠ some 10) → r.dropWhile (fun c => c != 10) = [] := by
    intro r
    induction r with
    | nil => intro _; rfl
    | cons x r ih =>
      intro h
      have h0 := h 0
      simp only [List.getElem?_cons_zero, ne_eq, Option.some.injEq] at h0
      rw [List.dropWhile_cons, if_pos (by simpa using h0)]
      exact ih fun k => by have := h (k + 1); simpa using this
  exact this r h2
theorem line_some {r : List UInt8} {o : Nat} (h : Lib.indexByte r 10 = o) : Lx.line r = r.drop o ∧ o < r.length := by
  obtain ⟨h1, h2⟩ := Lib.indexByte_some h
  have : ∀ (r : List UInt8) (o : Nat), r[o]? = some 10 → (∀ k, k < o → r[k]? ≠ some 10) → r.dropWhile (fun c => c != 10) = r.drop o ∧ o < r.length := by
    intro r
    induction r with
    | nil => intro o h _; simp at h
    | cons x r ih =>
      intro o h1 h2
      cases o with
      | zero =>
        simp only [List.getElem?_cons_zero, Option.some.injEq] at h1
        subst h1
        exact ⟨by rw [List.dropWhile_cons, if_neg (by simp)]; rfl, by simp⟩
      | succ o =>
        have h0 := h2 0 (by omega)
        simp only [List.getElem?_cons_zero, ne_eq, Option.some.injEq] at h0
        rw [List.dropWhile_cons, if_pos (by simpa using h0)]
        have h3 := ih o (by simpa using h1) (fun k hk => by have := h2 (k + 1) (by omega); simpa using this)
        exact ⟨by simpa using h3.1, by simp; omega⟩
  exact this r o h1 h2

theorem pre_dash {r : List UInt8} : ([45, 45] : List UInt8).isPrefixOf r = true ↔ ∃ t, r = 45 :: 45 :: t := by
  constructor
  · intro h
    obtain ⟨t, rfl⟩ := List.isPrefixOf_iff_prefix.1 h
    exact ⟨t, rfl⟩
  · rintro ⟨t, rfl⟩
    simp [List.isPrefixOf]

/-- One step of what is left. -/
theorem rest_dash {r t : List UInt8} {n : Nat} (h : r.dropWhile Lx.blank = 45 :: 45 :: t) : Lx.rest (n + 1) r = Lx.rest n (Lx.line t) := by
  conv => lhs; unfold Lx.rest
  rw [h]
  rfl
theorem rest_else {r : List UInt8} {n : Nat} (h : ([45, 45] : List UInt8).isPrefixOf (r.dropWhile Lx.blank) = false) : Lx.rest (n + 1) r = r.dropWhile Lx.blank := by
  unfold Lx.rest
  split
  · rename_i t ht
    rw [ht] at h
    simp [List.isPrefixOf] at h
  · rfl

def BtRel (l : List UInt8) (w : World) (k : Nat) (v : Value) (wr : World) : Prop :=
  ∃ r : List UInt8, v = .string ⟨r.toArray⟩ ∧ k = r.length ∧ r.length ≤ l.length ∧ Lx.rest (r.length + 1) r = Lx.rest (l.length + 1) l ∧ Below w.heap.size w wr

theorem line_dash (t : List UInt8) : Lx.line (45 :: 45 :: t) = Lx.line t := by
  unfold Lx.line
  rw [List.dropWhile_cons, if_pos (by decide), List.dropWhile_cons, if_pos (by decide)]
theorem rest_nil (n : Nat) : Lx.rest n [] = [] := by cases n <;> rfl

set_option maxHeartbeats 1000000 in
theorem between_calls (l : List UInt8) (hl : l.length ≤ 1073741824) (w : World) :
    Calls Tryd.prog 26 #[.string ⟨l.toArray⟩] w fun e w' => e = .returned (.string ⟨(Lx.between l).toArray⟩) ∧ Below w.heap.size w w' := by
  have hl' : (l.length : Int) ≤ 1073741824 := by omega
  go_enter Tryd.func26, Tryd.ntmps26
  go_wp2_with fail
  go_loopg [3] l.length (fun k v wr => BtRel l w k v wr)
  case atStart => exact ⟨l, rfl, rfl, Nat.le_refl _, rfl, Below.refl _ _⟩
  case round =>
    obtain ⟨r, rfl, hk, hr, hrest, hb⟩ := hrel
    have hlen := Lx.dropWhile_len Lx.blank r
    have HX := Lib.hid (And.intro hk (And.intro hrest hb))
    clear hk hrest hb
    generalize hd : r.dropWhile Lx.blank = d at hlen
    have HT := Lib.hid (hd ▸ trim_calls r wr)
    have HD := Lib.hid hd
    clear hd
    have hlen' : (d.length : Int) ≤ (l.length : Int) := by omega
    cases hp : ([45, 45] : List UInt8).isPrefixOf d
    · have HP := Lib.hid hp
      clear hp
      have HC := fun w => Lib.hid (HP.out ▸ pre2_calls d [45, 45] w)
      go_wp2_with (first
        | (go_at_call 43; refine HT.out.mono ?_; rintro e w1 ⟨rfl, hb1⟩; have HB1 := Lib.hid hb1; clear hb1)
        | (go_at_call 44; refine (HC _).out.mono ?_; rintro e w2 ⟨rfl, rfl⟩))
      go_ret
      obtain ⟨_, hrest, hb⟩ := HX.out
      refine ⟨?_, hb.trans (HB1.out.mono hb.size)⟩
      have e1 : Lx.rest (l.length + 1) l = d := by rw [← hrest, rest_else (by rw [HD.out]; exact HP.out), HD.out]
      rw [tx_extract]
      simp [Lx.between, e1]
    · have hp' := hp
      obtain ⟨t, rfl⟩ := pre_dash.1 hp
      have HP := Lib.hid hp'
      clear hp hp'
      have HC := fun w => Lib.hid (HP.out ▸ pre2_calls (45 :: 45 :: t) [45, 45] w)
      have hge := Lib.indexByte_ge (45 :: 45 :: t) 10
      have HF := fun w => Lib.hid (feed_calls (45 :: 45 :: t) w)
      have HN := Lib.hid (show Lib.indexByte (45 :: 45 :: t) 10 = -1 → Lx.line t = [] from fun h => by rw [← line_dash]; exact line_none h)
      have HS := Lib.hid (show ∀ o : Nat, Lib.indexByte (45 :: 45 :: t) 10 = o → Lx.line t = (45 :: 45 :: t).drop o ∧ o < (45 :: 45 :: t).length ∧ 0 < o from fun o h => by
        obtain ⟨h1, h2⟩ := line_some h
        refine ⟨by rw [← line_dash]; exact h1, h2, ?_⟩
        rcases Nat.eq_zero_or_pos o with h0 | h0
        · subst h0
          obtain ⟨h3, _⟩ := Lib.indexByte_some h
          simp at h3
        · exact h0)
      generalize hdt : 45 :: 45 :: t = d at *
      have HDT := Lib.hid hdt
      clear hdt
      generalize Lib.indexByte d 10 = o at *
      by_cases ho : o < 0
      · obtain rfl : o = -1 := by omega
        go_wp2_with (first
          | (go_at_call 43; refine HT.out.mono ?_; rintro e w1 ⟨rfl, hb1⟩; have HB1 := Lib.hid hb1; clear hb1)
          | (go_at_call 44; refine (HC _).out.mono ?_; rintro e w2 ⟨rfl, rfl⟩)
          | (go_at_call 45; refine (HF _).out.mono ?_; rintro e w2 ⟨rfl, rfl⟩))
        go_ret
        obtain ⟨_, hrest, hb⟩ := HX.out
        refine ⟨?_, hb.trans (HB1.out.mono hb.size)⟩
        have e1 : Lx.rest (l.length + 1) l = [] := by
          rw [← hrest, rest_dash (r := r) (t := t) (by rw [HD.out]; exact HDT.out.symm), HN.out (by first | trivial | rfl), rest_nil]
        simp [Lx.between, e1]
      · obtain ⟨n, rfl⟩ := Int.eq_ofNat_of_zero_le (show 0 ≤ o by omega)
        obtain ⟨hs1, hs2, hs3⟩ := HS.out n rfl
        have hs2' : (n : Int) < (d.length : Int) := by omega
        have HL := Lib.hid hs1
        clear hs1
        go_wp2_with (first
          | (go_at_call 43; refine HT.out.mono ?_; rintro e w1 ⟨rfl, hb1⟩; have HB1 := Lib.hid hb1; clear hb1)
          | (go_at_call 44; refine (HC _).out.mono ?_; rintro e w2 ⟨rfl, rfl⟩)
          | (go_at_call 45; refine (HF _).out.mono ?_; rintro e w2 ⟨rfl, rfl⟩))
        go_roundg (d.length - n)
        case measure => have := HX.out.1; omega
        case rel =>
          obtain ⟨_, hrest, hb⟩ := HX.out
          refine ⟨d.drop n, by rw [tx_extract, List.take_of_length_le (by simp)], by simp, by simp; omega, ?_, hb.trans (HB1.out.mono hb.size)⟩
          rw [← hrest, rest_dash (r := r) (t := t) (by rw [HD.out]; exact HDT.out.symm), HL.out]
          exact Lx.rest_fuel _ _ _ (by omega) (by simp; omega)
end Go.Proofs.YtfoelgkkoopheaaDoor
