/- A tree's nodes: is each of the right form? -/
import Derived.Test.YtfoelgkkoopheaaDoorDone
namespace Go.Proofs.YtfoelgkkoopheaaDoor
open Go.RowKit

theorem formed1_calls {w : World} {c n : Nat} (k : Int) (h0 : w.cell? ⟨c, 0, none⟩ = some (.int .i64 n)) :
    Calls Tryd.prog 54 #[.int .i64 k, .pointer (some ⟨c, 0, none⟩)] w fun e w' => e = .returned (.bool (badKid n k)) ∧ w = w' := by
  unfold badKid
  by_cases hk : k < 0
  · go_enter Tryd.func54, Tryd.ntmps54
    go_wp2
    go_ret
    exact ⟨by simp [hk], rfl⟩
  · have hk' : 0 ≤ k := by omega
    go_enter Tryd.func54, Tryd.ntmps54
    go_wp2
    go_ret
    exact ⟨by simp only [decide_eq_false (show ¬ k < 0 by omega), Bool.false_or]; rfl, rfl⟩

set_option maxRecDepth 100000 in
theorem index_form {w : World} {P : Nat → Prop} {v : Value} {l : List Int} (h : RdW w P 1 v l.length (intCells l)) (hl : l.length ≤ 1073741824) {c n : Nat} (h0 : w.cell? ⟨c, 0, none⟩ = some (.int .i64 n)) :
    Calls Tryd.prog 51 #[v, .func (.func 54) #[] #[.pointer (some ⟨c, 0, none⟩)]] w fun e w' =>
      ∃ r : Int, e = .returned (.int .i64 r) ∧ decide (0 ≤ r) = l.any (badKid n) ∧ w = w' := by
  obtain ⟨_, a, cl, rfl, _, hd⟩ := h
  have hl' : (l.length : Int) ≤ 1073741824 := by omega
  have HC := fun k => Lib.hid (formed1_calls k h0)
  have HD := Lib.hid hd
  clear h0 hd
  go_enter Tryd.func51, Tryd.ntmps51
  go_wp2
  go_loopg [8] l.length (fun k v8 wr => ∃ j : Nat, v8 = .int .i64 j ∧ k = l.length - j ∧ j ≤ l.length ∧ wr = w ∧ ((l.take j).any (badKid n)) = false)
  case atStart => exact ⟨0, rfl, rfl, Nat.zero_le _, rfl, by simp⟩
  case round =>
    obtain ⟨j, rfl, hk, hj, rfl, hall⟩ := hrel
    have HK := Lib.hid hk
    have HA := Lib.hid hall
    clear hk hall
    by_cases hlt : j < l.length
    · have hlt' : (j : Int) < (l.length : Int) := by omega
      obtain ⟨b2, off, rfl, _, hr⟩ := HD.out.resolve_left (fun h => by omega)
      have hcell : wr.cell? ⟨b2, off + j, none⟩ = some (.int .i64 l[j]) := hr j _ (by simp [intCells, List.getElem?_eq_getElem hlt])
      clear hr
      obtain ⟨y, hy⟩ : ∃ y, l[j] = y := ⟨_, rfl⟩
      rw [hy] at hcell
      have HY := Lib.hid hy
      clear hy
      cases hb : badKid n y
      · have HB := Lib.hid hb
        have HCB := Lib.hid (hb ▸ (HC y).out)
        clear hb
        go_wp2_with (go_at_call 54; refine HCB.out.mono ?_; rintro e w1 ⟨rfl, rfl⟩)
        go_roundg (l.length - (j + 1))
        case measure => have := HK.out; omega
        case rel =>
          refine ⟨j + 1, by go_num, rfl, by omega, rfl, ?_⟩
          rw [List.take_succ_eq_append_getElem hlt, List.any_append, HA.out, HY.out]
          simp [HB.out]
      · have HB := Lib.hid hb
        have HCB := Lib.hid (hb ▸ (HC y).out)
        clear hb
        go_wp2_with (go_at_call 54; refine HCB.out.mono ?_; rintro e w1 ⟨rfl, rfl⟩)
        go_ret
        refine ⟨(j : Int), rfl, ?_, rfl⟩
        have h2 : l.any (badKid n) = true := List.any_eq_true.2 ⟨y, by rw [← HY.out]; exact List.getElem_mem hlt, HB.out⟩
        rw [h2]
        simp
    · obtain rfl : j = l.length := by omega
      go_wp2
      go_ret
      refine ⟨-1, rfl, ?_, rfl⟩
      have h2 := HA.out
      rw [List.take_length] at h2
      rw [h2]
      rfl
theorem contains_form {w : World} {P : Nat → Prop} {v : Value} {l : List Int} (h : RdW w P 1 v l.length (intCells l)) (hl : l.length ≤ 1073741824) {c n : Nat} (h0 : w.cell? ⟨c, 0, none⟩ = some (.int .i64 n)) :
    Calls Tryd.prog 30 #[v, .func (.func 54) #[] #[.pointer (some ⟨c, 0, none⟩)]] w fun e w' =>
      e = .returned (.bool (l.any (badKid n))) ∧ w = w' := by
  have HI := Lib.hid (index_form h hl h0)
  clear h h0
  go_enter Tryd.func30, Tryd.ntmps30
  go_wp2_with (go_at_call 51; refine HI.out.mono ?_; rintro e w1 ⟨r, rfl, hr, rfl⟩; have HR := Lib.hid hr; clear hr)
  go_ret
  exact ⟨by rw [← HR.out]; rfl, rfl⟩

theorem formed_eq (t : Tr.T) (i : Nat) (n : Tr.Nd) : Tr.formed t i n = if n.kind < 1 ∨ 19 < n.kind then false
  else if n.kind = 19 then n.kids.isEmpty && decide (0 ≤ n.tok) && decide (n.tok < (t.toks.length : Int))
  else decide (n.tok = -1) && !(n.kids.any (badKid i)) := rfl

set_option maxRecDepth 100000 in
theorem formed_calls {w : World} {P : Nat → Prop} {at_ : Option Addr} {ct : Nat} {vn kv : Value} {t : Tr.T} {n : Tr.Nd} (hk : RdW w P 1 kv n.kids.length (intCells n.kids)) (hP : ∀ k, P k → k < w.heap.size) (hl : n.kids.length ≤ 1073741824)
    (ht : t.toks.length ≤ 1073741824) (i : Nat) :
    Calls Tryd.prog 36 #[.agg #[.slice at_ t.toks.length ct, vn], .int .i64 i, .agg #[.int .i64 n.kind, .int .i64 n.tok, kv]] w fun e w' => e = .returned (.bool (Tr.formed t i n)) ∧ Below w.heap.size w w' := by
  have hb : Below w.heap.size w (((w.alloc (.cells #[.slice at_ t.toks.length ct, vn] 41)).alloc (.cells #[.int .i64 i] 3)).alloc (.cells #[.int .i64 n.kind, .int .i64 n.tok, kv] 38)) :=
    (((Below.refl _ _).alloc (Nat.le_refl _) _).alloc (by rw [← size_alloc1]; omega) _).alloc (by rw [← size_alloc1, ← size_alloc1]; omega) _
  have hc : (((w.alloc (.cells #[.slice at_ t.toks.length ct, vn] 41)).alloc (.cells #[.int .i64 i] 3)).alloc (.cells #[.int .i64 n.kind, .int .i64 n.tok, kv] 38)).cell? ⟨w.heap.size + 1, 0, none⟩ = some (.int .i64 i) := by
    refine cell_of_heap (T := 3) (fr := (0, 0)) (cs := #[.int .i64 i]) ?_ 0 rfl
    rw [Below.heap_alloc _ _ _ (by rw [← size_alloc1, ← size_alloc1]; omega), size_alloc1 w (.cells #[.slice at_ t.toks.length ct, vn] 41)]
    exact heap_alloc_new _ _
  have HF := Lib.hid (contains_form (hk.keep (Keeps.of hb hP)) hl hc)
  obtain ⟨ka, kc, rfl⟩ := hk.form
  have ht' : (t.toks.length : Int) ≤ 1073741824 := by omega
  have hl' : (n.kids.length : Int) ≤ 1073741824 := by omega
  have HB := Lib.hid (show ∀ o1 o2 o3 : Obj, Below w.heap.size w (((w.alloc o1).alloc o2).alloc o3) from fun o1 o2 o3 => (((Below.refl _ _).alloc (Nat.le_refl _) _).alloc (by rw [← size_alloc1]; omega) _).alloc (by rw [← size_alloc1, ← size_alloc1]; omega) _)
  clear hk hP hb hc hl
  obtain ⟨kind, tok, kids⟩ := n
  simp only at HF hl'
  rw [formed_eq]
  simp only
  by_cases h1 : kind < 1
  · rw [if_pos (Or.inl h1)]
    go_enter Tryd.func36, Tryd.ntmps36
    go_wp2
    go_ret
    exact ⟨rfl, HB.out _ _ _⟩
  · by_cases h2 : 19 < kind
    · rw [if_pos (Or.inr h2)]
      have h1' : 1 ≤ kind := by omega
      go_enter Tryd.func36, Tryd.ntmps36
      go_wp2
      go_ret
      exact ⟨rfl, HB.out _ _ _⟩
    · rw [if_neg (by omega)]
      have h1' : 1 ≤ kind := by omega
      have h2' : kind ≤ 19 := by omega
      by_cases h3 : kind = 19
      · rw [if_pos h3]
        subst h3
        by_cases h4 : kids.length = 0
        · have h4' : kids.isEmpty = true := by rw [List.isEmpty_iff]; exact List.eq_nil_of_length_eq_zero h4
          by_cases h5 : 0 ≤ tok
          · rw [h4', decide_eq_true h5, Bool.true_and, Bool.true_and]
            clear h4'
            go_enter Tryd.func36, Tryd.ntmps36
            go_wp2
            go_ret
            exact ⟨rfl, HB.out _ _ _⟩
          · rw [h4', decide_eq_false h5, Bool.and_false, Bool.false_and]
            clear h4'
            have h5' : tok < 0 := by omega
            go_enter Tryd.func36, Tryd.ntmps36
            go_wp2
            go_ret
            exact ⟨rfl, HB.out _ _ _⟩
        · have h4' : kids.isEmpty = false := by
            cases hq : kids with
            | nil => rw [hq] at h4; exact absurd rfl h4
            | cons a l => rfl
          have h6 : ((kids.length : Int) == 0) = false := by rw [beq_eq_false_iff_ne]; omega
          rw [h4', Bool.false_and, Bool.false_and]
          clear h4'
          go_enter Tryd.func36, Tryd.ntmps36
          go_wp2
          go_ret
          exact ⟨rfl, HB.out _ _ _⟩
      · rw [if_neg h3]
        have h3' : (kind == 19) = false := by simp [h3]
        by_cases h7 : tok = -1
        · rw [decide_eq_true h7, Bool.true_and]
          subst h7
          go_enter Tryd.func36, Tryd.ntmps36
          go_wp2_with (go_at_call 30; refine HF.out.mono ?_; rintro e w2 ⟨rfl, rfl⟩)
          go_ret
          exact ⟨rfl, HB.out _ _ _⟩
        · rw [decide_eq_false h7, Bool.false_and]
          have h7' : (tok == -1) = false := by simp [h7]
          go_enter Tryd.func36, Tryd.ntmps36
          go_wp2
          go_ret
          exact ⟨rfl, HB.out _ _ _⟩
end Go.Proofs.YtfoelgkkoopheaaDoor
