/- Contracts and plain laws, in one text. Plain: how far the document's parser goes, and how long its texts grow. No program in sight. | The document's parser in memory: fail, is, leaf, must, kind, nest: the walks. | append(own row, slice...): the slice may be of none. | append(own row, slice...) in a plain region: the slice may be of none. | The document's parser: rows, negation, factor, formula: the walks. -/
import Derived.Test.YtpkhdlnlkeehhaaGreatDoorPfmM4
import Derived.Test.YtpkhdlnlkeehhaaGreatDoorPfmM2
import Derived.Test.YtpkhdlnlkeehhaaGreatDoorPfmM1
import Derived.Deep.Upon
import Derived.Deep.AppendLies
import Derived.Laws.Strings
/- Plain: how far the document's parser goes, and how long its texts grow. No program in sight. -/
namespace Go.Proofs.YtpkhdlnlkeehhaaGreatDoor.Pr
open Tr Ps

/-- What the tokens ahead of a place may come to. -/
def Wt (tk : List Tk) : Nat → Nat
  | 0 => 0
  | i + 1 => Wt tk i + (tok tk i).text.length + 12
theorem Wt_le (tk : List Tk) {i j : Nat} (h : i ≤ j) : Wt tk i ≤ Wt tk j := by
  induction j with
  | zero => exact Nat.le_of_eq (by rw [Nat.le_zero.1 h])
  | succ j ih =>
    rcases Nat.lt_or_ge i (j + 1) with h1 | h1
    · have := ih (by omega)
      simp only [Wt]
      omega
    · obtain rfl : i = j + 1 := by omega
      exact Nat.le_refl _
/-- From one state to another, with a text. -/
structure Fits (tk : List Tk) (r : Rs) (q : Txt × Rs) (c : Int) : Prop where
  lo : r.i ≤ q.2.i
  hi : q.2.i < tk.length
  len : (q.1.length : Int) + Wt tk r.i ≤ Wt tk q.2.i + c
def Fit (tk : List Tk) (f : G) (c : Int) : Prop := ∀ r, r.i < tk.length → Fits tk r (f r) c

section
variable {tk : List Tk}
theorem fail_i (e : Int) (s : Rs) : (fail tk e s).i = s.i := by unfold fail; split <;> rfl
theorem Fits.mono {r : Rs} {q : Txt × Rs} {c d : Int} (h : Fits tk r q c) (hcd : c ≤ d) : Fits tk r q d := ⟨h.lo, h.hi, by have := h.len; omega⟩
theorem Fits.start {r : Rs} (hr : r.i < tk.length) : Fits tk r ([], r) 0 := ⟨Nat.le_refl _, hr, by simp⟩
/-- Another text of a state. -/
theorem Fits.text {r : Rs} {x y : Txt} {s : Rs} {c d : Int} (h : Fits tk r (x, s) c) (hy : (y.length : Int) ≤ x.length + d) : Fits tk r (y, s) (c + d) := ⟨h.lo, h.hi, by have := h.len; simp only at *; omega⟩
theorem Fits.empty {r : Rs} {x : Txt} {s : Rs} {c : Int} (h : Fits tk r (x, s) c) : Fits tk r ([], s) 0 := ⟨h.lo, h.hi, by have h1 : Wt tk r.i ≤ Wt tk s.i := Wt_le tk h.lo; show ((0 : Nat) : Int) + _ ≤ (Wt tk s.i : Int) + 0; omega⟩
theorem Fits.state {r : Rs} {x : Txt} {s s' : Rs} {c : Int} (h : Fits tk r (x, s) c) (hs : s'.i = s.i) : Fits tk r (x, s') c := ⟨by rw [hs]; exact h.lo, by rw [hs]; exact h.hi, by rw [hs]; exact h.len⟩
theorem Fits.then {r : Rs} {x : Txt} {s : Rs} {c d : Int} (h : Fits tk r (x, s) c) {q : Txt × Rs} (k : Fits tk s q d) : Fits tk r (x ++ q.1, q.2) (c + d) :=
  ⟨Nat.le_trans h.lo k.lo, k.hi, by have := h.len; have := k.len; simp only [List.length_append] at *; omega⟩
theorem is_kind {x : Txt} {s : Rs} (h : is tk x s = true) : (tok tk s.i).kind ≠ 5 ∧ s.e = 0 := by
  unfold is at h
  simp only [Bool.and_eq_true, Bool.or_eq_true, decide_eq_true_eq] at h
  exact ⟨by omega, h.1.1⟩
theorem any_kind {ts : List Txt} {s : Rs} (h : any tk ts s = true) : (tok tk s.i).kind ≠ 5 := by
  unfold any at h
  rw [List.any_eq_true] at h
  obtain ⟨x, _, hx⟩ := h
  exact (is_kind hx).1
theorem leaf_fits (ht : Pc.Toks tk) {s : Rs} (hs : s.i < tk.length) (hk : (tok tk s.i).kind ≠ 5) : Fits tk s (leaf tk s) (-11) := by
  unfold leaf
  rw [if_neg hk]
  have h1 : s.i + 1 < tk.length := by
    rcases Nat.lt_or_ge (s.i + 1) tk.length with h | h
    · exact h
    · exfalso
      have hi : tk[tk.length - 1]? = some (tok tk s.i) := by
        unfold tok
        rw [show tk.length - 1 = s.i by omega, List.getElem?_eq_getElem hs]
        rfl
      exact hk (ht.last _ hi).1
  refine ⟨Nat.le_succ _, h1, ?_⟩
  simp only [Wt, List.length_cons]
  omega
theorem leaf_end {s : Rs} (hs : s.i < tk.length) (hk : (tok tk s.i).kind = 5) : Fits tk s (leaf tk s) 2 := by
  unfold leaf
  rw [if_pos hk]
  exact ⟨Nat.le_refl _, hs, by simp only [List.length_cons, List.length_nil]; omega⟩
theorem must_fits (ht : Pc.Toks tk) (x : Txt) : Fit tk (must tk x) 0 := by
  intro s hs
  unfold must
  split
  · rename_i h
    exact (leaf_fits ht hs (is_kind h).1).mono (by omega)
  · exact (Fits.start hs).state (fail_i _ _)
theorem kind_fits (ht : Pc.Toks tk) (k : Int) : Fit tk (kind tk k) 2 := by
  intro s hs
  unfold kind
  split
  · rename_i h
    by_cases h5 : (tok tk s.i).kind = 5
    · exact leaf_end hs h5
    · exact (leaf_fits ht hs h5).mono (by omega)
  · exact ((Fits.start hs).state (fail_i _ _)).mono (by omega)
theorem kind_fits0 (ht : Pc.Toks tk) {k : Int} (h5 : k ≠ 5) : Fit tk (kind tk k) 0 := by
  intro s hs
  unfold kind
  split
  · rename_i h
    exact (leaf_fits ht hs (by rw [h.2]; exact h5)).mono (by omega)
  · exact (Fits.start hs).state (fail_i _ _)
theorem nest_i (d : Nat) (s : Rs) : (nest tk d s).i = s.i := by
  unfold nest
  split
  · exact fail_i _ _
  · rfl
theorem bin_fits {r s u v : Rs} {a g b : Txt} (h1 : Fits tk r (a, s) 0) (h2 : Fits tk s (g, u) (-11)) (h3 : Fits tk u (b, v) 0) : Fits tk r (bin a g b, v) 0 :=
  ((((h1.then h2).then h3).text (y := bin a g b) (d := 5) (by simp [bin]; omega))).mono (by omega)
theorem unary_fits (ht : Pc.Toks tk) {d : Nat} {f : G} (hf : d ≠ 0 → Fit tk f 0) {s : Rs} (hs : s.i < tk.length) (hk : (tok tk s.i).kind ≠ 5) : Fits tk s (unary tk d f s) 0 := by
  have h1 := leaf_fits ht hs hk
  unfold unary
  simp only
  have h2 : Fits tk s ((leaf tk s).1, nest tk d (leaf tk s).2) (-11) := Fits.state (s := (leaf tk s).2) h1 (nest_i _ _)
  split
  · rename_i he
    by_cases hd : d = 0
    · exfalso
      subst hd
      unfold nest at he
      rw [if_pos rfl] at he
      unfold fail at he
      split at he
      · exact absurd (show (23 : Int) = 0 from he) (by decide)
      · rename_i h0; exact h0 he
    · exact ((h2.then (hf hd _ h2.hi)).text (y := [32, 40, 49, 49] ++ (leaf tk s).1 ++ (f (nest tk d (leaf tk s).2)).1 ++ [41]) (d := 5) (by simp; omega)).mono (by omega)
  · exact h2.empty
theorem rowGo_fits (ht : Pc.Toks tk) {part : G} (hp : Fit tk part 0) (ts : List Txt) {r : Rs} : ∀ (n : Nat) (a : Txt) (s : Rs), Fits tk r (a, s) 0 → Fits tk r (rowGo tk part ts n a s) 0
  | 0, a, s, h => h
  | n + 1, a, s, h => by
    unfold rowGo
    split
    · rename_i hk
      have h2 := leaf_fits ht h.hi (any_kind hk)
      exact rowGo_fits ht hp ts n _ _ (bin_fits h h2 (hp _ h2.hi))
    · exact h
theorem row_fits (ht : Pc.Toks tk) {part : G} (hp : Fit tk part 0) (ts : List Txt) : Fit tk (row tk part ts) 0 := fun s hs => rowGo_fits ht hp ts _ _ _ (hp s hs)
theorem argsGo_fits (ht : Pc.Toks tk) {ex : G} {c0 : Int} (h0 : c0 ≤ 11) (hx : Fit tk ex c0) {r : Rs} {c : Int} : ∀ (n k : Nat) (a : Txt) (s : Rs), Fits tk r (a, s) c → Fits tk r (argsGo tk ex n k a s) c
  | 0, _, a, s, h => h
  | n + 1, k, a, s, h => by
    unfold argsGo
    split
    · rename_i hk
      have h2 := leaf_fits ht h.hi (is_kind hk).1
      have h3 := (h.then h2).state (s' := if k = 8 then fail tk 15 (leaf tk s).2 else (leaf tk s).2) (by split; exact fail_i _ _; rfl)
      exact argsGo_fits ht h0 hx n _ _ _ ((h3.then (hx _ h3.hi)).mono (by omega))
    · exact h
theorem args_fits (ht : Pc.Toks tk) {ex : G} {c0 : Int} (h0 : c0 ≤ 11) (hx : Fit tk ex c0) : Fit tk (args tk ex) c0 := fun s hs => argsGo_fits ht h0 hx _ _ _ _ (hx s hs)
structure FitV (tk : List Tk) (d : Nat) (lo : Lv) : Prop where
  ex : Fit tk lo.ex 0
  rest : d ≠ 0 → Fit tk lo.fo 0 ∧ Fit tk lo.ne 0 ∧ Fit tk lo.fa 0
theorem callee_fits (ht : Pc.Toks tk) {r s : Rs} {a : Txt} {c : Int} (h : Fits tk r (a, s) c) : Fits tk r (callee tk a s) c := by
  unfold callee
  split
  · rename_i hk
    have h2 := leaf_fits ht h.hi (is_kind hk).1
    have h3 := h2.then (kind_fits0 ht (k := 1) (by decide) _ h2.hi)
    exact (h.then h3).mono (by omega)
  · exact h
theorem call_fits (ht : Pc.Toks tk) {ex : G} (hx : Fit tk ex 0) {r s : Rs} {a : Txt} {c : Int} (h : Fits tk r (a, s) c) : Fits tk r (call tk ex a s) (c + 5) := by
  unfold call
  simp only
  have h1 := h.then (must_fits ht [40] s h.hi)
  have h2 : Fits tk r (if is tk [41] (must tk [40] s).2 = true then (a ++ (must tk [40] s).1, (must tk [40] s).2) else (a ++ (must tk [40] s).1 ++ (args tk ex (must tk [40] s).2).1, (args tk ex (must tk [40] s).2).2)) c := by
    split
    · exact h1.mono (by omega)
    · exact (h1.then (args_fits ht (by decide) hx _ h1.hi)).mono (by omega)
  generalize (if is tk [41] (must tk [40] s).2 = true then (a ++ (must tk [40] s).1, (must tk [40] s).2) else (a ++ (must tk [40] s).1 ++ (args tk ex (must tk [40] s).2).1, (args tk ex (must tk [40] s).2).2)) = ls at h2 ⊢
  have h3 := Fits.then (x := ls.1) (s := ls.2) h2 (must_fits ht [41] ls.2 h2.hi)
  exact (h3.text (y := [32, 40, 49, 51] ++ ls.1 ++ (must tk [41] ls.2).1 ++ [41]) (d := 5) (by simp; omega)).mono (by omega)
theorem atom_fits (ht : Pc.Toks tk) {ex : G} (hx : Fit tk ex 0) : Fit tk (atom tk ex) 0 := by
  intro s hs
  unfold atom
  split
  · split
    · rename_i h3
      have h := leaf_fits ht hs (by rw [h3]; decide)
      exact (Fits.text (x := (leaf tk s).1) (s := (leaf tk s).2) h (y := [32, 40, 49, 53] ++ (leaf tk s).1 ++ [41]) (d := 5) (by simp; omega)).mono (by omega)
    · split
      · rename_i hk
        have hk5 : (tok tk s.i).kind ≠ 5 := by
          rcases Bool.or_eq_true _ _ ▸ hk with hk | hk
          · exact (is_kind hk).1
          · exact (is_kind hk).1
        have h := leaf_fits ht hs hk5
        exact (Fits.text (x := (leaf tk s).1) (s := (leaf tk s).2) h (y := [32, 40, 49, 54] ++ (leaf tk s).1 ++ [41]) (d := 5) (by simp; omega)).mono (by omega)
      · split
        · rename_i hk
          have h := leaf_fits ht hs (is_kind (Bool.and_eq_true _ _ ▸ hk).2).1
          exact (Fits.text (x := (leaf tk s).1) (s := (leaf tk s).2) h (y := [32, 40, 49, 55] ++ (leaf tk s).1 ++ [41]) (d := 5) (by simp; omega)).mono (by omega)
        · split
          · rename_i hk
            have h := leaf_fits ht hs (is_kind hk).1
            have h2 := Fits.then (x := (leaf tk s).1) (s := (leaf tk s).2) h (hx _ h.hi)
            have h3 := h2.then (must_fits ht [41] _ h2.hi)
            exact (h3.text (y := [32, 40, 49, 50] ++ (leaf tk s).1 ++ (ex (leaf tk s).2).1 ++ (must tk [41] (ex (leaf tk s).2).2).1 ++ [41]) (d := 5) (by simp; omega)).mono (by omega)
          · split
            · rename_i hk
              have h : Fits tk s ((leaf tk s).1, (leaf tk s).2) (-11) := leaf_fits ht hs (by rw [hk]; decide)
              unfold name
              simp only
              split
              · exact (h.text (y := [32, 40, 49, 52] ++ (leaf tk s).1 ++ [41]) (d := 5) (by simp; omega)).mono (by omega)
              · exact (call_fits ht hx (callee_fits ht h)).mono (by omega)
            · exact (Fits.start hs).state (fail_i _ _)
  · exact Fits.start hs
theorem factor_fits (ht : Pc.Toks tk) {d : Nat} {lo : Lv} (h : FitV tk d lo) : Fit tk (factor tk d lo) 0 := by
  intro s hs
  unfold factor
  split
  · rename_i hk
    exact unary_fits ht (fun hd => (h.rest hd).2.2) hs (is_kind hk).1
  · exact atom_fits ht h.ex s hs
theorem sum_fits (ht : Pc.Toks tk) {d : Nat} {lo : Lv} (h : FitV tk d lo) : Fit tk (sum tk d lo) 0 := row_fits ht (row_fits ht (factor_fits ht h) sMul) sSum
theorem not_fits (ht : Pc.Toks tk) {d : Nat} {lo : Lv} (h : FitV tk d lo) : Fit tk (not tk d lo) 0 := by
  intro s hs
  unfold not
  split
  · rename_i hk
    exact unary_fits ht (fun hd => (h.rest hd).2.1) hs (is_kind hk).1
  · simp only
    have h1 := sum_fits ht h s hs
    split
    · rename_i hk
      have h2 := leaf_fits ht h1.hi (any_kind hk)
      exact bin_fits h1 h2 (sum_fits ht h _ h2.hi)
    · exact h1
theorem formula_fits (ht : Pc.Toks tk) {d : Nat} {lo : Lv} (h : FitV tk d lo) : Fit tk (formula tk d lo) 0 := by
  intro s hs
  have h1 : Fits tk s (or tk d lo s) 0 := row_fits ht (row_fits ht (not_fits ht h) sAnd) sOr s hs
  unfold formula
  simp only
  split
  · rename_i hk
    have h2 := leaf_fits ht h1.hi (is_kind hk).1
    have h3 : Fits tk (or tk d lo s).2 ((leaf tk (or tk d lo s).2).1, nest tk d (leaf tk (or tk d lo s).2).2) (-11) := Fits.state (s := (leaf tk (or tk d lo s).2).2) h2 (nest_i _ _)
    split
    · rename_i he
      by_cases hd : d = 0
      · exfalso
        subst hd
        unfold nest at he
        rw [if_pos rfl] at he
        unfold fail at he
        split at he
        · exact absurd (show (23 : Int) = 0 from he) (by decide)
        · rename_i h0; exact h0 he
      · exact bin_fits h1 h3 ((h.rest hd).1 _ h3.hi)
    · exact (Fits.then (x := (or tk d lo s).1) (s := (or tk d lo s).2) h1 h3).empty
  · exact h1
theorem express_fits (ht : Pc.Toks tk) {d : Nat} {lo : Lv} (h : FitV tk d lo) : Fit tk (express tk d lo) 0 := by
  intro s hs
  have hx := h.ex
  unfold express
  split
  · split
    · rename_i hk
      have a := leaf_fits ht hs (is_kind (Bool.and_eq_true _ _ ▸ hk).2).1
      have b := Fits.then (x := (leaf tk s).1) (s := (leaf tk s).2) a (kind_fits0 ht (k := 1) (by decide) _ a.hi)
      have c := b.then (must_fits ht [61] _ b.hi)
      have e := c.then (hx _ c.hi)
      have f := e.then (must_fits ht tIn _ e.hi)
      have g := f.then (hx _ f.hi)
      unfold exLet
      exact (g.text (d := 4) (by simp; omega)).mono (by omega)
    · split
      · rename_i hk
        have a := leaf_fits ht hs (is_kind (Bool.and_eq_true _ _ ▸ hk).2).1
        have b := Fits.then (x := (leaf tk s).1) (s := (leaf tk s).2) a (hx _ a.hi)
        have c := b.then (must_fits ht tThen _ b.hi)
        have e := c.then (hx _ c.hi)
        have f := e.then (must_fits ht tElse _ e.hi)
        have g := f.then (hx _ f.hi)
        unfold exIf
        exact (g.text (d := 4) (by simp; omega)).mono (by omega)
      · split
        · rename_i hk
          have a := leaf_fits ht hs (is_kind (Bool.and_eq_true _ _ ▸ hk).2).1
          have b := Fits.then (x := (leaf tk s).1) (s := (leaf tk s).2) a (hx _ a.hi)
          have c := b.then (must_fits ht tIn _ b.hi)
          have e := c.then (hx _ c.hi)
          unfold exAssert
          exact (e.text (d := 4) (by simp; omega)).mono (by omega)
        · exact formula_fits ht h s hs
  · exact Fits.start hs
theorem lv_fits (ht : Pc.Toks tk) : ∀ d : Nat, FitV tk d (lv tk d)
  | 0 => ⟨fun s hs => (Fits.start hs).state (fail_i _ _), fun h => absurd rfl h⟩
  | d + 1 => ⟨express_fits ht (lv_fits ht d), fun _ => ⟨formula_fits ht (lv_fits ht d), not_fits ht (lv_fits ht d), factor_fits ht (lv_fits ht d)⟩⟩
variable {ex : G}
theorem base_fits (ht : Pc.Toks tk) {r s : Rs} {a : Txt} {c : Int} (h : Fits tk r (a, s) c) : Fits tk r (base tk a s) c := by
  unfold base
  split
  · rename_i hk
    have hk5 : (tok tk s.i).kind ≠ 5 := by
      rcases Bool.or_eq_true _ _ ▸ hk with hk | hk
      · exact (is_kind hk).1
      · exact (is_kind hk).1
    exact ((h.then (leaf_fits ht h.hi hk5)).text (y := a ++ ([32, 40, 53] ++ (leaf tk s).1 ++ [41])) (d := 4) (by simp; omega)).mono (by omega)
  · exact h.state (fail_i _ _)
theorem typed_fits (ht : Pc.Toks tk) (hx : Fit tk ex 0) : Fit tk (typed tk ex) 0 := by
  intro s hs
  unfold typed
  simp only
  have h1 : Fits tk s (base tk (must tk [58] s).1 (must tk [58] s).2) 0 := base_fits ht (must_fits ht [58] s hs)
  generalize base tk (must tk [58] s).1 (must tk [58] s).2 = b at h1 ⊢
  split
  · rename_i hk
    have h2 := leaf_fits ht h1.hi (is_kind hk).1
    have h3 := hx { (leaf tk b.2).2 with inn := true } h2.hi
    have h4 : Fits tk { (leaf tk b.2).2 with inn := true } ((ex { (leaf tk b.2).2 with inn := true }).1, { (ex { (leaf tk b.2).2 with inn := true }).2 with inn := false }) 0 := Fits.state (s := (ex { (leaf tk b.2).2 with inn := true }).2) h3 rfl
    have h5 := h4.then (must_fits ht [125] _ h4.hi)
    have h2' : Fits tk b.2 ((leaf tk b.2).1, { (leaf tk b.2).2 with inn := true }) (-11) := Fits.state (s := (leaf tk b.2).2) h2 rfl
    have h6 := Fits.then (x := b.1) (s := b.2) h1 (h2'.then h5)
    exact (h6.text (d := 4) (by simp; omega)).mono (by omega)
  · exact h1
theorem param_fits (ht : Pc.Toks tk) (hx : Fit tk ex 0) : Fit tk (param tk ex) 4 := by
  intro s hs
  unfold param
  simp only
  have h1 := kind_fits0 ht (k := 1) (by decide) s hs
  have h2 := Fits.then (x := (kind tk 1 s).1) (s := (kind tk 1 s).2) h1 (typed_fits ht hx _ h1.hi)
  exact (h2.text (d := 4) (by simp; omega)).mono (by omega)
theorem definition_fits (ht : Pc.Toks tk) (hx : Fit tk ex 0) : Fit tk (definition tk ex) 8 := by
  intro s hs
  unfold definition defn
  simp only
  have h0 : Fits tk s (head tk s) 3 := by
    unfold head
    split
    · rename_i hk
      have h := leaf_fits ht hs (is_kind hk).1
      exact (Fits.text (x := (leaf tk s).1) (s := (leaf tk s).2) h (y := [32, 40, 51] ++ (leaf tk s).1) (d := 3) (by simp; omega)).mono (by omega)
    · exact (Fits.text (Fits.start hs) (y := [32, 40, 51]) (d := 3) (by simp)).mono (by omega)
  generalize head tk s = p at h0 ⊢
  have h1 : Fits tk s (defHead tk p.1 p.2) 3 := by
    unfold defHead
    simp only
    have a := must_fits ht tFun p.2 h0.hi
    have b := Fits.then (x := (must tk tFun p.2).1) (s := (must tk tFun p.2).2) a (kind_fits0 ht (k := 1) (by decide) _ a.hi)
    have c := b.then (must_fits ht [40] _ b.hi)
    exact (Fits.then (x := p.1) (s := p.2) h0 c).mono (by omega)
  generalize defHead tk p.1 p.2 = q at h1 ⊢
  have h2 : Fits tk s (defList tk ex q.1 q.2) 7 := by
    unfold defList
    split
    · exact (Fits.then (x := q.1) (s := q.2) h1 (args_fits ht (by decide) (param_fits ht hx) _ h1.hi)).mono (by omega)
    · exact Fits.mono (q := (q.1, q.2)) h1 (by omega)
  generalize defList tk ex q.1 q.2 = l at h2 ⊢
  unfold defRest
  simp only
  have a := must_fits ht [41] l.2 h2.hi
  have b := Fits.then (x := (must tk [41] l.2).1) (s := (must tk [41] l.2).2) a (typed_fits ht hx _ a.hi)
  have c := b.then (must_fits ht [61] _ b.hi)
  have e := Fits.then (x := l.1) (s := l.2) h2 c
  have f := e.then (hx _ e.hi)
  have g := f.then (must_fits ht [59] _ f.hi)
  exact (g.text (d := 1) (by simp only [List.length_append, List.length_cons, List.length_nil]; omega)).mono (by omega)
theorem importsGo_fits (ht : Pc.Toks tk) {r : Rs} : ∀ (n : Nat) (a : Txt) (s : Rs) (c : Int), 0 ≤ c → Fits tk r (a, s) c → Fits tk r ((importsGo tk n a s).1, (importsGo tk n a s).2.1) c
  | 0, a, s, c, hc, h => by
    unfold importsGo
    split
    · exact ((h.empty).state (fail_i _ _)).mono hc
    · exact h
  | n + 1, a, s, c, hc, h => by
    unfold importsGo
    split
    · rename_i hk
      have a1 := leaf_fits ht h.hi (is_kind hk).1
      have b := Fits.then (x := (leaf tk s).1) (s := (leaf tk s).2) a1 (kind_fits0 ht (k := 1) (by decide) _ a1.hi)
      have c1 := b.then (must_fits ht [59] _ b.hi)
      exact importsGo_fits ht n _ _ c hc (((h.then c1).text (d := 4) (by simp; omega)).mono (by omega))
    · exact h
theorem defsGo_fits (ht : Pc.Toks tk) (hx : Fit tk ex 0) {r : Rs} : ∀ (n : Nat) (a : Txt) (s : Rs) (c : Int), 0 ≤ c → Fits tk r (a, s) c → Fits tk r ((defsGo tk ex n a s).1, (defsGo tk ex n a s).2.1) (c + 8 * n)
  | 0, a, s, c, hc, h => by
    unfold defsGo
    split
    · exact ((h.empty).state (fail_i _ _)).mono (by omega)
    · exact h.mono (by omega)
  | n + 1, a, s, c, hc, h => by
    unfold defsGo
    split
    · exact (defsGo_fits ht hx n _ _ (c + 8) (by omega) (h.then (definition_fits ht hx _ h.hi))).mono (by omega)
    · exact h.mono (by omega)
end
end Go.Proofs.YtpkhdlnlkeehhaaGreatDoor.Pr
/- The document's parser in memory: fail, is, leaf, must, kind, nest: the walks. -/
namespace Go.Proofs.YtpkhdlnlkeehhaaGreatDoor
open Go.RowKit

def qCells (vt : Value) (dp : Int) (r : Pr.Rs) : Array Value := #[vt, .int .i64 r.i, .int .i64 dp, .bool r.inn, .int .i64 r.e, .int .i64 r.pos]
/-- The blocks of the document's tokens. -/
def QB (w0 W : World) (k : Nat) : Prop := w0.heap.size ≤ k ∧ k < W.heap.size ∧ ∃ cs, W.heap[k]? = some (.cells cs 78 (0, 0))
/-- The document's parser at block p, made since w0. -/
structure QI (w0 W : World) (p : Nat) (vt : Value) (tk : List Tr.Tk) (dp : Int) (r : Pr.Rs) : Prop where
  cell : W.heap[p]? = some (.cells (qCells vt dp r) 54 (0, 0))
  toks : RdS W (QB w0 W) 4 vt tk.length (tksCells tk)
  low : w0.heap.size ≤ p
  below : Below w0.heap.size w0 W
theorem QB.keep {w0 W W' : World} {k : Nat} (h : QB w0 W k) (hs : W.heap.size ≤ W'.heap.size) (hb : W'.heap[k]? = W.heap[k]?) : QB w0 W' k := by
  obtain ⟨h1, h2, cs, h3⟩ := h
  exact ⟨h1, Nat.lt_of_lt_of_le h2 hs, cs, hb.trans h3⟩
theorem QI.past {w0 W W' : World} {p : Nat} {vt : Value} {tk : List Tr.Tk} {dp : Int} {r : Pr.Rs} (h : QI w0 W p vt tk dp r) (hb : Below W.heap.size W W') : QI w0 W' p vt tk dp r :=
  ⟨anc_box h.cell hb, (h.toks.keep fun k hk => hb.block k hk.2.1).imp fun k hk => hk.keep hb.size (hb.block k hk.2.1), h.low, h.below.trans (hb.mono h.below.size)⟩
theorem QI.ne {w0 W : World} {p : Nat} {vt : Value} {tk : List Tr.Tk} {dp : Int} {r : Pr.Rs} (h : QI w0 W p vt tk dp r) {k : Nat} (hk : QB w0 W k) : k ≠ p := by
  obtain ⟨_, _, cs, h3⟩ := hk
  rintro rfl
  rw [h.cell] at h3
  injection h3 with h3
  injection h3 with _ h4 _
  exact absurd h4 (by decide)
theorem QI.set {w0 W W' : World} {p : Nat} {vt : Value} {tk : List Tr.Tk} {dp : Int} {r r' : Pr.Rs} (h : QI w0 W p vt tk dp r) (ho : W'.os = W.os) (ht : W'.tape = W.tape) (hu : W'.output = W.output) (hz : W.heap.size = W'.heap.size)
    (hc : W'.heap[p]? = some (.cells (qCells vt dp r') 54 (0, 0))) (hk : ∀ k, k ≠ p → W'.heap[k]? = W.heap[k]?) : QI w0 W' p vt tk dp r' :=
  ⟨hc, (h.toks.keep fun k hq => hk k (h.ne hq)).imp fun k hq => hq.keep (by omega) (hk k (h.ne hq)), h.low,
    ⟨ho.trans h.below.os, ht.trans h.below.tape, hu.trans h.below.output, by have := h.below.size; omega, fun k hk1 => (hk k (by have := h.low; omega)).trans (h.below.block k hk1)⟩⟩
theorem QI.drew {w0 W : World} {p : Nat} {vt : Value} {tk : List Tr.Tk} {dp : Int} {r : Pr.Rs} (h : QI w0 W p vt tk dp r) : QI w0 W.drew p vt tk dp r := h.past ((Below.refl _ _).drew)
theorem QI.c0 {w0 W : World} {p : Nat} {vt : Value} {tk : List Tr.Tk} {dp : Int} {r : Pr.Rs} (h : QI w0 W p vt tk dp r) : W.cell? ⟨p, 0, none⟩ = some vt := cell_of_heap h.cell 0 rfl
theorem QI.c1 {w0 W : World} {p : Nat} {vt : Value} {tk : List Tr.Tk} {dp : Int} {r : Pr.Rs} (h : QI w0 W p vt tk dp r) : W.cell? ⟨p, 1, none⟩ = some (.int .i64 r.i) := cell_of_heap h.cell 1 rfl
theorem QI.c2 {w0 W : World} {p : Nat} {vt : Value} {tk : List Tr.Tk} {dp : Int} {r : Pr.Rs} (h : QI w0 W p vt tk dp r) : W.cell? ⟨p, 2, none⟩ = some (.int .i64 dp) := cell_of_heap h.cell 2 rfl
theorem QI.c3 {w0 W : World} {p : Nat} {vt : Value} {tk : List Tr.Tk} {dp : Int} {r : Pr.Rs} (h : QI w0 W p vt tk dp r) : W.cell? ⟨p, 3, none⟩ = some (.bool r.inn) := cell_of_heap h.cell 3 rfl
theorem QI.c4 {w0 W : World} {p : Nat} {vt : Value} {tk : List Tr.Tk} {dp : Int} {r : Pr.Rs} (h : QI w0 W p vt tk dp r) : W.cell? ⟨p, 4, none⟩ = some (.int .i64 r.e) := cell_of_heap h.cell 4 rfl
theorem QI.c5 {w0 W : World} {p : Nat} {vt : Value} {tk : List Tr.Tk} {dp : Int} {r : Pr.Rs} (h : QI w0 W p vt tk dp r) : W.cell? ⟨p, 5, none⟩ = some (.int .i64 r.pos) := cell_of_heap h.cell 5 rfl
theorem QI.tok {w0 W : World} {p : Nat} {vt : Value} {tk : List Tr.Tk} {dp : Int} {r : Pr.Rs} (h : QI w0 W p vt tk dp r) (hi : r.i < tk.length) :
    ∃ g o c, vt = .slice (some ⟨g, o, none⟩) tk.length c ∧ g ≠ p ∧ W.rangeAt g (o + r.i * 4) [.int .i64 (Pr.tok tk r.i).kind, .string ⟨(Pr.tok tk r.i).lead.toArray⟩, .string ⟨(Pr.tok tk r.i).text.toArray⟩, .int .i64 (Pr.tok tk r.i).pos] := by
  have hk : tk[r.i]? = some (Pr.tok tk r.i) := by
    unfold Pr.tok
    rw [List.getElem?_eq_getElem hi]
    rfl
  obtain ⟨g, o, c, h1, h2, h3⟩ := h.toks.tok hk
  exact ⟨g, o, c, h1, h.ne h2, h3⟩
/-- A call of the document's parser's: what it gives, the state behind it. -/
def Gives (w0 : World) (p : Nat) (vt : Value) (tk : List Tr.Tk) (dp : Int) (q : List UInt8 × Pr.Rs) (e : Ending) (W' : World) : Prop :=
  e = .returned (.string ⟨q.1.toArray⟩) ∧ QI w0 W' p vt tk dp q.2
/-- What the walks ask of the tokens. -/
structure QOk (tk : List Tr.Tk) : Prop where
  toks : Pc.Toks tk
  len : tk.length ≤ 1000000
  wt : Pr.Wt tk tk.length ≤ 1000000000
theorem QOk.text {tk : List Tr.Tk} (h : QOk tk) {i : Nat} (hi : i < tk.length) : (Pr.tok tk i).text.length ≤ 1000000000 := by
  have h1 := Pr.Wt_le tk (show i + 1 ≤ tk.length by omega)
  have h2 := h.wt
  simp only [Pr.Wt] at h1
  omega
theorem QOk.fits {tk : List Tr.Tk} (h : QOk tk) {r : Pr.Rs} {q : List UInt8 × Pr.Rs} {c : Int} (hq : Pr.Fits tk r q c) (hc : c ≤ 1000) : q.1.length ≤ 1000001000 ∧ q.2.i < tk.length := by
  have h1 := hq.len
  have h2 := Pr.Wt_le tk (Nat.le_of_lt hq.hi)
  have h3 := h.wt
  exact ⟨by omega, hq.hi⟩

section
variable {w0 W : World} {p : Nat} {vt : Value} {tk : List Tr.Tk} {dp : Int} {r : Pr.Rs}

set_option maxRecDepth 100000 in
set_option maxHeartbeats 2000000 in
theorem qfail_calls (h : QI w0 W p vt tk dp r) (hi : r.i < tk.length) (ho : QOk tk) (x : Int) :
    Calls Tryz.prog 45 #[.pointer (some ⟨p, 0, none⟩), .int .i64 x] W fun e W' => e = .returned (.tuple #[]) ∧ QI w0 W' p vt tk dp (Pr.fail tk x r) := by
  have HP := Lib.hid h
  have HO := Lib.hid (And.intro ho hi)
  obtain ⟨g, o, c, rfl, hgp, hrg⟩ := h.tok hi
  have c0 := h.c0
  have c1 := h.c1
  have c4 := h.c4
  have hi' : (r.i : Int) < (tk.length : Int) := by omega
  have hi0 : (0 : Int) ≤ (r.i : Int) := by omega
  have hl' : (tk.length : Int) ≤ 1000000 := by have := ho.len; omega
  have hgp2 : ¬ g = p := hgp
  have hgp3 : ¬ p = g := fun e => hgp e.symm
  have hkt : tk[r.i]? = some (Pr.tok tk r.i) := by
    unfold Pr.tok
    rw [List.getElem?_eq_getElem hi]
    rfl
  obtain ⟨⟨kd, ld, tx, ps⟩, htk⟩ : ∃ t, Pr.tok tk r.i = t := ⟨_, rfl⟩
  rw [htk] at hrg
  have hte := ho.text hi
  rw [htk] at hte
  dsimp only at hrg hte
  have q0 : W.cell? ⟨g, o + r.i * 4, none⟩ = some (.int .i64 kd) := hrg 0 _ rfl
  have q2 : W.cell? ⟨g, o + r.i * 4 + 2, none⟩ = some (.string ⟨tx.toArray⟩) := hrg 2 _ rfl
  have q3 : W.cell? ⟨g, o + r.i * 4 + 3, none⟩ = some (.int .i64 ps) := hrg 3 _ rfl
  have HT := Lib.hid htk
  clear hrg hkt hgp htk
  have c5 := h.c5
  have f4 := frozen_of_heap h.cell 4
  have f5 := frozen_of_heap h.cell 5
  by_cases he : r.e = 0
  · have HF := Lib.hid (show Pr.fail tk x r = { r with e := x, pos := ps } by unfold Pr.fail; rw [if_pos he, HT.out])
    have he' : (r.e == 0) = true := by simp [he]
    clear h hi ho he hte
    go_enter Tryz.func45, Tryz.ntmps45
    go_wp2_with fail
    go_region
    all_goals
      clear c0 c1 c4 c5 f4 f5 q0 q2 q3
      go_wp2_with fail
      refine bodyPost_end (results_none rfl _ _ _) rfl ?_
      have h1 := setCell_row (j := 4) HP.out.cell (.int .i64 x)
      have h2 := setCell_row (j := 5) h1 (.int .i64 ps)
      have h3 := HP.out.set (r' := { r with e := x, pos := ps }) (W' := (W.setCell ⟨p, 4, none⟩ (.int .i64 x)).setCell ⟨p, 5, none⟩ (.int .i64 ps)) rfl rfl rfl (by simp [World.setCell]) h2 (fun k hk => by rw [Below.heap_setCell _ _ _ _ hk, Below.heap_setCell _ _ _ _ hk])
      refine ⟨rfl, ?_⟩
      rw [HF.out]
      exact h3.drew
  · have HF := Lib.hid (show Pr.fail tk x r = r by unfold Pr.fail; rw [if_neg he])
    have he' : (r.e == 0) = false := by simp [he]
    clear h hi ho he hte
    go_enter Tryz.func45, Tryz.ntmps45
    go_wp2_with fail
    refine bodyPost_end (results_none rfl _ _ _) rfl ?_
    exact ⟨rfl, by rw [HF.out]; exact HP.out⟩

set_option maxRecDepth 100000 in
set_option maxHeartbeats 2000000 in
theorem qis_calls (h : QI w0 W p vt tk dp r) (hi : r.i < tk.length) (ho : QOk tk) (x : List UInt8) :
    Calls Tryz.prog 44 #[.pointer (some ⟨p, 0, none⟩), .string ⟨x.toArray⟩] W fun e W' => e = .returned (.bool (Pr.is tk x r)) ∧ QI w0 W' p vt tk dp r := by
  have HP := Lib.hid h
  have HO := Lib.hid (And.intro ho hi)
  obtain ⟨g, o, c, rfl, hgp, hrg⟩ := h.tok hi
  have c0 := h.c0
  have c1 := h.c1
  have c4 := h.c4
  have hi' : (r.i : Int) < (tk.length : Int) := by omega
  have hi0 : (0 : Int) ≤ (r.i : Int) := by omega
  have hl' : (tk.length : Int) ≤ 1000000 := by have := ho.len; omega
  have hgp2 : ¬ g = p := hgp
  have hgp3 : ¬ p = g := fun e => hgp e.symm
  have hkt : tk[r.i]? = some (Pr.tok tk r.i) := by
    unfold Pr.tok
    rw [List.getElem?_eq_getElem hi]
    rfl
  obtain ⟨⟨kd, ld, tx, ps⟩, htk⟩ : ∃ t, Pr.tok tk r.i = t := ⟨_, rfl⟩
  rw [htk] at hrg
  have hte := ho.text hi
  rw [htk] at hte
  dsimp only at hrg hte
  have q0 : W.cell? ⟨g, o + r.i * 4, none⟩ = some (.int .i64 kd) := hrg 0 _ rfl
  have q2 : W.cell? ⟨g, o + r.i * 4 + 2, none⟩ = some (.string ⟨tx.toArray⟩) := hrg 2 _ rfl
  have q3 : W.cell? ⟨g, o + r.i * 4 + 3, none⟩ = some (.int .i64 ps) := hrg 3 _ rfl
  have HT := Lib.hid htk
  clear hrg hkt hgp htk
  have hv : Pr.is tk x r = (decide (r.e = 0) && (decide (kd = 2) || decide (kd = 4)) && (tx == x)) := by unfold Pr.is; rw [HT.out]
  by_cases he : r.e = 0
  · have he' : (r.e == 0) = true := by simp [he]
    by_cases h2 : kd = 2
    · have h2' : (kd == 2) = true := by simp [h2]
      have HV : Hid (Pr.is tk x r = (tx == x)) := Lib.hid (by rw [hv]; simp [he, h2])
      clear hv he h2
      clear h hi ho hte
      go_enter Tryz.func44, Tryz.ntmps44
      go_wp2_with fail
      go_region
      all_goals
        go_wp2_with fail
        go_region
        all_goals
          clear c0 c1 c4 q0 q2 q3
          go_wp2_with fail
          go_ret
          exact ⟨by rw [HV.out]; simp, HP.out.drew.drew⟩
    · have h2' : (kd == 2) = false := by simp [h2]
      by_cases h4 : kd = 4
      · have h4' : (kd == 4) = true := by simp [h4]
        have HV : Hid (Pr.is tk x r = (tx == x)) := Lib.hid (by rw [hv]; simp [he, h4])
        clear hv he h2 h4
        clear h hi ho hte
        go_enter Tryz.func44, Tryz.ntmps44
        go_wp2_with fail
        go_region
        all_goals
          go_wp2_with fail
          go_region
          all_goals
            clear c0 c1 c4 q0 q2 q3
            go_wp2_with fail
            go_ret
            exact ⟨by rw [HV.out]; simp, HP.out.drew.drew⟩
      · have h4' : (kd == 4) = false := by simp [h4]
        have HV : Hid (Pr.is tk x r = false) := Lib.hid (by rw [hv]; simp [h2, h4])
        clear hv he h2 h4
        clear h hi ho hte
        go_enter Tryz.func44, Tryz.ntmps44
        go_wp2_with fail
        go_region
        all_goals
          go_wp2_with fail
          go_region
          all_goals
            clear c0 c1 c4 q0 q2 q3
            go_wp2_with fail
            go_ret
            exact ⟨by rw [HV.out]; rfl, HP.out.drew.drew⟩
  · have he' : (r.e == 0) = false := by simp [he]
    have HV : Hid (Pr.is tk x r = false) := Lib.hid (by rw [hv]; simp [he])
    clear hv he
    clear h hi ho hte
    go_enter Tryz.func44, Tryz.ntmps44
    go_wp2_with fail
    go_region
    all_goals
      go_wp2_with fail
      go_region
      all_goals
        clear c0 c1 c4 q0 q2 q3
        go_wp2_with fail
        go_ret
        exact ⟨by rw [HV.out]; rfl, HP.out.drew.drew⟩

set_option maxRecDepth 100000 in
set_option maxHeartbeats 2000000 in
theorem qleaf_calls (h : QI w0 W p vt tk dp r) (hi : r.i < tk.length) (ho : QOk tk) :
    Calls Tryz.prog 46 #[.pointer (some ⟨p, 0, none⟩)] W (Gives w0 p vt tk dp (Pr.leaf tk r)) := by
  have HP := Lib.hid h
  have HO := Lib.hid (And.intro ho hi)
  obtain ⟨g, o, c, rfl, hgp, hrg⟩ := h.tok hi
  have c0 := h.c0
  have c1 := h.c1
  have c4 := h.c4
  have hi' : (r.i : Int) < (tk.length : Int) := by omega
  have hi0 : (0 : Int) ≤ (r.i : Int) := by omega
  have hl' : (tk.length : Int) ≤ 1000000 := by have := ho.len; omega
  have hgp2 : ¬ g = p := hgp
  have hgp3 : ¬ p = g := fun e => hgp e.symm
  have hkt : tk[r.i]? = some (Pr.tok tk r.i) := by
    unfold Pr.tok
    rw [List.getElem?_eq_getElem hi]
    rfl
  obtain ⟨⟨kd, ld, tx, ps⟩, htk⟩ : ∃ t, Pr.tok tk r.i = t := ⟨_, rfl⟩
  rw [htk] at hrg
  have hte := ho.text hi
  rw [htk] at hte
  dsimp only at hrg hte
  have q0 : W.cell? ⟨g, o + r.i * 4, none⟩ = some (.int .i64 kd) := hrg 0 _ rfl
  have q2 : W.cell? ⟨g, o + r.i * 4 + 2, none⟩ = some (.string ⟨tx.toArray⟩) := hrg 2 _ rfl
  have q3 : W.cell? ⟨g, o + r.i * 4 + 3, none⟩ = some (.int .i64 ps) := hrg 3 _ rfl
  have HT := Lib.hid htk
  clear hrg hkt hgp htk
  have f1 := frozen_of_heap h.cell 1
  have hte' : 1 + (tx.length : Int) ≤ 1000000001 := by omega
  by_cases h5 : kd = 5
  · have h5' : (kd == 5) = true := by simp [h5]
    have HV : Hid (Pr.leaf tk r = ([32, 36], r)) := Lib.hid (by unfold Pr.leaf; rw [HT.out, if_pos h5])
    clear h hi ho hte h5
    go_enter Tryz.func46, Tryz.ntmps46
    go_wp2_with fail
    go_region
    all_goals
      go_wp2_with fail
      go_region
      all_goals
        clear c0 c1 c4 q0 q2 q3
        go_wp2_with fail
        go_ret
        rw [HV.out]
        exact ⟨rfl, HP.out.drew.drew⟩
  · have h5' : (kd == 5) = false := by simp [h5]
    have HV : Hid (Pr.leaf tk r = (32 :: tx, { r with i := r.i + 1 })) := Lib.hid (by unfold Pr.leaf; rw [HT.out, if_neg h5])
    clear h hi ho hte h5
    go_enter Tryz.func46, Tryz.ntmps46
    go_wp2_with fail
    go_region
    all_goals
      go_wp2_with fail
      go_region
      all_goals
        clear q0 q2 q3
        go_wp2_with fail
        go_ret
        rw [HV.out]
        have h1 := setCell_row (j := 1) HP.out.cell (.int .i64 ((r.i + 1 : Nat) : Int))
        have h3 := HP.out.set (r' := { r with i := r.i + 1 }) (W' := W.setCell ⟨p, 1, none⟩ (.int .i64 ((r.i + 1 : Nat) : Int))) rfl rfl rfl (by simp [World.setCell]) h1 (fun k hk => by rw [Below.heap_setCell _ _ _ _ hk])
        exact ⟨congrArg (fun z => Ending.returned (.string z)) (str_add [32] tx), h3.drew.drew⟩

set_option maxRecDepth 100000 in
set_option maxHeartbeats 2000000 in
theorem qmust_calls (h : QI w0 W p vt tk dp r) (hi : r.i < tk.length) (ho : QOk tk) (x : List UInt8) :
    Calls Tryz.prog 47 #[.pointer (some ⟨p, 0, none⟩), .string ⟨x.toArray⟩] W (Gives w0 p vt tk dp (Pr.must tk x r)) := by
  have HO := Lib.hid (And.intro hi ho)
  have his := qis_calls h hi ho x
  by_cases hx : Pr.is tk x r = true
  · have HV : Hid (Pr.must tk x r = Pr.leaf tk r) := Lib.hid (by unfold Pr.must; rw [if_pos hx])
    rw [hx] at his
    have HI := Lib.hid his
    clear h hi ho his hx
    go_enter Tryz.func47, Tryz.ntmps47
    go_wp2_with fail
    refine HI.out.mono ?_
    rintro e W1 ⟨rfl, h1⟩
    have H1 := Lib.hid h1
    clear h1
    dsimp only
    go_wp2_with fail
    refine (qleaf_calls H1.out HO.out.1 HO.out.2).mono ?_
    rintro e W2 ⟨rfl, h2⟩
    have H2 := Lib.hid h2
    clear h2
    dsimp only
    go_wp2_with fail
    go_ret
    rw [HV.out]
    exact ⟨rfl, H2.out⟩
  · rw [Bool.not_eq_true] at hx
    have HV : Hid (Pr.must tk x r = ([], Pr.fail tk 22 r)) := Lib.hid (by unfold Pr.must; rw [if_neg (by simp [hx])])
    rw [hx] at his
    have HI := Lib.hid his
    clear h hi ho his hx
    go_enter Tryz.func47, Tryz.ntmps47
    go_wp2_with fail
    refine HI.out.mono ?_
    rintro e W1 ⟨rfl, h1⟩
    have H1 := Lib.hid h1
    clear h1
    dsimp only
    go_wp2_with fail
    refine (qfail_calls H1.out HO.out.1 HO.out.2 22).mono ?_
    rintro e W2 ⟨rfl, h2⟩
    have H2 := Lib.hid h2
    clear h2
    dsimp only
    go_wp2_with fail
    go_ret
    rw [HV.out]
    exact ⟨rfl, H2.out⟩

set_option maxRecDepth 100000 in
set_option maxHeartbeats 2000000 in
theorem qkind_calls (h : QI w0 W p vt tk dp r) (hi : r.i < tk.length) (ho : QOk tk) (x : Int) :
    Calls Tryz.prog 43 #[.pointer (some ⟨p, 0, none⟩), .int .i64 x] W (Gives w0 p vt tk dp (Pr.kind tk x r)) := by
  have HP := Lib.hid h
  have HO := Lib.hid (And.intro ho hi)
  obtain ⟨g, o, c, rfl, hgp, hrg⟩ := h.tok hi
  have c0 := h.c0
  have c1 := h.c1
  have c4 := h.c4
  have hi' : (r.i : Int) < (tk.length : Int) := by omega
  have hi0 : (0 : Int) ≤ (r.i : Int) := by omega
  have hl' : (tk.length : Int) ≤ 1000000 := by have := ho.len; omega
  have hgp2 : ¬ g = p := hgp
  have hgp3 : ¬ p = g := fun e => hgp e.symm
  have hkt : tk[r.i]? = some (Pr.tok tk r.i) := by
    unfold Pr.tok
    rw [List.getElem?_eq_getElem hi]
    rfl
  obtain ⟨⟨kd, ld, tx, ps⟩, htk⟩ : ∃ t, Pr.tok tk r.i = t := ⟨_, rfl⟩
  rw [htk] at hrg
  have hte := ho.text hi
  rw [htk] at hte
  dsimp only at hrg hte
  have q0 : W.cell? ⟨g, o + r.i * 4, none⟩ = some (.int .i64 kd) := hrg 0 _ rfl
  have q2 : W.cell? ⟨g, o + r.i * 4 + 2, none⟩ = some (.string ⟨tx.toArray⟩) := hrg 2 _ rfl
  have q3 : W.cell? ⟨g, o + r.i * 4 + 3, none⟩ = some (.int .i64 ps) := hrg 3 _ rfl
  have HT := Lib.hid htk
  clear hrg hkt hgp htk
  by_cases he : r.e = 0
  · have he' : (r.e != 0) = false := by simp [he]
    by_cases hk : kd = x
    · have hk' : (kd != x) = false := by simp [hk]
      have HV : Hid (Pr.kind tk x r = Pr.leaf tk r) := Lib.hid (by unfold Pr.kind; rw [HT.out, if_pos ⟨he, hk⟩])
      clear he hk
      clear h hi ho hte
      go_enter Tryz.func43, Tryz.ntmps43
      go_wp2_with fail
      go_region
      all_goals
        clear c0 c1 c4 q0 q2 q3
        go_wp2_with fail
        refine (qleaf_calls HP.out.drew HO.out.2 HO.out.1).mono ?_
        rintro e W2 ⟨rfl, h2⟩
        have H2 := Lib.hid h2
        clear h2
        dsimp only
        go_wp2_with fail
        go_ret
        rw [HV.out]
        exact ⟨rfl, H2.out⟩
    · have hk' : (kd != x) = true := by simp [hk]
      have HV : Hid (Pr.kind tk x r = ([], Pr.fail tk 22 r)) := Lib.hid (by unfold Pr.kind; rw [HT.out, if_neg (fun h => hk h.2)])
      clear he hk
      clear h hi ho hte
      go_enter Tryz.func43, Tryz.ntmps43
      go_wp2_with fail
      go_region
      all_goals
        clear c0 c1 c4 q0 q2 q3
        go_wp2_with fail
        refine (qfail_calls HP.out.drew HO.out.2 HO.out.1 22).mono ?_
        rintro e W2 ⟨rfl, h2⟩
        have H2 := Lib.hid h2
        clear h2
        dsimp only
        go_wp2_with fail
        go_ret
        rw [HV.out]
        exact ⟨rfl, H2.out⟩
  · have he' : (r.e != 0) = true := by simp [he]
    have HV : Hid (Pr.kind tk x r = ([], Pr.fail tk 22 r)) := Lib.hid (by unfold Pr.kind; rw [if_neg (fun h => he h.1)])
    clear he
    clear h hi ho hte
    go_enter Tryz.func43, Tryz.ntmps43
    go_wp2_with fail
    go_region
    all_goals
      clear c0 c1 c4 q0 q2 q3
      go_wp2_with fail
      refine (qfail_calls HP.out.drew HO.out.2 HO.out.1 22).mono ?_
      rintro e W2 ⟨rfl, h2⟩
      have H2 := Lib.hid h2
      clear h2
      dsimp only
      go_wp2_with fail
      go_ret
      rw [HV.out]
      exact ⟨rfl, H2.out⟩

set_option maxRecDepth 100000 in
set_option maxHeartbeats 2000000 in
theorem qnest_calls (h : QI w0 W p vt tk dp r) (hi : r.i < tk.length) (ho : QOk tk) {n : Int} {d : Nat} (hd : n + d = dp + 1) :
    Calls Tryz.prog 74 #[.pointer (some ⟨p, 0, none⟩), .int .i64 n] W fun e W' => e = .returned (.tuple #[]) ∧ QI w0 W' p vt tk dp (Pr.nest tk d r) := by
  have HP := Lib.hid (And.intro h (And.intro hi ho))
  have c2 := h.c2
  by_cases h0 : d = 0
  · have HV : Hid (Pr.nest tk d r = Pr.fail tk 23 r) := Lib.hid (by unfold Pr.nest; rw [if_pos h0])
    have hn : dp < n := by omega
    clear h hi ho h0 hd
    go_enter Tryz.func74, Tryz.ntmps74
    go_wp2_with fail
    refine (qfail_calls HP.out.1 HP.out.2.1 HP.out.2.2 23).mono ?_
    rintro e W2 ⟨rfl, h2⟩
    have H2 := Lib.hid h2
    clear h2 c2
    dsimp only
    go_wp2_with fail
    refine bodyPost_end (results_none rfl _ _ _) rfl ?_
    rw [HV.out]
    exact ⟨rfl, H2.out⟩
  · have HV : Hid (Pr.nest tk d r = r) := Lib.hid (by unfold Pr.nest; rw [if_neg h0])
    have hn : n ≤ dp := by omega
    clear h hi ho h0 hd
    go_enter Tryz.func74, Tryz.ntmps74
    go_wp2_with fail
    refine bodyPost_end (results_none rfl _ _ _) rfl ?_
    rw [HV.out]
    exact ⟨rfl, HP.out.1⟩
end
end Go.Proofs.YtpkhdlnlkeehhaaGreatDoor
/- append(own row, slice...): the slice may be of none. -/
namespace Go.Proofs.YtpkhdlnlkeehhaaGreatDoor
open Go.RowKit

theorem run_append_row {P : Program} (w : World) (t ty : TypeId) (base : Nat) (e : TypeId) (i : TypeInfo) (z : Value) (size bytes : Nat) (ht : P.underlying t = some (.slice e)) (hi : P.info? e = some i) (hz : i.zero = some z)
    (hsize : i.size = size) (hby : i.bytes = bytes) (hzs : z.cells.size = size) (hsz : 0 < size)
    (v : Value) (n : Nat) (xs : List Value) (hown : w.ownsRow base e size v n xs) {Q : Nat → Prop} {x : Value} {m : Nat} {news : List Value} (hx : RdS w Q size x m news) (h1 : ∀ u ∈ news, u.oneCell' = true)
    (h63 : n + m ≤ maxLen) (hbytes : (n + m) * bytes ≤ 140737488355328) (hbase : base ≤ w.heap.size) :
    ∃ a cap w', (Builtin.append_ #[t, t] ty #[v, x]).run P w = .ok (.slice a (n + m) cap) w' ∧
      w'.ownsRow base e size (.slice a (n + m) cap) (n + m) (xs ++ news) ∧ w.grownBy w' v.ownBlock ∧ (∀ k, (Value.slice a (n + m) cap).ownBlock = some k → v.ownBlock = some k ∨ k = w.heap.size) := by
  obtain ⟨hl, ax, cx, rfl, hmc, hr⟩ := hx
  rcases Nat.eq_zero_or_pos m with h0 | h0
  · subst h0
    obtain rfl : news = [] := List.eq_nil_of_length_eq_zero (by simpa using hl)
    have hs : Src P i.size t (.slice ax 0 cx) 0 [] w := by
      rcases ax with _ | ad
      · exact Src.ofNil w ht cx
      · exact Src.ofSlice w ht ad 0 cx [] (by simp) (fun j u h => by simp at h) (fun u h => by cases h)
    have key : ∃ a c, v = .slice a n c ∧ n ≤ c := by
      rcases hown.2 with ⟨rfl, rfl⟩ | ⟨g, cap, cur, rfl, _, _, hn, _⟩
      · exact ⟨none, 0, rfl, Nat.le_refl _⟩
      · exact ⟨_, cap, rfl, hn⟩
    obtain ⟨a, c, rfl, hnc⟩ := key
    refine ⟨a, c, w, run_append_nothing (P := P) w t t ty e i ht hi a n c hnc _ hs, by simpa using hown, ⟨rfl, rfl, rfl, Nat.le_refl _, fun _ _ _ => rfl⟩, fun k hk => Or.inl hk⟩
  · rcases hr with ⟨_, h⟩ | ⟨b, off, rfl, _, hrg⟩
    · omega
    · obtain ⟨g, cap, w', hr, h2, h3, h4, h5⟩ := run_append_lies (P := P) w t ty base e i z size bytes ht hi hz hsize hby hzs hsz v n xs hown ⟨b, off, none⟩ m cx news hl (fun j u hj => by
        have := hrg j u hj
        rwa [Addr.add_mid]) h1 h0 h63 hbytes hbase w.heap.size rfl
      refine ⟨some ⟨g, 0, none⟩, cap, w', hr, h2, h3, fun k hk => ?_⟩
      simp only [Value.ownBlock, Option.some.injEq] at hk
      subst hk
      exact h4

/-- At a step of a region that draws its order. -/
theorem step_append_row {P : Program} {w : World} {ops : Array Oper} {o : Oper} {a : Act} {K : Act → World → Prop} {Q : Exit → Act → World → Prop} {E : Prop} (hgd : o.guard = none) (s x : Operand) (t : TypeId)
    (ho : o.op = .call { callee := .builtin .append, args := #[s, x], argTypes := #[t, t] })
    (base : Nat) (e : TypeId) (i : TypeInfo) (z : Value) (size bytes : Nat) (ht : P.underlying t = some (.slice e)) (hi : P.info? e = some i) (hz : i.zero = some z)
    (hsize : i.size = size) (hby : i.bytes = bytes) (hzs : z.cells.size = size) (hsz : 0 < size)
    (v : Value) (n : Nat) (xs : List Value) (hs : a.eval s = v) (hown : w.ownsRow base e size v n xs) {R : Nat → Prop} {xv : Value} {m : Nat} {news : List Value} (hxv : a.eval x = xv) (hx : RdS w R size xv m news) (h1 : ∀ u ∈ news, u.oneCell' = true)
    (h63 : n + m ≤ maxLen) (hbytes : (n + m) * bytes ≤ 140737488355328) (hbase : base ≤ w.heap.size)
    (h : ∀ a2 cap w', w'.ownsRow base e size (.slice a2 (n + m) cap) (n + m) (xs ++ news) → w.grownBy w' v.ownBlock → (∀ k, (Value.slice a2 (n + m) cap).ownBlock = some k → v.ownBlock = some k ∨ k = w.heap.size) → K (a.put o.dst (.slice a2 (n + m) cap)) w') :
    if Region.wanted o (yielded ops a.tmps) = true then Oper.wp P o a w K Q else E := by
  have hw : Region.wanted o (yielded ops a.tmps) = true := by simp [Region.wanted, hgd]
  rw [if_pos hw]
  obtain ⟨a2, cap, w', hr, h2, h3, h4⟩ := run_append_row (P := P) w t o.type base e i z size bytes ht hi hz hsize hby hzs hsz v n xs hown hx h1 h63 hbytes hbase
  unfold Oper.wp execOp
  simp only [ho, resolve, invoke, builtin, Sem.run_bind, Sem.run_pure, Result.andThen_ok, List.map_toArray, List.map_cons, List.map_nil, hs, hxv, hr]
  exact h a2 cap w' h2 h3 h4
end Go.Proofs.YtpkhdlnlkeehhaaGreatDoor
/- append(own row, slice...) in a plain region: the slice may be of none. -/
namespace Go.Proofs.YtpkhdlnlkeehhaaGreatDoor
open Go.RowKit

theorem wpList_append_row {P : Program} {ops : Array Oper} {rest : List Oper} {o : Oper} {a : Act} {Q : Exit → Act → World → Prop} {w : World} (hgd : o.guard = none) (s x : Operand) (t : TypeId)
    (ho : o.op = .call { callee := .builtin .append, args := #[s, x], argTypes := #[t, t] })
    (base : Nat) (e : TypeId) (i : TypeInfo) (z : Value) (size bytes : Nat) (ht : P.underlying t = some (.slice e)) (hi : P.info? e = some i) (hz : i.zero = some z)
    (hsize : i.size = size) (hby : i.bytes = bytes) (hzs : z.cells.size = size) (hsz : 0 < size)
    (v : Value) (n : Nat) (xs : List Value) (hs : a.eval s = v) (hown : w.ownsRow base e size v n xs) {R : Nat → Prop} {xv : Value} {m : Nat} {news : List Value} (hxv : a.eval x = xv) (hx : RdS w R size xv m news) (h1 : ∀ u ∈ news, u.oneCell' = true)
    (h63 : n + m ≤ maxLen) (hbytes : (n + m) * bytes ≤ 140737488355328) (hbase : base ≤ w.heap.size)
    (h : ∀ a2 cap w', w'.ownsRow base e size (.slice a2 (n + m) cap) (n + m) (xs ++ news) → w.grownBy w' v.ownBlock → (∀ k, (Value.slice a2 (n + m) cap).ownBlock = some k → v.ownBlock = some k ∨ k = w.heap.size) → wpList P ops Q rest (a.put o.dst (.slice a2 (n + m) cap)) w') :
    wpList P ops Q (o :: rest) a w := by
  refine wpList_plain hgd fun K hK => ?_
  obtain ⟨a2, cap, w', hr, h2, h3, h4⟩ := run_append_row (P := P) w t o.type base e i z size bytes ht hi hz hsize hby hzs hsz v n xs hown hx h1 h63 hbytes hbase
  unfold Oper.wp execOp
  simp only [ho, resolve, invoke, builtin, Sem.run_bind, Sem.run_pure, Result.andThen_ok, List.map_toArray, List.map_cons, List.map_nil, hs, hxv, hr]
  exact hK _ _ (h a2 cap w' h2 h3 h4)

/-- Q, but for an own row. -/
def Off (Q : Nat → Prop) (v : Value) (k : Nat) : Prop := Q k ∧ v.ownBlock ≠ some k
theorem Off.up {Q : Nat → Prop} {v : Value} {W : World} (h : Up Q W) {base n size : Nat} {e : TypeId} {xs : List Value} (ho : W.ownsRow base e size v n xs) : Up (Off Q v) W := fun k hk => ⟨h k hk, fun e => by
  have := (ho.lt k e).2
  omega⟩
theorem FrT.grown {ts : List TypeId} {W Wr W3 : World} {v : Value} (h : FrT ts W Wr) (hg : Wr.grownBy W3 v.ownBlock) (hv : ∀ k, v.ownBlock = some k → W.heap.size ≤ k) : FrT ts W W3 := by
  refine ⟨hg.os.trans h.os, hg.tape.trans h.tape, hg.output.trans h.output, Nat.le_trans h.size hg.size, fun k o hk hn => ?_⟩
  have h1 := h.block k o hk hn
  rw [hg.block k (lt_heap h1) fun e => ?_, h1]
  have := hv k e.symm
  have := lt_heap hk
  omega
/-- Behind an append onto the own row. -/
theorem PI.appended {Q : Nat → Prop} {w0 W W3 : World} {p b base n : Nat} {tk : List Tr.Tk} {dp : Int} {s : Ps.St} {v v3 : Value} {xs : List Value} (h : PI (Off Q v) w0 W p b tk dp s) (ho : W.ownsRow base 3 1 v n xs) (hbase : w0.heap.size ≤ base)
    (hg : W.grownBy W3 v.ownBlock) (hat : ∀ k, v3.ownBlock = some k → v.ownBlock = some k ∨ k = W.heap.size) : PI (Off Q v3) w0 W3 p b tk dp s := by
  have h1 : PI (fun k => Off Q v k ∧ k ≠ W.heap.size) w0 W p b tk dp s := h.imp fun k hk hq => ⟨hq, by omega⟩
  refine (h1.grown ho hbase (fun k hk hq => hq.1.2 hk) hg).imp fun k _ hq => ⟨hq.1.1, fun e => ?_⟩
  rcases hat k e with h2 | h2
  · exact hq.1.2 h2
  · exact hq.2 h2
end Go.Proofs.YtpkhdlnlkeehhaaGreatDoor
/- The document's parser: rows, negation, factor, formula: the walks. -/
namespace Go.Proofs.YtpkhdlnlkeehhaaGreatDoor
open Go.RowKit

theorem wpList_cat {P : Program} {ops : Array Oper} {rest : List Oper} {o : Oper} {a : Act} {Q : Exit → Act → World → Prop} {w : World} (hgd : o.guard = none) (x y : Operand) (t t2 : TypeId)
    (ho : o.op = .binOp .add t x y t2) {l m : List UInt8} (hx : a.eval x = .string ⟨l.toArray⟩) (hy : a.eval y = .string ⟨m.toArray⟩) (hlen : l.length + m.length ≤ 9000000000000000000)
    (h : wpList P ops Q rest (a.put o.dst (.string ⟨(l ++ m).toArray⟩)) w) : wpList P ops Q (o :: rest) a w := by
  refine wpList_plain hgd fun K hK => ?_
  unfold Oper.wp execOp
  simp only [ho, hx, hy]
  have hs : ¬ ((((⟨l.toArray⟩ : ByteArray).size + (⟨m.toArray⟩ : ByteArray).size : Nat) : Int) > IntKind.i64.max) := by
    have e1 : (⟨l.toArray⟩ : ByteArray).size = l.length := by simp [ByteArray.size]
    have e2 : (⟨m.toArray⟩ : ByteArray).size = m.length := by simp [ByteArray.size]
    rw [e1, e2]
    show ¬ ((l.length + m.length : Nat) : Int) > 9223372036854775807
    omega
  have hg : (eqGuard BinOp.add t x y (.string ⟨l.toArray⟩) (.string ⟨m.toArray⟩)).run P w = .ok () w := by simp [eqGuard]
  have hb : (binOp .add t (.string ⟨l.toArray⟩) (.string ⟨m.toArray⟩)).run P w = .ok (.string ⟨(l ++ m).toArray⟩) w := by
    rw [binOp_string_add]
    unfold Op.stringOp
    simp only [if_neg hs, Sem.run_pure, str_add]
  simp only [Sem.run_bind, hg, hb, Result.andThen_ok, Sem.run_pure]
  exact hK _ _ h

/-- What is known of a function of the document's parser's. -/
def QKnows (w0 : World) (p : Nat) (vt : Value) (tk : List Tr.Tk) (dp : Int) (k : FuncId) (args : Array Value) (f : Pr.G) : Prop :=
  ∀ (W : World) (r : Pr.Rs), QI w0 W p vt tk dp r → r.i < tk.length → Calls Tryz.prog k args W (Gives w0 p vt tk dp (f r))
theorem rowGo_more {tk : List Tr.Tk} {part : Pr.G} {ts : List (List UInt8)} {n : Nat} {a : List UInt8} {r : Pr.Rs} (h : Pr.any tk ts r = true) : Pr.rowGo tk part ts (n + 1) a r = Pr.rowGo tk part ts n (Pr.bin a (Pr.leaf tk r).1 (part (Pr.leaf tk r).2).1) (part (Pr.leaf tk r).2).2 := by
  rw [Pr.rowGo, if_pos h]
theorem rowGo_stop {tk : List Tr.Tk} {part : Pr.G} {ts : List (List UInt8)} (n : Nat) {a : List UInt8} {r : Pr.Rs} (h : Pr.any tk ts r = false) : Pr.rowGo tk part ts n a r = (a, r) := by
  cases n with
  | zero => rfl
  | succ n => rw [Pr.rowGo, if_neg (by simp [h])]

section
variable {w0 : World} {p : Nat} {vt : Value} {tk : List Tr.Tk} {dp : Int}

set_option maxRecDepth 100000 in
set_option maxHeartbeats 4000000 in
theorem qor_calls (ho : QOk tk) {n : Int} {f : Pr.G} (hf : Pr.Fit tk f 0) (hk : QKnows w0 p vt tk dp 110 #[.pointer (some ⟨p, 0, none⟩), .int .i64 n] f) :
    QKnows w0 p vt tk dp 95 #[.pointer (some ⟨p, 0, none⟩), .int .i64 n] (Pr.row tk f Ps.sOr) := by
  intro W r h hi
  have HO := Lib.hid ho
  have Q0 := Lib.hid (And.intro h hi)
  have HK := Lib.hid (And.intro hk hf)
  clear ho h hi hf hk
  go_enter Tryz.func95, Tryz.ntmps95
  go_wp2_with (refine wpList_cat rfl _ _ _ _ rfl rfl rfl (by (try simp only [List.length_append, List.length_cons, List.length_nil]); omega) ?_)
  refine (HK.out.1 _ _ Q0.out.1 Q0.out.2).mono ?_
  rintro e W1 ⟨rfl, h⟩
  have hf := HK.out.2 r Q0.out.2
  obtain ⟨⟨x1, r1⟩, hx⟩ : ∃ q, f r = q := ⟨_, rfl⟩
  rw [hx] at h hf ⊢
  have hb := HO.out.fits hf (by decide)
  have Q1 := Lib.hid (And.intro h hb.2)
  have HL1 := Lib.hid hb.1
  have HX1 := Lib.hid hx
  clear h hf hx hb
  dsimp only at Q1 HL1 ⊢
  go_wp2_with (refine wpList_cat rfl _ _ _ _ rfl rfl rfl (by have := HL1.out; (try simp only [List.length_append, List.length_cons, List.length_nil]); omega) ?_)
  have e0 : Pr.row tk f Ps.sOr r = Pr.rowGo tk f Ps.sOr tk.length x1 r1 := by unfold Pr.row; rw [HX1.out]
  go_loopg [5] tk.length (fun k v5 wr => ∃ (m : Nat) (a : List UInt8) (r2 : Pr.Rs), v5 = .string ⟨a.toArray⟩ ∧ k = m ∧ QI w0 wr p vt tk dp r2 ∧ tk.length ≤ m + r2.i ∧ Pr.Fits tk r (a, r2) 0 ∧ Pr.rowGo tk f Ps.sOr m a r2 = Pr.row tk f Ps.sOr r)
  case atStart =>
    have hf := HK.out.2 r Q0.out.2
    rw [HX1.out] at hf
    exact ⟨tk.length, x1, r1, rfl, rfl, Q1.out.1, by omega, hf, e0.symm⟩
  case round =>
    obtain ⟨m, a, r2, rfl, hkm, h2, hm, hft, hgo⟩ := hrel
    have Q2 := Lib.hid (And.intro h2 hft.hi)
    have HM := Lib.hid (And.intro hkm (And.intro hm (And.intro hft hgo)))
    have HL2 : Hid (a.length ≤ 1000001000) := Lib.hid (HO.out.fits hft (by decide)).1
    clear hkm h2 hm hft hgo e0
    by_cases b0 : Pr.is tk [124, 124] r2 = true
    · skip
      have B0 := Lib.hid b0
      have HA : Hid (Pr.any tk Ps.sOr r2 = true) := Lib.hid (by show (Ps.sOr.any fun x => Pr.is tk x r2) = _; simp only [Ps.sOr, List.any_cons, List.any_nil, B0.out, Bool.or_true, Bool.true_or, Bool.or_false, Bool.false_or])
      clear b0
      go_wp2_with (refine wpList_cat rfl _ _ _ _ rfl rfl rfl (by have := HL2.out; (try simp only [List.length_append, List.length_cons, List.length_nil]); omega) ?_)
      have hcall := qis_calls Q2.out.1 Q2.out.2 HO.out [124, 124]
      rw [B0.out] at hcall
      refine hcall.mono ?_
      rintro e W3 ⟨rfl, h⟩
      have Q3 := Lib.hid (And.intro h Q2.out.2)
      clear h hcall
      dsimp only
      go_wp2_with (refine wpList_cat rfl _ _ _ _ rfl rfl rfl (by have := HL2.out; (try simp only [List.length_append, List.length_cons, List.length_nil]); omega) ?_)
      refine (qleaf_calls Q3.out.1 Q3.out.2 HO.out).mono ?_
      rintro e W4 ⟨rfl, h⟩
      have hf := Pr.leaf_fits HO.out.toks Q3.out.2 (Pr.any_kind HA.out)
      obtain ⟨⟨x4, r4⟩, hx⟩ : ∃ q, Pr.leaf tk r2 = q := ⟨_, rfl⟩
      rw [hx] at h hf ⊢
      have hb := HO.out.fits hf (by decide)
      have Q4 := Lib.hid (And.intro h hb.2)
      have HL4 := Lib.hid hb.1
      have HX4 := Lib.hid hx
      clear h hf hx hb
      dsimp only at Q4 HL4 ⊢
      go_wp2_with (refine wpList_cat rfl _ _ _ _ rfl rfl rfl (by have := HL2.out; have := HL4.out; (try simp only [List.length_append, List.length_cons, List.length_nil]); omega) ?_)
      refine (HK.out.1 _ _ Q4.out.1 Q4.out.2).mono ?_
      rintro e W5 ⟨rfl, h⟩
      have hf := HK.out.2 r4 Q4.out.2
      obtain ⟨⟨x5, r5⟩, hx⟩ : ∃ q, f r4 = q := ⟨_, rfl⟩
      rw [hx] at h hf ⊢
      have hb := HO.out.fits hf (by decide)
      have Q5 := Lib.hid (And.intro h hb.2)
      have HL5 := Lib.hid hb.1
      have HX5 := Lib.hid hx
      clear h hf hx hb
      dsimp only at Q5 HL5 ⊢
      go_wp2_with (refine wpList_cat rfl _ _ _ _ rfl rfl rfl (by have := HL2.out; have := HL4.out; have := HL5.out; (try simp only [List.length_append, List.length_cons, List.length_nil]); omega) ?_)
      go_roundg (m - 1)
      case measure => have := HM.out.1; have := HM.out.2.1; have := Q2.out.2; omega
      case rel =>
        have hgo := HM.out.2.2.2
        have hm := HM.out.2.1
        have hi2 := Q2.out.2
        obtain ⟨m2, hm2⟩ : ∃ m2, m = m2 + 1 := ⟨m - 1, by omega⟩
        rw [hm2, rowGo_more HA.out, HX4.out, HX5.out] at hgo
        have hl := Pr.leaf_fits HO.out.toks Q2.out.2 (Pr.any_kind HA.out)
        have hp := HK.out.2 _ hl.hi
        have hl2 : r2.i + 1 ≤ (Pr.leaf tk r2).2.i := by unfold Pr.leaf; rw [if_neg (Pr.any_kind HA.out)]; exact Nat.le_refl _
        rw [HX4.out] at hl hp hl2
        rw [HX5.out] at hp
        refine ⟨m - 1, Pr.bin a x4 x5, r5, by simp [Pr.bin], rfl, Q5.out.1, ?_, Pr.bin_fits HM.out.2.2.1 hl hp, ?_⟩
        · have h1 : r4.i ≤ r5.i := hp.lo
          have h2 : r2.i + 1 ≤ r4.i := hl2
          omega
        · rw [show m - 1 = m2 by omega]
          exact hgo
    · rw [Bool.not_eq_true] at b0
      have B0 := Lib.hid b0
      have HA : Hid (Pr.any tk Ps.sOr r2 = false) := Lib.hid (by show (Ps.sOr.any fun x => Pr.is tk x r2) = _; simp only [Ps.sOr, List.any_cons, List.any_nil, B0.out, Bool.or_true, Bool.true_or, Bool.or_false, Bool.false_or])
      clear b0
      go_wp2_with (refine wpList_cat rfl _ _ _ _ rfl rfl rfl (by have := HL2.out; (try simp only [List.length_append, List.length_cons, List.length_nil]); omega) ?_)
      have hcall := qis_calls Q2.out.1 Q2.out.2 HO.out [124, 124]
      rw [B0.out] at hcall
      refine hcall.mono ?_
      rintro e W3 ⟨rfl, h⟩
      have Q3 := Lib.hid (And.intro h Q2.out.2)
      clear h hcall
      dsimp only
      go_wp2_with (refine wpList_cat rfl _ _ _ _ rfl rfl rfl (by have := HL2.out; (try simp only [List.length_append, List.length_cons, List.length_nil]); omega) ?_)
      go_ret
      have hgo := HM.out.2.2.2
      rw [rowGo_stop _ HA.out] at hgo
      rw [← hgo]
      exact ⟨rfl, Q3.out.1⟩

set_option maxRecDepth 100000 in
set_option maxHeartbeats 4000000 in
theorem qand_calls (ho : QOk tk) {n : Int} {f : Pr.G} (hf : Pr.Fit tk f 0) (hk : QKnows w0 p vt tk dp 126 #[.pointer (some ⟨p, 0, none⟩), .int .i64 n] f) :
    QKnows w0 p vt tk dp 110 #[.pointer (some ⟨p, 0, none⟩), .int .i64 n] (Pr.row tk f Ps.sAnd) := by
  intro W r h hi
  have HO := Lib.hid ho
  have Q0 := Lib.hid (And.intro h hi)
  have HK := Lib.hid (And.intro hk hf)
  clear ho h hi hf hk
  go_enter Tryz.func110, Tryz.ntmps110
  go_wp2_with (refine wpList_cat rfl _ _ _ _ rfl rfl rfl (by (try simp only [List.length_append, List.length_cons, List.length_nil]); omega) ?_)
  refine (HK.out.1 _ _ Q0.out.1 Q0.out.2).mono ?_
  rintro e W1 ⟨rfl, h⟩
  have hf := HK.out.2 r Q0.out.2
  obtain ⟨⟨x1, r1⟩, hx⟩ : ∃ q, f r = q := ⟨_, rfl⟩
  rw [hx] at h hf ⊢
  have hb := HO.out.fits hf (by decide)
  have Q1 := Lib.hid (And.intro h hb.2)
  have HL1 := Lib.hid hb.1
  have HX1 := Lib.hid hx
  clear h hf hx hb
  dsimp only at Q1 HL1 ⊢
  go_wp2_with (refine wpList_cat rfl _ _ _ _ rfl rfl rfl (by have := HL1.out; (try simp only [List.length_append, List.length_cons, List.length_nil]); omega) ?_)
  have e0 : Pr.row tk f Ps.sAnd r = Pr.rowGo tk f Ps.sAnd tk.length x1 r1 := by unfold Pr.row; rw [HX1.out]
  go_loopg [5] tk.length (fun k v5 wr => ∃ (m : Nat) (a : List UInt8) (r2 : Pr.Rs), v5 = .string ⟨a.toArray⟩ ∧ k = m ∧ QI w0 wr p vt tk dp r2 ∧ tk.length ≤ m + r2.i ∧ Pr.Fits tk r (a, r2) 0 ∧ Pr.rowGo tk f Ps.sAnd m a r2 = Pr.row tk f Ps.sAnd r)
  case atStart =>
    have hf := HK.out.2 r Q0.out.2
    rw [HX1.out] at hf
    exact ⟨tk.length, x1, r1, rfl, rfl, Q1.out.1, by omega, hf, e0.symm⟩
  case round =>
    obtain ⟨m, a, r2, rfl, hkm, h2, hm, hft, hgo⟩ := hrel
    have Q2 := Lib.hid (And.intro h2 hft.hi)
    have HM := Lib.hid (And.intro hkm (And.intro hm (And.intro hft hgo)))
    have HL2 : Hid (a.length ≤ 1000001000) := Lib.hid (HO.out.fits hft (by decide)).1
    clear hkm h2 hm hft hgo e0
    by_cases b0 : Pr.is tk [38, 38] r2 = true
    · skip
      have B0 := Lib.hid b0
      have HA : Hid (Pr.any tk Ps.sAnd r2 = true) := Lib.hid (by show (Ps.sAnd.any fun x => Pr.is tk x r2) = _; simp only [Ps.sAnd, List.any_cons, List.any_nil, B0.out, Bool.or_true, Bool.true_or, Bool.or_false, Bool.false_or])
      clear b0
      go_wp2_with (refine wpList_cat rfl _ _ _ _ rfl rfl rfl (by have := HL2.out; (try simp only [List.length_append, List.length_cons, List.length_nil]); omega) ?_)
      have hcall := qis_calls Q2.out.1 Q2.out.2 HO.out [38, 38]
      rw [B0.out] at hcall
      refine hcall.mono ?_
      rintro e W3 ⟨rfl, h⟩
      have Q3 := Lib.hid (And.intro h Q2.out.2)
      clear h hcall
      dsimp only
      go_wp2_with (refine wpList_cat rfl _ _ _ _ rfl rfl rfl (by have := HL2.out; (try simp only [List.length_append, List.length_cons, List.length_nil]); omega) ?_)
      refine (qleaf_calls Q3.out.1 Q3.out.2 HO.out).mono ?_
      rintro e W4 ⟨rfl, h⟩
      have hf := Pr.leaf_fits HO.out.toks Q3.out.2 (Pr.any_kind HA.out)
      obtain ⟨⟨x4, r4⟩, hx⟩ : ∃ q, Pr.leaf tk r2 = q := ⟨_, rfl⟩
      rw [hx] at h hf ⊢
      have hb := HO.out.fits hf (by decide)
      have Q4 := Lib.hid (And.intro h hb.2)
      have HL4 := Lib.hid hb.1
      have HX4 := Lib.hid hx
      clear h hf hx hb
      dsimp only at Q4 HL4 ⊢
      go_wp2_with (refine wpList_cat rfl _ _ _ _ rfl rfl rfl (by have := HL2.out; have := HL4.out; (try simp only [List.length_append, List.length_cons, List.length_nil]); omega) ?_)
      refine (HK.out.1 _ _ Q4.out.1 Q4.out.2).mono ?_
      rintro e W5 ⟨rfl, h⟩
      have hf := HK.out.2 r4 Q4.out.2
      obtain ⟨⟨x5, r5⟩, hx⟩ : ∃ q, f r4 = q := ⟨_, rfl⟩
      rw [hx] at h hf ⊢
      have hb := HO.out.fits hf (by decide)
      have Q5 := Lib.hid (And.intro h hb.2)
      have HL5 := Lib.hid hb.1
      have HX5 := Lib.hid hx
      clear h hf hx hb
      dsimp only at Q5 HL5 ⊢
      go_wp2_with (refine wpList_cat rfl _ _ _ _ rfl rfl rfl (by have := HL2.out; have := HL4.out; have := HL5.out; (try simp only [List.length_append, List.length_cons, List.length_nil]); omega) ?_)
      go_roundg (m - 1)
      case measure => have := HM.out.1; have := HM.out.2.1; have := Q2.out.2; omega
      case rel =>
        have hgo := HM.out.2.2.2
        have hm := HM.out.2.1
        have hi2 := Q2.out.2
        obtain ⟨m2, hm2⟩ : ∃ m2, m = m2 + 1 := ⟨m - 1, by omega⟩
        rw [hm2, rowGo_more HA.out, HX4.out, HX5.out] at hgo
        have hl := Pr.leaf_fits HO.out.toks Q2.out.2 (Pr.any_kind HA.out)
        have hp := HK.out.2 _ hl.hi
        have hl2 : r2.i + 1 ≤ (Pr.leaf tk r2).2.i := by unfold Pr.leaf; rw [if_neg (Pr.any_kind HA.out)]; exact Nat.le_refl _
        rw [HX4.out] at hl hp hl2
        rw [HX5.out] at hp
        refine ⟨m - 1, Pr.bin a x4 x5, r5, by simp [Pr.bin], rfl, Q5.out.1, ?_, Pr.bin_fits HM.out.2.2.1 hl hp, ?_⟩
        · have h1 : r4.i ≤ r5.i := hp.lo
          have h2 : r2.i + 1 ≤ r4.i := hl2
          omega
        · rw [show m - 1 = m2 by omega]
          exact hgo
    · rw [Bool.not_eq_true] at b0
      have B0 := Lib.hid b0
      have HA : Hid (Pr.any tk Ps.sAnd r2 = false) := Lib.hid (by show (Ps.sAnd.any fun x => Pr.is tk x r2) = _; simp only [Ps.sAnd, List.any_cons, List.any_nil, B0.out, Bool.or_true, Bool.true_or, Bool.or_false, Bool.false_or])
      clear b0
      go_wp2_with (refine wpList_cat rfl _ _ _ _ rfl rfl rfl (by have := HL2.out; (try simp only [List.length_append, List.length_cons, List.length_nil]); omega) ?_)
      have hcall := qis_calls Q2.out.1 Q2.out.2 HO.out [38, 38]
      rw [B0.out] at hcall
      refine hcall.mono ?_
      rintro e W3 ⟨rfl, h⟩
      have Q3 := Lib.hid (And.intro h Q2.out.2)
      clear h hcall
      dsimp only
      go_wp2_with (refine wpList_cat rfl _ _ _ _ rfl rfl rfl (by have := HL2.out; (try simp only [List.length_append, List.length_cons, List.length_nil]); omega) ?_)
      go_ret
      have hgo := HM.out.2.2.2
      rw [rowGo_stop _ HA.out] at hgo
      rw [← hgo]
      exact ⟨rfl, Q3.out.1⟩

set_option maxRecDepth 100000 in
set_option maxHeartbeats 4000000 in
theorem qsum_calls (ho : QOk tk) {n : Int} {f : Pr.G} (hf : Pr.Fit tk f 0) (hk : QKnows w0 p vt tk dp 146 #[.pointer (some ⟨p, 0, none⟩), .int .i64 n] f) :
    QKnows w0 p vt tk dp 139 #[.pointer (some ⟨p, 0, none⟩), .int .i64 n] (Pr.row tk f Ps.sSum) := by
  intro W r h hi
  have HO := Lib.hid ho
  have Q0 := Lib.hid (And.intro h hi)
  have HK := Lib.hid (And.intro hk hf)
  clear ho h hi hf hk
  go_enter Tryz.func139, Tryz.ntmps139
  go_wp2_with (refine wpList_cat rfl _ _ _ _ rfl rfl rfl (by (try simp only [List.length_append, List.length_cons, List.length_nil]); omega) ?_)
  refine (HK.out.1 _ _ Q0.out.1 Q0.out.2).mono ?_
  rintro e W1 ⟨rfl, h⟩
  have hf := HK.out.2 r Q0.out.2
  obtain ⟨⟨x1, r1⟩, hx⟩ : ∃ q, f r = q := ⟨_, rfl⟩
  rw [hx] at h hf ⊢
  have hb := HO.out.fits hf (by decide)
  have Q1 := Lib.hid (And.intro h hb.2)
  have HL1 := Lib.hid hb.1
  have HX1 := Lib.hid hx
  clear h hf hx hb
  dsimp only at Q1 HL1 ⊢
  go_wp2_with (refine wpList_cat rfl _ _ _ _ rfl rfl rfl (by have := HL1.out; (try simp only [List.length_append, List.length_cons, List.length_nil]); omega) ?_)
  have e0 : Pr.row tk f Ps.sSum r = Pr.rowGo tk f Ps.sSum tk.length x1 r1 := by unfold Pr.row; rw [HX1.out]
  go_loopg [5] tk.length (fun k v5 wr => ∃ (m : Nat) (a : List UInt8) (r2 : Pr.Rs), v5 = .string ⟨a.toArray⟩ ∧ k = m ∧ QI w0 wr p vt tk dp r2 ∧ tk.length ≤ m + r2.i ∧ Pr.Fits tk r (a, r2) 0 ∧ Pr.rowGo tk f Ps.sSum m a r2 = Pr.row tk f Ps.sSum r)
  case atStart =>
    have hf := HK.out.2 r Q0.out.2
    rw [HX1.out] at hf
    exact ⟨tk.length, x1, r1, rfl, rfl, Q1.out.1, by omega, hf, e0.symm⟩
  case round =>
    obtain ⟨m, a, r2, rfl, hkm, h2, hm, hft, hgo⟩ := hrel
    have Q2 := Lib.hid (And.intro h2 hft.hi)
    have HM := Lib.hid (And.intro hkm (And.intro hm (And.intro hft hgo)))
    have HL2 : Hid (a.length ≤ 1000001000) := Lib.hid (HO.out.fits hft (by decide)).1
    clear hkm h2 hm hft hgo e0
    by_cases b0 : Pr.is tk [43] r2 = true
    · skip
      have B0 := Lib.hid b0
      have HA : Hid (Pr.any tk Ps.sSum r2 = true) := Lib.hid (by show (Ps.sSum.any fun x => Pr.is tk x r2) = _; simp only [Ps.sSum, List.any_cons, List.any_nil, B0.out, Bool.or_true, Bool.true_or, Bool.or_false, Bool.false_or])
      clear b0
      go_wp2_with (refine wpList_cat rfl _ _ _ _ rfl rfl rfl (by have := HL2.out; (try simp only [List.length_append, List.length_cons, List.length_nil]); omega) ?_)
      have hcall := qis_calls Q2.out.1 Q2.out.2 HO.out [43]
      rw [B0.out] at hcall
      refine hcall.mono ?_
      rintro e W3 ⟨rfl, h⟩
      have Q3 := Lib.hid (And.intro h Q2.out.2)
      clear h hcall
      dsimp only
      go_wp2_with (refine wpList_cat rfl _ _ _ _ rfl rfl rfl (by have := HL2.out; (try simp only [List.length_append, List.length_cons, List.length_nil]); omega) ?_)
      refine (qleaf_calls Q3.out.1 Q3.out.2 HO.out).mono ?_
      rintro e W4 ⟨rfl, h⟩
      have hf := Pr.leaf_fits HO.out.toks Q3.out.2 (Pr.any_kind HA.out)
      obtain ⟨⟨x4, r4⟩, hx⟩ : ∃ q, Pr.leaf tk r2 = q := ⟨_, rfl⟩
      rw [hx] at h hf ⊢
      have hb := HO.out.fits hf (by decide)
      have Q4 := Lib.hid (And.intro h hb.2)
      have HL4 := Lib.hid hb.1
      have HX4 := Lib.hid hx
      clear h hf hx hb
      dsimp only at Q4 HL4 ⊢
      go_wp2_with (refine wpList_cat rfl _ _ _ _ rfl rfl rfl (by have := HL2.out; have := HL4.out; (try simp only [List.length_append, List.length_cons, List.length_nil]); omega) ?_)
      refine (HK.out.1 _ _ Q4.out.1 Q4.out.2).mono ?_
      rintro e W5 ⟨rfl, h⟩
      have hf := HK.out.2 r4 Q4.out.2
      obtain ⟨⟨x5, r5⟩, hx⟩ : ∃ q, f r4 = q := ⟨_, rfl⟩
      rw [hx] at h hf ⊢
      have hb := HO.out.fits hf (by decide)
      have Q5 := Lib.hid (And.intro h hb.2)
      have HL5 := Lib.hid hb.1
      have HX5 := Lib.hid hx
      clear h hf hx hb
      dsimp only at Q5 HL5 ⊢
      go_wp2_with (refine wpList_cat rfl _ _ _ _ rfl rfl rfl (by have := HL2.out; have := HL4.out; have := HL5.out; (try simp only [List.length_append, List.length_cons, List.length_nil]); omega) ?_)
      go_roundg (m - 1)
      case measure => have := HM.out.1; have := HM.out.2.1; have := Q2.out.2; omega
      case rel =>
        have hgo := HM.out.2.2.2
        have hm := HM.out.2.1
        have hi2 := Q2.out.2
        obtain ⟨m2, hm2⟩ : ∃ m2, m = m2 + 1 := ⟨m - 1, by omega⟩
        rw [hm2, rowGo_more HA.out, HX4.out, HX5.out] at hgo
        have hl := Pr.leaf_fits HO.out.toks Q2.out.2 (Pr.any_kind HA.out)
        have hp := HK.out.2 _ hl.hi
        have hl2 : r2.i + 1 ≤ (Pr.leaf tk r2).2.i := by unfold Pr.leaf; rw [if_neg (Pr.any_kind HA.out)]; exact Nat.le_refl _
        rw [HX4.out] at hl hp hl2
        rw [HX5.out] at hp
        refine ⟨m - 1, Pr.bin a x4 x5, r5, by simp [Pr.bin], rfl, Q5.out.1, ?_, Pr.bin_fits HM.out.2.2.1 hl hp, ?_⟩
        · have h1 : r4.i ≤ r5.i := hp.lo
          have h2 : r2.i + 1 ≤ r4.i := hl2
          omega
        · rw [show m - 1 = m2 by omega]
          exact hgo
    · rw [Bool.not_eq_true] at b0
      by_cases b1 : Pr.is tk [45] r2 = true
      · skip
        have B0 := Lib.hid b0
        have B1 := Lib.hid b1
        have HA : Hid (Pr.any tk Ps.sSum r2 = true) := Lib.hid (by show (Ps.sSum.any fun x => Pr.is tk x r2) = _; simp only [Ps.sSum, List.any_cons, List.any_nil, B0.out, B1.out, Bool.or_true, Bool.true_or, Bool.or_false, Bool.false_or])
        clear b0 b1
        go_wp2_with (refine wpList_cat rfl _ _ _ _ rfl rfl rfl (by have := HL2.out; (try simp only [List.length_append, List.length_cons, List.length_nil]); omega) ?_)
        have hcall := qis_calls Q2.out.1 Q2.out.2 HO.out [43]
        rw [B0.out] at hcall
        refine hcall.mono ?_
        rintro e W3 ⟨rfl, h⟩
        have Q3 := Lib.hid (And.intro h Q2.out.2)
        clear h hcall
        dsimp only
        go_wp2_with (refine wpList_cat rfl _ _ _ _ rfl rfl rfl (by have := HL2.out; (try simp only [List.length_append, List.length_cons, List.length_nil]); omega) ?_)
        have hcall := qis_calls Q3.out.1 Q3.out.2 HO.out [45]
        rw [B1.out] at hcall
        refine hcall.mono ?_
        rintro e W4 ⟨rfl, h⟩
        have Q4 := Lib.hid (And.intro h Q3.out.2)
        clear h hcall
        dsimp only
        go_wp2_with (refine wpList_cat rfl _ _ _ _ rfl rfl rfl (by have := HL2.out; (try simp only [List.length_append, List.length_cons, List.length_nil]); omega) ?_)
        refine (qleaf_calls Q4.out.1 Q4.out.2 HO.out).mono ?_
        rintro e W5 ⟨rfl, h⟩
        have hf := Pr.leaf_fits HO.out.toks Q4.out.2 (Pr.any_kind HA.out)
        obtain ⟨⟨x5, r5⟩, hx⟩ : ∃ q, Pr.leaf tk r2 = q := ⟨_, rfl⟩
        rw [hx] at h hf ⊢
        have hb := HO.out.fits hf (by decide)
        have Q5 := Lib.hid (And.intro h hb.2)
        have HL5 := Lib.hid hb.1
        have HX5 := Lib.hid hx
        clear h hf hx hb
        dsimp only at Q5 HL5 ⊢
        go_wp2_with (refine wpList_cat rfl _ _ _ _ rfl rfl rfl (by have := HL2.out; have := HL5.out; (try simp only [List.length_append, List.length_cons, List.length_nil]); omega) ?_)
        refine (HK.out.1 _ _ Q5.out.1 Q5.out.2).mono ?_
        rintro e W6 ⟨rfl, h⟩
        have hf := HK.out.2 r5 Q5.out.2
        obtain ⟨⟨x6, r6⟩, hx⟩ : ∃ q, f r5 = q := ⟨_, rfl⟩
        rw [hx] at h hf ⊢
        have hb := HO.out.fits hf (by decide)
        have Q6 := Lib.hid (And.intro h hb.2)
        have HL6 := Lib.hid hb.1
        have HX6 := Lib.hid hx
        clear h hf hx hb
        dsimp only at Q6 HL6 ⊢
        go_wp2_with (refine wpList_cat rfl _ _ _ _ rfl rfl rfl (by have := HL2.out; have := HL5.out; have := HL6.out; (try simp only [List.length_append, List.length_cons, List.length_nil]); omega) ?_)
        go_roundg (m - 1)
        case measure => have := HM.out.1; have := HM.out.2.1; have := Q2.out.2; omega
        case rel =>
          have hgo := HM.out.2.2.2
          have hm := HM.out.2.1
          have hi2 := Q2.out.2
          obtain ⟨m2, hm2⟩ : ∃ m2, m = m2 + 1 := ⟨m - 1, by omega⟩
          rw [hm2, rowGo_more HA.out, HX5.out, HX6.out] at hgo
          have hl := Pr.leaf_fits HO.out.toks Q2.out.2 (Pr.any_kind HA.out)
          have hp := HK.out.2 _ hl.hi
          have hl2 : r2.i + 1 ≤ (Pr.leaf tk r2).2.i := by unfold Pr.leaf; rw [if_neg (Pr.any_kind HA.out)]; exact Nat.le_refl _
          rw [HX5.out] at hl hp hl2
          rw [HX6.out] at hp
          refine ⟨m - 1, Pr.bin a x5 x6, r6, by simp [Pr.bin], rfl, Q6.out.1, ?_, Pr.bin_fits HM.out.2.2.1 hl hp, ?_⟩
          · have h1 : r5.i ≤ r6.i := hp.lo
            have h2 : r2.i + 1 ≤ r5.i := hl2
            omega
          · rw [show m - 1 = m2 by omega]
            exact hgo
      · rw [Bool.not_eq_true] at b1
        have B0 := Lib.hid b0
        have B1 := Lib.hid b1
        have HA : Hid (Pr.any tk Ps.sSum r2 = false) := Lib.hid (by show (Ps.sSum.any fun x => Pr.is tk x r2) = _; simp only [Ps.sSum, List.any_cons, List.any_nil, B0.out, B1.out, Bool.or_true, Bool.true_or, Bool.or_false, Bool.false_or])
        clear b0 b1
        go_wp2_with (refine wpList_cat rfl _ _ _ _ rfl rfl rfl (by have := HL2.out; (try simp only [List.length_append, List.length_cons, List.length_nil]); omega) ?_)
        have hcall := qis_calls Q2.out.1 Q2.out.2 HO.out [43]
        rw [B0.out] at hcall
        refine hcall.mono ?_
        rintro e W3 ⟨rfl, h⟩
        have Q3 := Lib.hid (And.intro h Q2.out.2)
        clear h hcall
        dsimp only
        go_wp2_with (refine wpList_cat rfl _ _ _ _ rfl rfl rfl (by have := HL2.out; (try simp only [List.length_append, List.length_cons, List.length_nil]); omega) ?_)
        have hcall := qis_calls Q3.out.1 Q3.out.2 HO.out [45]
        rw [B1.out] at hcall
        refine hcall.mono ?_
        rintro e W4 ⟨rfl, h⟩
        have Q4 := Lib.hid (And.intro h Q3.out.2)
        clear h hcall
        dsimp only
        go_wp2_with (refine wpList_cat rfl _ _ _ _ rfl rfl rfl (by have := HL2.out; (try simp only [List.length_append, List.length_cons, List.length_nil]); omega) ?_)
        go_ret
        have hgo := HM.out.2.2.2
        rw [rowGo_stop _ HA.out] at hgo
        rw [← hgo]
        exact ⟨rfl, Q4.out.1⟩

set_option maxRecDepth 100000 in
set_option maxHeartbeats 4000000 in
theorem qproduct_calls (ho : QOk tk) {n : Int} {f : Pr.G} (hf : Pr.Fit tk f 0) (hk : QKnows w0 p vt tk dp 148 #[.pointer (some ⟨p, 0, none⟩), .int .i64 n] f) :
    QKnows w0 p vt tk dp 146 #[.pointer (some ⟨p, 0, none⟩), .int .i64 n] (Pr.row tk f Ps.sMul) := by
  intro W r h hi
  have HO := Lib.hid ho
  have Q0 := Lib.hid (And.intro h hi)
  have HK := Lib.hid (And.intro hk hf)
  clear ho h hi hf hk
  go_enter Tryz.func146, Tryz.ntmps146
  go_wp2_with (refine wpList_cat rfl _ _ _ _ rfl rfl rfl (by (try simp only [List.length_append, List.length_cons, List.length_nil]); omega) ?_)
  refine (HK.out.1 _ _ Q0.out.1 Q0.out.2).mono ?_
  rintro e W1 ⟨rfl, h⟩
  have hf := HK.out.2 r Q0.out.2
  obtain ⟨⟨x1, r1⟩, hx⟩ : ∃ q, f r = q := ⟨_, rfl⟩
  rw [hx] at h hf ⊢
  have hb := HO.out.fits hf (by decide)
  have Q1 := Lib.hid (And.intro h hb.2)
  have HL1 := Lib.hid hb.1
  have HX1 := Lib.hid hx
  clear h hf hx hb
  dsimp only at Q1 HL1 ⊢
  go_wp2_with (refine wpList_cat rfl _ _ _ _ rfl rfl rfl (by have := HL1.out; (try simp only [List.length_append, List.length_cons, List.length_nil]); omega) ?_)
  have e0 : Pr.row tk f Ps.sMul r = Pr.rowGo tk f Ps.sMul tk.length x1 r1 := by unfold Pr.row; rw [HX1.out]
  go_loopg [5] tk.length (fun k v5 wr => ∃ (m : Nat) (a : List UInt8) (r2 : Pr.Rs), v5 = .string ⟨a.toArray⟩ ∧ k = m ∧ QI w0 wr p vt tk dp r2 ∧ tk.length ≤ m + r2.i ∧ Pr.Fits tk r (a, r2) 0 ∧ Pr.rowGo tk f Ps.sMul m a r2 = Pr.row tk f Ps.sMul r)
  case atStart =>
    have hf := HK.out.2 r Q0.out.2
    rw [HX1.out] at hf
    exact ⟨tk.length, x1, r1, rfl, rfl, Q1.out.1, by omega, hf, e0.symm⟩
  case round =>
    obtain ⟨m, a, r2, rfl, hkm, h2, hm, hft, hgo⟩ := hrel
    have Q2 := Lib.hid (And.intro h2 hft.hi)
    have HM := Lib.hid (And.intro hkm (And.intro hm (And.intro hft hgo)))
    have HL2 : Hid (a.length ≤ 1000001000) := Lib.hid (HO.out.fits hft (by decide)).1
    clear hkm h2 hm hft hgo e0
    by_cases b0 : Pr.is tk [42] r2 = true
    · skip
      have B0 := Lib.hid b0
      have HA : Hid (Pr.any tk Ps.sMul r2 = true) := Lib.hid (by show (Ps.sMul.any fun x => Pr.is tk x r2) = _; simp only [Ps.sMul, List.any_cons, List.any_nil, B0.out, Bool.or_true, Bool.true_or, Bool.or_false, Bool.false_or])
      clear b0
      go_wp2_with (refine wpList_cat rfl _ _ _ _ rfl rfl rfl (by have := HL2.out; (try simp only [List.length_append, List.length_cons, List.length_nil]); omega) ?_)
      have hcall := qis_calls Q2.out.1 Q2.out.2 HO.out [42]
      rw [B0.out] at hcall
      refine hcall.mono ?_
      rintro e W3 ⟨rfl, h⟩
      have Q3 := Lib.hid (And.intro h Q2.out.2)
      clear h hcall
      dsimp only
      go_wp2_with (refine wpList_cat rfl _ _ _ _ rfl rfl rfl (by have := HL2.out; (try simp only [List.length_append, List.length_cons, List.length_nil]); omega) ?_)
      refine (qleaf_calls Q3.out.1 Q3.out.2 HO.out).mono ?_
      rintro e W4 ⟨rfl, h⟩
      have hf := Pr.leaf_fits HO.out.toks Q3.out.2 (Pr.any_kind HA.out)
      obtain ⟨⟨x4, r4⟩, hx⟩ : ∃ q, Pr.leaf tk r2 = q := ⟨_, rfl⟩
      rw [hx] at h hf ⊢
      have hb := HO.out.fits hf (by decide)
      have Q4 := Lib.hid (And.intro h hb.2)
      have HL4 := Lib.hid hb.1
      have HX4 := Lib.hid hx
      clear h hf hx hb
      dsimp only at Q4 HL4 ⊢
      go_wp2_with (refine wpList_cat rfl _ _ _ _ rfl rfl rfl (by have := HL2.out; have := HL4.out; (try simp only [List.length_append, List.length_cons, List.length_nil]); omega) ?_)
      refine (HK.out.1 _ _ Q4.out.1 Q4.out.2).mono ?_
      rintro e W5 ⟨rfl, h⟩
      have hf := HK.out.2 r4 Q4.out.2
      obtain ⟨⟨x5, r5⟩, hx⟩ : ∃ q, f r4 = q := ⟨_, rfl⟩
      rw [hx] at h hf ⊢
      have hb := HO.out.fits hf (by decide)
      have Q5 := Lib.hid (And.intro h hb.2)
      have HL5 := Lib.hid hb.1
      have HX5 := Lib.hid hx
      clear h hf hx hb
      dsimp only at Q5 HL5 ⊢
      go_wp2_with (refine wpList_cat rfl _ _ _ _ rfl rfl rfl (by have := HL2.out; have := HL4.out; have := HL5.out; (try simp only [List.length_append, List.length_cons, List.length_nil]); omega) ?_)
      go_roundg (m - 1)
      case measure => have := HM.out.1; have := HM.out.2.1; have := Q2.out.2; omega
      case rel =>
        have hgo := HM.out.2.2.2
        have hm := HM.out.2.1
        have hi2 := Q2.out.2
        obtain ⟨m2, hm2⟩ : ∃ m2, m = m2 + 1 := ⟨m - 1, by omega⟩
        rw [hm2, rowGo_more HA.out, HX4.out, HX5.out] at hgo
        have hl := Pr.leaf_fits HO.out.toks Q2.out.2 (Pr.any_kind HA.out)
        have hp := HK.out.2 _ hl.hi
        have hl2 : r2.i + 1 ≤ (Pr.leaf tk r2).2.i := by unfold Pr.leaf; rw [if_neg (Pr.any_kind HA.out)]; exact Nat.le_refl _
        rw [HX4.out] at hl hp hl2
        rw [HX5.out] at hp
        refine ⟨m - 1, Pr.bin a x4 x5, r5, by simp [Pr.bin], rfl, Q5.out.1, ?_, Pr.bin_fits HM.out.2.2.1 hl hp, ?_⟩
        · have h1 : r4.i ≤ r5.i := hp.lo
          have h2 : r2.i + 1 ≤ r4.i := hl2
          omega
        · rw [show m - 1 = m2 by omega]
          exact hgo
    · rw [Bool.not_eq_true] at b0
      by_cases b1 : Pr.is tk [47] r2 = true
      · skip
        have B0 := Lib.hid b0
        have B1 := Lib.hid b1
        have HA : Hid (Pr.any tk Ps.sMul r2 = true) := Lib.hid (by show (Ps.sMul.any fun x => Pr.is tk x r2) = _; simp only [Ps.sMul, List.any_cons, List.any_nil, B0.out, B1.out, Bool.or_true, Bool.true_or, Bool.or_false, Bool.false_or])
        clear b0 b1
        go_wp2_with (refine wpList_cat rfl _ _ _ _ rfl rfl rfl (by have := HL2.out; (try simp only [List.length_append, List.length_cons, List.length_nil]); omega) ?_)
        have hcall := qis_calls Q2.out.1 Q2.out.2 HO.out [42]
        rw [B0.out] at hcall
        refine hcall.mono ?_
        rintro e W3 ⟨rfl, h⟩
        have Q3 := Lib.hid (And.intro h Q2.out.2)
        clear h hcall
        dsimp only
        go_wp2_with (refine wpList_cat rfl _ _ _ _ rfl rfl rfl (by have := HL2.out; (try simp only [List.length_append, List.length_cons, List.length_nil]); omega) ?_)
        have hcall := qis_calls Q3.out.1 Q3.out.2 HO.out [47]
        rw [B1.out] at hcall
        refine hcall.mono ?_
        rintro e W4 ⟨rfl, h⟩
        have Q4 := Lib.hid (And.intro h Q3.out.2)
        clear h hcall
        dsimp only
        go_wp2_with (refine wpList_cat rfl _ _ _ _ rfl rfl rfl (by have := HL2.out; (try simp only [List.length_append, List.length_cons, List.length_nil]); omega) ?_)
        refine (qleaf_calls Q4.out.1 Q4.out.2 HO.out).mono ?_
        rintro e W5 ⟨rfl, h⟩
        have hf := Pr.leaf_fits HO.out.toks Q4.out.2 (Pr.any_kind HA.out)
        obtain ⟨⟨x5, r5⟩, hx⟩ : ∃ q, Pr.leaf tk r2 = q := ⟨_, rfl⟩
        rw [hx] at h hf ⊢
        have hb := HO.out.fits hf (by decide)
        have Q5 := Lib.hid (And.intro h hb.2)
        have HL5 := Lib.hid hb.1
        have HX5 := Lib.hid hx
        clear h hf hx hb
        dsimp only at Q5 HL5 ⊢
        go_wp2_with (refine wpList_cat rfl _ _ _ _ rfl rfl rfl (by have := HL2.out; have := HL5.out; (try simp only [List.length_append, List.length_cons, List.length_nil]); omega) ?_)
        refine (HK.out.1 _ _ Q5.out.1 Q5.out.2).mono ?_
        rintro e W6 ⟨rfl, h⟩
        have hf := HK.out.2 r5 Q5.out.2
        obtain ⟨⟨x6, r6⟩, hx⟩ : ∃ q, f r5 = q := ⟨_, rfl⟩
        rw [hx] at h hf ⊢
        have hb := HO.out.fits hf (by decide)
        have Q6 := Lib.hid (And.intro h hb.2)
        have HL6 := Lib.hid hb.1
        have HX6 := Lib.hid hx
        clear h hf hx hb
        dsimp only at Q6 HL6 ⊢
        go_wp2_with (refine wpList_cat rfl _ _ _ _ rfl rfl rfl (by have := HL2.out; have := HL5.out; have := HL6.out; (try simp only [List.length_append, List.length_cons, List.length_nil]); omega) ?_)
        go_roundg (m - 1)
        case measure => have := HM.out.1; have := HM.out.2.1; have := Q2.out.2; omega
        case rel =>
          have hgo := HM.out.2.2.2
          have hm := HM.out.2.1
          have hi2 := Q2.out.2
          obtain ⟨m2, hm2⟩ : ∃ m2, m = m2 + 1 := ⟨m - 1, by omega⟩
          rw [hm2, rowGo_more HA.out, HX5.out, HX6.out] at hgo
          have hl := Pr.leaf_fits HO.out.toks Q2.out.2 (Pr.any_kind HA.out)
          have hp := HK.out.2 _ hl.hi
          have hl2 : r2.i + 1 ≤ (Pr.leaf tk r2).2.i := by unfold Pr.leaf; rw [if_neg (Pr.any_kind HA.out)]; exact Nat.le_refl _
          rw [HX5.out] at hl hp hl2
          rw [HX6.out] at hp
          refine ⟨m - 1, Pr.bin a x5 x6, r6, by simp [Pr.bin], rfl, Q6.out.1, ?_, Pr.bin_fits HM.out.2.2.1 hl hp, ?_⟩
          · have h1 : r5.i ≤ r6.i := hp.lo
            have h2 : r2.i + 1 ≤ r5.i := hl2
            omega
          · rw [show m - 1 = m2 by omega]
            exact hgo
      · rw [Bool.not_eq_true] at b1
        by_cases b2 : Pr.is tk [37] r2 = true
        · skip
          have B0 := Lib.hid b0
          have B1 := Lib.hid b1
          have B2 := Lib.hid b2
          have HA : Hid (Pr.any tk Ps.sMul r2 = true) := Lib.hid (by show (Ps.sMul.any fun x => Pr.is tk x r2) = _; simp only [Ps.sMul, List.any_cons, List.any_nil, B0.out, B1.out, B2.out, Bool.or_true, Bool.true_or, Bool.or_false, Bool.false_or])
          clear b0 b1 b2
          go_wp2_with (refine wpList_cat rfl _ _ _ _ rfl rfl rfl (by have := HL2.out; (try simp only [List.length_append, List.length_cons, List.length_nil]); omega) ?_)
          have hcall := qis_calls Q2.out.1 Q2.out.2 HO.out [42]
          rw [B0.out] at hcall
          refine hcall.mono ?_
          rintro e W3 ⟨rfl, h⟩
          have Q3 := Lib.hid (And.intro h Q2.out.2)
          clear h hcall
          dsimp only
          go_wp2_with (refine wpList_cat rfl _ _ _ _ rfl rfl rfl (by have := HL2.out; (try simp only [List.length_append, List.length_cons, List.length_nil]); omega) ?_)
          have hcall := qis_calls Q3.out.1 Q3.out.2 HO.out [47]
          rw [B1.out] at hcall
          refine hcall.mono ?_
          rintro e W4 ⟨rfl, h⟩
          have Q4 := Lib.hid (And.intro h Q3.out.2)
          clear h hcall
          dsimp only
          go_wp2_with (refine wpList_cat rfl _ _ _ _ rfl rfl rfl (by have := HL2.out; (try simp only [List.length_append, List.length_cons, List.length_nil]); omega) ?_)
          have hcall := qis_calls Q4.out.1 Q4.out.2 HO.out [37]
          rw [B2.out] at hcall
          refine hcall.mono ?_
          rintro e W5 ⟨rfl, h⟩
          have Q5 := Lib.hid (And.intro h Q4.out.2)
          clear h hcall
          dsimp only
          go_wp2_with (refine wpList_cat rfl _ _ _ _ rfl rfl rfl (by have := HL2.out; (try simp only [List.length_append, List.length_cons, List.length_nil]); omega) ?_)
          refine (qleaf_calls Q5.out.1 Q5.out.2 HO.out).mono ?_
          rintro e W6 ⟨rfl, h⟩
          have hf := Pr.leaf_fits HO.out.toks Q5.out.2 (Pr.any_kind HA.out)
          obtain ⟨⟨x6, r6⟩, hx⟩ : ∃ q, Pr.leaf tk r2 = q := ⟨_, rfl⟩
          rw [hx] at h hf ⊢
          have hb := HO.out.fits hf (by decide)
          have Q6 := Lib.hid (And.intro h hb.2)
          have HL6 := Lib.hid hb.1
          have HX6 := Lib.hid hx
          clear h hf hx hb
          dsimp only at Q6 HL6 ⊢
          go_wp2_with (refine wpList_cat rfl _ _ _ _ rfl rfl rfl (by have := HL2.out; have := HL6.out; (try simp only [List.length_append, List.length_cons, List.length_nil]); omega) ?_)
          refine (HK.out.1 _ _ Q6.out.1 Q6.out.2).mono ?_
          rintro e W7 ⟨rfl, h⟩
          have hf := HK.out.2 r6 Q6.out.2
          obtain ⟨⟨x7, r7⟩, hx⟩ : ∃ q, f r6 = q := ⟨_, rfl⟩
          rw [hx] at h hf ⊢
          have hb := HO.out.fits hf (by decide)
          have Q7 := Lib.hid (And.intro h hb.2)
          have HL7 := Lib.hid hb.1
          have HX7 := Lib.hid hx
          clear h hf hx hb
          dsimp only at Q7 HL7 ⊢
          go_wp2_with (refine wpList_cat rfl _ _ _ _ rfl rfl rfl (by have := HL2.out; have := HL6.out; have := HL7.out; (try simp only [List.length_append, List.length_cons, List.length_nil]); omega) ?_)
          go_roundg (m - 1)
          case measure => have := HM.out.1; have := HM.out.2.1; have := Q2.out.2; omega
          case rel =>
            have hgo := HM.out.2.2.2
            have hm := HM.out.2.1
            have hi2 := Q2.out.2
            obtain ⟨m2, hm2⟩ : ∃ m2, m = m2 + 1 := ⟨m - 1, by omega⟩
            rw [hm2, rowGo_more HA.out, HX6.out, HX7.out] at hgo
            have hl := Pr.leaf_fits HO.out.toks Q2.out.2 (Pr.any_kind HA.out)
            have hp := HK.out.2 _ hl.hi
            have hl2 : r2.i + 1 ≤ (Pr.leaf tk r2).2.i := by unfold Pr.leaf; rw [if_neg (Pr.any_kind HA.out)]; exact Nat.le_refl _
            rw [HX6.out] at hl hp hl2
            rw [HX7.out] at hp
            refine ⟨m - 1, Pr.bin a x6 x7, r7, by simp [Pr.bin], rfl, Q7.out.1, ?_, Pr.bin_fits HM.out.2.2.1 hl hp, ?_⟩
            · have h1 : r6.i ≤ r7.i := hp.lo
              have h2 : r2.i + 1 ≤ r6.i := hl2
              omega
            · rw [show m - 1 = m2 by omega]
              exact hgo
        · rw [Bool.not_eq_true] at b2
          have B0 := Lib.hid b0
          have B1 := Lib.hid b1
          have B2 := Lib.hid b2
          have HA : Hid (Pr.any tk Ps.sMul r2 = false) := Lib.hid (by show (Ps.sMul.any fun x => Pr.is tk x r2) = _; simp only [Ps.sMul, List.any_cons, List.any_nil, B0.out, B1.out, B2.out, Bool.or_true, Bool.true_or, Bool.or_false, Bool.false_or])
          clear b0 b1 b2
          go_wp2_with (refine wpList_cat rfl _ _ _ _ rfl rfl rfl (by have := HL2.out; (try simp only [List.length_append, List.length_cons, List.length_nil]); omega) ?_)
          have hcall := qis_calls Q2.out.1 Q2.out.2 HO.out [42]
          rw [B0.out] at hcall
          refine hcall.mono ?_
          rintro e W3 ⟨rfl, h⟩
          have Q3 := Lib.hid (And.intro h Q2.out.2)
          clear h hcall
          dsimp only
          go_wp2_with (refine wpList_cat rfl _ _ _ _ rfl rfl rfl (by have := HL2.out; (try simp only [List.length_append, List.length_cons, List.length_nil]); omega) ?_)
          have hcall := qis_calls Q3.out.1 Q3.out.2 HO.out [47]
          rw [B1.out] at hcall
          refine hcall.mono ?_
          rintro e W4 ⟨rfl, h⟩
          have Q4 := Lib.hid (And.intro h Q3.out.2)
          clear h hcall
          dsimp only
          go_wp2_with (refine wpList_cat rfl _ _ _ _ rfl rfl rfl (by have := HL2.out; (try simp only [List.length_append, List.length_cons, List.length_nil]); omega) ?_)
          have hcall := qis_calls Q4.out.1 Q4.out.2 HO.out [37]
          rw [B2.out] at hcall
          refine hcall.mono ?_
          rintro e W5 ⟨rfl, h⟩
          have Q5 := Lib.hid (And.intro h Q4.out.2)
          clear h hcall
          dsimp only
          go_wp2_with (refine wpList_cat rfl _ _ _ _ rfl rfl rfl (by have := HL2.out; (try simp only [List.length_append, List.length_cons, List.length_nil]); omega) ?_)
          go_ret
          have hgo := HM.out.2.2.2
          rw [rowGo_stop _ HA.out] at hgo
          rw [← hgo]
          exact ⟨rfl, Q5.out.1⟩
end
end Go.Proofs.YtpkhdlnlkeehhaaGreatDoor
