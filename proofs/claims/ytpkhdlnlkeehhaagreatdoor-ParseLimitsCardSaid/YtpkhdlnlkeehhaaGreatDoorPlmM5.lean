/- Contracts and plain laws, in one text. Plain: how far the document's parser goes, and how long its texts grow. No program in sight. | The document's parser in memory: fail, is, leaf, must, kind, nest: the walks. | ParseLimits: the closure that notes the first fault: the walk. | Plain law: a text's tokens are the text; at least one stands there, the last one the end. No program in sight. | ParseLimits: the text that it builds, and its tokens. No program in sight. | Plain: the two parsers, level by level. No program in sight. | Plain: definitions and programs: the two parsers side by side; a parsed tree is right. No program in sight. -/
import Derived.Test.YtpkhdlnlkeehhaaGreatDoorPlmM4
import Derived.Test.YtpkhdlnlkeehhaaGreatDoorPlmM2
import Derived.Test.YtpkhdlnlkeehhaaGreatDoorPlmM1
/- Plain: how far the document's parser goes, and how long its texts grow. No program in sight. -/
namespace Go.Proofs.YtpkhdlnlkeehhaaGreatDoor.Pr
open Tr Ps

/-- What the tokens ahead of a place may come to. -/
def Wt (tk : List Tk) : Nat → Nat
  | 0 => 0
  | i + 1 => Wt tk i + (tok tk i).text.length + 12
theorem Wt_le (tk : List Tk) {i j : Nat} (h : i ≤ j) : Wt tk i ≤ Wt tk j := by
  induction j with
  | zero => exact Nat.le_of_eq (by rw [Nat.le_zero.1 h])
  | succ j ih =>
    rcases Nat.lt_or_ge i (j + 1) with h1 | h1
    · have := ih (by omega)
      simp only [Wt]
      omega
    · obtain rfl : i = j + 1 := by omega
      exact Nat.le_refl _
/-- From one state to another, with a text. -/
structure Fits (tk : List Tk) (r : Rs) (q : Txt × Rs) (c : Int) : Prop where
  lo : r.i ≤ q.2.i
  hi : q.2.i < tk.length
  len : (q.1.length : Int) + Wt tk r.i ≤ Wt tk q.2.i + c
def Fit (tk : List Tk) (f : G) (c : Int) : Prop := ∀ r, r.i < tk.length → Fits tk r (f r) c

section
variable {tk : List Tk}
theorem fail_i (e : Int) (s : Rs) : (fail tk e s).i = s.i := by unfold fail; split <;> rfl
theorem Fits.mono {r : Rs} {q : Txt × Rs} {c d : Int} (h : Fits tk r q c) (hcd : c ≤ d) : Fits tk r q d := ⟨h.lo, h.hi, by have := h.len; omega⟩
theorem Fits.start {r : Rs} (hr : r.i < tk.length) : Fits tk r ([], r) 0 := ⟨Nat.le_refl _, hr, by simp⟩
/-- Another text of a state. -/
theorem Fits.text {r : Rs} {x y : Txt} {s : Rs} {c d : Int} (h : Fits tk r (x, s) c) (hy : (y.length : Int) ≤ x.length + d) : Fits tk r (y, s) (c + d) := ⟨h.lo, h.hi, by have := h.len; simp only at *; omega⟩
theorem Fits.empty {r : Rs} {x : Txt} {s : Rs} {c : Int} (h : Fits tk r (x, s) c) : Fits tk r ([], s) 0 := ⟨h.lo, h.hi, by have h1 : Wt tk r.i ≤ Wt tk s.i := Wt_le tk h.lo; show ((0 : Nat) : Int) + _ ≤ (Wt tk s.i : Int) + 0; omega⟩
theorem Fits.state {r : Rs} {x : Txt} {s s' : Rs} {c : Int} (h : Fits tk r (x, s) c) (hs : s'.i = s.i) : Fits tk r (x, s') c := ⟨by rw [hs]; exact h.lo, by rw [hs]; exact h.hi, by rw [hs]; exact h.len⟩
theorem Fits.then {r : Rs} {x : Txt} {s : Rs} {c d : Int} (h : Fits tk r (x, s) c) {q : Txt × Rs} (k : Fits tk s q d) : Fits tk r (x ++ q.1, q.2) (c + d) :=
  ⟨Nat.le_trans h.lo k.lo, k.hi, by have := h.len; have := k.len; simp only [List.length_append] at *; omega⟩
theorem is_kind {x : Txt} {s : Rs} (h : is tk x s = true) : (tok tk s.i).kind ≠ 5 ∧ s.e = 0 := by
  unfold is at h
  simp only [Bool.and_eq_true, Bool.or_eq_true, decide_eq_true_eq] at h
  exact ⟨by omega, h.1.1⟩
theorem any_kind {ts : List Txt} {s : Rs} (h : any tk ts s = true) : (tok tk s.i).kind ≠ 5 := by
  unfold any at h
  rw [List.any_eq_true] at h
  obtain ⟨x, _, hx⟩ := h
  exact (is_kind hx).1
theorem leaf_fits (ht : Pc.Toks tk) {s : Rs} (hs : s.i < tk.length) (hk : (tok tk s.i).kind ≠ 5) : Fits tk s (leaf tk s) (-11) := by
  unfold leaf
  rw [if_neg hk]
  have h1 : s.i + 1 < tk.length := by
    rcases Nat.lt_or_ge (s.i + 1) tk.length with h | h
    · exact h
    · exfalso
      have hi : tk[tk.length - 1]? = some (tok tk s.i) := by
        unfold tok
        rw [show tk.length - 1 = s.i by omega, List.getElem?_eq_getElem hs]
        rfl
      exact hk (ht.last _ hi).1
  refine ⟨Nat.le_succ _, h1, ?_⟩
  simp only [Wt, List.length_cons]
  omega
theorem leaf_end {s : Rs} (hs : s.i < tk.length) (hk : (tok tk s.i).kind = 5) : Fits tk s (leaf tk s) 2 := by
  unfold leaf
  rw [if_pos hk]
  exact ⟨Nat.le_refl _, hs, by simp only [List.length_cons, List.length_nil]; omega⟩
theorem must_fits (ht : Pc.Toks tk) (x : Txt) : Fit tk (must tk x) 0 := by
  intro s hs
  unfold must
  split
  · rename_i h
    exact (leaf_fits ht hs (is_kind h).1).mono (by omega)
  · exact (Fits.start hs).state (fail_i _ _)
theorem kind_fits (ht : Pc.Toks tk) (k : Int) : Fit tk (kind tk k) 2 := by
  intro s hs
  unfold kind
  split
  · rename_i h
    by_cases h5 : (tok tk s.i).kind = 5
    · exact leaf_end hs h5
    · exact (leaf_fits ht hs h5).mono (by omega)
  · exact ((Fits.start hs).state (fail_i _ _)).mono (by omega)
theorem kind_fits0 (ht : Pc.Toks tk) {k : Int} (h5 : k ≠ 5) : Fit tk (kind tk k) 0 := by
  intro s hs
  unfold kind
  split
  · rename_i h
    exact (leaf_fits ht hs (by rw [h.2]; exact h5)).mono (by omega)
  · exact (Fits.start hs).state (fail_i _ _)
theorem nest_i (d : Nat) (s : Rs) : (nest tk d s).i = s.i := by
  unfold nest
  split
  · exact fail_i _ _
  · rfl
theorem bin_fits {r s u v : Rs} {a g b : Txt} (h1 : Fits tk r (a, s) 0) (h2 : Fits tk s (g, u) (-11)) (h3 : Fits tk u (b, v) 0) : Fits tk r (bin a g b, v) 0 :=
  ((((h1.then h2).then h3).text (y := bin a g b) (d := 5) (by simp [bin]; omega))).mono (by omega)
theorem unary_fits (ht : Pc.Toks tk) {d : Nat} {f : G} (hf : d ≠ 0 → Fit tk f 0) {s : Rs} (hs : s.i < tk.length) (hk : (tok tk s.i).kind ≠ 5) : Fits tk s (unary tk d f s) 0 := by
  have h1 := leaf_fits ht hs hk
  unfold unary
  simp only
  have h2 : Fits tk s ((leaf tk s).1, nest tk d (leaf tk s).2) (-11) := Fits.state (s := (leaf tk s).2) h1 (nest_i _ _)
  split
  · rename_i he
    by_cases hd : d = 0
    · exfalso
      subst hd
      unfold nest at he
      rw [if_pos rfl] at he
      unfold fail at he
      split at he
      · exact absurd (show (23 : Int) = 0 from he) (by decide)
      · rename_i h0; exact h0 he
    · exact ((h2.then (hf hd _ h2.hi)).text (y := [32, 40, 49, 49] ++ (leaf tk s).1 ++ (f (nest tk d (leaf tk s).2)).1 ++ [41]) (d := 5) (by simp; omega)).mono (by omega)
  · exact h2.empty
theorem rowGo_fits (ht : Pc.Toks tk) {part : G} (hp : Fit tk part 0) (ts : List Txt) {r : Rs} : ∀ (n : Nat) (a : Txt) (s : Rs), Fits tk r (a, s) 0 → Fits tk r (rowGo tk part ts n a s) 0
  | 0, a, s, h => h
  | n + 1, a, s, h => by
    unfold rowGo
    split
    · rename_i hk
      have h2 := leaf_fits ht h.hi (any_kind hk)
      exact rowGo_fits ht hp ts n _ _ (bin_fits h h2 (hp _ h2.hi))
    · exact h
theorem row_fits (ht : Pc.Toks tk) {part : G} (hp : Fit tk part 0) (ts : List Txt) : Fit tk (row tk part ts) 0 := fun s hs => rowGo_fits ht hp ts _ _ _ (hp s hs)
theorem argsGo_fits (ht : Pc.Toks tk) {ex : G} {c0 : Int} (h0 : c0 ≤ 11) (hx : Fit tk ex c0) {r : Rs} {c : Int} : ∀ (n k : Nat) (a : Txt) (s : Rs), Fits tk r (a, s) c → Fits tk r (argsGo tk ex n k a s) c
  | 0, _, a, s, h => h
  | n + 1, k, a, s, h => by
    unfold argsGo
    split
    · rename_i hk
      have h2 := leaf_fits ht h.hi (is_kind hk).1
      have h3 := (h.then h2).state (s' := if k = 8 then fail tk 15 (leaf tk s).2 else (leaf tk s).2) (by split; exact fail_i _ _; rfl)
      exact argsGo_fits ht h0 hx n _ _ _ ((h3.then (hx _ h3.hi)).mono (by omega))
    · exact h
theorem args_fits (ht : Pc.Toks tk) {ex : G} {c0 : Int} (h0 : c0 ≤ 11) (hx : Fit tk ex c0) : Fit tk (args tk ex) c0 := fun s hs => argsGo_fits ht h0 hx _ _ _ _ (hx s hs)
structure FitV (tk : List Tk) (d : Nat) (lo : Lv) : Prop where
  ex : Fit tk lo.ex 0
  rest : d ≠ 0 → Fit tk lo.fo 0 ∧ Fit tk lo.ne 0 ∧ Fit tk lo.fa 0
theorem callee_fits (ht : Pc.Toks tk) {r s : Rs} {a : Txt} {c : Int} (h : Fits tk r (a, s) c) : Fits tk r (callee tk a s) c := by
  unfold callee
  split
  · rename_i hk
    have h2 := leaf_fits ht h.hi (is_kind hk).1
    have h3 := h2.then (kind_fits0 ht (k := 1) (by decide) _ h2.hi)
    exact (h.then h3).mono (by omega)
  · exact h
theorem call_fits (ht : Pc.Toks tk) {ex : G} (hx : Fit tk ex 0) {r s : Rs} {a : Txt} {c : Int} (h : Fits tk r (a, s) c) : Fits tk r (call tk ex a s) (c + 5) := by
  unfold call
  simp only
  have h1 := h.then (must_fits ht [40] s h.hi)
  have h2 : Fits tk r (if is tk [41] (must tk [40] s).2 = true then (a ++ (must tk [40] s).1, (must tk [40] s).2) else (a ++ (must tk [40] s).1 ++ (args tk ex (must tk [40] s).2).1, (args tk ex (must tk [40] s).2).2)) c := by
    split
    · exact h1.mono (by omega)
    · exact (h1.then (args_fits ht (by decide) hx _ h1.hi)).mono (by omega)
  generalize (if is tk [41] (must tk [40] s).2 = true then (a ++ (must tk [40] s).1, (must tk [40] s).2) else (a ++ (must tk [40] s).1 ++ (args tk ex (must tk [40] s).2).1, (args tk ex (must tk [40] s).2).2)) = ls at h2 ⊢
  have h3 := Fits.then (x := ls.1) (s := ls.2) h2 (must_fits ht [41] ls.2 h2.hi)
  exact (h3.text (y := [32, 40, 49, 51] ++ ls.1 ++ (must tk [41] ls.2).1 ++ [41]) (d := 5) (by simp; omega)).mono (by omega)
theorem atom_fits (ht : Pc.Toks tk) {ex : G} (hx : Fit tk ex 0) : Fit tk (atom tk ex) 0 := by
  intro s hs
  unfold atom
  split
  · split
    · rename_i h3
      have h := leaf_fits ht hs (by rw [h3]; decide)
      exact (Fits.text (x := (leaf tk s).1) (s := (leaf tk s).2) h (y := [32, 40, 49, 53] ++ (leaf tk s).1 ++ [41]) (d := 5) (by simp; omega)).mono (by omega)
    · split
      · rename_i hk
        have hk5 : (tok tk s.i).kind ≠ 5 := by
          rcases Bool.or_eq_true _ _ ▸ hk with hk | hk
          · exact (is_kind hk).1
          · exact (is_kind hk).1
        have h := leaf_fits ht hs hk5
        exact (Fits.text (x := (leaf tk s).1) (s := (leaf tk s).2) h (y := [32, 40, 49, 54] ++ (leaf tk s).1 ++ [41]) (d := 5) (by simp; omega)).mono (by omega)
      · split
        · rename_i hk
          have h := leaf_fits ht hs (is_kind (Bool.and_eq_true _ _ ▸ hk).2).1
          exact (Fits.text (x := (leaf tk s).1) (s := (leaf tk s).2) h (y := [32, 40, 49, 55] ++ (leaf tk s).1 ++ [41]) (d := 5) (by simp; omega)).mono (by omega)
        · split
          · rename_i hk
            have h := leaf_fits ht hs (is_kind hk).1
            have h2 := Fits.then (x := (leaf tk s).1) (s := (leaf tk s).2) h (hx _ h.hi)
            have h3 := h2.then (must_fits ht [41] _ h2.hi)
            exact (h3.text (y := [32, 40, 49, 50] ++ (leaf tk s).1 ++ (ex (leaf tk s).2).1 ++ (must tk [41] (ex (leaf tk s).2).2).1 ++ [41]) (d := 5) (by simp; omega)).mono (by omega)
          · split
            · rename_i hk
              have h : Fits tk s ((leaf tk s).1, (leaf tk s).2) (-11) := leaf_fits ht hs (by rw [hk]; decide)
              unfold name
              simp only
              split
              · exact (h.text (y := [32, 40, 49, 52] ++ (leaf tk s).1 ++ [41]) (d := 5) (by simp; omega)).mono (by omega)
              · exact (call_fits ht hx (callee_fits ht h)).mono (by omega)
            · exact (Fits.start hs).state (fail_i _ _)
  · exact Fits.start hs
theorem factor_fits (ht : Pc.Toks tk) {d : Nat} {lo : Lv} (h : FitV tk d lo) : Fit tk (factor tk d lo) 0 := by
  intro s hs
  unfold factor
  split
  · rename_i hk
    exact unary_fits ht (fun hd => (h.rest hd).2.2) hs (is_kind hk).1
  · exact atom_fits ht h.ex s hs
theorem sum_fits (ht : Pc.Toks tk) {d : Nat} {lo : Lv} (h : FitV tk d lo) : Fit tk (sum tk d lo) 0 := row_fits ht (row_fits ht (factor_fits ht h) sMul) sSum
theorem not_fits (ht : Pc.Toks tk) {d : Nat} {lo : Lv} (h : FitV tk d lo) : Fit tk (not tk d lo) 0 := by
  intro s hs
  unfold not
  split
  · rename_i hk
    exact unary_fits ht (fun hd => (h.rest hd).2.1) hs (is_kind hk).1
  · simp only
    have h1 := sum_fits ht h s hs
    split
    · rename_i hk
      have h2 := leaf_fits ht h1.hi (any_kind hk)
      exact bin_fits h1 h2 (sum_fits ht h _ h2.hi)
    · exact h1
theorem formula_fits (ht : Pc.Toks tk) {d : Nat} {lo : Lv} (h : FitV tk d lo) : Fit tk (formula tk d lo) 0 := by
  intro s hs
  have h1 : Fits tk s (or tk d lo s) 0 := row_fits ht (row_fits ht (not_fits ht h) sAnd) sOr s hs
  unfold formula
  simp only
  split
  · rename_i hk
    have h2 := leaf_fits ht h1.hi (is_kind hk).1
    have h3 : Fits tk (or tk d lo s).2 ((leaf tk (or tk d lo s).2).1, nest tk d (leaf tk (or tk d lo s).2).2) (-11) := Fits.state (s := (leaf tk (or tk d lo s).2).2) h2 (nest_i _ _)
    split
    · rename_i he
      by_cases hd : d = 0
      · exfalso
        subst hd
        unfold nest at he
        rw [if_pos rfl] at he
        unfold fail at he
        split at he
        · exact absurd (show (23 : Int) = 0 from he) (by decide)
        · rename_i h0; exact h0 he
      · exact bin_fits h1 h3 ((h.rest hd).1 _ h3.hi)
    · exact (Fits.then (x := (or tk d lo s).1) (s := (or tk d lo s).2) h1 h3).empty
  · exact h1
theorem express_fits (ht : Pc.Toks tk) {d : Nat} {lo : Lv} (h : FitV tk d lo) : Fit tk (express tk d lo) 0 := by
  intro s hs
  have hx := h.ex
  unfold express
  split
  · split
    · rename_i hk
      have a := leaf_fits ht hs (is_kind (Bool.and_eq_true _ _ ▸ hk).2).1
      have b := Fits.then (x := (leaf tk s).1) (s := (leaf tk s).2) a (kind_fits0 ht (k := 1) (by decide) _ a.hi)
      have c := b.then (must_fits ht [61] _ b.hi)
      have e := c.then (hx _ c.hi)
      have f := e.then (must_fits ht tIn _ e.hi)
      have g := f.then (hx _ f.hi)
      unfold exLet
      exact (g.text (d := 4) (by simp; omega)).mono (by omega)
    · split
      · rename_i hk
        have a := leaf_fits ht hs (is_kind (Bool.and_eq_true _ _ ▸ hk).2).1
        have b := Fits.then (x := (leaf tk s).1) (s := (leaf tk s).2) a (hx _ a.hi)
        have c := b.then (must_fits ht tThen _ b.hi)
        have e := c.then (hx _ c.hi)
        have f := e.then (must_fits ht tElse _ e.hi)
        have g := f.then (hx _ f.hi)
        unfold exIf
        exact (g.text (d := 4) (by simp; omega)).mono (by omega)
      · split
        · rename_i hk
          have a := leaf_fits ht hs (is_kind (Bool.and_eq_true _ _ ▸ hk).2).1
          have b := Fits.then (x := (leaf tk s).1) (s := (leaf tk s).2) a (hx _ a.hi)
          have c := b.then (must_fits ht tIn _ b.hi)
          have e := c.then (hx _ c.hi)
          unfold exAssert
          exact (e.text (d := 4) (by simp; omega)).mono (by omega)
        · exact formula_fits ht h s hs
  · exact Fits.start hs
theorem lv_fits (ht : Pc.Toks tk) : ∀ d : Nat, FitV tk d (lv tk d)
  | 0 => ⟨fun s hs => (Fits.start hs).state (fail_i _ _), fun h => absurd rfl h⟩
  | d + 1 => ⟨express_fits ht (lv_fits ht d), fun _ => ⟨formula_fits ht (lv_fits ht d), not_fits ht (lv_fits ht d), factor_fits ht (lv_fits ht d)⟩⟩
variable {ex : G}
theorem base_fits (ht : Pc.Toks tk) {r s : Rs} {a : Txt} {c : Int} (h : Fits tk r (a, s) c) : Fits tk r (base tk a s) c := by
  unfold base
  split
  · rename_i hk
    have hk5 : (tok tk s.i).kind ≠ 5 := by
      rcases Bool.or_eq_true _ _ ▸ hk with hk | hk
      · exact (is_kind hk).1
      · exact (is_kind hk).1
    exact ((h.then (leaf_fits ht h.hi hk5)).text (y := a ++ ([32, 40, 53] ++ (leaf tk s).1 ++ [41])) (d := 4) (by simp; omega)).mono (by omega)
  · exact h.state (fail_i _ _)
theorem typed_fits (ht : Pc.Toks tk) (hx : Fit tk ex 0) : Fit tk (typed tk ex) 0 := by
  intro s hs
  unfold typed
  simp only
  have h1 : Fits tk s (base tk (must tk [58] s).1 (must tk [58] s).2) 0 := base_fits ht (must_fits ht [58] s hs)
  generalize base tk (must tk [58] s).1 (must tk [58] s).2 = b at h1 ⊢
  split
  · rename_i hk
    have h2 := leaf_fits ht h1.hi (is_kind hk).1
    have h3 := hx { (leaf tk b.2).2 with inn := true } h2.hi
    have h4 : Fits tk { (leaf tk b.2).2 with inn := true } ((ex { (leaf tk b.2).2 with inn := true }).1, { (ex { (leaf tk b.2).2 with inn := true }).2 with inn := false }) 0 := Fits.state (s := (ex { (leaf tk b.2).2 with inn := true }).2) h3 rfl
    have h5 := h4.then (must_fits ht [125] _ h4.hi)
    have h2' : Fits tk b.2 ((leaf tk b.2).1, { (leaf tk b.2).2 with inn := true }) (-11) := Fits.state (s := (leaf tk b.2).2) h2 rfl
    have h6 := Fits.then (x := b.1) (s := b.2) h1 (h2'.then h5)
    exact (h6.text (d := 4) (by simp; omega)).mono (by omega)
  · exact h1
theorem param_fits (ht : Pc.Toks tk) (hx : Fit tk ex 0) : Fit tk (param tk ex) 4 := by
  intro s hs
  unfold param
  simp only
  have h1 := kind_fits0 ht (k := 1) (by decide) s hs
  have h2 := Fits.then (x := (kind tk 1 s).1) (s := (kind tk 1 s).2) h1 (typed_fits ht hx _ h1.hi)
  exact (h2.text (d := 4) (by simp; omega)).mono (by omega)
theorem definition_fits (ht : Pc.Toks tk) (hx : Fit tk ex 0) : Fit tk (definition tk ex) 8 := by
  intro s hs
  unfold definition defn
  simp only
  have h0 : Fits tk s (head tk s) 3 := by
    unfold head
    split
    · rename_i hk
      have h := leaf_fits ht hs (is_kind hk).1
      exact (Fits.text (x := (leaf tk s).1) (s := (leaf tk s).2) h (y := [32, 40, 51] ++ (leaf tk s).1) (d := 3) (by simp; omega)).mono (by omega)
    · exact (Fits.text (Fits.start hs) (y := [32, 40, 51]) (d := 3) (by simp)).mono (by omega)
  generalize head tk s = p at h0 ⊢
  have h1 : Fits tk s (defHead tk p.1 p.2) 3 := by
    unfold defHead
    simp only
    have a := must_fits ht tFun p.2 h0.hi
    have b := Fits.then (x := (must tk tFun p.2).1) (s := (must tk tFun p.2).2) a (kind_fits0 ht (k := 1) (by decide) _ a.hi)
    have c := b.then (must_fits ht [40] _ b.hi)
    exact (Fits.then (x := p.1) (s := p.2) h0 c).mono (by omega)
  generalize defHead tk p.1 p.2 = q at h1 ⊢
  have h2 : Fits tk s (defList tk ex q.1 q.2) 7 := by
    unfold defList
    split
    · exact (Fits.then (x := q.1) (s := q.2) h1 (args_fits ht (by decide) (param_fits ht hx) _ h1.hi)).mono (by omega)
    · exact Fits.mono (q := (q.1, q.2)) h1 (by omega)
  generalize defList tk ex q.1 q.2 = l at h2 ⊢
  unfold defRest
  simp only
  have a := must_fits ht [41] l.2 h2.hi
  have b := Fits.then (x := (must tk [41] l.2).1) (s := (must tk [41] l.2).2) a (typed_fits ht hx _ a.hi)
  have c := b.then (must_fits ht [61] _ b.hi)
  have e := Fits.then (x := l.1) (s := l.2) h2 c
  have f := e.then (hx _ e.hi)
  have g := f.then (must_fits ht [59] _ f.hi)
  exact (g.text (d := 1) (by simp only [List.length_append, List.length_cons, List.length_nil]; omega)).mono (by omega)
theorem importsGo_fits (ht : Pc.Toks tk) {r : Rs} : ∀ (n : Nat) (a : Txt) (s : Rs) (c : Int), 0 ≤ c → Fits tk r (a, s) c → Fits tk r ((importsGo tk n a s).1, (importsGo tk n a s).2.1) c
  | 0, a, s, c, hc, h => by
    unfold importsGo
    split
    · exact ((h.empty).state (fail_i _ _)).mono hc
    · exact h
  | n + 1, a, s, c, hc, h => by
    unfold importsGo
    split
    · rename_i hk
      have a1 := leaf_fits ht h.hi (is_kind hk).1
      have b := Fits.then (x := (leaf tk s).1) (s := (leaf tk s).2) a1 (kind_fits0 ht (k := 1) (by decide) _ a1.hi)
      have c1 := b.then (must_fits ht [59] _ b.hi)
      exact importsGo_fits ht n _ _ c hc (((h.then c1).text (d := 4) (by simp; omega)).mono (by omega))
    · exact h
theorem defsGo_fits (ht : Pc.Toks tk) (hx : Fit tk ex 0) {r : Rs} : ∀ (n : Nat) (a : Txt) (s : Rs) (c : Int), 0 ≤ c → Fits tk r (a, s) c → Fits tk r ((defsGo tk ex n a s).1, (defsGo tk ex n a s).2.1) (c + 8 * n)
  | 0, a, s, c, hc, h => by
    unfold defsGo
    split
    · exact ((h.empty).state (fail_i _ _)).mono (by omega)
    · exact h.mono (by omega)
  | n + 1, a, s, c, hc, h => by
    unfold defsGo
    split
    · exact (defsGo_fits ht hx n _ _ (c + 8) (by omega) (h.then (definition_fits ht hx _ h.hi))).mono (by omega)
    · exact h.mono (by omega)
end
end Go.Proofs.YtpkhdlnlkeehhaaGreatDoor.Pr
/- The document's parser in memory: fail, is, leaf, must, kind, nest: the walks. -/
namespace Go.Proofs.YtpkhdlnlkeehhaaGreatDoor
open Go.RowKit

def qCells (vt : Value) (dp : Int) (r : Pr.Rs) : Array Value := #[vt, .int .i64 r.i, .int .i64 dp, .bool r.inn, .int .i64 r.e, .int .i64 r.pos]
/-- The blocks of the document's tokens. -/
def QB (w0 W : World) (k : Nat) : Prop := w0.heap.size ≤ k ∧ k < W.heap.size ∧ ∃ cs, W.heap[k]? = some (.cells cs 78 (0, 0))
/-- The document's parser at block p, made since w0. -/
structure QI (w0 W : World) (p : Nat) (vt : Value) (tk : List Tr.Tk) (dp : Int) (r : Pr.Rs) : Prop where
  cell : W.heap[p]? = some (.cells (qCells vt dp r) 54 (0, 0))
  toks : RdS W (QB w0 W) 4 vt tk.length (tksCells tk)
  low : w0.heap.size ≤ p
  below : Below w0.heap.size w0 W
theorem QB.keep {w0 W W' : World} {k : Nat} (h : QB w0 W k) (hs : W.heap.size ≤ W'.heap.size) (hb : W'.heap[k]? = W.heap[k]?) : QB w0 W' k := by
  obtain ⟨h1, h2, cs, h3⟩ := h
  exact ⟨h1, Nat.lt_of_lt_of_le h2 hs, cs, hb.trans h3⟩
theorem QI.past {w0 W W' : World} {p : Nat} {vt : Value} {tk : List Tr.Tk} {dp : Int} {r : Pr.Rs} (h : QI w0 W p vt tk dp r) (hb : Below W.heap.size W W') : QI w0 W' p vt tk dp r :=
  ⟨anc_box h.cell hb, (h.toks.keep fun k hk => hb.block k hk.2.1).imp fun k hk => hk.keep hb.size (hb.block k hk.2.1), h.low, h.below.trans (hb.mono h.below.size)⟩
theorem QI.ne {w0 W : World} {p : Nat} {vt : Value} {tk : List Tr.Tk} {dp : Int} {r : Pr.Rs} (h : QI w0 W p vt tk dp r) {k : Nat} (hk : QB w0 W k) : k ≠ p := by
  obtain ⟨_, _, cs, h3⟩ := hk
  rintro rfl
  rw [h.cell] at h3
  injection h3 with h3
  injection h3 with _ h4 _
  exact absurd h4 (by decide)
theorem QI.set {w0 W W' : World} {p : Nat} {vt : Value} {tk : List Tr.Tk} {dp : Int} {r r' : Pr.Rs} (h : QI w0 W p vt tk dp r) (ho : W'.os = W.os) (ht : W'.tape = W.tape) (hu : W'.output = W.output) (hz : W.heap.size = W'.heap.size)
    (hc : W'.heap[p]? = some (.cells (qCells vt dp r') 54 (0, 0))) (hk : ∀ k, k ≠ p → W'.heap[k]? = W.heap[k]?) : QI w0 W' p vt tk dp r' :=
  ⟨hc, (h.toks.keep fun k hq => hk k (h.ne hq)).imp fun k hq => hq.keep (by omega) (hk k (h.ne hq)), h.low,
    ⟨ho.trans h.below.os, ht.trans h.below.tape, hu.trans h.below.output, by have := h.below.size; omega, fun k hk1 => (hk k (by have := h.low; omega)).trans (h.below.block k hk1)⟩⟩
theorem QI.drew {w0 W : World} {p : Nat} {vt : Value} {tk : List Tr.Tk} {dp : Int} {r : Pr.Rs} (h : QI w0 W p vt tk dp r) : QI w0 W.drew p vt tk dp r := h.past ((Below.refl _ _).drew)
theorem QI.c0 {w0 W : World} {p : Nat} {vt : Value} {tk : List Tr.Tk} {dp : Int} {r : Pr.Rs} (h : QI w0 W p vt tk dp r) : W.cell? ⟨p, 0, none⟩ = some vt := cell_of_heap h.cell 0 rfl
theorem QI.c1 {w0 W : World} {p : Nat} {vt : Value} {tk : List Tr.Tk} {dp : Int} {r : Pr.Rs} (h : QI w0 W p vt tk dp r) : W.cell? ⟨p, 1, none⟩ = some (.int .i64 r.i) := cell_of_heap h.cell 1 rfl
theorem QI.c2 {w0 W : World} {p : Nat} {vt : Value} {tk : List Tr.Tk} {dp : Int} {r : Pr.Rs} (h : QI w0 W p vt tk dp r) : W.cell? ⟨p, 2, none⟩ = some (.int .i64 dp) := cell_of_heap h.cell 2 rfl
theorem QI.c3 {w0 W : World} {p : Nat} {vt : Value} {tk : List Tr.Tk} {dp : Int} {r : Pr.Rs} (h : QI w0 W p vt tk dp r) : W.cell? ⟨p, 3, none⟩ = some (.bool r.inn) := cell_of_heap h.cell 3 rfl
theorem QI.c4 {w0 W : World} {p : Nat} {vt : Value} {tk : List Tr.Tk} {dp : Int} {r : Pr.Rs} (h : QI w0 W p vt tk dp r) : W.cell? ⟨p, 4, none⟩ = some (.int .i64 r.e) := cell_of_heap h.cell 4 rfl
theorem QI.c5 {w0 W : World} {p : Nat} {vt : Value} {tk : List Tr.Tk} {dp : Int} {r : Pr.Rs} (h : QI w0 W p vt tk dp r) : W.cell? ⟨p, 5, none⟩ = some (.int .i64 r.pos) := cell_of_heap h.cell 5 rfl
theorem QI.tok {w0 W : World} {p : Nat} {vt : Value} {tk : List Tr.Tk} {dp : Int} {r : Pr.Rs} (h : QI w0 W p vt tk dp r) (hi : r.i < tk.length) :
    ∃ g o c, vt = .slice (some ⟨g, o, none⟩) tk.length c ∧ g ≠ p ∧ W.rangeAt g (o + r.i * 4) [.int .i64 (Pr.tok tk r.i).kind, .string ⟨(Pr.tok tk r.i).lead.toArray⟩, .string ⟨(Pr.tok tk r.i).text.toArray⟩, .int .i64 (Pr.tok tk r.i).pos] := by
  have hk : tk[r.i]? = some (Pr.tok tk r.i) := by
    unfold Pr.tok
    rw [List.getElem?_eq_getElem hi]
    rfl
  obtain ⟨g, o, c, h1, h2, h3⟩ := h.toks.tok hk
  exact ⟨g, o, c, h1, h.ne h2, h3⟩
/-- A call of the document's parser's: what it gives, the state behind it. -/
def Gives (w0 : World) (p : Nat) (vt : Value) (tk : List Tr.Tk) (dp : Int) (q : List UInt8 × Pr.Rs) (e : Ending) (W' : World) : Prop :=
  e = .returned (.string ⟨q.1.toArray⟩) ∧ QI w0 W' p vt tk dp q.2
/-- What the walks ask of the tokens. -/
structure QOk (tk : List Tr.Tk) : Prop where
  toks : Pc.Toks tk
  len : tk.length ≤ 1000000
  wt : Pr.Wt tk tk.length ≤ 1000000000
theorem QOk.text {tk : List Tr.Tk} (h : QOk tk) {i : Nat} (hi : i < tk.length) : (Pr.tok tk i).text.length ≤ 1000000000 := by
  have h1 := Pr.Wt_le tk (show i + 1 ≤ tk.length by omega)
  have h2 := h.wt
  simp only [Pr.Wt] at h1
  omega
theorem QOk.fits {tk : List Tr.Tk} (h : QOk tk) {r : Pr.Rs} {q : List UInt8 × Pr.Rs} {c : Int} (hq : Pr.Fits tk r q c) (hc : c ≤ 1000) : q.1.length ≤ 1000001000 ∧ q.2.i < tk.length := by
  have h1 := hq.len
  have h2 := Pr.Wt_le tk (Nat.le_of_lt hq.hi)
  have h3 := h.wt
  exact ⟨by omega, hq.hi⟩

section
variable {w0 W : World} {p : Nat} {vt : Value} {tk : List Tr.Tk} {dp : Int} {r : Pr.Rs}

set_option maxRecDepth 100000 in
set_option maxHeartbeats 2000000 in
theorem qfail_calls (h : QI w0 W p vt tk dp r) (hi : r.i < tk.length) (ho : QOk tk) (x : Int) :
    Calls Tryz.prog 45 #[.pointer (some ⟨p, 0, none⟩), .int .i64 x] W fun e W' => e = .returned (.tuple #[]) ∧ QI w0 W' p vt tk dp (Pr.fail tk x r) := by
  have HP := Lib.hid h
  have HO := Lib.hid (And.intro ho hi)
  obtain ⟨g, o, c, rfl, hgp, hrg⟩ := h.tok hi
  have c0 := h.c0
  have c1 := h.c1
  have c4 := h.c4
  have hi' : (r.i : Int) < (tk.length : Int) := by omega
  have hi0 : (0 : Int) ≤ (r.i : Int) := by omega
  have hl' : (tk.length : Int) ≤ 1000000 := by have := ho.len; omega
  have hgp2 : ¬ g = p := hgp
  have hgp3 : ¬ p = g := fun e => hgp e.symm
  have hkt : tk[r.i]? = some (Pr.tok tk r.i) := by
    unfold Pr.tok
    rw [List.getElem?_eq_getElem hi]
    rfl
  obtain ⟨⟨kd, ld, tx, ps⟩, htk⟩ : ∃ t, Pr.tok tk r.i = t := ⟨_, rfl⟩
  rw [htk] at hrg
  have hte := ho.text hi
  rw [htk] at hte
  dsimp only at hrg hte
  have q0 : W.cell? ⟨g, o + r.i * 4, none⟩ = some (.int .i64 kd) := hrg 0 _ rfl
  have q2 : W.cell? ⟨g, o + r.i * 4 + 2, none⟩ = some (.string ⟨tx.toArray⟩) := hrg 2 _ rfl
  have q3 : W.cell? ⟨g, o + r.i * 4 + 3, none⟩ = some (.int .i64 ps) := hrg 3 _ rfl
  have HT := Lib.hid htk
  clear hrg hkt hgp htk
  have c5 := h.c5
  have f4 := frozen_of_heap h.cell 4
  have f5 := frozen_of_heap h.cell 5
  by_cases he : r.e = 0
  · have HF := Lib.hid (show Pr.fail tk x r = { r with e := x, pos := ps } by unfold Pr.fail; rw [if_pos he, HT.out])
    have he' : (r.e == 0) = true := by simp [he]
    clear h hi ho he hte
    go_enter Tryz.func45, Tryz.ntmps45
    go_wp2_with fail
    go_region
    all_goals
      clear c0 c1 c4 c5 f4 f5 q0 q2 q3
      go_wp2_with fail
      refine bodyPost_end (results_none rfl _ _ _) rfl ?_
      have h1 := setCell_row (j := 4) HP.out.cell (.int .i64 x)
      have h2 := setCell_row (j := 5) h1 (.int .i64 ps)
      have h3 := HP.out.set (r' := { r with e := x, pos := ps }) (W' := (W.setCell ⟨p, 4, none⟩ (.int .i64 x)).setCell ⟨p, 5, none⟩ (.int .i64 ps)) rfl rfl rfl (by simp [World.setCell]) h2 (fun k hk => by rw [Below.heap_setCell _ _ _ _ hk, Below.heap_setCell _ _ _ _ hk])
      refine ⟨rfl, ?_⟩
      rw [HF.out]
      exact h3.drew
  · have HF := Lib.hid (show Pr.fail tk x r = r by unfold Pr.fail; rw [if_neg he])
    have he' : (r.e == 0) = false := by simp [he]
    clear h hi ho he hte
    go_enter Tryz.func45, Tryz.ntmps45
    go_wp2_with fail
    refine bodyPost_end (results_none rfl _ _ _) rfl ?_
    exact ⟨rfl, by rw [HF.out]; exact HP.out⟩

set_option maxRecDepth 100000 in
set_option maxHeartbeats 2000000 in
theorem qis_calls (h : QI w0 W p vt tk dp r) (hi : r.i < tk.length) (ho : QOk tk) (x : List UInt8) :
    Calls Tryz.prog 44 #[.pointer (some ⟨p, 0, none⟩), .string ⟨x.toArray⟩] W fun e W' => e = .returned (.bool (Pr.is tk x r)) ∧ QI w0 W' p vt tk dp r := by
  have HP := Lib.hid h
  have HO := Lib.hid (And.intro ho hi)
  obtain ⟨g, o, c, rfl, hgp, hrg⟩ := h.tok hi
  have c0 := h.c0
  have c1 := h.c1
  have c4 := h.c4
  have hi' : (r.i : Int) < (tk.length : Int) := by omega
  have hi0 : (0 : Int) ≤ (r.i : Int) := by omega
  have hl' : (tk.length : Int) ≤ 1000000 := by have := ho.len; omega
  have hgp2 : ¬ g = p := hgp
  have hgp3 : ¬ p = g := fun e => hgp e.symm
  have hkt : tk[r.i]? = some (Pr.tok tk r.i) := by
    unfold Pr.tok
    rw [List.getElem?_eq_getElem hi]
    rfl
  obtain ⟨⟨kd, ld, tx, ps⟩, htk⟩ : ∃ t, Pr.tok tk r.i = t := ⟨_, rfl⟩
  rw [htk] at hrg
  have hte := ho.text hi
  rw [htk] at hte
  dsimp only at hrg hte
  have q0 : W.cell? ⟨g, o + r.i * 4, none⟩ = some (.int .i64 kd) := hrg 0 _ rfl
  have q2 : W.cell? ⟨g, o + r.i * 4 + 2, none⟩ = some (.string ⟨tx.toArray⟩) := hrg 2 _ rfl
  have q3 : W.cell? ⟨g, o + r.i * 4 + 3, none⟩ = some (.int .i64 ps) := hrg 3 _ rfl
  have HT := Lib.hid htk
  clear hrg hkt hgp htk
  have hv : Pr.is tk x r = (decide (r.e = 0) && (decide (kd = 2) || decide (kd = 4)) && (tx == x)) := by unfold Pr.is; rw [HT.out]
  by_cases he : r.e = 0
  · have he' : (r.e == 0) = true := by simp [he]
    by_cases h2 : kd = 2
    · have h2' : (kd == 2) = true := by simp [h2]
      have HV : Hid (Pr.is tk x r = (tx == x)) := Lib.hid (by rw [hv]; simp [he, h2])
      clear hv he h2
      clear h hi ho hte
      go_enter Tryz.func44, Tryz.ntmps44
      go_wp2_with fail
      go_region
      all_goals
        go_wp2_with fail
        go_region
        all_goals
          clear c0 c1 c4 q0 q2 q3
          go_wp2_with fail
          go_ret
          exact ⟨by rw [HV.out]; simp, HP.out.drew.drew⟩
    · have h2' : (kd == 2) = false := by simp [h2]
      by_cases h4 : kd = 4
      · have h4' : (kd == 4) = true := by simp [h4]
        have HV : Hid (Pr.is tk x r = (tx == x)) := Lib.hid (by rw [hv]; simp [he, h4])
        clear hv he h2 h4
        clear h hi ho hte
        go_enter Tryz.func44, Tryz.ntmps44
        go_wp2_with fail
        go_region
        all_goals
          go_wp2_with fail
          go_region
          all_goals
            clear c0 c1 c4 q0 q2 q3
            go_wp2_with fail
            go_ret
            exact ⟨by rw [HV.out]; simp, HP.out.drew.drew⟩
      · have h4' : (kd == 4) = false := by simp [h4]
        have HV : Hid (Pr.is tk x r = false) := Lib.hid (by rw [hv]; simp [h2, h4])
        clear hv he h2 h4
        clear h hi ho hte
        go_enter Tryz.func44, Tryz.ntmps44
        go_wp2_with fail
        go_region
        all_goals
          go_wp2_with fail
          go_region
          all_goals
            clear c0 c1 c4 q0 q2 q3
            go_wp2_with fail
            go_ret
            exact ⟨by rw [HV.out]; rfl, HP.out.drew.drew⟩
  · have he' : (r.e == 0) = false := by simp [he]
    have HV : Hid (Pr.is tk x r = false) := Lib.hid (by rw [hv]; simp [he])
    clear hv he
    clear h hi ho hte
    go_enter Tryz.func44, Tryz.ntmps44
    go_wp2_with fail
    go_region
    all_goals
      go_wp2_with fail
      go_region
      all_goals
        clear c0 c1 c4 q0 q2 q3
        go_wp2_with fail
        go_ret
        exact ⟨by rw [HV.out]; rfl, HP.out.drew.drew⟩

set_option maxRecDepth 100000 in
set_option maxHeartbeats 2000000 in
theorem qleaf_calls (h : QI w0 W p vt tk dp r) (hi : r.i < tk.length) (ho : QOk tk) :
    Calls Tryz.prog 46 #[.pointer (some ⟨p, 0, none⟩)] W (Gives w0 p vt tk dp (Pr.leaf tk r)) := by
  have HP := Lib.hid h
  have HO := Lib.hid (And.intro ho hi)
  obtain ⟨g, o, c, rfl, hgp, hrg⟩ := h.tok hi
  have c0 := h.c0
  have c1 := h.c1
  have c4 := h.c4
  have hi' : (r.i : Int) < (tk.length : Int) := by omega
  have hi0 : (0 : Int) ≤ (r.i : Int) := by omega
  have hl' : (tk.length : Int) ≤ 1000000 := by have := ho.len; omega
  have hgp2 : ¬ g = p := hgp
  have hgp3 : ¬ p = g := fun e => hgp e.symm
  have hkt : tk[r.i]? = some (Pr.tok tk r.i) := by
    unfold Pr.tok
    rw [List.getElem?_eq_getElem hi]
    rfl
  obtain ⟨⟨kd, ld, tx, ps⟩, htk⟩ : ∃ t, Pr.tok tk r.i = t := ⟨_, rfl⟩
  rw [htk] at hrg
  have hte := ho.text hi
  rw [htk] at hte
  dsimp only at hrg hte
  have q0 : W.cell? ⟨g, o + r.i * 4, none⟩ = some (.int .i64 kd) := hrg 0 _ rfl
  have q2 : W.cell? ⟨g, o + r.i * 4 + 2, none⟩ = some (.string ⟨tx.toArray⟩) := hrg 2 _ rfl
  have q3 : W.cell? ⟨g, o + r.i * 4 + 3, none⟩ = some (.int .i64 ps) := hrg 3 _ rfl
  have HT := Lib.hid htk
  clear hrg hkt hgp htk
  have f1 := frozen_of_heap h.cell 1
  have hte' : 1 + (tx.length : Int) ≤ 1000000001 := by omega
  by_cases h5 : kd = 5
  · have h5' : (kd == 5) = true := by simp [h5]
    have HV : Hid (Pr.leaf tk r = ([32, 36], r)) := Lib.hid (by unfold Pr.leaf; rw [HT.out, if_pos h5])
    clear h hi ho hte h5
    go_enter Tryz.func46, Tryz.ntmps46
    go_wp2_with fail
    go_region
    all_goals
      go_wp2_with fail
      go_region
      all_goals
        clear c0 c1 c4 q0 q2 q3
        go_wp2_with fail
        go_ret
        rw [HV.out]
        exact ⟨rfl, HP.out.drew.drew⟩
  · have h5' : (kd == 5) = false := by simp [h5]
    have HV : Hid (Pr.leaf tk r = (32 :: tx, { r with i := r.i + 1 })) := Lib.hid (by unfold Pr.leaf; rw [HT.out, if_neg h5])
    clear h hi ho hte h5
    go_enter Tryz.func46, Tryz.ntmps46
    go_wp2_with fail
    go_region
    all_goals
      go_wp2_with fail
      go_region
      all_goals
        clear q0 q2 q3
        go_wp2_with fail
        go_ret
        rw [HV.out]
        have h1 := setCell_row (j := 1) HP.out.cell (.int .i64 ((r.i + 1 : Nat) : Int))
        have h3 := HP.out.set (r' := { r with i := r.i + 1 }) (W' := W.setCell ⟨p, 1, none⟩ (.int .i64 ((r.i + 1 : Nat) : Int))) rfl rfl rfl (by simp [World.setCell]) h1 (fun k hk => by rw [Below.heap_setCell _ _ _ _ hk])
        exact ⟨congrArg (fun z => Ending.returned (.string z)) (str_add [32] tx), h3.drew.drew⟩

set_option maxRecDepth 100000 in
set_option maxHeartbeats 2000000 in
theorem qmust_calls (h : QI w0 W p vt tk dp r) (hi : r.i < tk.length) (ho : QOk tk) (x : List UInt8) :
    Calls Tryz.prog 47 #[.pointer (some ⟨p, 0, none⟩), .string ⟨x.toArray⟩] W (Gives w0 p vt tk dp (Pr.must tk x r)) := by
  have HO := Lib.hid (And.intro hi ho)
  have his := qis_calls h hi ho x
  by_cases hx : Pr.is tk x r = true
  · have HV : Hid (Pr.must tk x r = Pr.leaf tk r) := Lib.hid (by unfold Pr.must; rw [if_pos hx])
    rw [hx] at his
    have HI := Lib.hid his
    clear h hi ho his hx
    go_enter Tryz.func47, Tryz.ntmps47
    go_wp2_with fail
    refine HI.out.mono ?_
    rintro e W1 ⟨rfl, h1⟩
    have H1 := Lib.hid h1
    clear h1
    dsimp only
    go_wp2_with fail
    refine (qleaf_calls H1.out HO.out.1 HO.out.2).mono ?_
    rintro e W2 ⟨rfl, h2⟩
    have H2 := Lib.hid h2
    clear h2
    dsimp only
    go_wp2_with fail
    go_ret
    rw [HV.out]
    exact ⟨rfl, H2.out⟩
  · rw [Bool.not_eq_true] at hx
    have HV : Hid (Pr.must tk x r = ([], Pr.fail tk 22 r)) := Lib.hid (by unfold Pr.must; rw [if_neg (by simp [hx])])
    rw [hx] at his
    have HI := Lib.hid his
    clear h hi ho his hx
    go_enter Tryz.func47, Tryz.ntmps47
    go_wp2_with fail
    refine HI.out.mono ?_
    rintro e W1 ⟨rfl, h1⟩
    have H1 := Lib.hid h1
    clear h1
    dsimp only
    go_wp2_with fail
    refine (qfail_calls H1.out HO.out.1 HO.out.2 22).mono ?_
    rintro e W2 ⟨rfl, h2⟩
    have H2 := Lib.hid h2
    clear h2
    dsimp only
    go_wp2_with fail
    go_ret
    rw [HV.out]
    exact ⟨rfl, H2.out⟩

set_option maxRecDepth 100000 in
set_option maxHeartbeats 2000000 in
theorem qkind_calls (h : QI w0 W p vt tk dp r) (hi : r.i < tk.length) (ho : QOk tk) (x : Int) :
    Calls Tryz.prog 43 #[.pointer (some ⟨p, 0, none⟩), .int .i64 x] W (Gives w0 p vt tk dp (Pr.kind tk x r)) := by
  have HP := Lib.hid h
  have HO := Lib.hid (And.intro ho hi)
  obtain ⟨g, o, c, rfl, hgp, hrg⟩ := h.tok hi
  have c0 := h.c0
  have c1 := h.c1
  have c4 := h.c4
  have hi' : (r.i : Int) < (tk.length : Int) := by omega
  have hi0 : (0 : Int) ≤ (r.i : Int) := by omega
  have hl' : (tk.length : Int) ≤ 1000000 := by have := ho.len; omega
  have hgp2 : ¬ g = p := hgp
  have hgp3 : ¬ p = g := fun e => hgp e.symm
  have hkt : tk[r.i]? = some (Pr.tok tk r.i) := by
    unfold Pr.tok
    rw [List.getElem?_eq_getElem hi]
    rfl
  obtain ⟨⟨kd, ld, tx, ps⟩, htk⟩ : ∃ t, Pr.tok tk r.i = t := ⟨_, rfl⟩
  rw [htk] at hrg
  have hte := ho.text hi
  rw [htk] at hte
  dsimp only at hrg hte
  have q0 : W.cell? ⟨g, o + r.i * 4, none⟩ = some (.int .i64 kd) := hrg 0 _ rfl
  have q2 : W.cell? ⟨g, o + r.i * 4 + 2, none⟩ = some (.string ⟨tx.toArray⟩) := hrg 2 _ rfl
  have q3 : W.cell? ⟨g, o + r.i * 4 + 3, none⟩ = some (.int .i64 ps) := hrg 3 _ rfl
  have HT := Lib.hid htk
  clear hrg hkt hgp htk
  by_cases he : r.e = 0
  · have he' : (r.e != 0) = false := by simp [he]
    by_cases hk : kd = x
    · have hk' : (kd != x) = false := by simp [hk]
      have HV : Hid (Pr.kind tk x r = Pr.leaf tk r) := Lib.hid (by unfold Pr.kind; rw [HT.out, if_pos ⟨he, hk⟩])
      clear he hk
      clear h hi ho hte
      go_enter Tryz.func43, Tryz.ntmps43
      go_wp2_with fail
      go_region
      all_goals
        clear c0 c1 c4 q0 q2 q3
        go_wp2_with fail
        refine (qleaf_calls HP.out.drew HO.out.2 HO.out.1).mono ?_
        rintro e W2 ⟨rfl, h2⟩
        have H2 := Lib.hid h2
        clear h2
        dsimp only
        go_wp2_with fail
        go_ret
        rw [HV.out]
        exact ⟨rfl, H2.out⟩
    · have hk' : (kd != x) = true := by simp [hk]
      have HV : Hid (Pr.kind tk x r = ([], Pr.fail tk 22 r)) := Lib.hid (by unfold Pr.kind; rw [HT.out, if_neg (fun h => hk h.2)])
      clear he hk
      clear h hi ho hte
      go_enter Tryz.func43, Tryz.ntmps43
      go_wp2_with fail
      go_region
      all_goals
        clear c0 c1 c4 q0 q2 q3
        go_wp2_with fail
        refine (qfail_calls HP.out.drew HO.out.2 HO.out.1 22).mono ?_
        rintro e W2 ⟨rfl, h2⟩
        have H2 := Lib.hid h2
        clear h2
        dsimp only
        go_wp2_with fail
        go_ret
        rw [HV.out]
        exact ⟨rfl, H2.out⟩
  · have he' : (r.e != 0) = true := by simp [he]
    have HV : Hid (Pr.kind tk x r = ([], Pr.fail tk 22 r)) := Lib.hid (by unfold Pr.kind; rw [if_neg (fun h => he h.1)])
    clear he
    clear h hi ho hte
    go_enter Tryz.func43, Tryz.ntmps43
    go_wp2_with fail
    go_region
    all_goals
      clear c0 c1 c4 q0 q2 q3
      go_wp2_with fail
      refine (qfail_calls HP.out.drew HO.out.2 HO.out.1 22).mono ?_
      rintro e W2 ⟨rfl, h2⟩
      have H2 := Lib.hid h2
      clear h2
      dsimp only
      go_wp2_with fail
      go_ret
      rw [HV.out]
      exact ⟨rfl, H2.out⟩

set_option maxRecDepth 100000 in
set_option maxHeartbeats 2000000 in
theorem qnest_calls (h : QI w0 W p vt tk dp r) (hi : r.i < tk.length) (ho : QOk tk) {n : Int} {d : Nat} (hd : n + d = dp + 1) :
    Calls Tryz.prog 74 #[.pointer (some ⟨p, 0, none⟩), .int .i64 n] W fun e W' => e = .returned (.tuple #[]) ∧ QI w0 W' p vt tk dp (Pr.nest tk d r) := by
  have HP := Lib.hid (And.intro h (And.intro hi ho))
  have c2 := h.c2
  by_cases h0 : d = 0
  · have HV : Hid (Pr.nest tk d r = Pr.fail tk 23 r) := Lib.hid (by unfold Pr.nest; rw [if_pos h0])
    have hn : dp < n := by omega
    clear h hi ho h0 hd
    go_enter Tryz.func74, Tryz.ntmps74
    go_wp2_with fail
    refine (qfail_calls HP.out.1 HP.out.2.1 HP.out.2.2 23).mono ?_
    rintro e W2 ⟨rfl, h2⟩
    have H2 := Lib.hid h2
    clear h2 c2
    dsimp only
    go_wp2_with fail
    refine bodyPost_end (results_none rfl _ _ _) rfl ?_
    rw [HV.out]
    exact ⟨rfl, H2.out⟩
  · have HV : Hid (Pr.nest tk d r = r) := Lib.hid (by unfold Pr.nest; rw [if_neg h0])
    have hn : n ≤ dp := by omega
    clear h hi ho h0 hd
    go_enter Tryz.func74, Tryz.ntmps74
    go_wp2_with fail
    refine bodyPost_end (results_none rfl _ _ _) rfl ?_
    rw [HV.out]
    exact ⟨rfl, HP.out.1⟩
end
end Go.Proofs.YtpkhdlnlkeehhaaGreatDoor
/- ParseLimits: the closure that notes the first fault: the walk. -/
namespace Go.Proofs.YtpkhdlnlkeehhaaGreatDoor
open Go.RowKit

def Lm.note (over : Bool) (n : Nat) (q : Int × Int) : Int × Int := if over = true ∧ q.1 = 0 then (15, (n : Int)) else q
/-- The two variables that the law's closure captures: the text, what is wanted. -/
structure Lims (w W : World) (s : List UInt8) (q : Int × Int) : Prop where
  s : W.heap[w.heap.size]? = some (.cells #[.string ⟨s.toArray⟩] 9 (0, 0))
  q : W.heap[w.heap.size + 1]? = some (.cells #[.int .i64 q.1, .int .i64 q.2] 29 (0, 0))
  b : Below w.heap.size w W
theorem lims_new (w : World) (s : List UInt8) (q : Int × Int) : Lims w ((w.alloc (.cells #[.string ⟨s.toArray⟩] 9)).alloc (.cells #[.int .i64 q.1, .int .i64 q.2] 29)) s q :=
  ⟨by rw [Below.heap_alloc _ _ _ (by rw [← size_alloc1]; omega)]; exact heap_alloc_new _ _, heap_alloc2_new _ _ _, ((Below.refl _ _).alloc (Nat.le_refl _) _).alloc (by rw [← size_alloc1]; omega) _⟩
theorem Lims.put {w W : World} {s : List UInt8} {q : Int × Int} (h : Lims w W s q) (t : List UInt8) : Lims w (W.setCell ⟨w.heap.size, 0, none⟩ (.string ⟨t.toArray⟩)) t q :=
  ⟨setCell_row (j := 0) h.s _, by rw [Below.heap_setCell _ _ _ _ (by simp)]; exact h.q, h.b.setCell (Nat.le_refl _) _⟩
theorem Lims.mark {w W : World} {s : List UInt8} {q : Int × Int} (h : Lims w W s q) (r : Int × Int) : Lims w (W.setRow (w.heap.size + 1) #[.int .i64 r.1, .int .i64 r.2]) s r :=
  ⟨by rw [setRow_ne (by omega)]; exact h.s, setRow_at h.q, below_setRow h.b (by omega) _⟩
theorem Lims.past {w W W' : World} {s : List UInt8} {q : Int × Int} (h : Lims w W s q) (hb : Below W.heap.size W W') : Lims w W' s q :=
  ⟨by rw [hb.block _ (by have := lt_heap h.s; omega)]; exact h.s, by rw [hb.block _ (by have := lt_heap h.q; omega)]; exact h.q, h.b.trans (hb.mono h.b.size)⟩

set_option maxRecDepth 100000 in
set_option maxHeartbeats 4000000 in
theorem note_calls {w W : World} {s : List UInt8} {q : Int × Int} (h : Lims w W s q) (over : Bool) :
    Calls Tryz.prog 17 #[.bool over, .pointer (some ⟨w.heap.size + 1, 0, none⟩), .pointer (some ⟨w.heap.size, 0, none⟩)] W fun e W' => e = .returned (.tuple #[]) ∧ Lims w W' s (Lm.note over s.length q) := by
  obtain ⟨e, ps⟩ := q
  have H := Lib.hid h
  have c0 := cell_of_heap h.q 0 rfl
  have c1 := cell_of_heap h.q 1 rfl
  have c2 := cell_of_heap h.s 0 rfl
  dsimp only at c0 c1
  cases over with
  | false =>
    have hd : Lm.note false s.length (e, ps) = (e, ps) := if_neg (fun h => absurd h.1 (by decide))
    rw [hd]
    clear h hd
    go_enter Tryz.func17, Tryz.ntmps17
    go_wp2_with fail
    exact bodyPost_end (results_none rfl _ _ _) rfl ⟨rfl, H.out⟩
  | true =>
    by_cases he : e = 0
    · subst he
      have hd : Lm.note true s.length (0, ps) = (15, (s.length : Int)) := if_pos ⟨rfl, rfl⟩
      rw [hd]
      have HQ : Hid (W.heap[w.heap.size + 1]? = some (.cells #[.int .i64 0, .int .i64 ps] 29 (0, 0))) := Lib.hid h.q
      clear h hd
      go_enter Tryz.func17, Tryz.ntmps17
      go_wp2_with (refine wpList_store_row rfl 29 _ _ rfl 29 (w.heap.size + 1) _ _ rfl HQ.out rfl rfl rfl (by simp [Value.oneCell']) ?_)
      exact bodyPost_end (results_none rfl _ _ _) rfl ⟨rfl, H.out.mark (15, (s.length : Int))⟩
    · have hd : Lm.note true s.length (e, ps) = (e, ps) := if_neg (fun h => he h.2)
      have he2 : (e == 0) = false := by simp [he]
      rw [hd]
      clear h hd
      go_enter Tryz.func17, Tryz.ntmps17
      go_wp2_with fail
      exact bodyPost_end (results_none rfl _ _ _) rfl ⟨rfl, H.out⟩
end Go.Proofs.YtpkhdlnlkeehhaaGreatDoor
/- Plain law: a text's tokens are the text; at least one stands there, the last one the end. No program in sight. -/
namespace Go.Proofs.YtpkhdlnlkeehhaaGreatDoor.Lx

/-- The text of tokens. -/
def whole (l : List Tok) : List UInt8 := l.flatMap fun t => t.lead ++ t.text
theorem lexGo_whole : ∀ (n : Nat) (r : List UInt8) (p : Nat) (acc : List Tok), r.length < n → (lexGo n r p acc).2.1 = 0 → whole (lexGo n r p acc).1 = whole acc ++ r ∧ acc.length < (lexGo n r p acc).1.length ∧ (lexGo n r p acc).1.length ≤ acc.length + r.length + 1
  | 0, _, _, _, h, _ => absurd h (by omega)
  | n + 1, r, p, acc, h, hz => by
    have hb := between_take r
    by_cases he : (token (r.drop (between r).length)).2.2 = 0
    · have ht := token_text (r.drop (between r).length) he
      by_cases hk : (token (r.drop (between r).length)).1 = 5
      · rw [lexGo_end he hk]
        have h1 := ht.2.1 hk
        rw [h1] at hb
        have h2 : (token (r.drop (between r).length)).2.1 = [] := by
          have h3 := ht.1
          rw [h1] at h3 ⊢
          exact List.prefix_nil.1 h3
        have hb1 : between r = r := by
          have := hb.1
          rw [hb.2, List.append_nil] at this
          exact this
        refine ⟨?_, by simp, by simp⟩
        simp only [whole, List.flatMap_append, List.flatMap_cons, List.flatMap_nil, List.append_nil, h2]
        rw [hb1]
      · rw [lexGo_on he hk] at hz ⊢
        have h3 := ht.2.2 hk
        have h4 := ht.1.length_le
        simp only [List.length_drop] at h4
        have ih := lexGo_whole n _ _ _ (by simp only [List.length_drop]; omega) hz
        obtain ⟨i1, i2, i3⟩ := ih
        refine ⟨?_, ?_, ?_⟩
        · rw [i1]
          simp only [whole, List.flatMap_append, List.flatMap_cons, List.flatMap_nil, List.append_nil, List.append_assoc]
          congr 1
          obtain ⟨y, hy⟩ := ht.1
          have h5 : (token (r.drop (between r).length)).2.1 ++ (r.drop (between r).length).drop (token (r.drop (between r).length)).2.1.length = r.drop (between r).length := by
            generalize (token (r.drop (between r).length)).2.1 = z at hy
            rw [← hy]
            simp
          rw [h5]
          have := hb.1
          rw [hb.2] at this
          exact this
        · simp only [List.length_append, List.length_cons, List.length_nil] at i2
          omega
        · simp only [List.length_append, List.length_cons, List.length_nil, List.length_drop] at i3
          omega
    · rw [lexGo_bad he] at hz
      exact absurd hz he
theorem lex_whole {l : List UInt8} (h : (lex l).2.1 = 0) : whole (lex l).1 = l ∧ 0 < (lex l).1.length ∧ (lex l).1.length ≤ l.length + 1 := by
  unfold lex at h ⊢
  split at h
  · exact absurd h (by simp)
  · rename_i hs
    rw [if_neg hs]
    have := lexGo_whole (l.length + 1) l 0 [] (by omega) h
    simpa [whole] using this
end Go.Proofs.YtpkhdlnlkeehhaaGreatDoor.Lx
namespace Go.Proofs.YtpkhdlnlkeehhaaGreatDoor
theorem whole_toTk (l : List Lx.Tok) : wholeOf (l.map toTk) = Lx.whole l := by
  simp only [wholeOf, Lx.whole, List.flatMap_map]
  rfl
end Go.Proofs.YtpkhdlnlkeehhaaGreatDoor
/- ParseLimits: the text that it builds, and its tokens. No program in sight. -/
namespace Go.Proofs.YtpkhdlnlkeehhaaGreatDoor.Lm
open Lx

def impC : List UInt8 := [105, 109, 112, 111, 114, 116, 32, 109, 59]
def defC : List UInt8 := [102, 117, 110, 32, 102, 40, 41, 58, 105, 110, 116, 61, 49, 59]
def gC : List UInt8 := [102, 117, 110, 32, 103, 40]
def parC : List UInt8 := [120, 58, 105, 110, 116]
def hC : List UInt8 := [41, 58, 105, 110, 116, 61, 104, 40]
def argC : List UInt8 := [49]
def endC : List UInt8 := [41, 59]
def reps : Nat → List UInt8 → List UInt8
  | 0, _ => []
  | n + 1, c => c ++ reps n c
theorem reps_back : ∀ (n : Nat) (c : List UInt8), reps (n + 1) c = reps n c ++ c
  | 0, c => by simp [reps]
  | n + 1, c => by
    show c ++ reps (n + 1) c = (c ++ reps n c) ++ c
    rw [reps_back n c, List.append_assoc]
theorem reps_len : ∀ (n : Nat) (c : List UInt8), (reps n c).length = n * c.length
  | 0, c => by simp [reps]
  | n + 1, c => by rw [reps, List.length_append, reps_len n c, Nat.succ_mul, Nat.add_comm]
/-- Copies with commas between them. -/
def sep : Nat → List UInt8 → List UInt8
  | 0, _ => []
  | n + 1, c => reps n (c ++ [44]) ++ c
theorem sep_one (c : List UInt8) : sep 1 c = c := by simp [sep, reps]
theorem sep_next (n : Nat) (c : List UInt8) : sep (n + 2) c = sep (n + 1) c ++ [44] ++ c := by
  simp [sep, reps_back]
def text (i d p a : Nat) : List UInt8 := reps i impC ++ (reps d defC ++ (gC ++ (sep p parC ++ (hC ++ (sep a argC ++ endC)))))

/-- With fuel enough. -/
def Lexes (r : List UInt8) (p : Nat) (acc : List Lx.Tok) (res : List Lx.Tok × Nat × Nat) : Prop := ∀ n, r.length < n → lexGo n r p acc = res
theorem between_zero {c : UInt8} (r : List UInt8) (hb : Lx.blank c = false) (hc : c ≠ 45) : between (c :: r) = [] := by
  have h : rest ((c :: r).length + 1) (c :: r) = c :: r := by
    unfold rest
    simp only [List.dropWhile_cons, hb]
    split
    · rename_i h
      simp at h
      exact absurd h.1 hc
    · rfl
  unfold between
  rw [h]
  simp
theorem between_one {c : UInt8} (r : List UInt8) (hb : Lx.blank c = false) (hc : c ≠ 45) : between (32 :: c :: r) = [32] := by
  have h : rest ((32 :: c :: r).length + 1) (32 :: c :: r) = c :: r := by
    unfold rest
    simp only [List.dropWhile_cons, hb, show Lx.blank 32 = true from rfl]
    split
    · rename_i h
      simp at h
      exact absurd h.1 hc
    · rfl
  unfold between
  rw [h]
  simp
theorem lexes_tok (lead text r : List UInt8) {k p : Nat} {acc : List Lx.Tok} {res : List Lx.Tok × Nat × Nat} (hb : between (lead ++ (text ++ r)) = lead) (ht : token (text ++ r) = (k, text, 0)) (hk : k ≠ 5) (hx : 0 < text.length)
    (h : Lexes r (p + lead.length + text.length) (acc ++ [⟨k, lead, text, p + lead.length⟩]) res) : Lexes (lead ++ (text ++ r)) p acc res := by
  intro n hn
  cases n with
  | zero => exact absurd hn (by omega)
  | succ n =>
    have hd : (lead ++ (text ++ r)).drop (between (lead ++ (text ++ r))).length = text ++ r := by rw [hb]; exact List.drop_left
    rw [lexGo_on (by rw [hd, ht]) (by rw [hd, ht]; exact hk), hd, hb, ht]
    have hd2 : (text ++ r).drop text.length = r := List.drop_left
    rw [hd2]
    refine h n ?_
    simp only [List.length_append] at hn
    omega
theorem lexes_end (p : Nat) (acc : List Lx.Tok) : Lexes [] p acc (acc ++ [⟨5, [], [], p⟩], 0, 0) := by
  intro n hn
  cases n with
  | zero => exact absurd hn (by simp)
  | succ n =>
    have hb : between [] = [] := by rfl
    rw [lexGo_end (by rfl) (by rfl)]
    rfl
def impT (p : Nat) : List Lx.Tok := [⟨2, [], [105, 109, 112, 111, 114, 116], p⟩, ⟨1, [32], [109], p + 7⟩, ⟨4, [], [59], p + 8⟩]
def defT (p : Nat) : List Lx.Tok := [⟨2, [], [102, 117, 110], p⟩, ⟨1, [32], [102], p + 4⟩, ⟨4, [], [40], p + 5⟩, ⟨4, [], [41], p + 6⟩, ⟨4, [], [58], p + 7⟩, ⟨2, [], [105, 110, 116], p + 8⟩, ⟨4, [], [61], p + 11⟩, ⟨3, [], [49], p + 12⟩, ⟨4, [], [59], p + 13⟩]
def gT (p : Nat) : List Lx.Tok := [⟨2, [], [102, 117, 110], p⟩, ⟨1, [32], [103], p + 4⟩, ⟨4, [], [40], p + 5⟩]
def parT (p : Nat) : List Lx.Tok := [⟨1, [], [120], p⟩, ⟨4, [], [58], p + 1⟩, ⟨2, [], [105, 110, 116], p + 2⟩]
def comT (p : Nat) : List Lx.Tok := [⟨4, [], [44], p⟩]
def hT (p : Nat) : List Lx.Tok := [⟨4, [], [41], p⟩, ⟨4, [], [58], p + 1⟩, ⟨2, [], [105, 110, 116], p + 2⟩, ⟨4, [], [61], p + 5⟩, ⟨1, [], [104], p + 6⟩, ⟨4, [], [40], p + 7⟩]
def argT (p : Nat) : List Lx.Tok := [⟨3, [], [49], p⟩]
def endT (p : Nat) : List Lx.Tok := [⟨4, [], [41], p⟩, ⟨4, [], [59], p + 1⟩]
def repsT (f : Nat → List Lx.Tok) (w : Nat) : Nat → Nat → List Lx.Tok
  | 0, _ => []
  | n + 1, p => f p ++ repsT f w n (p + w)
def sepT (f : Nat → List Lx.Tok) (w : Nat) : Nat → Nat → List Lx.Tok
  | 0, _ => []
  | n + 1, p => repsT (fun q => f q ++ comT (q + w)) (w + 1) n p ++ f (p + n * (w + 1))
theorem sep_succ (n : Nat) (c : List UInt8) : sep (n + 1) c = reps n (c ++ [44]) ++ c := rfl
theorem sepT_succ (f : Nat → List Lx.Tok) (w n p : Nat) : sepT f w (n + 1) p = repsT (fun q => f q ++ comT (q + w)) (w + 1) n p ++ f (p + n * (w + 1)) := rfl
theorem imp_lexes (r : List UInt8) {p : Nat} {acc : List Lx.Tok} {res : List Lx.Tok × Nat × Nat} (h : Lexes r (p + 9) (acc ++ impT p) res) : Lexes (impC ++ r) p acc res := by
  refine lexes_tok [] [105, 109, 112, 111, 114, 116] (32 :: 109 :: 59 :: r) (k := 2) (between_zero _ rfl (by decide)) rfl (by decide) (by decide) ?_
  refine lexes_tok [32] [109] (59 :: r) (k := 1) (between_one _ rfl (by decide)) rfl (by decide) (by decide) ?_
  refine lexes_tok [] [59] r (k := 4) (between_zero _ rfl (by decide)) rfl (by decide) (by decide) ?_
  simpa [impT, Nat.add_assoc] using h
theorem def_lexes (r : List UInt8) {p : Nat} {acc : List Lx.Tok} {res : List Lx.Tok × Nat × Nat} (h : Lexes r (p + 14) (acc ++ defT p) res) : Lexes (defC ++ r) p acc res := by
  refine lexes_tok [] [102, 117, 110] (32 :: 102 :: 40 :: 41 :: 58 :: 105 :: 110 :: 116 :: 61 :: 49 :: 59 :: r) (k := 2) (between_zero _ rfl (by decide)) rfl (by decide) (by decide) ?_
  refine lexes_tok [32] [102] (40 :: 41 :: 58 :: 105 :: 110 :: 116 :: 61 :: 49 :: 59 :: r) (k := 1) (between_one _ rfl (by decide)) rfl (by decide) (by decide) ?_
  refine lexes_tok [] [40] (41 :: 58 :: 105 :: 110 :: 116 :: 61 :: 49 :: 59 :: r) (k := 4) (between_zero _ rfl (by decide)) rfl (by decide) (by decide) ?_
  refine lexes_tok [] [41] (58 :: 105 :: 110 :: 116 :: 61 :: 49 :: 59 :: r) (k := 4) (between_zero _ rfl (by decide)) rfl (by decide) (by decide) ?_
  refine lexes_tok [] [58] (105 :: 110 :: 116 :: 61 :: 49 :: 59 :: r) (k := 4) (between_zero _ rfl (by decide)) rfl (by decide) (by decide) ?_
  refine lexes_tok [] [105, 110, 116] (61 :: 49 :: 59 :: r) (k := 2) (between_zero _ rfl (by decide)) rfl (by decide) (by decide) ?_
  refine lexes_tok [] [61] (49 :: 59 :: r) (k := 4) (between_zero _ rfl (by decide)) rfl (by decide) (by decide) ?_
  refine lexes_tok [] [49] (59 :: r) (k := 3) (between_zero _ rfl (by decide)) rfl (by decide) (by decide) ?_
  refine lexes_tok [] [59] r (k := 4) (between_zero _ rfl (by decide)) rfl (by decide) (by decide) ?_
  simpa [defT, Nat.add_assoc] using h
theorem g_lexes (r : List UInt8) {p : Nat} {acc : List Lx.Tok} {res : List Lx.Tok × Nat × Nat} (h : Lexes r (p + 6) (acc ++ gT p) res) : Lexes (gC ++ r) p acc res := by
  refine lexes_tok [] [102, 117, 110] (32 :: 103 :: 40 :: r) (k := 2) (between_zero _ rfl (by decide)) rfl (by decide) (by decide) ?_
  refine lexes_tok [32] [103] (40 :: r) (k := 1) (between_one _ rfl (by decide)) rfl (by decide) (by decide) ?_
  refine lexes_tok [] [40] r (k := 4) (between_zero _ rfl (by decide)) rfl (by decide) (by decide) ?_
  simpa [gT, Nat.add_assoc] using h
theorem parc_lexes (r : List UInt8) {p : Nat} {acc : List Lx.Tok} {res : List Lx.Tok × Nat × Nat} (h : Lexes r (p + 6) (acc ++ (parT p ++ comT (p + 5))) res) : Lexes ((parC ++ [44]) ++ r) p acc res := by
  refine lexes_tok [] [120] (58 :: 105 :: 110 :: 116 :: 44 :: r) (k := 1) (between_zero _ rfl (by decide)) rfl (by decide) (by decide) ?_
  refine lexes_tok [] [58] (105 :: 110 :: 116 :: 44 :: r) (k := 4) (between_zero _ rfl (by decide)) rfl (by decide) (by decide) ?_
  refine lexes_tok [] [105, 110, 116] (44 :: r) (k := 2) (between_zero _ rfl (by decide)) rfl (by decide) (by decide) ?_
  refine lexes_tok [] [44] r (k := 4) (between_zero _ rfl (by decide)) rfl (by decide) (by decide) ?_
  simpa [parT, comT, Nat.add_assoc] using h
theorem par_lexes (r : List UInt8) {p : Nat} {acc : List Lx.Tok} {res : List Lx.Tok × Nat × Nat} (h : Lexes (41 :: r) (p + 5) (acc ++ parT p) res) : Lexes (parC ++ (41 :: r)) p acc res := by
  refine lexes_tok [] [120] (58 :: 105 :: 110 :: 116 :: 41 :: r) (k := 1) (between_zero _ rfl (by decide)) rfl (by decide) (by decide) ?_
  refine lexes_tok [] [58] (105 :: 110 :: 116 :: 41 :: r) (k := 4) (between_zero _ rfl (by decide)) rfl (by decide) (by decide) ?_
  refine lexes_tok [] [105, 110, 116] (41 :: r) (k := 2) (between_zero _ rfl (by decide)) rfl (by decide) (by decide) ?_
  simpa [parT, Nat.add_assoc] using h
theorem h_lexes (r : List UInt8) {p : Nat} {acc : List Lx.Tok} {res : List Lx.Tok × Nat × Nat} (h : Lexes r (p + 8) (acc ++ hT p) res) : Lexes (hC ++ r) p acc res := by
  refine lexes_tok [] [41] (58 :: 105 :: 110 :: 116 :: 61 :: 104 :: 40 :: r) (k := 4) (between_zero _ rfl (by decide)) rfl (by decide) (by decide) ?_
  refine lexes_tok [] [58] (105 :: 110 :: 116 :: 61 :: 104 :: 40 :: r) (k := 4) (between_zero _ rfl (by decide)) rfl (by decide) (by decide) ?_
  refine lexes_tok [] [105, 110, 116] (61 :: 104 :: 40 :: r) (k := 2) (between_zero _ rfl (by decide)) rfl (by decide) (by decide) ?_
  refine lexes_tok [] [61] (104 :: 40 :: r) (k := 4) (between_zero _ rfl (by decide)) rfl (by decide) (by decide) ?_
  refine lexes_tok [] [104] (40 :: r) (k := 1) (between_zero _ rfl (by decide)) rfl (by decide) (by decide) ?_
  refine lexes_tok [] [40] r (k := 4) (between_zero _ rfl (by decide)) rfl (by decide) (by decide) ?_
  simpa [hT, Nat.add_assoc] using h
theorem argc_lexes (r : List UInt8) {p : Nat} {acc : List Lx.Tok} {res : List Lx.Tok × Nat × Nat} (h : Lexes r (p + 2) (acc ++ (argT p ++ comT (p + 1))) res) : Lexes ((argC ++ [44]) ++ r) p acc res := by
  refine lexes_tok [] [49] (44 :: r) (k := 3) (between_zero _ rfl (by decide)) rfl (by decide) (by decide) ?_
  refine lexes_tok [] [44] r (k := 4) (between_zero _ rfl (by decide)) rfl (by decide) (by decide) ?_
  simpa [argT, comT, Nat.add_assoc] using h
theorem arg_lexes (r : List UInt8) {p : Nat} {acc : List Lx.Tok} {res : List Lx.Tok × Nat × Nat} (h : Lexes (41 :: r) (p + 1) (acc ++ argT p) res) : Lexes (argC ++ (41 :: r)) p acc res := by
  refine lexes_tok [] [49] (41 :: r) (k := 3) (between_zero _ rfl (by decide)) rfl (by decide) (by decide) ?_
  simpa [argT, Nat.add_assoc] using h
theorem end_lexes {p : Nat} {acc : List Lx.Tok} {res : List Lx.Tok × Nat × Nat} (h : Lexes [] (p + 2) (acc ++ endT p) res) : Lexes endC p acc res := by
  refine lexes_tok [] [41] [59] (k := 4) (between_zero _ rfl (by decide)) rfl (by decide) (by decide) ?_
  refine lexes_tok [] [59] [] (k := 4) (between_zero _ rfl (by decide)) rfl (by decide) (by decide) ?_
  simpa [endT, Nat.add_assoc] using h
theorem reps_lexes {c : List UInt8} {f : Nat → List Lx.Tok} {w : Nat} (hc : ∀ (r : List UInt8) {p : Nat} {acc : List Lx.Tok} {res : List Lx.Tok × Nat × Nat}, Lexes r (p + w) (acc ++ f p) res → Lexes (c ++ r) p acc res) (r : List UInt8) :
    ∀ (n : Nat) {p : Nat} {acc : List Lx.Tok} {res : List Lx.Tok × Nat × Nat}, Lexes r (p + n * w) (acc ++ repsT f w n p) res → Lexes (reps n c ++ r) p acc res
  | 0, p, acc, res, h => by simpa [reps, repsT] using h
  | n + 1, p, acc, res, h => by
    rw [reps, List.append_assoc]
    refine hc _ (reps_lexes hc r n ?_)
    rw [Nat.add_assoc, Nat.add_comm w, ← Nat.succ_mul, List.append_assoc]
    exact h
/-- All tokens. -/
def tailT (p a q : Nat) : List Lx.Tok := sepT parT 5 p q ++ (hT (q + (sep p parC).length) ++ (sepT argT 1 a (q + (sep p parC).length + 8) ++ (endT (q + (sep p parC).length + 8 + (sep a argC).length) ++ [⟨5, [], [], q + (sep p parC).length + 8 + (sep a argC).length + 2⟩])))
def toks (i d p a : Nat) : List Lx.Tok := repsT impT 9 i 0 ++ (repsT defT 14 d (i * 9) ++ (gT (i * 9 + d * 14) ++ tailT p a (i * 9 + d * 14 + 6)))
theorem args_lexes (a : Nat) {p : Nat} {acc : List Lx.Tok} : Lexes (sep a argC ++ endC) p acc (acc ++ (sepT argT 1 a p ++ (endT (p + (sep a argC).length) ++ [⟨5, [], [], p + (sep a argC).length + 2⟩])), 0, 0) := by
  cases a with
  | zero =>
    have h := end_lexes (p := p) (lexes_end (p + 2) (acc ++ endT p))
    simpa [sep, sepT] using h
  | succ n =>
    unfold sep
    rw [List.append_assoc]
    refine reps_lexes argc_lexes _ n (arg_lexes [59] ?_)
    have h := end_lexes (p := p + n * 2 + 1) (lexes_end (p + n * 2 + 1 + 2) (acc ++ repsT (fun q => argT q ++ comT (q + 1)) 2 n p ++ argT (p + n * 2) ++ endT (p + n * 2 + 1)))
    have hl : (reps n (argC ++ [44]) ++ argC).length = n * 2 + 1 := by rw [List.length_append, reps_len]; rfl
    rw [hl]
    simpa [sepT, endC, Nat.add_assoc] using h
theorem tail_lexes (p a : Nat) {q : Nat} {acc : List Lx.Tok} : Lexes (sep p parC ++ (hC ++ (sep a argC ++ endC))) q acc (acc ++ tailT p a q, 0, 0) := by
  unfold tailT
  cases p with
  | zero =>
    have h := h_lexes (sep a argC ++ endC) (p := q) (args_lexes a (p := q + 8) (acc := acc ++ hT q))
    simpa [sep, sepT, List.append_assoc] using h
  | succ n =>
    have hl : (sep (n + 1) parC).length = n * 6 + 5 := by unfold sep; rw [List.length_append, reps_len]; rfl
    rw [hl, sep_succ n parC, sepT_succ parT 5 n q, List.append_assoc]
    refine reps_lexes parc_lexes _ n (par_lexes _ ?_)
    have h := h_lexes (sep a argC ++ endC) (p := q + n * 6 + 5) (args_lexes a (p := q + n * 6 + 5 + 8) (acc := acc ++ repsT (fun q => parT q ++ comT (q + 5)) 6 n q ++ parT (q + n * 6) ++ hT (q + n * 6 + 5)))
    show Lexes (hC ++ (sep a argC ++ endC)) _ _ _
    simpa [Nat.add_assoc, List.append_assoc] using h
theorem text_len (i d p a : Nat) (h1 : i ≤ 20) (h2 : d ≤ 70) (h3 : p ≤ 12) (h4 : a ≤ 12) : (text i d p a).length ≤ 1500 := by
  have hs : ∀ (n : Nat) (c : List UInt8), (sep n c).length ≤ n * (c.length + 1) := by
    intro n c
    cases n with
    | zero => simp [sep]
    | succ n =>
      simp only [sep, List.length_append, reps_len, List.length_cons, List.length_nil, Nat.succ_mul, Nat.zero_add]
      omega
  have e1 := hs p parC
  have e2 := hs a argC
  have e3 : parC.length = 5 := rfl
  have e4 : argC.length = 1 := rfl
  have e5 : impC.length = 9 := rfl
  have e6 : defC.length = 14 := rfl
  have e7 : gC.length = 6 := rfl
  have e8 : hC.length = 8 := rfl
  have e9 : endC.length = 2 := rfl
  unfold text
  simp only [List.length_append, reps_len, e3, e4, e5, e6, e7, e8, e9] at e1 e2 ⊢
  omega
theorem text_lex (i d p a : Nat) (h1 : i ≤ 20) (h2 : d ≤ 70) (h3 : p ≤ 12) (h4 : a ≤ 12) : lex (text i d p a) = (toks i d p a, 0, 0) := by
  have hl := text_len i d p a h1 h2 h3 h4
  unfold lex
  rw [if_neg (by omega)]
  have h : Lexes (text i d p a) 0 [] (toks i d p a, 0, 0) := by
    unfold text
    refine reps_lexes imp_lexes _ i (reps_lexes def_lexes _ d (g_lexes _ ?_))
    have h := tail_lexes p a (q := 0 + i * 9 + d * 14 + 6) (acc := [] ++ repsT impT 9 i 0 ++ repsT defT 14 d (0 + i * 9) ++ gT (0 + i * 9 + d * 14))
    simpa [toks, List.append_assoc, Nat.add_assoc] using h
  exact h _ (by omega)
end Go.Proofs.YtpkhdlnlkeehhaaGreatDoor.Lm
/- Plain: the two parsers, level by level. No program in sight. -/
namespace Go.Proofs.YtpkhdlnlkeehhaaGreatDoor.Pc
open Tr Ps

theorem dig1 : Lib.decDigits (1 : Int).toNat = [49] := by decide +kernel
theorem dig2 : Lib.decDigits (2 : Int).toNat = [50] := by decide +kernel
theorem dig3 : Lib.decDigits (3 : Int).toNat = [51] := by decide +kernel
theorem dig4 : Lib.decDigits (4 : Int).toNat = [52] := by decide +kernel
theorem dig5 : Lib.decDigits (5 : Int).toNat = [53] := by decide +kernel
theorem dig6 : Lib.decDigits (6 : Int).toNat = [54] := by decide +kernel
theorem dig7 : Lib.decDigits (7 : Int).toNat = [55] := by decide +kernel
theorem dig8 : Lib.decDigits (8 : Int).toNat = [56] := by decide +kernel
theorem dig9 : Lib.decDigits (9 : Int).toNat = [57] := by decide +kernel
theorem dig10 : Lib.decDigits (10 : Int).toNat = [49, 48] := by decide +kernel
theorem dig11 : Lib.decDigits (11 : Int).toNat = [49, 49] := by decide +kernel
theorem dig12 : Lib.decDigits (12 : Int).toNat = [49, 50] := by decide +kernel
theorem dig13 : Lib.decDigits (13 : Int).toNat = [49, 51] := by decide +kernel
theorem dig14 : Lib.decDigits (14 : Int).toNat = [49, 52] := by decide +kernel
theorem dig15 : Lib.decDigits (15 : Int).toNat = [49, 53] := by decide +kernel
theorem dig16 : Lib.decDigits (16 : Int).toNat = [49, 54] := by decide +kernel
theorem dig17 : Lib.decDigits (17 : Int).toNat = [49, 55] := by decide +kernel
theorem dig18 : Lib.decDigits (18 : Int).toNat = [49, 56] := by decide +kernel

section
variable {tk : List Tk}

theorem out_if {p : Prop} [Decidable p] {q : Bool} {s0 : St} {f1 f2 : List Int × St} {g1 g2 : List UInt8 × Pr.Rs} (hpq : p ↔ q = true) (h1 : p → Out tk s0 f1.2 f1.1 g1.2 g1.1) (h2 : ¬ p → Out tk s0 f2.2 f2.1 g2.2 g2.1) :
    Out tk s0 (if p then f1 else f2).2 (if p then f1 else f2).1 (if q = true then g1 else g2).2 (if q = true then g1 else g2).1 := by
  by_cases h : p
  · rw [if_pos h, if_pos (hpq.1 h)]
    exact h1 h
  · rw [if_neg h, if_neg (fun e => h (hpq.2 e))]
    exact h2 h

/-- Things with commas between them: behind the first of so many. -/
theorem sim_listGo (ht : Toks tk) {one : F} {gone : Pr.G} (ho : Sim tk one gone) : ∀ (n k c : Nat) {s0 s : St} {l : List Int} {r : Pr.Rs} {x : List UInt8}, c + k = 8 → tk.length ≤ n + s.used → Out tk s0 s l r x →
    Out tk s0 (if s.e = 0 ∧ nextB tk [[44]] s.used = true then listGo tk one k (l ++ [(leaf tk s).1]) (leaf tk s).2 else (l, s)).2 (if s.e = 0 ∧ nextB tk [[44]] s.used = true then listGo tk one k (l ++ [(leaf tk s).1]) (leaf tk s).2 else (l, s)).1 (Pr.argsGo tk gone n c x r).2 (Pr.argsGo tk gone n c x r).1
  | 0, k, c, s0, s, l, r, x, _, hn, o => by
    have := o.2.1.1
    omega
  | n + 1, k, c, s0, s, l, r, x, hc, hn, o => by
    have hb := both_is o [44]
    unfold Pr.argsGo
    refine out_if hb (fun h => ?_) (fun _ => o)
    obtain ⟨o1, e1⟩ := o.leaf ht h.1 (next_kind h.2)
    cases k with
    | zero =>
      obtain rfl : c = 8 := by omega
      unfold listGo
      simp only [if_true]
      have o2 := o1.fail (e := 15) (by decide) (l ++ [(leaf tk s).1]) (x ++ (Pr.leaf tk r).1)
      have hd : (Pr.fail tk 15 (Pr.leaf tk r).2).e ≠ 0 := by
        rw [o2.2.2.1.1]
        unfold fail
        rw [if_pos e1]
        show (15 : Int) ≠ 0
        decide
      rw [ho.dg _ hd]
      have hg : ∀ (m c : Nat) (y : List UInt8), (Pr.argsGo tk gone m c y (Pr.fail tk 15 (Pr.leaf tk r).2)).2 = Pr.fail tk 15 (Pr.leaf tk r).2 := by
        intro m c y
        cases m with
        | zero => rfl
        | succ m => unfold Pr.argsGo; rw [is_dead hd, if_neg (by simp)]
      rw [hg]
      have hd2 : (fail tk 15 (leaf tk s).2).e ≠ 0 := by rw [← o2.2.2.1.1]; exact hd
      exact o2.dead hd2 _ _
    | succ k =>
      have hc8 : c ≠ 8 := by omega
      unfold listGo
      simp only [if_neg hc8, if_pos e1]
      have o2 := o1.then ho
      have hu : (leaf tk s).2.used = s.used + 1 := by
        obtain ⟨t, h1, _⟩ := o.2.1.get
        exact (got_leaf o.2.1.2.2 h1).2.1
      have hm : (leaf tk s).2.used ≤ (one (leaf tk s).2).2.used ∨ (one (leaf tk s).2).2.e ≠ 0 := by
        by_cases he : (one (leaf tk s).2).2.e = 0
        · obtain ⟨_, _, _, h4⟩ := ho.go (leaf tk s).2 (Pr.leaf tk r).2 e1 o1.2.1 o1.2.2.1
          exact Or.inl (h4 he).used
        · exact Or.inr he
      rcases hm with hm | hm
      · have := sim_listGo ht ho n k (c + 1) (by omega) (by rw [hu] at hm; show tk.length ≤ n + (one (leaf tk s).2).2.used; omega) o2
        simp only [lift, List.append_assoc, List.cons_append, List.nil_append] at this ⊢
        exact this
      · simp only [lift] at o2
        rw [if_neg (by simp [hm])]
        have hd : (gone (Pr.leaf tk r).2).2.e ≠ 0 := by rw [o2.2.2.1.1]; exact hm
        have hg : ∀ (m c : Nat) (y : List UInt8), (Pr.argsGo tk gone m c y (gone (Pr.leaf tk r).2).2).2 = (gone (Pr.leaf tk r).2).2 := by
          intro m c y
          cases m with
          | zero => rfl
          | succ m => unfold Pr.argsGo; rw [is_dead hd, if_neg (by simp)]
        rw [hg]
        exact o2.dead hm _ _
theorem rargs_dead {gone : Pr.G} {r : Pr.Rs} (he : r.e ≠ 0) : ∀ (n c : Nat) (x : List UInt8), (Pr.argsGo tk gone n c x r).2 = r
  | 0, _, _ => rfl
  | n + 1, c, x => by unfold Pr.argsGo; rw [is_dead he, if_neg (by simp)]
/-- The list behind a parenthesis, where none is shut at once. -/
theorem sim_list (ht : Toks tk) {one : F} {gone : Pr.G} (ho : Sim tk one gone) {s0 s : St} {l : List Int} {r : Pr.Rs} {x : List UInt8} (o : Out tk s0 s l r x) :
    Out tk s0 (list tk one s).2 (l ++ (list tk one s).1) (if r.e = 0 ∧ Pr.is tk [41] r = false then (x ++ (Pr.args tk gone r).1, (Pr.args tk gone r).2) else (x, r)).2 (if r.e = 0 ∧ Pr.is tk [41] r = false then (x ++ (Pr.args tk gone r).1, (Pr.args tk gone r).2) else (x, r)).1 := by
  by_cases he : s.e = 0
  · have hb := is_eq o.2.1 o.2.2.1 he [41]
    unfold list
    by_cases hn : nextB tk [[41]] s.used = true
    · rw [if_pos hn, if_neg (by rw [hb, hn]; simp), List.append_nil]
      exact o
    · rw [if_neg hn, if_pos ⟨o.2.2.1.1.trans he, by rw [hb]; simpa using hn⟩]
      have hf : Out tk s (one s).2 [(one s).1] (gone r).2 (gone r).1 := ho.go s r he o.2.1 o.2.2.1
      unfold listGo Pr.args
      rw [if_pos he]
      have hm : s.used ≤ (one s).2.used ∨ (one s).2.e ≠ 0 := by
        by_cases h2 : (one s).2.e = 0
        · exact Or.inl (hf.2.2.2 h2).used
        · exact Or.inr h2
      have h4 : Out tk s (if (one s).2.e = 0 ∧ nextB tk [[44]] (one s).2.used = true then listGo tk one 7 ([(one s).1] ++ [(leaf tk (one s).2).1]) (leaf tk (one s).2).2 else ([(one s).1], (one s).2)).2 (if (one s).2.e = 0 ∧ nextB tk [[44]] (one s).2.used = true then listGo tk one 7 ([(one s).1] ++ [(leaf tk (one s).2).1]) (leaf tk (one s).2).2 else ([(one s).1], (one s).2)).1 (Pr.argsGo tk gone tk.length 1 (gone r).1 (gone r).2).2 (Pr.argsGo tk gone tk.length 1 (gone r).1 (gone r).2).1 := by
        by_cases h2 : (one s).2.e = 0
        · exact sim_listGo ht ho tk.length 7 1 (by omega) (by omega) hf
        · rw [if_neg (by simp [h2]), rargs_dead (by rw [hf.2.2.1.1]; exact h2)]
          exact hf.dead h2 _ _
      simp only [List.nil_append, List.singleton_append] at h4 ⊢
      exact ⟨o.1, h4.2.1, h4.2.2.1, fun e2 => (o.2.2.2 he).trans o.2.1.2.2 (h4.2.2.2 e2)⟩
  · have h1 : list tk one s = ([], s) := by
      unfold list
      split
      · rfl
      · unfold listGo; rw [if_neg he]
    rw [h1, if_neg (by rw [o.2.2.1.1]; simp [he])]
    exact o.dead he _ _
theorem list_dead {one : F} {s : St} (he : s.e ≠ 0) : list tk one s = ([], s) := by
  unfold list
  split
  · rfl
  · unfold listGo; rw [if_neg he]

theorem lift_dead {f : F} {s : St} (h : (lift f s).2 = s) : (f s).2 = s := h

/-- Once there is a fault nothing is turned. -/
theorem must_dead {ts : List (List UInt8)} {s : St} (he : s.e ≠ 0) : must tk ts s = (0, s) := by
  unfold must
  rw [if_neg (by simp [he]), fail_dead he]
theorem kind_dead {k : Int} {s : St} (he : s.e ≠ 0) : kind tk k s = (0, s) := by
  unfold kind
  rw [if_neg (by simp [he]), fail_dead he]
theorem rmust_dead {y : List UInt8} {r : Pr.Rs} (he : r.e ≠ 0) : Pr.must tk y r = ([], r) := by
  unfold Pr.must
  rw [is_dead he, if_neg (by simp), rfail_dead he]
theorem rkind_dead {k : Int} {r : Pr.Rs} (he : r.e ≠ 0) : Pr.kind tk k r = ([], r) := by
  unfold Pr.kind
  rw [if_neg (by simp [he]), rfail_dead he]

/-- A level's four. -/
structure SimV (tk : List Tk) (d : Nat) (lo : Ps.Lv) (glo : Pr.Lv) : Prop where
  ex : Sim tk lo.ex glo.ex
  rest : d ≠ 0 → Sim tk lo.fo glo.fo ∧ Sim tk lo.ne glo.ne ∧ Sim tk lo.fa glo.fa

theorem sim_unary (ht : Toks tk) {d : Nat} {f : F} {g : Pr.G} (hf : d ≠ 0 → Sim tk f g) {s : St} {r : Pr.Rs} (he : s.e = 0) (hi : Inv tk s) (hr : Rel s r) (hk : (peek tk s.used).kind ≠ 5) :
    Out tk s (unary tk d f s).2 [(unary tk d f s).1] (Pr.unary tk d g r).2 (Pr.unary tk d g r).1 := by
  obtain ⟨o, e1⟩ := (Out.nil hi hr).leaf ht he hk
  have re1 : (Pr.leaf tk r).2.e = 0 := o.2.2.1.1.trans e1
  unfold unary Pr.unary deep Pr.nest
  by_cases hd : d = 0
  · simp only [if_pos hd]
    have o2 := o.fail (e := 23) (by decide) [0] []
    have h1 : (fail tk 23 (leaf tk s).2).e ≠ 0 := by unfold fail; rw [if_pos e1]; show (23 : Int) ≠ 0; decide
    rw [if_neg h1, if_neg (by rw [o2.2.2.1.1]; exact h1)]
    exact o2
  · simp only [if_neg hd, if_pos e1, if_pos re1]
    exact ((o.then (hf hd)).node (k := 11) (by decide) (fun _ => by simp [lift])).cast (by rw [dig11]; simp)

theorem sim_list' (ht : Toks tk) {one : F} {gone : Pr.G} (ho : Sim tk one gone) {s0 s : St} {l : List Int} {r : Pr.Rs} {x : List UInt8} (o : Out tk s0 s l r x) :
    Out tk s0 (list tk one s).2 (l ++ (list tk one s).1) (if Pr.is tk [41] r then (x, r) else (x ++ (Pr.args tk gone r).1, (Pr.args tk gone r).2)).2 (if Pr.is tk [41] r then (x, r) else (x ++ (Pr.args tk gone r).1, (Pr.args tk gone r).2)).1 := by
  have o1 := sim_list ht ho o
  by_cases he : r.e = 0
  · cases h : Pr.is tk [41] r
    · rw [h, if_pos ⟨he, rfl⟩] at o1
      rw [if_neg (by simp)]
      exact o1
    · rw [h, if_neg (by simp)] at o1
      rw [if_pos rfl]
      exact o1
  · have hs : s.e ≠ 0 := by rw [← o.2.2.1.1]; exact he
    rw [list_dead hs, is_dead he, if_neg (by simp)]
    have hd : (Pr.args tk gone r).2 = r := by
      unfold Pr.args
      rw [ho.dg _ he, rargs_dead he]
    rw [hd]
    exact o.dead hs _ _
theorem sim_call (ht : Toks tk) {ex : F} {g : Pr.G} (hx : Sim tk ex g) {s0 s : St} {l : List Int} {r : Pr.Rs} {x : List UInt8} (hl : 1 ≤ l.length) (o : Out tk s0 s l r x) :
    Out tk s0 (call tk ex l s).2 [(call tk ex l s).1] (Pr.call tk g x r).2 (Pr.call tk g x r).1 :=
  (((sim_list' ht hx (o.then (sim_must ht [40]))).then (sim_must ht [41])).node (k := 13) (by decide) (fun _ => by simp [lift]; omega)).cast (by rw [dig13]; simp [Pr.call])
theorem sim_callee (ht : Toks tk) {s0 s : St} {a : Int} {r : Pr.Rs} {x : List UInt8} (he : s.e = 0) (o : Out tk s0 s [a] r x) :
    Out tk s0 (callee tk s a).2 (callee tk s a).1 (Pr.callee tk x r).2 (Pr.callee tk x r).1 ∧ 1 ≤ (callee tk s a).1.length := by
  have hb := is_eq o.2.1 o.2.2.1 he [46]
  unfold callee Pr.callee
  by_cases h : nextB tk [[46]] s.used = true
  · rw [if_pos h, if_pos (by rw [hb]; exact h)]
    exact ⟨((o.leaf ht he (next_kind h)).1.then (sim_kind ht (k := 1) (by decide))).cast (by simp), by simp⟩
  · rw [if_neg h, if_neg (by rw [hb]; exact h)]
    exact ⟨o, by simp⟩
theorem sim_name (ht : Toks tk) {ex : F} {g : Pr.G} (hx : Sim tk ex g) {s : St} {r : Pr.Rs} (he : s.e = 0) (hi : Inv tk s) (hr : Rel s r) (hk : (peek tk s.used).kind ≠ 5) :
    Out tk s (name tk ex s).2 [(name tk ex s).1] (Pr.name tk g r).2 (Pr.name tk g r).1 := by
  obtain ⟨o, e1⟩ := (Out.nil hi hr).leaf ht he hk
  have hc : (Pr.leaf tk r).2.inn = (leaf tk s).2.clause := (o.2.2.1.2.2 e1).2
  have h1 := is_eq o.2.1 o.2.2.1 e1 [46]
  have h2 := is_eq o.2.1 o.2.2.1 e1 [40]
  have h3 : nextB tk [[46], [40]] (leaf tk s).2.used = (nextB tk [[46]] (leaf tk s).2.used || nextB tk [[40]] (leaf tk s).2.used) := by
    have q := any_eq o.2.1 o.2.2.1 e1 [[46], [40]]
    rw [← q, ← h1, ← h2]
    simp [Pr.any]
  unfold name Pr.name
  simp only
  rw [hc, h1, h2, h3, Bool.not_or]
  by_cases h : ((leaf tk s).2.clause || (!nextB tk [[46]] (leaf tk s).2.used && !nextB tk [[40]] (leaf tk s).2.used)) = true
  · rw [if_pos h, if_pos h]
    exact (Out.one ht hi hr he hk (k := 14) (by decide)).cast (by rw [dig14]; simp)
  · rw [if_neg h, if_neg h]
    rw [List.nil_append, List.nil_append] at o
    have o2 := sim_callee ht e1 o
    exact sim_call ht hx o2.2 o2.1
theorem sim_atom (ht : Toks tk) {ex : F} {g : Pr.G} (hx : Sim tk ex g) : Sim tk (atom tk ex) (Pr.atom tk g) := by
  refine ⟨fun s r he hi hr => ?_, fun s he => ?_, fun r he => ?_⟩
  · have o := Out.nil hi hr
    have hp := peek_tok hi hr he
    have b1 := is_eq hi hr he tTrue
    have b2 := is_eq hi hr he tFalse
    have b3 := is_eq hi hr he tRes
    have b4 := is_eq hi hr he [40]
    have b5 : nextB tk [tTrue, tFalse] s.used = (nextB tk [tTrue] s.used || nextB tk [tFalse] s.used) := by
      have q := any_eq hi hr he [tTrue, tFalse]
      rw [← q, ← b1, ← b2]
      simp [Pr.any]
    have hc := (hr.2.2 he).2
    unfold lift atom Pr.atom
    simp only [if_pos he, if_pos (hr.1.trans he)]
    rw [hp, b1, b2, b3, b4, hc, b5]
    by_cases h1 : (peek tk s.used).kind = 3
    · rw [if_pos h1, if_pos h1]
      exact (Out.one ht hi hr he (by omega) (k := 15) (by decide)).cast (by rw [dig15]; simp)
    · rw [if_neg h1, if_neg h1]
      by_cases h2 : (nextB tk [tTrue] s.used || nextB tk [tFalse] s.used) = true
      · rw [if_pos h2, if_pos h2]
        exact (Out.one ht hi hr he (next_kind (b5.trans h2)) (k := 16) (by decide)).cast (by rw [dig16]; simp)
      · rw [if_neg h2, if_neg h2]
        by_cases h3 : (s.clause && nextB tk [tRes] s.used) = true
        · rw [if_pos h3, if_pos h3]
          exact (Out.one ht hi hr he (next_kind (by simp only [Bool.and_eq_true] at h3; exact h3.2)) (k := 17) (by decide)).cast (by rw [dig17]; simp)
        · rw [if_neg h3, if_neg h3]
          by_cases h4 : nextB tk [[40]] s.used = true
          · rw [if_pos h4, if_pos h4]
            exact ((((o.leaf ht he (next_kind h4)).1.then hx).then (sim_must ht [41])).node (k := 12) (by decide) (fun _ => by simp [lift])).cast (by rw [dig12]; simp)
          · rw [if_neg h4, if_neg h4]
            by_cases h5 : (peek tk s.used).kind = 1
            · rw [if_pos h5, if_pos h5]
              exact sim_name ht hx he hi hr (by omega)
            · rw [if_neg h5, if_neg h5]
              exact o.fail (by decide) _ _
  · unfold lift atom
    rw [if_neg he]
  · unfold Pr.atom
    rw [if_neg he]
theorem sim_factor (ht : Toks tk) {d : Nat} {lo : Ps.Lv} {glo : Pr.Lv} (h : SimV tk d lo glo) : Sim tk (factor tk d lo) (Pr.factor tk d glo) := by
  have ha := sim_atom ht h.ex
  refine ⟨fun s r he hi hr => ?_, fun s he => ?_, fun r he => ?_⟩
  · have hb := is_eq hi hr he [45]
    unfold lift factor Pr.factor
    by_cases hn : nextB tk [[45]] s.used = true
    · rw [if_pos ⟨he, hn⟩, if_pos (by rw [hb]; exact hn)]
      exact sim_unary ht (fun hd => (h.rest hd).2.2) he hi hr (next_kind hn)
    · rw [if_neg (by simp [hn]), if_neg (by rw [hb]; exact hn)]
      exact ha.go s r he hi hr
  · unfold lift factor
    rw [if_neg (by simp [he])]
    exact ha.df s he
  · unfold Pr.factor
    rw [is_dead he, if_neg (by simp)]
    exact ha.dg r he
theorem sim_comparison (ht : Toks tk) {d : Nat} {lo : Ps.Lv} {glo : Pr.Lv} (h : SimV tk d lo glo) : Sim tk (comparison tk d lo) (fun r => if Pr.any tk sCmp (Pr.sum tk d glo r).2 then (Pr.bin (Pr.sum tk d glo r).1 (Pr.leaf tk (Pr.sum tk d glo r).2).1 (Pr.sum tk d glo (Pr.leaf tk (Pr.sum tk d glo r).2).2).1, (Pr.sum tk d glo (Pr.leaf tk (Pr.sum tk d glo r).2).2).2) else Pr.sum tk d glo r) := by
  have hs : Sim tk (sum tk d lo) (Pr.sum tk d glo) := sim_row ht (sim_row ht (sim_factor ht h) sMul) sSum
  obtain ⟨n, hn⟩ : ∃ n, tk.length = n + 1 := ⟨tk.length - 1, by have := ht.pos; omega⟩
  refine ⟨fun s r he hi hr => ?_, fun s he => ?_, fun r he => ?_⟩
  · have o : Out tk s (sum tk d lo s).2 [(sum tk d lo s).1] (Pr.sum tk d glo r).2 (Pr.sum tk d glo r).1 := hs.go s r he hi hr
    have hb := both_any o sCmp
    unfold lift comparison row
    rw [hn]
    unfold rowGo
    by_cases hx : (sum tk d lo s).2.e = 0 ∧ nextB tk sCmp (sum tk d lo s).2.used = true
    · simp only [if_pos hx, if_pos (hb.1 hx), if_true]
      exact (((o.leaf ht hx.1 (next_kind hx.2)).1.then hs).node (k := 10) (by decide) (fun _ => by simp [lift])).cast (by rw [dig10]; simp [Pr.bin])
    · simp only [if_neg hx, if_neg (fun e => hx (hb.2 e))]
      exact o
  · unfold lift comparison row
    have h1 : (sum tk d lo s).2 = s := hs.df s he
    rw [h1]
    exact rowGo_dead he _ _
  · have h1 : (Pr.sum tk d glo r).2 = r := hs.dg r he
    rw [h1, any_dead he, if_neg (by simp)]
    exact h1
theorem sim_negation (ht : Toks tk) {d : Nat} {lo : Ps.Lv} {glo : Pr.Lv} (h : SimV tk d lo glo) : Sim tk (negation tk d lo) (Pr.not tk d glo) := by
  have ha := sim_comparison ht h
  refine ⟨fun s r he hi hr => ?_, fun s he => ?_, fun r he => ?_⟩
  · have hb := is_eq hi hr he tNot
    unfold lift negation Pr.not
    by_cases hn : nextB tk [tNot] s.used = true
    · rw [if_pos ⟨he, hn⟩, if_pos (by rw [hb]; exact hn)]
      exact sim_unary ht (fun hd => (h.rest hd).2.1) he hi hr (next_kind hn)
    · rw [if_neg (by simp [hn]), if_neg (by rw [hb]; exact hn)]
      exact ha.go s r he hi hr
  · unfold lift negation
    rw [if_neg (by simp [he])]
    exact ha.df s he
  · unfold Pr.not
    rw [is_dead he, if_neg (by simp)]
    exact ha.dg r he
theorem sim_formula (ht : Toks tk) {d : Nat} {lo : Ps.Lv} {glo : Pr.Lv} (h : SimV tk d lo glo) : Sim tk (formula tk d lo) (Pr.formula tk d glo) := by
  have hs : Sim tk (disjunction tk d lo) (Pr.or tk d glo) := sim_row ht (sim_row ht (sim_negation ht h) sAnd) sOr
  refine ⟨fun s r he hi hr => ?_, fun s he => ?_, fun r he => ?_⟩
  · have o : Out tk s (disjunction tk d lo s).2 [(disjunction tk d lo s).1] (Pr.or tk d glo r).2 (Pr.or tk d glo r).1 := hs.go s r he hi hr
    have hb := both_is o [61, 62]
    unfold lift formula Pr.formula
    simp only
    by_cases hx : (disjunction tk d lo s).2.e = 0 ∧ nextB tk [[61, 62]] (disjunction tk d lo s).2.used = true
    · rw [if_pos hx, if_pos (hb.1 hx)]
      obtain ⟨o1, e1⟩ := o.leaf ht hx.1 (next_kind hx.2)
      have re1 := o1.2.2.1.1.trans e1
      unfold deep Pr.nest
      by_cases hd : d = 0
      · simp only [if_pos hd]
        have o2 := o1.fail (e := 23) (by decide) [0] []
        have h1 : (fail tk 23 (leaf tk (disjunction tk d lo s).2).2).e ≠ 0 := by unfold fail; rw [if_pos e1]; show (23 : Int) ≠ 0; decide
        rw [if_neg h1, if_neg (by rw [o2.2.2.1.1]; exact h1)]
        exact o2
      · simp only [if_neg hd, if_pos e1, if_pos re1]
        exact ((o1.then (h.rest hd).1).node (k := 10) (by decide) (fun _ => by simp [lift])).cast (by rw [dig10]; simp [Pr.bin])
    · rw [if_neg hx, if_neg (fun e => hx (hb.2 e))]
      exact o
  · unfold lift formula
    have h1 : (disjunction tk d lo s).2 = s := hs.df s he
    simp only
    rw [h1, if_neg (by simp [he])]
    exact h1
  · unfold Pr.formula
    have h1 : (Pr.or tk d glo r).2 = r := hs.dg r he
    simp only
    rw [h1, is_dead he, if_neg (by simp)]
    exact h1
theorem sim_express (ht : Toks tk) {d : Nat} {lo : Ps.Lv} {glo : Pr.Lv} (h : SimV tk d lo glo) : Sim tk (express tk d lo) (Pr.express tk d glo) := by
  have hf := sim_formula ht h
  have hx := h.ex
  refine ⟨fun s r he hi hr => ?_, fun s he => ?_, fun r he => ?_⟩
  · have o := Out.nil hi hr
    have b1 := is_eq hi hr he tLet
    have b2 := is_eq hi hr he tIf
    have b3 := is_eq hi hr he tAssert
    have hc := (hr.2.2 he).2
    unfold lift express Pr.express
    simp only [if_pos he, if_pos (hr.1.trans he)]
    rw [b1, b2, b3, hc]
    cases hcl : s.clause with
    | true => simpa [lift] using hf.go s r he hi hr
    | false =>
      simp only [Bool.not_false, Bool.true_and, Bool.false_eq_true, if_false]
      by_cases h1 : nextB tk [tLet] s.used = true
      · rw [if_pos h1, if_pos h1]
        exact (((((((o.leaf ht he (next_kind h1)).1.then (sim_kind ht (k := 1) (by decide))).then (sim_must ht [61])).then hx).then (sim_must ht tIn)).then hx).node (k := 7) (by decide) (fun _ => by simp [lift])).cast (by rw [dig7]; simp [Pr.exLet])
      · rw [if_neg h1, if_neg h1]
        by_cases h2 : nextB tk [tIf] s.used = true
        · rw [if_pos h2, if_pos h2]
          exact (((((((o.leaf ht he (next_kind h2)).1.then hx).then (sim_must ht tThen)).then hx).then (sim_must ht tElse)).then hx).node (k := 8) (by decide) (fun _ => by simp [lift])).cast (by rw [dig8]; simp [Pr.exIf])
        · rw [if_neg h2, if_neg h2]
          by_cases h3 : nextB tk [tAssert] s.used = true
          · rw [if_pos h3, if_pos h3]
            exact (((((o.leaf ht he (next_kind h3)).1.then hx).then (sim_must ht tIn)).then hx).node (k := 9) (by decide) (fun _ => by simp [lift])).cast (by rw [dig9]; simp [Pr.exAssert])
          · rw [if_neg h3, if_neg h3]
            exact hf.go s r he hi hr
  · unfold lift express
    rw [if_neg he]
  · unfold Pr.express
    rw [if_neg he]
/-- All levels. -/
theorem sim_lv (ht : Toks tk) : ∀ d : Nat, SimV tk d (Ps.lv tk d) (Pr.lv tk d)
  | 0 => by
    refine ⟨⟨fun s r he hi hr => (Out.nil hi hr).fail (by decide) _ _, fun s he => ?_, fun r he => ?_⟩, fun h => absurd rfl h⟩
    · unfold lift Ps.lv
      exact fail_dead he
    · unfold Pr.lv
      exact rfail_dead he
  | d + 1 => by
    have h := sim_lv ht d
    exact ⟨sim_express ht h, fun _ => ⟨sim_formula ht h, sim_negation ht h, sim_factor ht h⟩⟩
end
end Go.Proofs.YtpkhdlnlkeehhaaGreatDoor.Pc
/- Plain: definitions and programs: the two parsers side by side; a parsed tree is right. No program in sight. -/
namespace Go.Proofs.YtpkhdlnlkeehhaaGreatDoor.Pc
open Tr Ps

section
variable {tk : List Tk}

theorem sim_base (ht : Toks tk) {s0 s : St} {l : List Int} {r : Pr.Rs} {x : List UInt8} (o : Out tk s0 s l r x) :
    Out tk s0 (node 5 [(must tk [tInt, tBool] s).1] (must tk [tInt, tBool] s).2).2 (l ++ [(node 5 [(must tk [tInt, tBool] s).1] (must tk [tInt, tBool] s).2).1]) (Pr.base tk x r).2 (Pr.base tk x r).1 := by
  by_cases he : s.e = 0
  · have b1 := is_eq o.2.1 o.2.2.1 he tInt
    have b2 := is_eq o.2.1 o.2.2.1 he tBool
    have b3 : nextB tk [tInt, tBool] s.used = (nextB tk [tInt] s.used || nextB tk [tBool] s.used) := by
      have q := any_eq o.2.1 o.2.2.1 he [tInt, tBool]
      rw [← q, ← b1, ← b2]
      simp [Pr.any]
    unfold must Pr.base
    rw [b1, b2, ← b3]
    by_cases h : nextB tk [tInt, tBool] s.used = true
    · rw [if_pos ⟨he, h⟩, if_pos h]
      have o1 := Out.one ht o.2.1 o.2.2.1 he (next_kind h) (k := 5) (by decide)
      refine ⟨o.1, o1.2.1, o1.2.2.1, fun e2 => ?_⟩
      have h2 := (o.2.2.2 he).trans o.2.1.2.2 (o1.2.2.2 e2)
      rw [dig5] at h2
      simpa using h2
    · rw [if_neg (by simp [h]), if_neg h]
      have o2 := o.fail (e := 22) (by decide) (l ++ [(node 5 [0] (fail tk 22 s)).1]) x
      have h1 : (fail tk 22 s).e ≠ 0 := by unfold fail; rw [if_pos he]; show (22 : Int) ≠ 0; decide
      simp only
      rw [node_dead h1] at o2 ⊢
      exact o2
  · have hr : r.e ≠ 0 := by rw [o.2.2.1.1]; exact he
    rw [must_dead he, node_dead he]
    unfold Pr.base
    rw [is_dead hr, is_dead hr, if_neg (by simp), rfail_dead hr]
    exact o.dead he _ _

theorem Out.clause {s0 s : St} {l : List Int} {r : Pr.Rs} {x : List UInt8} (o : Out tk s0 s l r x) (b : Bool) : Inv tk { s with clause := b } ∧ Rel { s with clause := b } { r with inn := b } := by
  refine ⟨o.2.1, o.2.2.1.1, o.2.2.1.2.1, fun e => ⟨(o.2.2.1.2.2 e).1, rfl⟩⟩
theorem Got.unclause {s0 s : St} {l : List Int} {x : List UInt8} {b c : Bool} (h : Got tk { s0 with clause := b } s l x) : Got tk s0 { s with clause := c } l x :=
  ⟨h.nodes, h.used, h.lvs, h.text, h.room⟩
/-- A formula in braces. -/
theorem sim_clause (ht : Toks tk) {ex : F} {g : Pr.G} (hx : Sim tk ex g) {s0 s : St} {l : List Int} {r : Pr.Rs} {x : List UInt8} (o : Out tk s0 s l r x) (he : s.e = 0) (hk : nextB tk [[123]] s.used = true) :
    Out tk s0 (node 6 [(leaf tk s).1, (ex { (leaf tk s).2 with clause := true }).1, (must tk [[125]] { (ex { (leaf tk s).2 with clause := true }).2 with clause := false }).1] (must tk [[125]] { (ex { (leaf tk s).2 with clause := true }).2 with clause := false }).2).2
      (l ++ [(node 6 [(leaf tk s).1, (ex { (leaf tk s).2 with clause := true }).1, (must tk [[125]] { (ex { (leaf tk s).2 with clause := true }).2 with clause := false }).1] (must tk [[125]] { (ex { (leaf tk s).2 with clause := true }).2 with clause := false }).2).1])
      (Pr.must tk [125] { (g { (Pr.leaf tk r).2 with inn := true }).2 with inn := false }).2
      (x ++ ([32, 40, 54] ++ (Pr.leaf tk r).1 ++ (g { (Pr.leaf tk r).2 with inn := true }).1 ++ (Pr.must tk [125] { (g { (Pr.leaf tk r).2 with inn := true }).2 with inn := false }).1 ++ [41])) := by
  obtain ⟨o1, e1⟩ := (Out.nil o.2.1 o.2.2.1).leaf ht he (next_kind hk)
  obtain ⟨i2, r2⟩ := o1.clause true
  have o2 : Out tk _ (ex _).2 [(ex _).1] (g _).2 (g _).1 := hx.go { (leaf tk s).2 with clause := true } { (Pr.leaf tk r).2 with inn := true } e1 i2 r2
  obtain ⟨i3, r3⟩ := o2.clause false
  have o3 : Out tk s { (ex { (leaf tk s).2 with clause := true }).2 with clause := false } ([(leaf tk s).1] ++ [(ex { (leaf tk s).2 with clause := true }).1]) { (g { (Pr.leaf tk r).2 with inn := true }).2 with inn := false } ((Pr.leaf tk r).1 ++ (g { (Pr.leaf tk r).2 with inn := true }).1) := by
    refine ⟨o.2.1, i3, r3, fun e2 => ?_⟩
    have h1 := o1.2.2.2 e1
    have h2 : Got tk (leaf tk s).2 { (ex { (leaf tk s).2 with clause := true }).2 with clause := false } _ _ := (o2.2.2.2 e2).unclause
    exact h1.trans o1.2.1.2.2 h2
  have o4 := (o3.then (sim_must ht [125])).node (k := 6) (by decide) (fun _ => by simp [lift])
  refine ⟨o.1, o4.2.1, o4.2.2.1, fun e2 => ?_⟩
  have h5 := (o.2.2.2 he).trans o.2.1.2.2 (o4.2.2.2 e2)
  rw [dig6] at h5
  simpa [lift] using h5
theorem typed_dead {ex : F} {l : List Int} {s : St} (he : s.e ≠ 0) : (typed tk ex l s).2 = s := by
  simp only [typed, must_dead he, node_dead he]
  rw [if_neg (by simp [he])]
theorem sim_typed (ht : Toks tk) {ex : F} {g : Pr.G} (hx : Sim tk ex g) {s0 s : St} {l : List Int} {r : Pr.Rs} {x : List UInt8} (o : Out tk s0 s l r x) :
    Out tk s0 (typed tk ex l s).2 (typed tk ex l s).1 (Pr.typed tk g r).2 (x ++ (Pr.typed tk g r).1) := by
  have o1 := sim_base ht ((Out.nil o.2.1 o.2.2.1).then (sim_must ht [58]))
  rw [List.nil_append, List.nil_append] at o1
  have hb := both_is o1 [123]
  have h : Out tk s (typed tk ex [] s).2 (typed tk ex [] s).1 (Pr.typed tk g r).2 (Pr.typed tk g r).1 := by
    unfold typed Pr.typed
    simp only [List.nil_append]
    refine out_if hb (fun h => ?_) (fun _ => o1)
    exact sim_clause ht hx o1 h.1 h.2
  have hl : (typed tk ex l s).2 = (typed tk ex [] s).2 ∧ (typed tk ex l s).1 = l ++ (typed tk ex [] s).1 := by
    unfold typed
    simp only
    split <;> simp
  rw [hl.1, hl.2]
  by_cases he : s.e = 0
  · exact ⟨o.1, h.2.1, h.2.2.1, fun e2 => (o.2.2.2 he).trans o.2.1.2.2 (h.2.2.2 e2)⟩
  · refine ⟨o.1, h.2.1, h.2.2.1, fun e2 => ?_⟩
    exfalso
    have h3 : (typed tk ex [] s).2 = s := typed_dead he
    rw [h3] at e2
    exact he e2
theorem rtyped_dead {g : Pr.G} {r : Pr.Rs} (he : r.e ≠ 0) : Pr.typed tk g r = ([], r) := by
  simp only [Pr.typed, Pr.base, rmust_dead he, is_dead he, rfail_dead he, Bool.or_self, Bool.false_eq_true, if_false]
end
end Go.Proofs.YtpkhdlnlkeehhaaGreatDoor.Pc
/- Plain: a parsed tree is right. No program in sight. -/
namespace Go.Proofs.YtpkhdlnlkeehhaaGreatDoor.Pc
open Tr Ps

theorem getD_set' (l : List Bool) (i j : Nat) (h : i < l.length) : (l.set i true).getD j false = (l.getD j false || decide (j = i)) := by
  simp only [List.getD]
  by_cases e : i = j
  · subst e
    rw [List.getElem?_set_self h]
    simp
  · rw [List.getElem?_set_ne e, decide_eq_false (fun h => e h.symm), Bool.or_false]
theorem marks_ok : ∀ (ks : List Int) (kid : List Bool), ks.Nodup → (∀ k ∈ ks, 0 ≤ k ∧ k.toNat < kid.length ∧ kid.getD k.toNat false = false) →
    ∃ kid', marks kid ks = some kid' ∧ kid'.length = kid.length ∧ ∀ j : Nat, kid'.getD j false = (kid.getD j false || decide ((j : Int) ∈ ks))
  | [], kid, _, _ => ⟨kid, rfl, rfl, fun j => by simp⟩
  | k :: ks, kid, hn, hk => by
    have h0 := hk k (by simp)
    rw [List.nodup_cons] at hn
    obtain ⟨kid', h1, h2, h3⟩ := marks_ok ks (kid.set k.toNat true) hn.2 (fun x hx => by
      have hx1 := hk x (by simp [hx])
      refine ⟨hx1.1, by rw [List.length_set]; exact hx1.2.1, ?_⟩
      rw [getD_set' _ _ _ h0.2.1, hx1.2.2, Bool.false_or, decide_eq_false]
      intro e
      have : x = k := by omega
      exact hn.1 (this ▸ hx))
    refine ⟨kid', ?_, by rw [h2, List.length_set], fun j => ?_⟩
    · unfold marks
      rw [h0.2.2, if_neg (by simp)]
      exact h1
    · rw [h3, getD_set' _ _ _ h0.2.1, Bool.or_assoc]
      congr 1
      rw [Bool.eq_iff_iff]
      simp only [Bool.or_eq_true, decide_eq_true_eq, List.mem_cons]
      constructor
      · rintro (h | h)
        · exact Or.inl (by omega)
        · exact Or.inr h
      · rintro (h | h)
        · exact Or.inl (by omega)
        · exact Or.inr h
theorem rightGo_ok {t : T} : ∀ (l : List Nd) (i : Nat) (kid : List Bool), t.nodes.drop i = l → (∀ j n, t.nodes[j]? = some n → formed t j n = true) → (l.flatMap (·.kids)).Nodup → (∀ k ∈ l.flatMap (·.kids), 0 ≤ k ∧ k.toNat < kid.length ∧ kid.getD k.toNat false = false) →
    ∃ kid', rightGo t i l kid = some kid' ∧ kid'.length = kid.length ∧ ∀ j : Nat, kid'.getD j false = (kid.getD j false || decide ((j : Int) ∈ l.flatMap (·.kids)))
  | [], i, kid, _, _, _, _ => ⟨kid, rfl, rfl, fun j => by simp⟩
  | n :: l, i, kid, hl, hf, hn, hk => by
    have hlt : i < t.nodes.length := by
      rcases Nat.lt_or_ge i t.nodes.length with h1 | h1
      · exact h1
      · rw [List.drop_eq_nil_of_le h1] at hl; cases hl
    have hl2 := List.drop_eq_getElem_cons hlt
    rw [hl] at hl2
    injection hl2 with e1 e2
    have hni : t.nodes[i]? = some n := by rw [List.getElem?_eq_getElem hlt, ← e1]
    rw [List.flatMap_cons, List.nodup_append] at hn
    obtain ⟨hn1, hn2, hn3⟩ := hn
    obtain ⟨k1, a1, a2, a3⟩ := marks_ok n.kids kid hn1 (fun x hx => hk x (by rw [List.flatMap_cons]; exact List.mem_append_left _ hx))
    obtain ⟨k2, b1, b2, b3⟩ := rightGo_ok l (i + 1) k1 e2.symm hf hn2 (fun x hx => by
      have hx1 := hk x (by rw [List.flatMap_cons]; exact List.mem_append_right _ hx)
      refine ⟨hx1.1, by rw [a2]; exact hx1.2.1, ?_⟩
      rw [a3, hx1.2.2, Bool.false_or, decide_eq_false]
      intro h
      rw [Int.toNat_of_nonneg hx1.1] at h
      exact hn3 x h x hx rfl)
    refine ⟨k2, ?_, by rw [b2, a2], fun j => ?_⟩
    · unfold rightGo
      rw [if_pos (hf i n hni), a1]
      exact b1
    · rw [b3, a3, Bool.or_assoc, List.flatMap_cons]
      congr 1
      rw [Bool.eq_iff_iff]
      simp only [Bool.or_eq_true, decide_eq_true_eq, List.mem_append]

/-- A parsed tree is right, its root the last node, its text what was told. -/
theorem right_of_got {tk : List Tk} {s : St} {root : Int} {x : List UInt8} (hf : Fm tk s.nodes) (hu : s.used = tk.length) (h : Got tk St.first s [root] x) :
    right ⟨tk, s.nodes⟩ = true ∧ 0 < s.nodes.length ∧ root = ((s.nodes.length - 1 : Nat) : Int) ∧ 32 :: dump ⟨tk, s.nodes⟩ (s.nodes.length - 1) = x := by
  obtain ⟨m, hm, hp⟩ := h.nodes
  have hm2 : s.nodes = m := by rw [hm]; rfl
  subst hm2
  have hz : St.first.nodes.length = 0 := rfl
  rw [hz] at hp
  have hlow := hf.low
  have hr : root ∈ ints 0 s.nodes.length := hp.mem_iff.1 (by simp)
  rw [mem_ints] at hr
  have h0 : 0 < s.nodes.length := by omega
  have hkid : ∀ k ∈ s.nodes.flatMap (·.kids), 0 ≤ k ∧ k < ((s.nodes.length - 1 : Nat) : Int) := by
    intro k hk
    rw [List.mem_flatMap] at hk
    obtain ⟨n, hn, hk⟩ := hk
    obtain ⟨j, hj⟩ := List.getElem?_of_mem hn
    have h1 := (hlow j n hj).1 k hk
    have h2 := get_lt hj
    omega
  have hroot : root = ((s.nodes.length - 1 : Nat) : Int) := by
    have h1 : ((s.nodes.length - 1 : Nat) : Int) ∈ s.nodes.flatMap (·.kids) ++ [root] := hp.mem_iff.2 (by rw [mem_ints]; omega)
    rw [List.mem_append, List.mem_singleton] at h1
    rcases h1 with h1 | h1
    · have := hkid _ h1
      omega
    · exact h1.symm
  have hnd : (s.nodes.flatMap (·.kids) ++ [root]).Nodup := hp.nodup_iff.2 (by
    unfold ints
    exact List.Pairwise.map _ (fun a b hab => fun e => hab (Int.ofNat.inj e)) List.nodup_range')
  rw [List.nodup_append] at hnd
  obtain ⟨kid, b1, b2, b3⟩ := rightGo_ok (t := ⟨tk, s.nodes⟩) s.nodes 0 (List.replicate s.nodes.length false) (by simp) hf hnd.1 (fun k hk => by
    have := hkid k hk
    refine ⟨this.1, by rw [List.length_replicate]; omega, ?_⟩
    simp only [List.getD, List.getElem?_replicate]
    split <;> rfl)
  rw [List.length_replicate] at b2
  have htx := h.text
  have hlv := h.lvs
  simp only [List.flatMap_cons, List.flatMap_nil, List.append_nil, hroot, Int.toNat_natCast] at htx hlv
  refine ⟨?_, h0, hroot, htx⟩
  rw [right_some b1]
  simp only [Bool.and_eq_true, Bool.not_eq_true', beq_iff_eq]
  refine ⟨⟨?_, ?_⟩, ?_⟩
  · cases kid with
    | nil => simp only [List.length_nil] at b2; omega
    | cons _ _ => rfl
  · rw [← Bool.not_eq_true, List.contains_iff_mem]
    intro hmem
    obtain ⟨j, hj⟩ := List.getElem?_of_mem hmem
    rw [List.getElem?_take] at hj
    split at hj
    · rename_i hj1
      have h1 := b3 j
      simp only [List.getD, hj, Option.getD_some, List.getElem?_replicate] at h1
      have h2 : (j : Int) ∈ s.nodes.flatMap (·.kids) ++ [root] := hp.mem_iff.2 (by rw [mem_ints]; omega)
      rw [List.mem_append, List.mem_singleton] at h2
      rcases h2 with h2 | h2
      · rw [decide_eq_true h2, Bool.or_true] at h1
        cases h1
      · omega
    · cases hj
  · show leafs s.nodes (s.nodes.length - 1) = _
    rw [hlv, hu]
    show (List.range' 0 (tk.length - 0)).map Int.ofNat = _
    rw [Nat.sub_zero, ← List.range_eq_range']
    rfl
end Go.Proofs.YtpkhdlnlkeehhaaGreatDoor.Pc
