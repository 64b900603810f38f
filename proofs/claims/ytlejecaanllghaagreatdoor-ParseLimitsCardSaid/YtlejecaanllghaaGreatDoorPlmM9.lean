/- Contracts and plain laws, in one text. Plain: a text parsed with two depths. No program in sight. | Plain: what is read is small; and shows itself; with two depths. No program in sight. | What the program's parser makes and what the document says are the same: plain. | ParseLimits: the whole text that it builds, read by the document's parser and by the program's. No program in sight. | ParseTells, ParseDepths, ParseFormulas, ParseWhole, ParseLimits: the document's examples, which open all of them. | Two strings in one. -/
import Derived.Test.YtlejecaanllghaaGreatDoorPlmM4
import Derived.Test.YtlejecaanllghaaGreatDoorPlmM8
import Derived.Test.YtlejecaanllghaaGreatDoorPlmM5
import Derived.Test.YtlejecaanllghaaGreatDoorPlmM2
import Derived.Test.YtlejecaanllghaaGreatDoorPlmM3
import Derived.Laws.StructEq
import Derived.Deep.RegionHeld3
import Derived.Laws.Strings
import Derived.OwnWalk
/- Plain: a text parsed with two depths. No program in sight. -/
namespace Go.Proofs.YtlejecaanllghaaGreatDoor.Pd
open Tr Ps

section
variable (tk : List Tk)
/-- How far a state has come. -/
def far (s : St) : Int := if s.e = 0 then (peek tk s.used).pos else s.pos
/-- A fault's place is a token's. -/
def Good (s : St) : Prop := s.e ≠ 0 → ∃ u, s.pos = (peek tk u).pos
/-- From a state with no fault: the second never falls back; and it does as the first, or the first has ended too deep, no farther on. -/
structure DDa {α : Type} (f f' : St → α × St) : Prop where
  md : ∀ s, s.e = 0 → far tk s ≤ far tk (f' s).2
  eq : ∀ s, s.e = 0 → f' s = f s ∨ ((f s).2.e = 23 ∧ (f s).2.pos ≤ far tk (f' s).2)
  gp : ∀ s, s.e = 0 → Good tk (f' s).2
/-- From any state; the first does nothing behind a fault. -/
structure DD {α : Type} (f f' : St → α × St) : Prop where
  md : ∀ s, far tk s ≤ far tk (f' s).2
  df : ∀ s, s.e ≠ 0 → (f s).2 = s
  eq : ∀ s, f' s = f s ∨ ((f s).2.e = 23 ∧ (f s).2.pos ≤ far tk (f' s).2)
  gp : ∀ s, Good tk s → Good tk (f' s).2
end

section
variable {tk : List Tk} {α β : Type}
/-- No later token stands ahead. -/
def Rising (tk : List Tk) : Prop := ∀ i j, i ≤ j → (peek tk i).pos ≤ (peek tk j).pos

theorem good_alive {s : St} (he : s.e = 0) : Good tk s := fun h => absurd he h
theorem DD.a {f f' : St → α × St} (h : DD tk f f') : DDa tk f f' := ⟨fun s _ => h.md s, fun s _ => h.eq s, fun s he => h.gp s (good_alive he)⟩
theorem DD.bind {f f' : St → α × St} {g g' : α → St → β × St} (h : DD tk f f') (k : ∀ a, DD tk (g a) (g' a)) : DD tk (fun s => g (f s).1 (f s).2) (fun s => g' (f' s).1 (f' s).2) := by
  refine ⟨fun s => Int.le_trans (h.md s) ((k _).md _), fun s he => ?_, fun s => ?_, fun s hs => (k _).gp _ (h.gp s hs)⟩
  · have h1 := h.df s he
    skip
    rw [h1]
    exact (k _).df s he
  · rcases h.eq s with e | ⟨e1, e2⟩
    · skip
      rw [e]
      exact (k _).eq _
    · have h1 := (k (f s).1).df (f s).2 (by rw [e1]; decide)
      right
      skip
      rw [h1]
      exact ⟨e1, Int.le_trans e2 ((k _).md _)⟩
theorem DDa.bind {f f' : St → α × St} {g g' : α → St → β × St} (h : DDa tk f f') (k : ∀ a, DD tk (g a) (g' a)) : DDa tk (fun s => g (f s).1 (f s).2) (fun s => g' (f' s).1 (f' s).2) := by
  refine ⟨fun s he => Int.le_trans (h.md s he) ((k _).md _), fun s he => ?_, fun s he => (k _).gp _ (h.gp s he)⟩
  rcases h.eq s he with e | ⟨e1, e2⟩
  · skip
    rw [e]
    exact (k _).eq _
  · have h1 := (k (f s).1).df (f s).2 (by rw [e1]; decide)
    right
    skip
    rw [h1]
    exact ⟨e1, Int.le_trans e2 ((k _).md _)⟩
theorem DDa.ite {f f' g g' : St → α × St} {c : St → Prop} [∀ s, Decidable (c s)] (h : DDa tk f f') (k : DDa tk g g') : DDa tk (fun s => if c s then f s else g s) (fun s => if c s then f' s else g' s) := by
  refine ⟨fun s he => ?_, fun s he => ?_, fun s he => ?_⟩
  · skip
    split
    · exact h.md s he
    · exact k.md s he
  · skip
    split
    · exact h.eq s he
    · exact k.eq s he
  · skip
    split
    · exact h.gp s he
    · exact k.gp s he
theorem DD.guard {f f' g g' : St → α × St} {c : St → Prop} [∀ s, Decidable (c s)] (h : DDa tk f f') (k : DD tk g g') : DD tk (fun s => if s.e = 0 ∧ c s then f s else g s) (fun s => if s.e = 0 ∧ c s then f' s else g' s) := by
  refine ⟨fun s => ?_, fun s he => ?_, fun s => ?_, fun s hs => ?_⟩
  · skip
    split
    · rename_i hh; exact h.md s hh.1
    · exact k.md s
  · skip
    rw [if_neg (by simp [he])]
    exact k.df s he
  · skip
    split
    · rename_i hh; exact h.eq s hh.1
    · exact k.eq s
  · skip
    split
    · rename_i hh; exact h.gp s hh.1
    · exact k.gp s hs
theorem DD.alive {f f' g g' : St → α × St} (h : DDa tk f f') (k : DD tk g g') : DD tk (fun s => if s.e = 0 then f s else g s) (fun s => if s.e = 0 then f' s else g' s) := by
  refine ⟨fun s => ?_, fun s he => ?_, fun s => ?_, fun s hs => ?_⟩
  · skip
    split
    · rename_i hh; exact h.md s hh
    · exact k.md s
  · skip
    rw [if_neg he]
    exact k.df s he
  · skip
    split
    · rename_i hh; exact h.eq s hh
    · exact k.eq s
  · skip
    split
    · rename_i hh; exact h.gp s hh
    · exact k.gp s hs
theorem DD.ite {f f' g g' : St → α × St} {c : St → Prop} [∀ s, Decidable (c s)] (h : DD tk f f') (k : DD tk g g') : DD tk (fun s => if c s then f s else g s) (fun s => if c s then f' s else g' s) := by
  refine ⟨fun s => ?_, fun s he => ?_, fun s => ?_, fun s hs => ?_⟩
  · skip
    split
    · exact h.md s
    · exact k.md s
  · skip
    split
    · exact h.df s he
    · exact k.df s he
  · skip
    split
    · exact h.eq s
    · exact k.eq s
  · skip
    split
    · exact h.gp s hs
    · exact k.gp s hs
theorem DD.ret (a : α) : DD tk (fun s => (a, s)) (fun s => (a, s)) := ⟨fun s => Int.le_refl _, fun s _ => rfl, fun s => Or.inl rfl, fun s hs => hs⟩
theorem DD.same {f : St → α × St} (h1 : ∀ s, far tk s ≤ far tk (f s).2) (h2 : ∀ s, s.e ≠ 0 → (f s).2 = s) (h3 : ∀ s, Good tk s → Good tk (f s).2) : DD tk f f := ⟨h1, h2, fun s => Or.inl rfl, h3⟩

theorem far_fail (e : Int) (s : St) : far tk (fail tk e s) = far tk s := by
  unfold fail
  split
  · rename_i h
    unfold far
    rw [if_pos h]
    simp only
    split <;> rfl
  · rfl
theorem good_fail (e : Int) {s : St} (h : Good tk s) : Good tk (fail tk e s) := by
  unfold fail
  split
  · exact fun _ => ⟨_, rfl⟩
  · exact h
theorem dd_fail (e : Int) (a : α) : DD tk (fun s => (a, fail tk e s)) (fun s => (a, fail tk e s)) :=
  DD.same (fun s => by simp only; rw [far_fail]; exact Int.le_refl _) (fun s he => by simp only; unfold fail; rw [if_neg he]) (fun s hs => good_fail e hs)
theorem leaf_alive' {s : St} (he : s.e = 0) : (leaf tk s).2.e = 0 := by
  unfold leaf
  split
  · exact he
  · exact he
theorem dda_leaf (hr : Rising tk) : DDa tk (leaf tk) (leaf tk) := by
  refine ⟨fun s he => ?_, fun s he => Or.inl rfl, fun s he => good_alive (leaf_alive' he)⟩
  unfold leaf
  split
  · exact Int.le_refl _
  · unfold far
    rw [if_pos he, if_pos he]
    exact hr _ _ (Nat.le_succ _)
theorem dd_must (hr : Rising tk) (ts : List (List UInt8)) : DD tk (must tk ts) (must tk ts) := DD.guard (c := fun s => nextB tk ts s.used = true) (dda_leaf hr) (dd_fail 22 0)
theorem dd_kind (hr : Rising tk) (k : Int) : DD tk (kind tk k) (kind tk k) := DD.guard (c := fun s => (peek tk s.used).kind = k) (dda_leaf hr) (dd_fail 22 0)
theorem dd_node (k : Int) (l : List Int) : DD tk (node k l) (node k l) := by
  refine DD.same (fun s => ?_) (fun s he => ?_) (fun s hs => ?_)
  · unfold node
    split
    · rename_i he
      split
      · exact Int.le_refl _
      · simp only [far, if_pos he]
        exact Int.le_refl _
    · exact Int.le_refl _
  · unfold node
    rw [if_neg he]
  · unfold node
    split
    · rename_i he
      split
      · exact hs
      · exact good_alive he
    · exact hs
theorem dd_deep {d d' : Nat} (h : d ≤ d') : DD tk (fun s => ((), deep tk d s)) (fun s => ((), deep tk d' s)) := by
  refine ⟨fun s => ?_, fun s he => ?_, fun s => ?_, fun s hs => ?_⟩
  · unfold deep
    split
    · rw [far_fail]; exact Int.le_refl _
    · exact Int.le_refl _
  · simp only
    unfold deep
    split
    · unfold fail; rw [if_neg he]
    · rfl
  · simp only
    unfold deep
    by_cases h1 : d = 0
    · rw [if_pos h1]
      by_cases h2 : d' = 0
      · rw [if_pos h2]; exact Or.inl rfl
      · rw [if_neg h2]
        by_cases he : s.e = 0
        · right
          unfold fail far
          rw [if_pos he, if_pos he]
          exact ⟨rfl, Int.le_refl _⟩
        · left
          unfold fail
          rw [if_neg he]
    · rw [if_neg h1, if_neg (by omega)]
      exact Or.inl rfl
  · simp only
    unfold deep
    split
    · exact good_fail 23 hs
    · exact hs

theorem dd_rowGo (hr : Rising tk) {p p' : F} (h : DD tk p p') (ts : List (List UInt8)) (once : Bool) : ∀ (n : Nat) (a : Int), DD tk (rowGo tk p ts once n a) (rowGo tk p' ts once n a)
  | 0, a => DD.ret a
  | n + 1, a => by
    have hk : DDa tk (fun s => if once then node 10 [a, (leaf tk s).1, (p (leaf tk s).2).1] (p (leaf tk s).2).2 else rowGo tk p ts once n (node 10 [a, (leaf tk s).1, (p (leaf tk s).2).1] (p (leaf tk s).2).2).1 (node 10 [a, (leaf tk s).1, (p (leaf tk s).2).1] (p (leaf tk s).2).2).2)
        (fun s => if once then node 10 [a, (leaf tk s).1, (p' (leaf tk s).2).1] (p' (leaf tk s).2).2 else rowGo tk p' ts once n (node 10 [a, (leaf tk s).1, (p' (leaf tk s).2).1] (p' (leaf tk s).2).2).1 (node 10 [a, (leaf tk s).1, (p' (leaf tk s).2).1] (p' (leaf tk s).2).2).2) := by
      cases once with
      | true => exact (dda_leaf hr).bind (g := fun x s => node 10 [a, x, (p s).1] (p s).2) (g' := fun x s => node 10 [a, x, (p' s).1] (p' s).2) fun x => h.bind (g := fun y => node 10 [a, x, y]) (g' := fun y => node 10 [a, x, y]) fun y => dd_node _ _
      | false =>
        exact (dda_leaf hr).bind (g := fun x s => rowGo tk p ts false n (node 10 [a, x, (p s).1] (p s).2).1 (node 10 [a, x, (p s).1] (p s).2).2) (g' := fun x s => rowGo tk p' ts false n (node 10 [a, x, (p' s).1] (p' s).2).1 (node 10 [a, x, (p' s).1] (p' s).2).2)
          fun x => h.bind (g := fun y s => rowGo tk p ts false n (node 10 [a, x, y] s).1 (node 10 [a, x, y] s).2) (g' := fun y s => rowGo tk p' ts false n (node 10 [a, x, y] s).1 (node 10 [a, x, y] s).2)
          fun y => (dd_node 10 [a, x, y]).bind (g := fun z => rowGo tk p ts false n z) (g' := fun z => rowGo tk p' ts false n z) fun z => dd_rowGo hr h ts false n z
    exact DD.guard (c := fun s => nextB tk ts s.used = true) hk (DD.ret a)
theorem dd_row (hr : Rising tk) {p p' : F} (h : DD tk p p') (ts : List (List UInt8)) (once : Bool) : DD tk (row tk p ts once) (row tk p' ts once) :=
  h.bind (g := fun a => rowGo tk p ts once tk.length a) (g' := fun a => rowGo tk p' ts once tk.length a) fun a => dd_rowGo hr h ts once _ a
theorem dda_unary (hr : Rising tk) {d d' : Nat} (hd : d ≤ d') {f f' : F} (h : DD tk f f') : DDa tk (unary tk d f) (unary tk d' f') :=
  (dda_leaf hr).bind (g := fun x s => if (deep tk d s).e = 0 then node 11 [x, (f (deep tk d s)).1] (f (deep tk d s)).2 else (0, deep tk d s)) (g' := fun x s => if (deep tk d' s).e = 0 then node 11 [x, (f' (deep tk d' s)).1] (f' (deep tk d' s)).2 else (0, deep tk d' s))
    fun x => (dd_deep hd).bind (g := fun _ s => if s.e = 0 then node 11 [x, (f s).1] (f s).2 else (0, s)) (g' := fun _ s => if s.e = 0 then node 11 [x, (f' s).1] (f' s).2 else (0, s))
    fun _ => DD.alive (h.bind (g := fun y => node 11 [x, y]) (g' := fun y => node 11 [x, y]) fun y => dd_node _ _).a (DD.ret 0)
theorem dd_listGo (hr : Rising tk) {p p' : F} (h : DD tk p p') : ∀ (k : Nat) (ks : List Int), DD tk (listGo tk p k ks) (listGo tk p' k ks)
  | 0, ks => dd_fail 15 ks
  | k + 1, ks => by
    have hk : DDa tk (fun s => if (p s).2.e = 0 ∧ nextB tk [[44]] (p s).2.used = true then listGo tk p k (ks ++ [(p s).1, (leaf tk (p s).2).1]) (leaf tk (p s).2).2 else (ks ++ [(p s).1], (p s).2))
        (fun s => if (p' s).2.e = 0 ∧ nextB tk [[44]] (p' s).2.used = true then listGo tk p' k (ks ++ [(p' s).1, (leaf tk (p' s).2).1]) (leaf tk (p' s).2).2 else (ks ++ [(p' s).1], (p' s).2)) :=
      (h.bind (g := fun x s => if s.e = 0 ∧ nextB tk [[44]] s.used = true then listGo tk p k (ks ++ [x, (leaf tk s).1]) (leaf tk s).2 else (ks ++ [x], s)) (g' := fun x s => if s.e = 0 ∧ nextB tk [[44]] s.used = true then listGo tk p' k (ks ++ [x, (leaf tk s).1]) (leaf tk s).2 else (ks ++ [x], s))
        fun x => DD.guard (c := fun s => nextB tk [[44]] s.used = true) ((dda_leaf hr).bind (g := fun y s => listGo tk p k (ks ++ [x, y]) s) (g' := fun y s => listGo tk p' k (ks ++ [x, y]) s) fun y => dd_listGo hr h k _) (DD.ret _)).a
    exact DD.alive hk (DD.ret ks)
theorem dd_list (hr : Rising tk) {p p' : F} (h : DD tk p p') : DD tk (list tk p) (list tk p') := DD.ite (c := fun s => nextB tk [[41]] s.used = true) (DD.ret []) (dd_listGo hr h 8 [])

structure DV (tk : List Tk) (lo lo' : Lv) : Prop where
  ex : DD tk lo.ex lo'.ex
  fo : DD tk lo.fo lo'.fo
  ne : DD tk lo.ne lo'.ne
  fa : DD tk lo.fa lo'.fa

theorem dda_callee (hr : Rising tk) (a : Int) : DDa tk (fun s => callee tk s a) (fun s => callee tk s a) :=
  DDa.ite (c := fun s => nextB tk [[46]] s.used = true) ((dda_leaf hr).bind (g := fun x s => ([a, x, (kind tk 1 s).1], (kind tk 1 s).2)) (g' := fun x s => ([a, x, (kind tk 1 s).1], (kind tk 1 s).2)) fun x => (dd_kind hr 1).bind (g := fun y s => ([a, x, y], s)) (g' := fun y s => ([a, x, y], s)) fun y => DD.ret _) (DD.ret [a]).a
theorem dd_call (hr : Rising tk) {e e' : F} (h : DD tk e e') (l : List Int) : DD tk (call tk e l) (call tk e' l) :=
  (dd_must hr [[40]]).bind (g := fun p s => node 13 (l ++ [p] ++ (list tk e s).1 ++ [(must tk [[41]] (list tk e s).2).1]) (must tk [[41]] (list tk e s).2).2) (g' := fun p s => node 13 (l ++ [p] ++ (list tk e' s).1 ++ [(must tk [[41]] (list tk e' s).2).1]) (must tk [[41]] (list tk e' s).2).2)
    fun p => (dd_list hr h).bind (g := fun x s => node 13 (l ++ [p] ++ x ++ [(must tk [[41]] s).1]) (must tk [[41]] s).2) (g' := fun x s => node 13 (l ++ [p] ++ x ++ [(must tk [[41]] s).1]) (must tk [[41]] s).2)
    fun x => (dd_must hr [[41]]).bind (g := fun q => node 13 (l ++ [p] ++ x ++ [q])) (g' := fun q => node 13 (l ++ [p] ++ x ++ [q])) fun q => dd_node _ _
theorem leaf_alive {s : St} (he : s.e = 0) : (leaf tk s).2.e = 0 := by
  unfold leaf
  split
  · exact he
  · exact he
/-- A leaf, and what is done behind it where there is no fault yet. -/
theorem dda_leaf_then (hr : Rising tk) {g g' : Int → St → α × St} (k : ∀ a, DDa tk (g a) (g' a)) : DDa tk (fun s => g (leaf tk s).1 (leaf tk s).2) (fun s => g' (leaf tk s).1 (leaf tk s).2) := by
  refine ⟨fun s he => Int.le_trans ((dda_leaf hr).md s he) ((k _).md _ (leaf_alive he)), fun s he => (k _).eq _ (leaf_alive he), fun s he => (k _).gp _ (leaf_alive he)⟩
theorem dda_name (hr : Rising tk) {e e' : F} (h : DD tk e e') : DDa tk (name tk e) (name tk e') :=
  dda_leaf_then hr (g := fun a s => if (s.clause || !nextB tk [[46], [40]] s.used) = true then node 14 [a] s else call tk e (callee tk s a).1 (callee tk s a).2) (g' := fun a s => if (s.clause || !nextB tk [[46], [40]] s.used) = true then node 14 [a] s else call tk e' (callee tk s a).1 (callee tk s a).2)
    fun a => DDa.ite (c := fun s => (s.clause || !nextB tk [[46], [40]] s.used) = true) (dd_node _ _).a ((dda_callee hr a).bind (g := fun l => call tk e l) (g' := fun l => call tk e' l) fun l => dd_call hr h l)
theorem dda_group (hr : Rising tk) {e e' : F} (h : DD tk e e') : DDa tk (group tk e) (group tk e') :=
  (dda_leaf hr).bind (g := fun a s => node 12 [a, (e s).1, (must tk [[41]] (e s).2).1] (must tk [[41]] (e s).2).2) (g' := fun a s => node 12 [a, (e' s).1, (must tk [[41]] (e' s).2).1] (must tk [[41]] (e' s).2).2)
    fun a => h.bind (g := fun b s => node 12 [a, b, (must tk [[41]] s).1] (must tk [[41]] s).2) (g' := fun b s => node 12 [a, b, (must tk [[41]] s).1] (must tk [[41]] s).2)
    fun b => (dd_must hr [[41]]).bind (g := fun c => node 12 [a, b, c]) (g' := fun c => node 12 [a, b, c]) fun c => dd_node _ _
theorem dda_one (hr : Rising tk) (k : Int) : DDa tk (fun s => node k [(leaf tk s).1] (leaf tk s).2) (fun s => node k [(leaf tk s).1] (leaf tk s).2) :=
  (dda_leaf hr).bind (g := fun a => node k [a]) (g' := fun a => node k [a]) fun a => dd_node _ _
theorem dd_atom (hr : Rising tk) {e e' : F} (h : DD tk e e') : DD tk (atom tk e) (atom tk e') :=
  DD.alive (DDa.ite (c := fun s => (peek tk s.used).kind = 3) (dda_one hr 15) (DDa.ite (c := fun s => nextB tk [tTrue, tFalse] s.used = true) (dda_one hr 16) (DDa.ite (c := fun s => (s.clause && nextB tk [tRes] s.used) = true) (dda_one hr 17)
    (DDa.ite (c := fun s => nextB tk [[40]] s.used = true) (dda_group hr h) (DDa.ite (c := fun s => (peek tk s.used).kind = 1) (dda_name hr h) (dd_fail 22 0).a))))) (DD.ret 0)
theorem dd_factor (hr : Rising tk) {d d' : Nat} (hd : d ≤ d') {lo lo' : Lv} (h : DV tk lo lo') : DD tk (factor tk d lo) (factor tk d' lo') :=
  DD.guard (c := fun s => nextB tk [[45]] s.used = true) (dda_unary hr hd h.fa) (dd_atom hr h.ex)
theorem dd_comparison (hr : Rising tk) {d d' : Nat} (hd : d ≤ d') {lo lo' : Lv} (h : DV tk lo lo') : DD tk (comparison tk d lo) (comparison tk d' lo') :=
  dd_row hr (dd_row hr (dd_row hr (dd_factor hr hd h) _ _) _ _) _ _
theorem dd_negation (hr : Rising tk) {d d' : Nat} (hd : d ≤ d') {lo lo' : Lv} (h : DV tk lo lo') : DD tk (negation tk d lo) (negation tk d' lo') :=
  DD.guard (c := fun s => nextB tk [tNot] s.used = true) (dda_unary hr hd h.ne) (dd_comparison hr hd h)
theorem dd_formula (hr : Rising tk) {d d' : Nat} (hd : d ≤ d') {lo lo' : Lv} (h : DV tk lo lo') : DD tk (formula tk d lo) (formula tk d' lo') := by
  have hj : DD tk (disjunction tk d lo) (disjunction tk d' lo') := dd_row hr (dd_row hr (dd_negation hr hd h) _ _) _ _
  refine hj.bind (g := fun a s => if s.e = 0 ∧ nextB tk [[61, 62]] s.used = true then (if (deep tk d (leaf tk s).2).e = 0 then node 10 [a, (leaf tk s).1, (lo.fo (deep tk d (leaf tk s).2)).1] (lo.fo (deep tk d (leaf tk s).2)).2 else (0, deep tk d (leaf tk s).2)) else (a, s))
    (g' := fun a s => if s.e = 0 ∧ nextB tk [[61, 62]] s.used = true then (if (deep tk d' (leaf tk s).2).e = 0 then node 10 [a, (leaf tk s).1, (lo'.fo (deep tk d' (leaf tk s).2)).1] (lo'.fo (deep tk d' (leaf tk s).2)).2 else (0, deep tk d' (leaf tk s).2)) else (a, s)) fun a => ?_
  refine DD.guard (c := fun s => nextB tk [[61, 62]] s.used = true) ?_ (DD.ret a)
  exact (dda_leaf hr).bind (g := fun x s => if (deep tk d s).e = 0 then node 10 [a, x, (lo.fo (deep tk d s)).1] (lo.fo (deep tk d s)).2 else (0, deep tk d s)) (g' := fun x s => if (deep tk d' s).e = 0 then node 10 [a, x, (lo'.fo (deep tk d' s)).1] (lo'.fo (deep tk d' s)).2 else (0, deep tk d' s))
    fun x => (dd_deep hd).bind (g := fun _ s => if s.e = 0 then node 10 [a, x, (lo.fo s).1] (lo.fo s).2 else (0, s)) (g' := fun _ s => if s.e = 0 then node 10 [a, x, (lo'.fo s).1] (lo'.fo s).2 else (0, s))
    fun _ => DD.alive (h.fo.bind (g := fun y => node 10 [a, x, y]) (g' := fun y => node 10 [a, x, y]) fun y => dd_node _ _).a (DD.ret 0)
theorem dda_exLet (hr : Rising tk) {e e' : F} (h : DD tk e e') : DDa tk (exLet tk e) (exLet tk e') := by
  let G (z : F) (a : Int) (s : St) : Int × St := node 7 [a, (kind tk 1 s).1, (must tk [[61]] (kind tk 1 s).2).1, (z (must tk [[61]] (kind tk 1 s).2).2).1, (must tk [tIn] (z (must tk [[61]] (kind tk 1 s).2).2).2).1, (z (must tk [tIn] (z (must tk [[61]] (kind tk 1 s).2).2).2).2).1] (z (must tk [tIn] (z (must tk [[61]] (kind tk 1 s).2).2).2).2).2
  refine (dda_leaf hr).bind (g := G e) (g' := G e') fun a => ?_
  refine (dd_kind hr 1).bind (g := fun b s => node 7 [a, b, (must tk [[61]] s).1, (e (must tk [[61]] s).2).1, (must tk [tIn] (e (must tk [[61]] s).2).2).1, (e (must tk [tIn] (e (must tk [[61]] s).2).2).2).1] (e (must tk [tIn] (e (must tk [[61]] s).2).2).2).2) (g' := fun b s => node 7 [a, b, (must tk [[61]] s).1, (e' (must tk [[61]] s).2).1, (must tk [tIn] (e' (must tk [[61]] s).2).2).1, (e' (must tk [tIn] (e' (must tk [[61]] s).2).2).2).1] (e' (must tk [tIn] (e' (must tk [[61]] s).2).2).2).2) fun b => ?_
  refine (dd_must hr [[61]]).bind (g := fun c s => node 7 [a, b, c, (e s).1, (must tk [tIn] (e s).2).1, (e (must tk [tIn] (e s).2).2).1] (e (must tk [tIn] (e s).2).2).2) (g' := fun c s => node 7 [a, b, c, (e' s).1, (must tk [tIn] (e' s).2).1, (e' (must tk [tIn] (e' s).2).2).1] (e' (must tk [tIn] (e' s).2).2).2) fun c => ?_
  refine h.bind (g := fun d s => node 7 [a, b, c, d, (must tk [tIn] s).1, (e (must tk [tIn] s).2).1] (e (must tk [tIn] s).2).2) (g' := fun d s => node 7 [a, b, c, d, (must tk [tIn] s).1, (e' (must tk [tIn] s).2).1] (e' (must tk [tIn] s).2).2) fun d => ?_
  refine (dd_must hr [tIn]).bind (g := fun f s => node 7 [a, b, c, d, f, (e s).1] (e s).2) (g' := fun f s => node 7 [a, b, c, d, f, (e' s).1] (e' s).2) fun f => ?_
  exact h.bind (g := fun y => node 7 [a, b, c, d, f, y]) (g' := fun y => node 7 [a, b, c, d, f, y]) fun y => dd_node _ _
theorem dda_exIf (hr : Rising tk) {e e' : F} (h : DD tk e e') : DDa tk (exIf tk e) (exIf tk e') := by
  let G (z : F) (a : Int) (s : St) : Int × St := node 8 [a, (z s).1, (must tk [tThen] (z s).2).1, (z (must tk [tThen] (z s).2).2).1, (must tk [tElse] (z (must tk [tThen] (z s).2).2).2).1, (z (must tk [tElse] (z (must tk [tThen] (z s).2).2).2).2).1] (z (must tk [tElse] (z (must tk [tThen] (z s).2).2).2).2).2
  refine (dda_leaf hr).bind (g := G e) (g' := G e') fun a => ?_
  refine h.bind (g := fun b s => node 8 [a, b, (must tk [tThen] s).1, (e (must tk [tThen] s).2).1, (must tk [tElse] (e (must tk [tThen] s).2).2).1, (e (must tk [tElse] (e (must tk [tThen] s).2).2).2).1] (e (must tk [tElse] (e (must tk [tThen] s).2).2).2).2) (g' := fun b s => node 8 [a, b, (must tk [tThen] s).1, (e' (must tk [tThen] s).2).1, (must tk [tElse] (e' (must tk [tThen] s).2).2).1, (e' (must tk [tElse] (e' (must tk [tThen] s).2).2).2).1] (e' (must tk [tElse] (e' (must tk [tThen] s).2).2).2).2) fun b => ?_
  refine (dd_must hr [tThen]).bind (g := fun c s => node 8 [a, b, c, (e s).1, (must tk [tElse] (e s).2).1, (e (must tk [tElse] (e s).2).2).1] (e (must tk [tElse] (e s).2).2).2) (g' := fun c s => node 8 [a, b, c, (e' s).1, (must tk [tElse] (e' s).2).1, (e' (must tk [tElse] (e' s).2).2).1] (e' (must tk [tElse] (e' s).2).2).2) fun c => ?_
  refine h.bind (g := fun d s => node 8 [a, b, c, d, (must tk [tElse] s).1, (e (must tk [tElse] s).2).1] (e (must tk [tElse] s).2).2) (g' := fun d s => node 8 [a, b, c, d, (must tk [tElse] s).1, (e' (must tk [tElse] s).2).1] (e' (must tk [tElse] s).2).2) fun d => ?_
  refine (dd_must hr [tElse]).bind (g := fun f s => node 8 [a, b, c, d, f, (e s).1] (e s).2) (g' := fun f s => node 8 [a, b, c, d, f, (e' s).1] (e' s).2) fun f => ?_
  exact h.bind (g := fun y => node 8 [a, b, c, d, f, y]) (g' := fun y => node 8 [a, b, c, d, f, y]) fun y => dd_node _ _
theorem dda_exAssert (hr : Rising tk) {e e' : F} (h : DD tk e e') : DDa tk (exAssert tk e) (exAssert tk e') := by
  let G (z : F) (a : Int) (s : St) : Int × St := node 9 [a, (z s).1, (must tk [tIn] (z s).2).1, (z (must tk [tIn] (z s).2).2).1] (z (must tk [tIn] (z s).2).2).2
  refine (dda_leaf hr).bind (g := G e) (g' := G e') fun a => ?_
  refine h.bind (g := fun d s => node 9 [a, d, (must tk [tIn] s).1, (e (must tk [tIn] s).2).1] (e (must tk [tIn] s).2).2) (g' := fun d s => node 9 [a, d, (must tk [tIn] s).1, (e' (must tk [tIn] s).2).1] (e' (must tk [tIn] s).2).2) fun d => ?_
  refine (dd_must hr [tIn]).bind (g := fun f s => node 9 [a, d, f, (e s).1] (e s).2) (g' := fun f s => node 9 [a, d, f, (e' s).1] (e' s).2) fun f => ?_
  exact h.bind (g := fun y => node 9 [a, d, f, y]) (g' := fun y => node 9 [a, d, f, y]) fun y => dd_node _ _
theorem dd_express (hr : Rising tk) {d d' : Nat} (hd : d ≤ d') {lo lo' : Lv} (h : DV tk lo lo') : DD tk (express tk d lo) (express tk d' lo') :=
  DD.alive (DDa.ite (c := fun s => s.clause = true) (dd_formula hr hd h).a (DDa.ite (c := fun s => nextB tk [tLet] s.used = true) (dda_exLet hr h.ex) (DDa.ite (c := fun s => nextB tk [tIf] s.used = true) (dda_exIf hr h.ex)
    (DDa.ite (c := fun s => nextB tk [tAssert] s.used = true) (dda_exAssert hr h.ex) (dd_formula hr hd h).a)))) (DD.ret 0)

theorem row_dead {p : F} (h : ∀ s, s.e ≠ 0 → p s = (0, s)) (ts : List (List UInt8)) (once : Bool) {s : St} (he : s.e ≠ 0) : row tk p ts once s = (0, s) := by
  unfold row
  rw [h s he]
  cases tk.length with
  | zero => rfl
  | succ n =>
    unfold rowGo
    rw [if_neg (by simp [he])]
theorem atom_dead {e : F} {s : St} (he : s.e ≠ 0) : atom tk e s = (0, s) := by unfold atom; rw [if_neg he]
theorem factor_dead {d : Nat} {lo : Lv} {s : St} (he : s.e ≠ 0) : factor tk d lo s = (0, s) := by
  unfold factor
  rw [if_neg (by simp [he])]
  exact atom_dead he
theorem negation_dead {d : Nat} {lo : Lv} {s : St} (he : s.e ≠ 0) : negation tk d lo s = (0, s) := by
  unfold negation
  rw [if_neg (by simp [he])]
  exact row_dead (fun s he => row_dead (fun s he => row_dead (fun s he => factor_dead he) _ _ he) _ _ he) _ _ he
theorem formula_dead {d : Nat} {lo : Lv} {s : St} (he : s.e ≠ 0) : formula tk d lo s = (0, s) := by
  have h1 : disjunction tk d lo s = (0, s) := row_dead (fun s he => row_dead (fun s he => negation_dead he) _ _ he) _ _ he
  unfold formula
  simp only [h1]
  rw [if_neg (by simp [he])]
theorem express_dead {d : Nat} {lo : Lv} {s : St} (he : s.e ≠ 0) : express tk d lo s = (0, s) := by unfold express; rw [if_neg he]
/-- Where the first is too deep at once. -/
theorem dd_deepest {f' : F} (h : DD tk f' f') (hd : ∀ s, s.e ≠ 0 → f' s = (0, s)) : DD tk (fun s => (0, fail tk 23 s)) f' := by
  refine ⟨h.md, fun s he => ?_, fun s => ?_, h.gp⟩
  · simp only
    unfold fail
    rw [if_neg he]
  · by_cases he : s.e = 0
    · right
      simp only
      have h1 := h.md s
      unfold fail
      rw [if_pos he]
      refine ⟨rfl, ?_⟩
      have h2 : far tk s = (peek tk s.used).pos := by unfold far; rw [if_pos he]
      rw [← h2]
      exact h1
    · left
      rw [hd s he]
      unfold fail
      rw [if_neg he]
theorem dv_up (hr : Rising tk) {d d' : Nat} (hd : d ≤ d') (h : DV tk (lv tk d) (lv tk d')) : DV tk (lv tk (d + 1)) (lv tk (d' + 1)) :=
  ⟨dd_express hr hd h, dd_formula hr hd h, dd_negation hr hd h, dd_factor hr hd h⟩
theorem dv_lv (hr : Rising tk) : ∀ d' d : Nat, d ≤ d' → DV tk (lv tk d) (lv tk d')
  | 0, d, h => by
    obtain rfl : d = 0 := by omega
    exact ⟨dd_fail 23 0, dd_fail 23 0, dd_fail 23 0, dd_fail 23 0⟩
  | d' + 1, 0, _ => by
    have h := dv_up hr (Nat.le_refl d') (dv_lv hr d' d' (Nat.le_refl _))
    exact ⟨dd_deepest h.ex fun s he => express_dead he, dd_deepest h.fo fun s he => formula_dead he, dd_deepest h.ne fun s he => negation_dead he, dd_deepest h.fa fun s he => factor_dead he⟩
  | d' + 1, d + 1, h => dv_up hr (by omega) (dv_lv hr d' d (by omega))

theorem far_clause (s : St) (b : Bool) : far tk { s with clause := b } = far tk s := rfl
/-- Inside of braces. -/
theorem dda_wrap {e e' : F} (h : DD tk e e') {g g' : Int → St → α × St} (k : ∀ a, DD tk (g a) (g' a)) :
    DDa tk (fun s => g (e { s with clause := true }).1 { (e { s with clause := true }).2 with clause := false }) (fun s => g' (e' { s with clause := true }).1 { (e' { s with clause := true }).2 with clause := false }) := by
  refine ⟨fun s _ => ?_, fun s _ => ?_, fun s he => (k _).gp _ (h.gp { s with clause := true } (good_alive he))⟩
  · have h1 := h.md { s with clause := true }
    have h2 := (k (e' { s with clause := true }).1).md { (e' { s with clause := true }).2 with clause := false }
    rw [far_clause] at h1 h2
    exact Int.le_trans h1 h2
  · rcases h.eq { s with clause := true } with q | ⟨q1, q2⟩
    · simp only
      rw [q]
      exact (k _).eq _
    · right
      have h1 := (k (e { s with clause := true }).1).df { (e { s with clause := true }).2 with clause := false } (by show (e { s with clause := true }).2.e ≠ 0; rw [q1]; decide)
      have h2 := (k (e' { s with clause := true }).1).md { (e' { s with clause := true }).2 with clause := false }
      rw [far_clause] at h2
      simp only
      rw [h1]
      exact ⟨q1, Int.le_trans q2 h2⟩
/-- What stands behind a clause's formula. -/
def shut (tk : List Tk) (l : List Int) (a c x f : Int) (s : St) : List Int × St := (l ++ [a, c] ++ [(node 6 [x, f, (must tk [[125]] s).1] (must tk [[125]] s).2).1], (node 6 [x, f, (must tk [[125]] s).1] (must tk [[125]] s).2).2)
theorem dd_shut (hr : Rising tk) (l : List Int) (a c x f : Int) : DD tk (shut tk l a c x f) (shut tk l a c x f) :=
  (dd_must hr [[125]]).bind (g := fun m s => (l ++ [a, c] ++ [(node 6 [x, f, m] s).1], (node 6 [x, f, m] s).2)) (g' := fun m s => (l ++ [a, c] ++ [(node 6 [x, f, m] s).1], (node 6 [x, f, m] s).2)) fun m =>
    (dd_node 6 [x, f, m]).bind (g := fun n s => (l ++ [a, c] ++ [n], s)) (g' := fun n s => (l ++ [a, c] ++ [n], s)) fun n => DD.ret _
def inBraces (tk : List Tk) (e : F) (l : List Int) (a c x : Int) (s : St) : List Int × St := shut tk l a c x (e { s with clause := true }).1 { (e { s with clause := true }).2 with clause := false }
def typedRest (tk : List Tk) (e : F) (l : List Int) (a c : Int) (s : St) : List Int × St :=
  if s.e = 0 ∧ nextB tk [[123]] s.used = true then inBraces tk e l a c (leaf tk s).1 (leaf tk s).2 else (l ++ [a, c], s)
theorem dd_typedRest (hr : Rising tk) {e e' : F} (h : DD tk e e') (l : List Int) (a c : Int) : DD tk (typedRest tk e l a c) (typedRest tk e' l a c) :=
  DD.guard (c := fun s => nextB tk [[123]] s.used = true) (dda_leaf_then hr (g := fun x => inBraces tk e l a c x) (g' := fun x => inBraces tk e' l a c x) fun x => dda_wrap h (g := fun f => shut tk l a c x f) (g' := fun f => shut tk l a c x f) fun f => dd_shut hr l a c x f) (DD.ret _)
theorem dd_typed (hr : Rising tk) {e e' : F} (h : DD tk e e') (l : List Int) : DD tk (typed tk e l) (typed tk e' l) := by
  refine (dd_must hr [[58]]).bind (g := fun a s => typedRest tk e l a (node 5 [(must tk [tInt, tBool] s).1] (must tk [tInt, tBool] s).2).1 (node 5 [(must tk [tInt, tBool] s).1] (must tk [tInt, tBool] s).2).2) (g' := fun a s => typedRest tk e' l a (node 5 [(must tk [tInt, tBool] s).1] (must tk [tInt, tBool] s).2).1 (node 5 [(must tk [tInt, tBool] s).1] (must tk [tInt, tBool] s).2).2) fun a => ?_
  refine (dd_must hr [tInt, tBool]).bind (g := fun b s => typedRest tk e l a (node 5 [b] s).1 (node 5 [b] s).2) (g' := fun b s => typedRest tk e' l a (node 5 [b] s).1 (node 5 [b] s).2) fun b => ?_
  exact (dd_node 5 [b]).bind (g := fun c => typedRest tk e l a c) (g' := fun c => typedRest tk e' l a c) fun c => dd_typedRest hr h l a c
theorem dd_param (hr : Rising tk) {e e' : F} (h : DD tk e e') : DD tk (param tk e) (param tk e') :=
  (dd_kind hr 1).bind (g := fun a s => node 4 (typed tk e [a] s).1 (typed tk e [a] s).2) (g' := fun a s => node 4 (typed tk e' [a] s).1 (typed tk e' [a] s).2) fun a =>
    (dd_typed hr h [a]).bind (g := fun t => node 4 t) (g' := fun t => node 4 t) fun t => dd_node _ _
theorem dda_imported (hr : Rising tk) : DDa tk (imported tk) (imported tk) :=
  (dda_leaf hr).bind (g := fun a s => node 2 [a, (kind tk 1 s).1, (must tk [[59]] (kind tk 1 s).2).1] (must tk [[59]] (kind tk 1 s).2).2) (g' := fun a s => node 2 [a, (kind tk 1 s).1, (must tk [[59]] (kind tk 1 s).2).1] (must tk [[59]] (kind tk 1 s).2).2)
    fun a => (dd_kind hr 1).bind (g := fun b s => node 2 [a, b, (must tk [[59]] s).1] (must tk [[59]] s).2) (g' := fun b s => node 2 [a, b, (must tk [[59]] s).1] (must tk [[59]] s).2)
    fun b => (dd_must hr [[59]]).bind (g := fun c => node 2 [a, b, c]) (g' := fun c => node 2 [a, b, c]) fun c => dd_node _ _
theorem dd_defHead (hr : Rising tk) (l : List Int) : DD tk (defHead tk l) (defHead tk l) :=
  (dd_must hr [tFun]).bind (g := fun a s => (l ++ [a, (kind tk 1 s).1, (must tk [[40]] (kind tk 1 s).2).1], (must tk [[40]] (kind tk 1 s).2).2)) (g' := fun a s => (l ++ [a, (kind tk 1 s).1, (must tk [[40]] (kind tk 1 s).2).1], (must tk [[40]] (kind tk 1 s).2).2))
    fun a => (dd_kind hr 1).bind (g := fun b s => (l ++ [a, b, (must tk [[40]] s).1], (must tk [[40]] s).2)) (g' := fun b s => (l ++ [a, b, (must tk [[40]] s).1], (must tk [[40]] s).2))
    fun b => (dd_must hr [[40]]).bind (g := fun c s => (l ++ [a, b, c], s)) (g' := fun c s => (l ++ [a, b, c], s)) fun c => DD.ret _
theorem dd_defRest (hr : Rising tk) {e e' : F} (h : DD tk e e') (l : List Int) : DD tk (defRest tk e l) (defRest tk e' l) := by
  refine (dd_must hr [[41]]).bind (g := fun q s => node 3 ((typed tk e (l ++ [q]) s).1 ++ [(must tk [[61]] (typed tk e (l ++ [q]) s).2).1, (e (must tk [[61]] (typed tk e (l ++ [q]) s).2).2).1, (must tk [[59]] (e (must tk [[61]] (typed tk e (l ++ [q]) s).2).2).2).1]) (must tk [[59]] (e (must tk [[61]] (typed tk e (l ++ [q]) s).2).2).2).2)
    (g' := fun q s => node 3 ((typed tk e' (l ++ [q]) s).1 ++ [(must tk [[61]] (typed tk e' (l ++ [q]) s).2).1, (e' (must tk [[61]] (typed tk e' (l ++ [q]) s).2).2).1, (must tk [[59]] (e' (must tk [[61]] (typed tk e' (l ++ [q]) s).2).2).2).1]) (must tk [[59]] (e' (must tk [[61]] (typed tk e' (l ++ [q]) s).2).2).2).2) fun q => ?_
  refine (dd_typed hr h (l ++ [q])).bind (g := fun t s => node 3 (t ++ [(must tk [[61]] s).1, (e (must tk [[61]] s).2).1, (must tk [[59]] (e (must tk [[61]] s).2).2).1]) (must tk [[59]] (e (must tk [[61]] s).2).2).2) (g' := fun t s => node 3 (t ++ [(must tk [[61]] s).1, (e' (must tk [[61]] s).2).1, (must tk [[59]] (e' (must tk [[61]] s).2).2).1]) (must tk [[59]] (e' (must tk [[61]] s).2).2).2) fun t => ?_
  refine (dd_must hr [[61]]).bind (g := fun u s => node 3 (t ++ [u, (e s).1, (must tk [[59]] (e s).2).1]) (must tk [[59]] (e s).2).2) (g' := fun u s => node 3 (t ++ [u, (e' s).1, (must tk [[59]] (e' s).2).1]) (must tk [[59]] (e' s).2).2) fun u => ?_
  refine h.bind (g := fun v s => node 3 (t ++ [u, v, (must tk [[59]] s).1]) (must tk [[59]] s).2) (g' := fun v s => node 3 (t ++ [u, v, (must tk [[59]] s).1]) (must tk [[59]] s).2) fun v => ?_
  exact (dd_must hr [[59]]).bind (g := fun x => node 3 (t ++ [u, v, x])) (g' := fun x => node 3 (t ++ [u, v, x])) fun x => dd_node _ _
theorem dd_defn (hr : Rising tk) {e e' : F} (h : DD tk e e') (l : List Int) : DD tk (defn tk e l) (defn tk e' l) :=
  (dd_defHead hr l).bind (g := fun m s => defRest tk e (m ++ (list tk (param tk e) s).1) (list tk (param tk e) s).2) (g' := fun m s => defRest tk e' (m ++ (list tk (param tk e') s).1) (list tk (param tk e') s).2) fun m =>
    (dd_list hr (dd_param hr h)).bind (g := fun p => defRest tk e (m ++ p)) (g' := fun p => defRest tk e' (m ++ p)) fun p => dd_defRest hr h _
theorem dda_definition (hr : Rising tk) {e e' : F} (h : DD tk e e') : DDa tk (definition tk e) (definition tk e') :=
  DDa.ite (c := fun s => nextB tk [tPub] s.used = true) ((dda_leaf hr).bind (g := fun a => defn tk e [a]) (g' := fun a => defn tk e' [a]) fun a => dd_defn hr h [a]) (dd_defn hr h []).a
theorem dd_severalGo (hr : Rising tk) {p p' : F} (h : DDa tk p p') (ts : List (List UInt8)) : ∀ (n : Nat) (ks : List Int), DD tk (severalGo tk p ts n ks) (severalGo tk p' ts n ks)
  | 0, ks => DD.guard (c := fun s => nextB tk ts s.used = true) (dd_fail 15 ks).a (DD.ret ks)
  | n + 1, ks => DD.guard (c := fun s => nextB tk ts s.used = true) (h.bind (g := fun a => severalGo tk p ts n (ks ++ [a])) (g' := fun a => severalGo tk p' ts n (ks ++ [a])) fun a => dd_severalGo hr h ts n _) (DD.ret ks)
theorem dd_program (hr : Rising tk) {e e' : F} (h : DD tk e e') : DD tk (Ps.program tk e) (Ps.program tk e') :=
  (dd_severalGo hr (dda_imported hr) [tImport] 16 []).bind (g := fun a s => node 1 (a ++ (severalGo tk (definition tk e) [tPub, tFun] 64 [] s).1 ++ [(kind tk 5 (severalGo tk (definition tk e) [tPub, tFun] 64 [] s).2).1]) (kind tk 5 (severalGo tk (definition tk e) [tPub, tFun] 64 [] s).2).2)
    (g' := fun a s => node 1 (a ++ (severalGo tk (definition tk e') [tPub, tFun] 64 [] s).1 ++ [(kind tk 5 (severalGo tk (definition tk e') [tPub, tFun] 64 [] s).2).1]) (kind tk 5 (severalGo tk (definition tk e') [tPub, tFun] 64 [] s).2).2) fun a =>
    (dd_severalGo hr (dda_definition hr h) [tPub, tFun] 64 []).bind (g := fun b s => node 1 (a ++ b ++ [(kind tk 5 s).1]) (kind tk 5 s).2) (g' := fun b s => node 1 (a ++ b ++ [(kind tk 5 s).1]) (kind tk 5 s).2) fun b =>
    (dd_kind hr 5).bind (g := fun c => node 1 (a ++ b ++ [c])) (g' := fun c => node 1 (a ++ b ++ [c])) fun c => dd_node _ _
/-- With a greater depth: the same, or the first ended too deep, and the second comes as far. -/
theorem depths (hr : Rising tk) {d d' : Nat} (h : d ≤ d') : (Ps.program tk (lv tk d').ex St.first) = (Ps.program tk (lv tk d).ex St.first) ∨
    ((Ps.program tk (lv tk d).ex St.first).2.e = 23 ∧ ((Ps.program tk (lv tk d').ex St.first).2.e = 23 → (Ps.program tk (lv tk d).ex St.first).2.pos ≤ (Ps.program tk (lv tk d').ex St.first).2.pos)) := by
  rcases (dd_program hr (dv_lv hr d' d h).ex).eq St.first with q | ⟨q1, q2⟩
  · exact Or.inl q
  · right
    refine ⟨q1, fun q3 => ?_⟩
    unfold far at q2
    rw [if_neg (by rw [q3]; decide)] at q2
    exact q2
/-- A fault's place is a token's. -/
theorem program_pos (hr : Rising tk) (d : Nat) : Good tk (Ps.program tk (lv tk d).ex St.first).2 := (dd_program hr (dv_lv hr d d (Nat.le_refl _)).ex).gp St.first (good_alive rfl)
end
end Go.Proofs.YtlejecaanllghaaGreatDoor.Pd
/- Plain: what is read is small; and shows itself; with two depths. No program in sight. -/
namespace Go.Proofs.YtlejecaanllghaaGreatDoor
open Tr

structure ReadSmall (l : List UInt8) (t : Tr.T) : Prop where
  toks : t.toks.length ≤ l.length + 1
  nodes : t.nodes.length ≤ 3 * (l.length + 1)
  kids : ∀ n ∈ t.nodes, n.kids.length ≤ t.nodes.length
  texts : ∀ k ∈ t.toks, k.text.length ≤ l.length
theorem readSmall_nil (l : List UInt8) : ReadSmall l ⟨[], []⟩ := ⟨by simp, by simp, fun n hn => by simp at hn, fun k hk => by simp at hk⟩
theorem text_le_whole : ∀ {ts : List Tr.Tk} {k : Tr.Tk}, k ∈ ts → k.text.length ≤ (wholeOf ts).length
  | x :: ts, k, h => by
    unfold wholeOf
    rw [List.flatMap_cons, List.length_append, List.length_append]
    rcases List.mem_cons.1 h with rfl | h
    · omega
    · have := text_le_whole h
      unfold wholeOf at this
      omega
theorem read_small {k : FuncId} {what : List Tr.Tk → Nat → Ps.St} (hw : WhatDoes k what) (l : List UInt8) (dp : Int) : ReadSmall l (Ps.read what l dp).1 := by
  unfold Ps.read
  split
  · exact readSmall_nil l
  · split
    · exact readSmall_nil l
    · rename_i hf
      have hf : (Lx.lex l).2.1 = 0 := by simpa using hf
      split
      · exact readSmall_nil l
      · rename_i he
        have he : (what ((Lx.lex l).1.map toTk) dp.toNat).e = 0 := by simpa using he
        have h1 := Lx.lex_whole hf
        have h2 := hw.2 _ dp.toNat (Pc.lex_to hf).toks he
        have h3 : ((Lx.lex l).1.map toTk).length = (Lx.lex l).1.length := List.length_map ..
        have h4 : ((Lx.lex l).1.map Pc.tkOf).length = (Lx.lex l).1.length := List.length_map ..
        rw [h4] at h2
        refine ⟨by show ((Lx.lex l).1.map toTk).length ≤ _; omega, ?_, h2.2, fun k hk => ?_⟩
        · show (what _ _).nodes.length ≤ _
          have := h2.1
          have e : (Lx.lex l).1.map toTk = (Lx.lex l).1.map Pc.tkOf := rfl
          rw [e]
          omega
        · have := text_le_whole hk
          rw [whole_toTk, h1.1] at this
          exact this
theorem right_sizes {t : Tr.T} (h : Tr.right t = true) : Tr.FormedTo t t.nodes.length ∧ ∀ i, i < t.nodes.length → Tr.size t.nodes i ≤ i + 1 := by
  cases hg : Tr.rightGo t 0 t.nodes (List.replicate t.nodes.length false) with
  | none => rw [Tr.right_none hg] at h; cases h
  | some kid => exact ⟨Tr.rightGo_formed hg (by simp) (fun j n hj => absurd hj (by omega)), (Tr.right_facts hg).2.1⟩
theorem ReadSmall.dump {l : List UInt8} {t : Tr.T} (h : ReadSmall l t) (hl : l.length ≤ 1500) (n : Int) : (DumpOut t n).length ≤ 1073741824 := by
  unfold DumpOut
  split
  · rename_i hc
    obtain ⟨hr, h0, h1⟩ := check_zero hc
    obtain ⟨h2, h3⟩ := right_sizes hr
    have h4 := Tr.dump_len (L := 1500) (fun k hk => Nat.le_trans (h.texts k hk) hl) h2 n.toNat (by omega)
    have h5 := h3 n.toNat (by omega)
    have h6 := h.nodes
    have h7 : (1500 + 6) * Tr.size t.nodes n.toNat ≤ (1500 + 6) * 4503 := Nat.mul_le_mul_left _ (by omega)
    omega
  · simp
/-- A program that is read: its tree is right, shows the text, its root is a Program. -/
theorem read_whole (l : List UInt8) (dp : Int) (h : (Ps.read Ps.prog l dp).2.1 = 0) :
    wholeOf (Ps.read Ps.prog l dp).1.toks = l ∧ Tr.right (Ps.read Ps.prog l dp).1 = true ∧ 0 < (Ps.read Ps.prog l dp).1.nodes.length ∧ ((Ps.read Ps.prog l dp).1.nodes[(Ps.read Ps.prog l dp).1.nodes.length - 1]?).map (·.kind) = some 1 := by
  unfold Ps.read at h ⊢
  split at h
  · simp at h
  · rename_i hr
    rw [if_neg hr]
    split at h
    · rename_i hf
      exact absurd (by simpa using h) hf
    · rename_i hf
      rw [if_neg hf]
      split at h
      · rename_i he
        exact absurd h he
      · rename_i he
        rw [if_neg he]
        have hf : (Lx.lex l).2.1 = 0 := by simpa using hf
        have he : (Ps.prog ((Lx.lex l).1.map toTk) dp.toNat).e = 0 := by simpa using he
        have h1 := Lx.lex_whole hf
        have h2 := (Pc.same_program (Pc.lex_to hf).toks dp.toNat).right he
        exact ⟨(whole_toTk _).trans h1.1, h2.1, h2.2.1, h2.2.2.2⟩
theorem lexGo_pos (N : Nat) : ∀ (n : Nat) (r : List UInt8) (p : Nat) (acc : List Lx.Tok), r.length < n → p + r.length ≤ N → (∀ t ∈ acc, t.pos ≤ N) → (∀ t ∈ (Lx.lexGo n r p acc).1, t.pos ≤ N) ∧ (Lx.lexGo n r p acc).2.2 ≤ N
  | 0, _, _, _, h, _, _ => absurd h (by omega)
  | n + 1, r, p, acc, h, hN, ha => by
    have hb := Lx.between_len r
    have hle : (Lx.between r).length ≤ r.length := by omega
    have hs : ∀ t : Lx.Tok, t.pos = p + (Lx.between r).length → ∀ x ∈ acc ++ [t], x.pos ≤ N := by
      intro t ht x hx
      rcases List.mem_append.1 hx with hx | hx
      · exact ha x hx
      · rw [List.mem_singleton.1 hx, ht]
        omega
    by_cases he : (Lx.token (r.drop (Lx.between r).length)).2.2 = 0
    · have ht := Lx.token_text (r.drop (Lx.between r).length) he
      by_cases hk : (Lx.token (r.drop (Lx.between r).length)).1 = 5
      · rw [Lx.lexGo_end he hk]
        exact ⟨hs _ rfl, Nat.zero_le _⟩
      · rw [Lx.lexGo_on he hk]
        have h3 := ht.2.2 hk
        have h4 := ht.1.length_le
        simp only [List.length_drop] at h4
        exact lexGo_pos N n _ _ _ (by simp only [List.length_drop]; omega) (by simp only [List.length_drop]; omega) (hs _ rfl)
    · rw [Lx.lexGo_bad he]
      exact ⟨fun t ht => (by simp at ht), by show p + _ ≤ N; omega⟩
theorem lex_pos (l : List UInt8) : (∀ t ∈ (Lx.lex l).1, t.pos ≤ l.length) ∧ (Lx.lex l).2.2 ≤ l.length := by
  unfold Lx.lex
  split
  · exact ⟨fun t ht => (by simp at ht), Nat.zero_le _⟩
  · exact lexGo_pos l.length _ _ _ _ (by omega) (by omega) (fun t ht => (by simp at ht))
theorem peek_pos (l : List UInt8) (u : Nat) : 0 ≤ (Ps.peek ((Lx.lex l).1.map toTk) u).pos ∧ (Ps.peek ((Lx.lex l).1.map toTk) u).pos ≤ (l.length : Int) := by
  unfold Ps.peek
  rw [List.getElem?_map]
  cases h : (Lx.lex l).1[min u (((Lx.lex l).1.map toTk).length - 1)]? with
  | none => exact ⟨Int.le_refl _, Int.natCast_nonneg _⟩
  | some t =>
    have := (lex_pos l).1 t (List.mem_of_getElem? h)
    show 0 ≤ (t.pos : Int) ∧ (t.pos : Int) ≤ _
    omega
theorem rising_lex {l : List UInt8} (h : (Lx.lex l).2.1 = 0) : Pd.Rising ((Lx.lex l).1.map toTk) := by
  intro i j hij
  have hp := (Pc.lex_to h).toks.pos
  have hpos : 0 < ((Lx.lex l).1.map toTk).length := hp
  unfold Ps.peek
  have hi : min i (((Lx.lex l).1.map toTk).length - 1) < ((Lx.lex l).1.map toTk).length := by omega
  have hj : min j (((Lx.lex l).1.map toTk).length - 1) < ((Lx.lex l).1.map toTk).length := by omega
  rw [List.getElem?_eq_getElem hi, List.getElem?_eq_getElem hj]
  exact (Pc.lex_to h).pos (i := min i (((Lx.lex l).1.map toTk).length - 1)) (j := min j (((Lx.lex l).1.map toTk).length - 1)) (by omega) (List.getElem?_eq_getElem hi) (List.getElem?_eq_getElem hj)
/-- A fault's place is in the text. -/
theorem read_pos (l : List UInt8) (dp : Int) : 0 ≤ (Ps.read Ps.prog l dp).2.2 ∧ (Ps.read Ps.prog l dp).2.2 ≤ (l.length : Int) := by
  unfold Ps.read
  split
  · exact ⟨Int.le_refl _, Int.natCast_nonneg _⟩
  · split
    · have := (lex_pos l).2
      show 0 ≤ (((Lx.lex l).2.2 : Nat) : Int) ∧ (((Lx.lex l).2.2 : Nat) : Int) ≤ _
      omega
    · rename_i hf
      have hf : (Lx.lex l).2.1 = 0 := by simpa using hf
      split
      · rename_i he
        obtain ⟨u, hu⟩ := Pd.program_pos (rising_lex hf) dp.toNat he
        show 0 ≤ (Ps.prog ((Lx.lex l).1.map toTk) dp.toNat).pos ∧ (Ps.prog ((Lx.lex l).1.map toTk) dp.toNat).pos ≤ _
        rw [show (Ps.prog ((Lx.lex l).1.map toTk) dp.toNat).pos = _ from hu]
        exact peek_pos l u
      · exact ⟨Int.le_refl _, Int.natCast_nonneg _⟩
theorem read_lexed {what : List Tr.Tk → Nat → Ps.St} {l : List UInt8} {dp : Int} (h1 : 1 ≤ dp) (h2 : dp ≤ 200) (hf : (Lx.lex l).2.1 = 0) :
    Ps.read what l dp = if (what ((Lx.lex l).1.map toTk) dp.toNat).e ≠ 0 then (⟨[], []⟩, (what ((Lx.lex l).1.map toTk) dp.toNat).e, (what ((Lx.lex l).1.map toTk) dp.toNat).pos) else (⟨(Lx.lex l).1.map toTk, (what ((Lx.lex l).1.map toTk) dp.toNat).nodes⟩, 0, 0) := by
  unfold Ps.read
  rw [if_neg (by omega), if_neg (by simpa using hf)]
theorem read_unlexed {what : List Tr.Tk → Nat → Ps.St} {l : List UInt8} {dp : Int} (h1 : 1 ≤ dp) (h2 : dp ≤ 200) (hf : (Lx.lex l).2.1 ≠ 0) : Ps.read what l dp = (⟨[], []⟩, ((Lx.lex l).2.1 : Int), ((Lx.lex l).2.2 : Int)) := by
  unfold Ps.read
  rw [if_neg (by omega), if_pos (by simpa using hf)]
/-- With two depths. -/
theorem read_depths (l : List UInt8) (d m : Int) (h1 : 1 ≤ d) (h2 : d ≤ m) (h3 : m ≤ 200) :
    Ps.read Ps.prog l m = Ps.read Ps.prog l d ∨ ((Ps.read Ps.prog l d).2.1 = 23 ∧ ((Ps.read Ps.prog l m).2.1 = 23 → (Ps.read Ps.prog l d).2.2 ≤ (Ps.read Ps.prog l m).2.2)) := by
  by_cases hf : (Lx.lex l).2.1 = 0
  · rw [read_lexed h1 (by omega) hf, read_lexed (by omega : 1 ≤ m) h3 hf]
    rcases Pd.depths (rising_lex hf) (d := d.toNat) (d' := m.toNat) (by omega) with h | ⟨q1, q2⟩
    · left
      unfold Ps.prog
      rw [h]
    · right
      have q1' : (Ps.prog ((Lx.lex l).1.map toTk) d.toNat).e = 23 := q1
      rw [if_pos (show (Ps.prog ((Lx.lex l).1.map toTk) d.toNat).e ≠ 0 by rw [q1']; decide)]
      refine ⟨q1', fun q3 => ?_⟩
      by_cases he : (Ps.prog ((Lx.lex l).1.map toTk) m.toNat).e ≠ 0
      · rw [if_pos he] at q3 ⊢
        exact q2 q3
      · rw [if_neg he] at q3
        exact absurd (show (0 : Int) = 23 from q3) (by decide)
  · rw [read_unlexed h1 (by omega) hf, read_unlexed (by omega : 1 ≤ m) h3 hf]
    exact Or.inl rfl
end Go.Proofs.YtlejecaanllghaaGreatDoor
/- What the program's parser makes and what the document says are the same: plain. -/
namespace Go.Proofs.YtlejecaanllghaaGreatDoor
open Go.RowKit

/-- A reading says what the document says. -/
structure SameRead (r : Tr.T × Int × Int) (q : List UInt8 × Int × Int) : Prop where
  fault : r.2 = q.2
  none : q.2.1 ≠ 0 → r.1 = ⟨[], []⟩
  pos : q.2.1 = 0 → q.2.2 = 0
  check : q.2.1 = 0 → Tr.check r.1 (Tr.root r.1) = 0
  dump : q.2.1 = 0 → DumpOut r.1 (Tr.root r.1) = q.1
theorem read_same {what : List Tr.Tk → Nat → Ps.St} {fm : Bool} {k : Int} (hw : ∀ tk d, Pc.Toks tk → Pc.Same tk k (what tk d) (Pr.whole tk d fm).2 (Pr.whole tk d fm).1) (l : List UInt8) (dp : Int) : SameRead (Ps.read what l dp) (Pr.read l dp fm) := by
  unfold Ps.read Pr.read
  by_cases hr : dp < 1 ∨ 200 < dp
  · rw [if_pos hr, if_pos hr]
    exact ⟨rfl, fun _ => rfl, fun h => absurd (show (12 : Int) = 0 from h) (by decide), fun h => absurd (show (12 : Int) = 0 from h) (by decide), fun h => absurd (show (12 : Int) = 0 from h) (by decide)⟩
  rw [if_neg hr, if_neg hr]
  by_cases hf : (Lx.lex l).2.1 ≠ 0
  · rw [if_pos hf, if_pos hf]
    have hf' : (((Lx.lex l).2.1 : Nat) : Int) ≠ 0 := by omega
    exact ⟨rfl, fun _ => rfl, fun h => absurd h hf', fun h => absurd h hf', fun h => absurd h hf'⟩
  rw [if_neg hf, if_neg hf]
  have hs := hw ((Lx.lex l).1.map toTk) dp.toNat (Pc.lex_to (by simpa using hf)).toks
  obtain ⟨s, hs2⟩ : ∃ s, what ((Lx.lex l).1.map toTk) dp.toNat = s := ⟨_, rfl⟩
  obtain ⟨⟨x, r⟩, hr2⟩ : ∃ q, Pr.whole ((Lx.lex l).1.map toTk) dp.toNat fm = q := ⟨_, rfl⟩
  rw [hs2, hr2] at hs ⊢
  dsimp only at hs ⊢
  by_cases he : s.e = 0
  · have he2 : r.e = 0 := hs.e.trans he
    rw [if_neg (by simp [he]), if_neg (by simp [he2])]
    obtain ⟨q1, q2, q3, q4⟩ := hs.right he
    have hroot : Tr.root ⟨(Lx.lex l).1.map toTk, s.nodes⟩ = ((s.nodes.length - 1 : Nat) : Int) := by
      unfold Tr.root
      show (s.nodes.length : Int) - 1 = _
      omega
    have hck : Tr.check ⟨(Lx.lex l).1.map toTk, s.nodes⟩ (Tr.root ⟨(Lx.lex l).1.map toTk, s.nodes⟩) = 0 := by
      unfold Tr.check
      rw [hroot, if_neg (by simp [q1])]
      exact if_neg (by show ¬ (_ ∨ (s.nodes.length : Int) ≤ _); omega)
    refine ⟨rfl, fun h => absurd rfl h, fun _ => rfl, fun _ => hck, fun _ => ?_⟩
    show DumpOut ⟨(Lx.lex l).1.map toTk, s.nodes⟩ (Tr.root ⟨(Lx.lex l).1.map toTk, s.nodes⟩) = x
    unfold DumpOut
    rw [if_pos hck, hroot]
    exact q3
  · have he2 : r.e ≠ 0 := by rw [hs.e]; exact he
    rw [if_pos he, if_pos he2]
    refine ⟨?_, fun _ => rfl, fun h => absurd h he2, fun h => absurd h he2, fun h => absurd h he2⟩
    show (s.e, s.pos) = (r.e, r.pos)
    rw [hs.e, hs.pos he]
theorem same_prog (tk : List Tr.Tk) (d : Nat) (ht : Pc.Toks tk) : Pc.Same tk 1 (Ps.prog tk d) (Pr.whole tk d false).2 (Pr.whole tk d false).1 := Pc.same_program ht d
theorem same_form (tk : List Tr.Tk) (d : Nat) (ht : Pc.Toks tk) : Pc.Same tk 18 (Ps.form tk d) (Pr.whole tk d true).2 (Pr.whole tk d true).1 := Pc.same_alone ht d

end Go.Proofs.YtlejecaanllghaaGreatDoor
/- ParseLimits: the whole text that it builds, read by the document's parser and by the program's. No program in sight. -/
namespace Go.Proofs.YtlejecaanllghaaGreatDoor.Lm
open Tr Ps

section
variable {tk : List Tk} {u : Nat}
theorem Dr.len {L : List Lx.Tok} (h : Dr tk u L) : L.length ≤ tk.length := by
  have h : tk.drop u = L.map toTk := h
  have := congrArg List.length h
  rw [List.length_drop, List.length_map] at this
  omega
theorem repsT_len {f : Nat → List Lx.Tok} {w c : Nat} (hf : ∀ p, (f p).length = c) : ∀ n p, (repsT f w n p).length = n * c
  | 0, _ => by simp [repsT]
  | n + 1, p => by rw [repsT, List.length_append, hf, repsT_len hf n, Nat.succ_mul, Nat.add_comm]
theorem sepT_len {f : Nat → List Lx.Tok} {w c : Nat} (hf : ∀ p, (f p).length = c) (n p : Nat) : n ≤ (sepT f w (n + 1) p).length := by
  have hf2 : ∀ p, ((fun q => f q ++ comT (q + w)) p).length = c + 1 := fun p => by rw [List.length_append, hf]; rfl
  rw [sepT_succ, List.length_append, repsT_len hf2, Nat.mul_succ]
  omega
/-- The arguments' list and what is behind it. -/
theorem rest_state {a r d q : Nat} (h : Dr tk u (hT r ++ (sepT argT 1 a (r + 8) ++ (endT (r + 8 + (sep a argC).length) ++ [⟨5, [], [], q⟩])))) :
    ∃ j, (∀ x, (Pr.defRest tk (Pr.lv tk (d + 2)).ex x ⟨u, false, 0, 0⟩).2 = if 8 < a then ⟨j, false, 15, ((r + 24 : Nat) : Int)⟩ else ⟨j, false, 0, 0⟩) ∧ (a ≤ 8 → At tk j 5 []) := by
  have h0 : At tk u 4 [41] := at_of (k := 0) h rfl rfl
  have h1 : At tk (u + 1) 4 [58] := at_of (k := 1) h rfl rfl
  have h2 : At tk (u + 2) 2 [105, 110, 116] := at_of (k := 2) h rfl rfl
  have h3 : At tk (u + 3) 4 [61] := at_of (k := 3) h rfl rfl
  have h4 : At tk (u + 4) 1 [104] := at_of (k := 4) h rfl rfl
  have h5 : At tk (u + 5) 4 [40] := at_of (k := 5) h rfl rfl
  have d6 := h.more (n := 6) rfl
  have hend : ∀ (z : Nat) {q : Nat} {R : List Lx.Tok}, Dr tk z (endT q ++ R) → (if Pr.is tk [41] ⟨u + 4 + 2, false, 0, 0⟩ = true then (⟨u + 4 + 2, false, 0, 0⟩ : Pr.Rs) else (Pr.args tk (Pr.lv tk (d + 1)).ex ⟨u + 4 + 2, false, 0, 0⟩).2) = ⟨z, false, 0, 0⟩ →
      ∀ x, (Pr.defRest tk (Pr.lv tk (d + 2)).ex x ⟨u, false, 0, 0⟩).2 = ⟨z + 2, false, 0, 0⟩ := by
    intro z q R hz hl x
    have e0 : At tk z 4 [41] := at_of (k := 0) hz rfl rfl
    have e1 : At tk (z + 1) 4 [59] := at_of (k := 1) hz rfl rfl
    have hx : ((Pr.lv tk (d + 2)).ex ⟨u + 4, false, 0, 0⟩).2 = ⟨z + 1, false, 0, 0⟩ := call_state rfl h4 h5 hl (must_at e0 (Or.inr rfl)) (Or.inr (Or.inl e1.2))
    rw [rest_ok h0 h1 h2 h3 hx x]
    exact must_at e1 (Or.inr rfl)
  cases a with
  | zero =>
    have d7 : Dr tk (u + 6) (endT (r + 8 + (sep 0 argC).length) ++ [⟨5, [], [], q⟩]) := d6
    have e6 : At tk (u + 6) 4 [41] := at_of (k := 0) d7 rfl rfl
    refine ⟨u + 6 + 2, fun x => ?_, fun _ => at_of (k := 2) d7 rfl rfl⟩
    rw [if_neg (by omega)]
    exact hend (u + 6) d7 (by rw [is_at e6]; rfl) x
  | succ n =>
    have hl : (sep (n + 1) argC).length = n * 2 + 1 := by rw [sep_succ, List.length_append, reps_len]; rfl
    rw [hl] at d6
    have hn : n ≤ tk.length := by
      have := d6.len
      rw [List.length_append] at this
      exact Nat.le_trans (sepT_len argT_len n (r + 8)) (Nat.le_trans (Nat.le_add_right _ _) this)
    have ha := args_state (d := d) d6 hn
    have e6 : At tk (u + 6) 3 [49] := by
      obtain ⟨R', hd, _, _⟩ := Dr.seps (j := 0) argT_len d6 (Nat.zero_le _)
      rw [Nat.zero_mul, Nat.add_zero] at hd
      exact at_of (k := 0) hd rfl rfl
    have hno : Pr.is tk [41] ⟨u + 4 + 2, false, 0, 0⟩ = false := by
      rw [show u + 4 + 2 = u + 6 from rfl, is_at e6]
      rfl
    by_cases h8 : n < 8
    · obtain ⟨R', hd, _, he⟩ := Dr.seps (j := n) argT_len d6 (Nat.le_refl _)
      rw [he rfl] at hd
      have hz := hd.more (n := 1) rfl
      refine ⟨u + 6 + n * 2 + 1 + 2, fun x => ?_, fun _ => at_of (k := 2) hz rfl rfl⟩
      rw [if_neg (by omega)]
      refine hend _ hz ?_ x
      rw [hno, if_neg (by decide)]
      rw [if_pos h8] at ha
      exact ha
    · refine ⟨u + 6 + 16, fun x => ?_, fun h => absurd h (by omega)⟩
      rw [if_pos (by omega)]
      rw [if_neg h8] at ha
      have hx : ((Pr.lv tk (d + 2)).ex ⟨u + 4, false, 0, 0⟩).2 = ⟨u + 6 + 16, false, 15, ((r + 8 + 16 : Nat) : Int)⟩ :=
        call_state (s1 := ⟨u + 6 + 16, false, 15, ((r + 8 + 16 : Nat) : Int)⟩) rfl h4 h5 (by rw [hno, if_neg (by decide)]; exact ha) (by rw [Pc.rmust_dead (show (15 : Int) ≠ 0 by decide)]) (Or.inl (show (15 : Int) ≠ 0 by decide))
      rw [rest_ok h0 h1 h2 h3 hx x, Pc.rmust_dead (show (15 : Int) ≠ 0 by decide)]
/-- The last definition. -/
theorem def_g {p a q d : Nat} (h : Dr tk u (gT q ++ tailT p a (q + 6))) :
    ∃ j, (Pr.definition tk (Pr.lv tk (d + 2)).ex ⟨u, false, 0, 0⟩).2 = (if 8 < p then ⟨j, false, 15, ((q + 54 : Nat) : Int)⟩ else if 8 < a then ⟨j, false, 15, ((q + (sep p parC).length + 30 : Nat) : Int)⟩ else ⟨j, false, 0, 0⟩) ∧ (p ≤ 8 → a ≤ 8 → At tk j 5 []) := by
  have h0 : At tk u 2 tFun := at_of (k := 0) h rfl rfl
  have h1 : At tk (u + 1) 1 [103] := at_of (k := 1) h rfl rfl
  have h2 : At tk (u + 2) 4 [40] := at_of (k := 2) h rfl rfl
  have d3 := h.more (n := 3) rfl
  have hfin : ∀ (z : Nat), p ≤ 8 → (∀ x, (Pr.defList tk (Pr.lv tk (d + 2)).ex x ⟨u + 3, false, 0, 0⟩).2 = ⟨z, false, 0, 0⟩) →
      Dr tk z (hT (q + 6 + (sep p parC).length) ++ (sepT argT 1 a (q + 6 + (sep p parC).length + 8) ++ (endT (q + 6 + (sep p parC).length + 8 + (sep a argC).length) ++ [⟨5, [], [], q + 6 + (sep p parC).length + 8 + (sep a argC).length + 2⟩]))) →
      ∃ j, (Pr.definition tk (Pr.lv tk (d + 2)).ex ⟨u, false, 0, 0⟩).2 = (if 8 < p then ⟨j, false, 15, ((q + 54 : Nat) : Int)⟩ else if 8 < a then ⟨j, false, 15, ((q + (sep p parC).length + 30 : Nat) : Int)⟩ else ⟨j, false, 0, 0⟩) ∧ (p ≤ 8 → a ≤ 8 → At tk j 5 []) := by
    intro z hp hl hz
    obtain ⟨j, hj, hat⟩ := rest_state (d := d) hz
    refine ⟨j, ?_, fun _ h => hat h⟩
    rw [if_neg (by omega), def_state h0 h1 h2 hl hj]
    have e : q + 6 + (sep p parC).length + 24 = q + (sep p parC).length + 30 := by omega
    rw [e]
  cases p with
  | zero =>
    have d4 : Dr tk (u + 3) (hT (q + 6) ++ (sepT argT 1 a (q + 6 + 8) ++ (endT (q + 6 + 8 + (sep a argC).length) ++ [⟨5, [], [], q + 6 + 8 + (sep a argC).length + 2⟩]))) := d3
    have e3 : At tk (u + 3) 4 [41] := at_of (k := 0) d4 rfl rfl
    refine hfin (u + 3) (by omega) (fun x => ?_) d4
    unfold Pr.defList
    rw [if_neg (by rw [is_at e3]; exact fun h => absurd h.2 (by decide))]
  | succ n =>
    have hl : (sep (n + 1) parC).length = n * 6 + 5 := by rw [sep_succ, List.length_append, reps_len]; rfl
    have d4 := d3
    unfold tailT at d4
    rw [hl] at d4
    have d5 : Dr tk (u + 3) (sepT parT 5 (n + 1) (q + 6) ++ (hT (q + 6 + n * 6 + 5) ++ (sepT argT 1 a (q + 6 + (n * 6 + 5) + 8) ++ (endT (q + 6 + (n * 6 + 5) + 8 + (sep a argC).length) ++ [⟨5, [], [], q + 6 + (n * 6 + 5) + 8 + (sep a argC).length + 2⟩])))) := d4
    have hn : n ≤ tk.length := by
      have := d5.len
      rw [List.length_append] at this
      exact Nat.le_trans (sepT_len parT_len n (q + 6)) (Nat.le_trans (Nat.le_add_right _ _) this)
    have hp := params_state (g := (Pr.lv tk (d + 2)).ex) d5 hn
    have e3 : At tk (u + 3) 1 [120] := by
      obtain ⟨R', hd, _, _⟩ := Dr.seps (j := 0) parT_len d5 (Nat.zero_le _)
      rw [Nat.zero_mul, Nat.add_zero] at hd
      exact at_of (k := 0) hd rfl rfl
    have hls : ∀ x, (Pr.defList tk (Pr.lv tk (d + 2)).ex x ⟨u + 3, false, 0, 0⟩).2 = (Pr.params tk (Pr.lv tk (d + 2)).ex ⟨u + 3, false, 0, 0⟩).2 := fun x => by
      unfold Pr.defList
      rw [if_pos ⟨rfl, by rw [is_at e3]; rfl⟩]
    by_cases h8 : n < 8
    · obtain ⟨R', hd, _, he⟩ := Dr.seps (j := n) parT_len d5 (Nat.le_refl _)
      rw [he rfl] at hd
      have hz := hd.more (n := 3) rfl
      rw [if_pos h8] at hp
      refine hfin (u + 3 + n * 4 + 3) (by omega) (fun x => (hls x).trans hp) ?_
      rw [hl]
      exact hz
    · rw [if_neg h8] at hp
      have hdd : (15 : Int) ≠ 0 := by decide
      refine ⟨u + 3 + 32, ?_, fun h => absurd h (by omega)⟩
      rw [if_pos (by omega)]
      have e : q + 6 + 48 = q + 54 := by omega
      rw [e] at hp
      exact def_state h0 h1 h2 (fun x => (hls x).trans hp) (fun x => rest_dead hdd (ex_dead (d + 1) _ hdd) x)
end
/-- What the law wants. -/
def want (i d p a : Nat) : Int × Int :=
  if 16 < i then (15, 144) else if 64 ≤ d then (15, ((i * 9 + 896 : Nat) : Int)) else if 8 < p then (15, ((i * 9 + d * 14 + 54 : Nat) : Int))
  else if 8 < a then (15, ((i * 9 + d * 14 + (sep p parC).length + 30 : Nat) : Int)) else (0, 0)
theorem program_fails {tk : List Tk} {ex : Pr.G} {s : Pr.Rs} {x : List UInt8} (h : Pr.importsGo tk 16 [40, 49] Pr.Rs.first = (x, s, false)) : (Pr.program tk ex Pr.Rs.first).2 = s := by
  unfold Pr.program
  simp only [h]
  rfl
theorem program_defs {tk : List Tk} {ex : Pr.G} {s s2 : Pr.Rs} {x y : List UInt8} (h : Pr.importsGo tk 16 [40, 49] Pr.Rs.first = (x, s, true)) (h2 : Pr.defsGo tk ex 64 x s = (y, s2, false)) : (Pr.program tk ex Pr.Rs.first).2 = s2 := by
  unfold Pr.program
  simp only [h, h2]
  rfl
theorem program_end {tk : List Tk} {ex : Pr.G} {s s2 : Pr.Rs} {x y : List UInt8} (h : Pr.importsGo tk 16 [40, 49] Pr.Rs.first = (x, s, true)) (h2 : Pr.defsGo tk ex 64 x s = (y, s2, true)) : (Pr.program tk ex Pr.Rs.first).2 = (Pr.kind tk 5 s2).2 := by
  unfold Pr.program
  simp only [h, h2]
  rfl
theorem defs_stop {tk : List Tk} {ex : Pr.G} {s : Pr.Rs} (h1 : Pr.is tk tPub s = false) (h2 : Pr.is tk tFun s = false) (n : Nat) (a : List UInt8) : Pr.defsGo tk ex n a s = (a, s, true) := by
  cases n with
  | zero => unfold Pr.defsGo; rw [if_neg (by rw [h1, h2]; decide)]
  | succ n => unfold Pr.defsGo; rw [if_neg (by rw [h1, h2]; decide)]
theorem limits_doc (i d p a : Nat) (D : Nat) : let r := (Pr.program ((toks i d p a).map toTk) (Pr.lv ((toks i d p a).map toTk) (D + 2)).ex Pr.Rs.first).2; (r.e, r.pos) = want i d p a := by
  intro r
  obtain ⟨tk, htk⟩ : ∃ tk, (toks i d p a).map toTk = tk := ⟨_, rfl⟩
  have hr : r = (Pr.program tk (Pr.lv tk (D + 2)).ex Pr.Rs.first).2 := by rw [← htk]
  rw [hr]
  clear hr
  clear_value r
  have h : Dr tk 0 (toks i d p a) := htk.symm
  unfold toks at h
  have hi := h.rep (c := 3) (fun _ => rfl) i (Nat.le_refl _)
  rw [Nat.sub_self, Nat.zero_add, Nat.zero_add] at hi
  have hi2 : Dr tk (i * 3) (repsT defT 14 d (i * 9) ++ (gT (i * 9 + d * 14) ++ tailT p a (i * 9 + d * 14 + 6))) := hi
  have hfun : At tk (i * 3) 2 tFun := by
    cases d with
    | zero => exact at_of (k := 0) hi2 rfl rfl
    | succ d => exact at_of (k := 0) hi2 rfl rfl
  obtain ⟨i1, i2⟩ := imports_go (R := repsT defT 14 d (i * 9) ++ (gT (i * 9 + d * 14) ++ tailT p a (i * 9 + d * 14 + 6))) i 16 0 0 [40, 49] h (by rw [Nat.zero_add, is_at hfun]; rfl)
  unfold want
  by_cases h16 : 16 < i
  · obtain ⟨j, hj⟩ := i2 h16
    rw [if_pos h16, program_fails hj]
    rfl
  rw [if_neg h16]
  obtain ⟨x, hx⟩ := i1 (by omega)
  rw [Nat.zero_add] at hx
  obtain ⟨d1, d2⟩ := defs_go (D + 1) d 64 (i * 3) (i * 9) x hi2
  by_cases h64 : 64 < d
  · obtain ⟨j, hj⟩ := d2 h64
    rw [if_pos (by omega), program_defs hx hj]
  obtain ⟨y, hy⟩ := d1 (by omega)
  have hd := hi2.rep (c := 9) (fun _ => rfl) d (Nat.le_refl _)
  rw [Nat.sub_self] at hd
  have hd2 : Dr tk (i * 3 + d * 9) (gT (i * 9 + d * 14) ++ tailT p a (i * 9 + d * 14 + 6)) := hd
  have hg0 : At tk (i * 3 + d * 9) 2 tFun := at_of (k := 0) hd2 rfl rfl
  by_cases he : d = 64
  · subst he
    rw [if_pos (by omega)]
    have hp : (Pr.tok tk (i * 3 + 64 * 9)).pos = ((i * 9 + 896 : Nat) : Int) := by
      have h3 := hd2.at 0
      rw [Nat.add_zero] at h3
      rw [h3]
      rfl
    have hz : Pr.defsGo tk (Pr.lv tk (D + 2)).ex 64 x ⟨i * 3, false, 0, 0⟩ = ([], ⟨i * 3 + 64 * 9, false, 15, ((i * 9 + 896 : Nat) : Int)⟩, false) := by
      rw [hy, Nat.sub_self]
      unfold Pr.defsGo
      rw [if_pos (by rw [is_at hg0, is_at hg0]; rfl)]
      unfold Pr.fail
      rw [if_pos rfl, hp]
    rw [program_defs hx hz]
  rw [if_neg (by omega)]
  obtain ⟨j, hj, hat⟩ := def_g (d := D) hd2
  obtain ⟨m, hm⟩ : ∃ m, 64 - d = m + 1 := ⟨64 - d - 1, by omega⟩
  have hz : ∃ y2, Pr.defsGo tk (Pr.lv tk (D + 2)).ex 64 x ⟨i * 3, false, 0, 0⟩ = Pr.defsGo tk (Pr.lv tk (D + 2)).ex m y2 (Pr.definition tk (Pr.lv tk (D + 2)).ex ⟨i * 3 + d * 9, false, 0, 0⟩).2 := by
    rw [hy, hm]
    conv => enter [1, y2, 1]; unfold Pr.defsGo
    rw [if_pos (by rw [is_at hg0, is_at hg0]; rfl)]
    exact ⟨_, rfl⟩
  obtain ⟨y2, hz⟩ := hz
  rw [hj] at hz
  have h15 : (15 : Int) ≠ 0 := by decide
  by_cases hp8 : 8 < p
  · rw [if_pos hp8] at hz ⊢
    rw [program_end hx (hz.trans (defs_stop (Pc.is_dead h15 _) (Pc.is_dead h15 _) _ _)), Pc.rkind_dead h15]
  rw [if_neg hp8] at hz ⊢
  by_cases ha8 : 8 < a
  · rw [if_pos ha8] at hz ⊢
    rw [program_end hx (hz.trans (defs_stop (Pc.is_dead h15 _) (Pc.is_dead h15 _) _ _)), Pc.rkind_dead h15]
  rw [if_neg ha8] at hz ⊢
  have hE := hat (by omega) (by omega)
  rw [program_end hx (hz.trans (defs_stop (by rw [is_at hE]; rfl) (by rw [is_at hE]; rfl) _ _))]
  unfold Pr.kind
  rw [if_pos ⟨rfl, hE.1⟩]
  unfold Pr.leaf
  rw [if_pos hE.1]
/-- What the program says of it. -/
theorem limits_read (i d p a : Nat) (h1 : i ≤ 20) (h2 : d ≤ 70) (h3 : p ≤ 12) (h4 : a ≤ 12) : (Ps.read Ps.prog (text i d p a) 9).2 = want i d p a := by
  have hl := text_lex i d p a h1 h2 h3 h4
  rw [(read_same same_prog (text i d p a) 9).fault, ← limits_doc i d p a 7]
  unfold Pr.read
  rw [if_neg (by decide), hl, if_neg (by simp)]
  show (if (Pr.program ((toks i d p a).map toTk) (Pr.lv ((toks i d p a).map toTk) (7 + 2)).ex Pr.Rs.first).2.e ≠ 0 then _ else _ : List UInt8 × Int × Int).2 = _
  by_cases he : (Pr.program ((toks i d p a).map toTk) (Pr.lv ((toks i d p a).map toTk) (7 + 2)).ex Pr.Rs.first).2.e ≠ 0
  · rw [if_pos he]
    rfl
  · rw [if_neg he]
    have hw := limits_doc i d p a 7
    have he2 : (Pr.program ((toks i d p a).map toTk) (Pr.lv ((toks i d p a).map toTk) (7 + 2)).ex Pr.Rs.first).2.e = 0 := by simpa using he
    have hw1 := congrArg Prod.fst hw
    have hw2 := congrArg Prod.snd hw
    have hz : (want i d p a).2 = 0 := by
      have h0 : (want i d p a).1 = 0 := hw1.symm.trans he2
      unfold want at h0 ⊢
      by_cases c1 : 16 < i
      · rw [if_pos c1] at h0; exact absurd h0 (show ¬ (15 : Int) = 0 by decide)
      · rw [if_neg c1] at h0 ⊢
        by_cases c2 : 64 ≤ d
        · rw [if_pos c2] at h0; exact absurd h0 (show ¬ (15 : Int) = 0 by decide)
        · rw [if_neg c2] at h0 ⊢
          by_cases c3 : 8 < p
          · rw [if_pos c3] at h0; exact absurd h0 (show ¬ (15 : Int) = 0 by decide)
          · rw [if_neg c3] at h0 ⊢
            by_cases c4 : 8 < a
            · rw [if_pos c4] at h0; exact absurd h0 (show ¬ (15 : Int) = 0 by decide)
            · rw [if_neg c4]
    exact Prod.ext he2.symm (hz.symm.trans hw2.symm)
end Go.Proofs.YtlejecaanllghaaGreatDoor.Lm
/- ParseTells, ParseDepths, ParseFormulas, ParseWhole, ParseLimits: the document's examples, which open all of them. -/
namespace Go.Proofs.YtlejecaanllghaaGreatDoor
open Go.RowKit

def ancA : List UInt8 := [102, 117, 110, 32, 102, 40, 120, 58, 105, 110, 116, 41, 58, 105, 110, 116, 61, 120, 43, 49, 59]
def ancB : List UInt8 := [102, 117, 110, 32, 102, 40, 58]
def ancD : List UInt8 := [40, 49, 32, 40, 51, 32, 102, 117, 110, 32, 102, 32, 40, 32, 40, 52, 32, 120, 32, 58, 32, 40, 53, 32, 105, 110, 116, 41, 41, 32, 41, 32, 58, 32, 40, 53, 32, 105, 110, 116, 41, 32, 61, 32, 40, 49, 48, 32, 40, 49, 52, 32, 120, 41, 32, 43, 32, 40, 49, 53, 32, 49, 41, 41, 32, 59, 41, 32, 36, 41]
theorem ancA_fault : (Ps.read Ps.prog ancA 1).2 = (0, 0) := by kernel_rfl
theorem ancB_fault : (Ps.read Ps.prog ancB 9).2 = (22, 6) := by kernel_rfl
theorem ancA_check : Tr.check (Ps.read Ps.prog ancA 1).1 (Tr.root (Ps.read Ps.prog ancA 1).1) = 0 := by kernel_rfl
theorem ancA_dump : DumpOut (Ps.read Ps.prog ancA 1).1 (Tr.root (Ps.read Ps.prog ancA 1).1) = ancD := by
  unfold DumpOut
  rw [if_pos ancA_check]
  kernel_rfl
/-- What is known of a reading's tree in memory, in any world behind. -/
theorem reads_calls {l : List UInt8} (hl : l.length ≤ 1500) {w w1 : World} {vt vn : Value} {T : Tr.T} (hs : ReadSmall l T) (h : RdT w1 (fun k => w.heap.size ≤ k ∧ k < w1.heap.size) vt vn T) :
    (∀ W, Below w1.heap.size w1 W → Calls Tryz.prog 44 #[.agg #[vt, vn]] W fun e w' => e = .returned (.int .i64 (Tr.root T)) ∧ W.alloc (.cells #[vt, vn] 30) = w') ∧
    (∀ W n, Below w1.heap.size w1 W → Calls Tryz.prog 43 #[.agg #[vt, vn], .int .i64 n] W fun e w' => e = .returned (.tuple #[.string ⟨(DumpOut T n).toArray⟩, .int .i64 (Tr.check T n)]) ∧ Below W.heap.size W w') ∧
    (∀ W, Below w1.heap.size w1 W → Calls Tryz.prog 129 #[.agg #[vt, vn]] W fun e w' => e = .returned (.bool (Tr.right T)) ∧ Below W.heap.size W w') := by
  have h1 := hs.toks
  have h2 := hs.nodes
  have hk : ∀ n ∈ T.nodes, n.kids.length ≤ 1073741823 := fun n hn => by have := hs.kids n hn; omega
  refine ⟨fun W hW => ?_, fun W n hW => ?_, fun W hW => ?_⟩
  · exact root_calls (h.keep (Keeps.of hW fun k hk => hk.2)) (by omega)
  · exact dump2_calls (h.keep (Keeps.of hW fun k hk => hk.2)) (fun k hk => Nat.lt_of_lt_of_le hk.2 hW.size) (by omega) (by omega) hk n (hs.dump hl n)
  · exact right_calls (h.keep (Keeps.of hW fun k hk => hk.2)) (fun k hk => Nat.lt_of_lt_of_le hk.2 hW.size) (by omega) (by omega) hk

theorem two_alloc (w : World) (a b c d : Value) : Two w ((w.alloc (.cells #[a, b] 30)).alloc (.cells #[c, d] 25)) #[a, b] #[c, d] :=
  ⟨by rw [Below.heap_alloc _ _ _ (by rw [← size_alloc1]; omega)]; exact heap_alloc_new _ _, heap_alloc2_new _ _ _, ((Below.refl _ _).alloc (Nat.le_refl _) _).alloc (by rw [← size_alloc1]; omega) _⟩

set_option maxRecDepth 100000 in
set_option maxHeartbeats 4000000 in
theorem panchor_calls (w : World) : Calls Tryz.prog 8 #[] w fun e w' => e = .returned (.bool true) ∧ Below w.heap.size w w' := by
  have hc1 := parse_calls ancA (by decide) 1 w
  have hs1 := read_small what_program ancA 1
  have f1 := ancA_fault
  have f2 := ancA_check
  have f3 := ancA_dump
  obtain ⟨⟨T, fe, fp⟩, hr⟩ : ∃ r, Ps.read Ps.prog ancA 1 = r := ⟨_, rfl⟩
  rw [hr] at hc1 hs1 f1 f2 f3
  simp only [Prod.mk.injEq] at f1
  obtain ⟨rfl, rfl⟩ := f1
  have HC1 := Lib.hid hc1
  have HS1 := Lib.hid hs1
  have HF := Lib.hid (And.intro f2 f3)
  clear hc1 hs1 f2 f3 hr
  have hc2 := fun W => parse_calls ancB (by decide) 9 W
  have f4 := ancB_fault
  obtain ⟨⟨T2, fe2, fp2⟩, hr⟩ : ∃ r, Ps.read Ps.prog ancB 9 = r := ⟨_, rfl⟩
  rw [hr] at f4
  simp only [hr] at hc2
  simp only [Prod.mk.injEq] at f4
  obtain ⟨rfl, rfl⟩ := f4
  have HC2 := Lib.hid hc2
  clear hc2 hr
  go_enter Tryz.func8, Tryz.ntmps8
  go_wp2_with fail
  rw [show (⟨#[102, 117, 110, 32, 102, 40, 120, 58, 105, 110, 116, 41, 58, 105, 110, 116, 61, 120, 43, 49, 59]⟩ : ByteArray) = ⟨ancA.toArray⟩ from rfl]
  refine HC1.out.mono ?_
  rintro e w1 ⟨vt, vn, rfl, hT, hb⟩
  obtain ⟨a1, c1, rfl⟩ : ∃ a c, vt = .slice a T.toks.length c := hT.1.form
  obtain ⟨a2, c2, rfl⟩ : ∃ a c, vn = .slice a T.nodes.length c := by
    obtain ⟨kvs, _, h2, _⟩ := hT.2
    exact h2.form
  have HR1 := Lib.hid (And.intro (reads_calls (by decide) HS1.out hT) hb)
  clear hT hb
  dsimp only
  go_wp2_with fail
  obtain ⟨V1, hV1⟩ : ∃ V, (w1.alloc (.cells #[.slice a1 T.toks.length c1, .slice a2 T.nodes.length c2] 30)).alloc (.cells #[.int .i64 0, .int .i64 0] 25) = V := ⟨_, rfl⟩
  have h1 := two_alloc w1 (.slice a1 T.toks.length c1) (.slice a2 T.nodes.length c2) (.int .i64 0) (.int .i64 0)
  rw [hV1] at h1 ⊢
  have H1 := Lib.hid h1
  clear h1 hV1
  rw [show (⟨#[102, 117, 110, 32, 102, 40, 58]⟩ : ByteArray) = ⟨ancB.toArray⟩ from rfl]
  refine (HC2.out V1).mono ?_
  rintro e w2 ⟨vt2, vn2, rfl, hT, hb⟩
  obtain ⟨a3, c3, rfl⟩ : ∃ a c, vt2 = .slice a T2.toks.length c := hT.1.form
  obtain ⟨a4, c4, rfl⟩ : ∃ a c, vn2 = .slice a T2.nodes.length c := by
    obtain ⟨kvs, _, h2, _⟩ := hT.2
    exact h2.form
  have H2 := Lib.hid (H1.out.past hb)
  clear hT hb
  dsimp only
  go_wp2_with fail
  obtain ⟨V2, hV2⟩ : ∃ V, (w2.alloc (.cells #[.slice a3 T2.toks.length c3, .slice a4 T2.nodes.length c4] 30)).alloc (.cells #[.int .i64 22, .int .i64 6] 25) = V := ⟨_, rfl⟩
  have h1 := two_alloc w2 (.slice a3 T2.toks.length c3) (.slice a4 T2.nodes.length c4) (.int .i64 22) (.int .i64 6)
  rw [hV2] at h1 ⊢
  have h3 := H2.out.past h1.b
  have H3 := Lib.hid (And.intro h1 h3)
  have t0 := cell_of_heap h3.t 0 rfl
  have t1 := cell_of_heap h3.t 1 rfl
  have l0 := cell_lt t0
  clear h1 h3 hV2
  go_region_held3 (fun w' => w'.cell? ⟨w1.heap.size, 0, none⟩ = some (.slice a1 T.toks.length c1) ∧ w'.cell? ⟨w1.heap.size, 1, none⟩ = some (.slice a2 T.nodes.length c2)) (first | exact ⟨t0, t1⟩ | exact ⟨e20, e21⟩ | go_keep)
    ((first
      | (go_at_call 44; refine (HR1.out.1.1 _ (H3.out.2.b.drew)).mono ?_; rintro e w3 ⟨rfl, rfl⟩)
      | (go_at_call 43; refine (HR1.out.1.2.1 _ _ ((H3.out.2.b.alloc H3.out.2.b.size _).drew)).mono ?_; rintro e w8 ⟨rfl, hb8⟩; have hb9 := (Below.refl V2.heap.size V2).alloc (Nat.le_refl _) (.cells #[.slice a1 T.toks.length c1, .slice a2 T.nodes.length c2] 30); have hb10 : Below V2.heap.size V2 w8 := (hb9.drew).trans (hb8.mono hb9.size); have e20 := cell_of_heap (H3.out.2.past hb10).t 0 rfl; have e21 := cell_of_heap (H3.out.2.past hb10).t 1 rfl; have HB10 := Lib.hid hb10; clear hb8 hb9 hb10)))
  clear t0 t1 l0 e20 e21
  have h5 := H3.out.2.past HB10.out
  have h6 := H3.out.1.past HB10.out
  have t0 := cell_of_heap h5.f 0 rfl
  have t1 := cell_of_heap h5.f 1 rfl
  have t2 := cell_of_heap h6.f 0 rfl
  have t3 := cell_of_heap h6.f 1 rfl
  have H5 := Lib.hid h5.b
  rw [HF.out.1, HF.out.2]
  clear h5 h6
  go_wp2_with fail
  go_ret
  exact ⟨by simp [ancD], HR1.out.2.trans (H5.out.mono HR1.out.2.size)⟩
end Go.Proofs.YtlejecaanllghaaGreatDoor
/- Two strings in one. -/
namespace Go.Proofs.YtlejecaanllghaaGreatDoor
open Go.RowKit

theorem wpList_cat {P : Program} {ops : Array Oper} {rest : List Oper} {o : Oper} {a : Act} {Q : Exit → Act → World → Prop} {w : World} (hgd : o.guard = none) (x y : Operand) (t t2 : TypeId)
    (ho : o.op = .binOp .add t x y t2) {l m : List UInt8} (hx : a.eval x = .string ⟨l.toArray⟩) (hy : a.eval y = .string ⟨m.toArray⟩) (hlen : l.length + m.length ≤ 9000000000000000000)
    (h : wpList P ops Q rest (a.put o.dst (.string ⟨(l ++ m).toArray⟩)) w) : wpList P ops Q (o :: rest) a w := by
  refine wpList_plain hgd fun K hK => ?_
  unfold Oper.wp execOp
  simp only [ho, hx, hy]
  have hs : ¬ ((((⟨l.toArray⟩ : ByteArray).size + (⟨m.toArray⟩ : ByteArray).size : Nat) : Int) > IntKind.i64.max) := by
    have e1 : (⟨l.toArray⟩ : ByteArray).size = l.length := by simp [ByteArray.size]
    have e2 : (⟨m.toArray⟩ : ByteArray).size = m.length := by simp [ByteArray.size]
    rw [e1, e2]
    show ¬ ((l.length + m.length : Nat) : Int) > 9223372036854775807
    omega
  have hg : (eqGuard BinOp.add t x y (.string ⟨l.toArray⟩) (.string ⟨m.toArray⟩)).run P w = .ok () w := by simp [eqGuard]
  have hb : (binOp .add t (.string ⟨l.toArray⟩) (.string ⟨m.toArray⟩)).run P w = .ok (.string ⟨(l ++ m).toArray⟩) w := by
    rw [binOp_string_add]
    unfold Op.stringOp
    simp only [if_neg hs, Sem.run_pure, str_add]
  simp only [Sem.run_bind, hg, hb, Result.andThen_ok, Sem.run_pure]
  exact hK _ _ h

end Go.Proofs.YtlejecaanllghaaGreatDoor
