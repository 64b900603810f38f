/- Contracts and plain laws, in one text. Plain: the two parsers, level by level. No program in sight. | Plain: definitions and programs: the two parsers side by side; a parsed tree is right. No program in sight. | Plain: a parsed tree is right. No program in sight. | Plain: whole programs: what the program's parser says is what the document's says. No program in sight. | Plain: the tokens of a text: the last one alone is the end; they stand one behind another. No program in sight. | ParseLimits: what the document's parser says of the text that it builds. No program in sight. | ParseLimits: the fault that the document's parser finds i -/
import Derived.Test.YtlejecaanllghaaGreatDoorPlmM4
import Derived.Test.YtlejecaanllghaaGreatDoorPlmM1
import Derived.WalkKit
import Derived.WalkSpells
import Derived.Deep.LoopGhost
import Derived.Lib.Hide
/- Plain: the two parsers, level by level. No program in sight. -/
namespace Go.Proofs.YtlejecaanllghaaGreatDoor.Pc
open Tr Ps

theorem dig1 : Lib.decDigits (1 : Int).toNat = [49] := by decide +kernel
theorem dig2 : Lib.decDigits (2 : Int).toNat = [50] := by decide +kernel
theorem dig3 : Lib.decDigits (3 : Int).toNat = [51] := by decide +kernel
theorem dig4 : Lib.decDigits (4 : Int).toNat = [52] := by decide +kernel
theorem dig5 : Lib.decDigits (5 : Int).toNat = [53] := by decide +kernel
theorem dig6 : Lib.decDigits (6 : Int).toNat = [54] := by decide +kernel
theorem dig7 : Lib.decDigits (7 : Int).toNat = [55] := by decide +kernel
theorem dig8 : Lib.decDigits (8 : Int).toNat = [56] := by decide +kernel
theorem dig9 : Lib.decDigits (9 : Int).toNat = [57] := by decide +kernel
theorem dig10 : Lib.decDigits (10 : Int).toNat = [49, 48] := by decide +kernel
theorem dig11 : Lib.decDigits (11 : Int).toNat = [49, 49] := by decide +kernel
theorem dig12 : Lib.decDigits (12 : Int).toNat = [49, 50] := by decide +kernel
theorem dig13 : Lib.decDigits (13 : Int).toNat = [49, 51] := by decide +kernel
theorem dig14 : Lib.decDigits (14 : Int).toNat = [49, 52] := by decide +kernel
theorem dig15 : Lib.decDigits (15 : Int).toNat = [49, 53] := by decide +kernel
theorem dig16 : Lib.decDigits (16 : Int).toNat = [49, 54] := by decide +kernel
theorem dig17 : Lib.decDigits (17 : Int).toNat = [49, 55] := by decide +kernel
theorem dig18 : Lib.decDigits (18 : Int).toNat = [49, 56] := by decide +kernel

section
variable {tk : List Tk}

theorem out_if {p : Prop} [Decidable p] {q : Bool} {s0 : St} {f1 f2 : List Int × St} {g1 g2 : List UInt8 × Pr.Rs} (hpq : p ↔ q = true) (h1 : p → Out tk s0 f1.2 f1.1 g1.2 g1.1) (h2 : ¬ p → Out tk s0 f2.2 f2.1 g2.2 g2.1) :
    Out tk s0 (if p then f1 else f2).2 (if p then f1 else f2).1 (if q = true then g1 else g2).2 (if q = true then g1 else g2).1 := by
  by_cases h : p
  · rw [if_pos h, if_pos (hpq.1 h)]
    exact h1 h
  · rw [if_neg h, if_neg (fun e => h (hpq.2 e))]
    exact h2 h

/-- Things with commas between them: behind the first of so many. -/
theorem sim_listGo (ht : Toks tk) {one : F} {gone : Pr.G} (ho : Sim tk one gone) : ∀ (n k c : Nat) {s0 s : St} {l : List Int} {r : Pr.Rs} {x : List UInt8}, c + k = 8 → tk.length ≤ n + s.used → Out tk s0 s l r x →
    Out tk s0 (if s.e = 0 ∧ nextB tk [[44]] s.used = true then listGo tk one k (l ++ [(leaf tk s).1]) (leaf tk s).2 else (l, s)).2 (if s.e = 0 ∧ nextB tk [[44]] s.used = true then listGo tk one k (l ++ [(leaf tk s).1]) (leaf tk s).2 else (l, s)).1 (Pr.argsGo tk gone n c x r).2 (Pr.argsGo tk gone n c x r).1
  | 0, k, c, s0, s, l, r, x, _, hn, o => by
    have := o.2.1.1
    omega
  | n + 1, k, c, s0, s, l, r, x, hc, hn, o => by
    have hb := both_is o [44]
    unfold Pr.argsGo
    refine out_if hb (fun h => ?_) (fun _ => o)
    obtain ⟨o1, e1⟩ := o.leaf ht h.1 (next_kind h.2)
    cases k with
    | zero =>
      obtain rfl : c = 8 := by omega
      unfold listGo
      simp only [if_true]
      have o2 := o1.fail (e := 15) (by decide) (l ++ [(leaf tk s).1]) (x ++ (Pr.leaf tk r).1)
      have hd : (Pr.fail tk 15 (Pr.leaf tk r).2).e ≠ 0 := by
        rw [o2.2.2.1.1]
        unfold fail
        rw [if_pos e1]
        show (15 : Int) ≠ 0
        decide
      rw [ho.dg _ hd]
      have hg : ∀ (m c : Nat) (y : List UInt8), (Pr.argsGo tk gone m c y (Pr.fail tk 15 (Pr.leaf tk r).2)).2 = Pr.fail tk 15 (Pr.leaf tk r).2 := by
        intro m c y
        cases m with
        | zero => rfl
        | succ m => unfold Pr.argsGo; rw [is_dead hd, if_neg (by simp)]
      rw [hg]
      have hd2 : (fail tk 15 (leaf tk s).2).e ≠ 0 := by rw [← o2.2.2.1.1]; exact hd
      exact o2.dead hd2 _ _
    | succ k =>
      have hc8 : c ≠ 8 := by omega
      unfold listGo
      simp only [if_neg hc8, if_pos e1]
      have o2 := o1.then ho
      have hu : (leaf tk s).2.used = s.used + 1 := by
        obtain ⟨t, h1, _⟩ := o.2.1.get
        exact (got_leaf o.2.1.2.2 h1).2.1
      have hm : (leaf tk s).2.used ≤ (one (leaf tk s).2).2.used ∨ (one (leaf tk s).2).2.e ≠ 0 := by
        by_cases he : (one (leaf tk s).2).2.e = 0
        · obtain ⟨_, _, _, h4⟩ := ho.go (leaf tk s).2 (Pr.leaf tk r).2 e1 o1.2.1 o1.2.2.1
          exact Or.inl (h4 he).used
        · exact Or.inr he
      rcases hm with hm | hm
      · have := sim_listGo ht ho n k (c + 1) (by omega) (by rw [hu] at hm; show tk.length ≤ n + (one (leaf tk s).2).2.used; omega) o2
        simp only [lift, List.append_assoc, List.cons_append, List.nil_append] at this ⊢
        exact this
      · simp only [lift] at o2
        rw [if_neg (by simp [hm])]
        have hd : (gone (Pr.leaf tk r).2).2.e ≠ 0 := by rw [o2.2.2.1.1]; exact hm
        have hg : ∀ (m c : Nat) (y : List UInt8), (Pr.argsGo tk gone m c y (gone (Pr.leaf tk r).2).2).2 = (gone (Pr.leaf tk r).2).2 := by
          intro m c y
          cases m with
          | zero => rfl
          | succ m => unfold Pr.argsGo; rw [is_dead hd, if_neg (by simp)]
        rw [hg]
        exact o2.dead hm _ _
theorem rargs_dead {gone : Pr.G} {r : Pr.Rs} (he : r.e ≠ 0) : ∀ (n c : Nat) (x : List UInt8), (Pr.argsGo tk gone n c x r).2 = r
  | 0, _, _ => rfl
  | n + 1, c, x => by unfold Pr.argsGo; rw [is_dead he, if_neg (by simp)]
/-- The list behind a parenthesis, where none is shut at once. -/
theorem sim_list (ht : Toks tk) {one : F} {gone : Pr.G} (ho : Sim tk one gone) {s0 s : St} {l : List Int} {r : Pr.Rs} {x : List UInt8} (o : Out tk s0 s l r x) :
    Out tk s0 (list tk one s).2 (l ++ (list tk one s).1) (if r.e = 0 ∧ Pr.is tk [41] r = false then (x ++ (Pr.args tk gone r).1, (Pr.args tk gone r).2) else (x, r)).2 (if r.e = 0 ∧ Pr.is tk [41] r = false then (x ++ (Pr.args tk gone r).1, (Pr.args tk gone r).2) else (x, r)).1 := by
  by_cases he : s.e = 0
  · have hb := is_eq o.2.1 o.2.2.1 he [41]
    unfold list
    by_cases hn : nextB tk [[41]] s.used = true
    · rw [if_pos hn, if_neg (by rw [hb, hn]; simp), List.append_nil]
      exact o
    · rw [if_neg hn, if_pos ⟨o.2.2.1.1.trans he, by rw [hb]; simpa using hn⟩]
      have hf : Out tk s (one s).2 [(one s).1] (gone r).2 (gone r).1 := ho.go s r he o.2.1 o.2.2.1
      unfold listGo Pr.args
      rw [if_pos he]
      have hm : s.used ≤ (one s).2.used ∨ (one s).2.e ≠ 0 := by
        by_cases h2 : (one s).2.e = 0
        · exact Or.inl (hf.2.2.2 h2).used
        · exact Or.inr h2
      have h4 : Out tk s (if (one s).2.e = 0 ∧ nextB tk [[44]] (one s).2.used = true then listGo tk one 7 ([(one s).1] ++ [(leaf tk (one s).2).1]) (leaf tk (one s).2).2 else ([(one s).1], (one s).2)).2 (if (one s).2.e = 0 ∧ nextB tk [[44]] (one s).2.used = true then listGo tk one 7 ([(one s).1] ++ [(leaf tk (one s).2).1]) (leaf tk (one s).2).2 else ([(one s).1], (one s).2)).1 (Pr.argsGo tk gone tk.length 1 (gone r).1 (gone r).2).2 (Pr.argsGo tk gone tk.length 1 (gone r).1 (gone r).2).1 := by
        by_cases h2 : (one s).2.e = 0
        · exact sim_listGo ht ho tk.length 7 1 (by omega) (by omega) hf
        · rw [if_neg (by simp [h2]), rargs_dead (by rw [hf.2.2.1.1]; exact h2)]
          exact hf.dead h2 _ _
      simp only [List.nil_append, List.singleton_append] at h4 ⊢
      exact ⟨o.1, h4.2.1, h4.2.2.1, fun e2 => (o.2.2.2 he).trans o.2.1.2.2 (h4.2.2.2 e2)⟩
  · have h1 : list tk one s = ([], s) := by
      unfold list
      split
      · rfl
      · unfold listGo; rw [if_neg he]
    rw [h1, if_neg (by rw [o.2.2.1.1]; simp [he])]
    exact o.dead he _ _
theorem list_dead {one : F} {s : St} (he : s.e ≠ 0) : list tk one s = ([], s) := by
  unfold list
  split
  · rfl
  · unfold listGo; rw [if_neg he]

theorem lift_dead {f : F} {s : St} (h : (lift f s).2 = s) : (f s).2 = s := h

/-- Once there is a fault nothing is turned. -/
theorem must_dead {ts : List (List UInt8)} {s : St} (he : s.e ≠ 0) : must tk ts s = (0, s) := by
  unfold must
  rw [if_neg (by simp [he]), fail_dead he]
theorem kind_dead {k : Int} {s : St} (he : s.e ≠ 0) : kind tk k s = (0, s) := by
  unfold kind
  rw [if_neg (by simp [he]), fail_dead he]
theorem rmust_dead {y : List UInt8} {r : Pr.Rs} (he : r.e ≠ 0) : Pr.must tk y r = ([], r) := by
  unfold Pr.must
  rw [is_dead he, if_neg (by simp), rfail_dead he]
theorem rkind_dead {k : Int} {r : Pr.Rs} (he : r.e ≠ 0) : Pr.kind tk k r = ([], r) := by
  unfold Pr.kind
  rw [if_neg (by simp [he]), rfail_dead he]

/-- A level's four. -/
structure SimV (tk : List Tk) (d : Nat) (lo : Ps.Lv) (glo : Pr.Lv) : Prop where
  ex : Sim tk lo.ex glo.ex
  rest : d ≠ 0 → Sim tk lo.fo glo.fo ∧ Sim tk lo.ne glo.ne ∧ Sim tk lo.fa glo.fa

theorem sim_unary (ht : Toks tk) {d : Nat} {f : F} {g : Pr.G} (hf : d ≠ 0 → Sim tk f g) {s : St} {r : Pr.Rs} (he : s.e = 0) (hi : Inv tk s) (hr : Rel s r) (hk : (peek tk s.used).kind ≠ 5) :
    Out tk s (unary tk d f s).2 [(unary tk d f s).1] (Pr.unary tk d g r).2 (Pr.unary tk d g r).1 := by
  obtain ⟨o, e1⟩ := (Out.nil hi hr).leaf ht he hk
  have re1 : (Pr.leaf tk r).2.e = 0 := o.2.2.1.1.trans e1
  unfold unary Pr.unary deep Pr.nest
  by_cases hd : d = 0
  · simp only [if_pos hd]
    have o2 := o.fail (e := 23) (by decide) [0] []
    have h1 : (fail tk 23 (leaf tk s).2).e ≠ 0 := by unfold fail; rw [if_pos e1]; show (23 : Int) ≠ 0; decide
    rw [if_neg h1, if_neg (by rw [o2.2.2.1.1]; exact h1)]
    exact o2
  · simp only [if_neg hd, if_pos e1, if_pos re1]
    exact ((o.then (hf hd)).node (k := 11) (by decide) (fun _ => by simp [lift])).cast (by rw [dig11]; simp)

theorem sim_list' (ht : Toks tk) {one : F} {gone : Pr.G} (ho : Sim tk one gone) {s0 s : St} {l : List Int} {r : Pr.Rs} {x : List UInt8} (o : Out tk s0 s l r x) :
    Out tk s0 (list tk one s).2 (l ++ (list tk one s).1) (if Pr.is tk [41] r then (x, r) else (x ++ (Pr.args tk gone r).1, (Pr.args tk gone r).2)).2 (if Pr.is tk [41] r then (x, r) else (x ++ (Pr.args tk gone r).1, (Pr.args tk gone r).2)).1 := by
  have o1 := sim_list ht ho o
  by_cases he : r.e = 0
  · cases h : Pr.is tk [41] r
    · rw [h, if_pos ⟨he, rfl⟩] at o1
      rw [if_neg (by simp)]
      exact o1
    · rw [h, if_neg (by simp)] at o1
      rw [if_pos rfl]
      exact o1
  · have hs : s.e ≠ 0 := by rw [← o.2.2.1.1]; exact he
    rw [list_dead hs, is_dead he, if_neg (by simp)]
    have hd : (Pr.args tk gone r).2 = r := by
      unfold Pr.args
      rw [ho.dg _ he, rargs_dead he]
    rw [hd]
    exact o.dead hs _ _
theorem sim_call (ht : Toks tk) {ex : F} {g : Pr.G} (hx : Sim tk ex g) {s0 s : St} {l : List Int} {r : Pr.Rs} {x : List UInt8} (hl : 1 ≤ l.length) (o : Out tk s0 s l r x) :
    Out tk s0 (call tk ex l s).2 [(call tk ex l s).1] (Pr.call tk g x r).2 (Pr.call tk g x r).1 :=
  (((sim_list' ht hx (o.then (sim_must ht [40]))).then (sim_must ht [41])).node (k := 13) (by decide) (fun _ => by simp [lift]; omega)).cast (by rw [dig13]; simp [Pr.call])
theorem sim_callee (ht : Toks tk) {s0 s : St} {a : Int} {r : Pr.Rs} {x : List UInt8} (he : s.e = 0) (o : Out tk s0 s [a] r x) :
    Out tk s0 (callee tk s a).2 (callee tk s a).1 (Pr.callee tk x r).2 (Pr.callee tk x r).1 ∧ 1 ≤ (callee tk s a).1.length := by
  have hb := is_eq o.2.1 o.2.2.1 he [46]
  unfold callee Pr.callee
  by_cases h : nextB tk [[46]] s.used = true
  · rw [if_pos h, if_pos (by rw [hb]; exact h)]
    exact ⟨((o.leaf ht he (next_kind h)).1.then (sim_kind ht (k := 1) (by decide))).cast (by simp), by simp⟩
  · rw [if_neg h, if_neg (by rw [hb]; exact h)]
    exact ⟨o, by simp⟩
theorem sim_name (ht : Toks tk) {ex : F} {g : Pr.G} (hx : Sim tk ex g) {s : St} {r : Pr.Rs} (he : s.e = 0) (hi : Inv tk s) (hr : Rel s r) (hk : (peek tk s.used).kind ≠ 5) :
    Out tk s (name tk ex s).2 [(name tk ex s).1] (Pr.name tk g r).2 (Pr.name tk g r).1 := by
  obtain ⟨o, e1⟩ := (Out.nil hi hr).leaf ht he hk
  have hc : (Pr.leaf tk r).2.inn = (leaf tk s).2.clause := (o.2.2.1.2.2 e1).2
  have h1 := is_eq o.2.1 o.2.2.1 e1 [46]
  have h2 := is_eq o.2.1 o.2.2.1 e1 [40]
  have h3 : nextB tk [[46], [40]] (leaf tk s).2.used = (nextB tk [[46]] (leaf tk s).2.used || nextB tk [[40]] (leaf tk s).2.used) := by
    have q := any_eq o.2.1 o.2.2.1 e1 [[46], [40]]
    rw [← q, ← h1, ← h2]
    simp [Pr.any]
  unfold name Pr.name
  simp only
  rw [hc, h1, h2, h3, Bool.not_or]
  by_cases h : ((leaf tk s).2.clause || (!nextB tk [[46]] (leaf tk s).2.used && !nextB tk [[40]] (leaf tk s).2.used)) = true
  · rw [if_pos h, if_pos h]
    exact (Out.one ht hi hr he hk (k := 14) (by decide)).cast (by rw [dig14]; simp)
  · rw [if_neg h, if_neg h]
    rw [List.nil_append, List.nil_append] at o
    have o2 := sim_callee ht e1 o
    exact sim_call ht hx o2.2 o2.1
theorem sim_atom (ht : Toks tk) {ex : F} {g : Pr.G} (hx : Sim tk ex g) : Sim tk (atom tk ex) (Pr.atom tk g) := by
  refine ⟨fun s r he hi hr => ?_, fun s he => ?_, fun r he => ?_⟩
  · have o := Out.nil hi hr
    have hp := peek_tok hi hr he
    have b1 := is_eq hi hr he tTrue
    have b2 := is_eq hi hr he tFalse
    have b3 := is_eq hi hr he tRes
    have b4 := is_eq hi hr he [40]
    have b5 : nextB tk [tTrue, tFalse] s.used = (nextB tk [tTrue] s.used || nextB tk [tFalse] s.used) := by
      have q := any_eq hi hr he [tTrue, tFalse]
      rw [← q, ← b1, ← b2]
      simp [Pr.any]
    have hc := (hr.2.2 he).2
    unfold lift atom Pr.atom
    simp only [if_pos he, if_pos (hr.1.trans he)]
    rw [hp, b1, b2, b3, b4, hc, b5]
    by_cases h1 : (peek tk s.used).kind = 3
    · rw [if_pos h1, if_pos h1]
      exact (Out.one ht hi hr he (by omega) (k := 15) (by decide)).cast (by rw [dig15]; simp)
    · rw [if_neg h1, if_neg h1]
      by_cases h2 : (nextB tk [tTrue] s.used || nextB tk [tFalse] s.used) = true
      · rw [if_pos h2, if_pos h2]
        exact (Out.one ht hi hr he (next_kind (b5.trans h2)) (k := 16) (by decide)).cast (by rw [dig16]; simp)
      · rw [if_neg h2, if_neg h2]
        by_cases h3 : (s.clause && nextB tk [tRes] s.used) = true
        · rw [if_pos h3, if_pos h3]
          exact (Out.one ht hi hr he (next_kind (by simp only [Bool.and_eq_true] at h3; exact h3.2)) (k := 17) (by decide)).cast (by rw [dig17]; simp)
        · rw [if_neg h3, if_neg h3]
          by_cases h4 : nextB tk [[40]] s.used = true
          · rw [if_pos h4, if_pos h4]
            exact ((((o.leaf ht he (next_kind h4)).1.then hx).then (sim_must ht [41])).node (k := 12) (by decide) (fun _ => by simp [lift])).cast (by rw [dig12]; simp)
          · rw [if_neg h4, if_neg h4]
            by_cases h5 : (peek tk s.used).kind = 1
            · rw [if_pos h5, if_pos h5]
              exact sim_name ht hx he hi hr (by omega)
            · rw [if_neg h5, if_neg h5]
              exact o.fail (by decide) _ _
  · unfold lift atom
    rw [if_neg he]
  · unfold Pr.atom
    rw [if_neg he]
theorem sim_factor (ht : Toks tk) {d : Nat} {lo : Ps.Lv} {glo : Pr.Lv} (h : SimV tk d lo glo) : Sim tk (factor tk d lo) (Pr.factor tk d glo) := by
  have ha := sim_atom ht h.ex
  refine ⟨fun s r he hi hr => ?_, fun s he => ?_, fun r he => ?_⟩
  · have hb := is_eq hi hr he [45]
    unfold lift factor Pr.factor
    by_cases hn : nextB tk [[45]] s.used = true
    · rw [if_pos ⟨he, hn⟩, if_pos (by rw [hb]; exact hn)]
      exact sim_unary ht (fun hd => (h.rest hd).2.2) he hi hr (next_kind hn)
    · rw [if_neg (by simp [hn]), if_neg (by rw [hb]; exact hn)]
      exact ha.go s r he hi hr
  · unfold lift factor
    rw [if_neg (by simp [he])]
    exact ha.df s he
  · unfold Pr.factor
    rw [is_dead he, if_neg (by simp)]
    exact ha.dg r he
theorem sim_comparison (ht : Toks tk) {d : Nat} {lo : Ps.Lv} {glo : Pr.Lv} (h : SimV tk d lo glo) : Sim tk (comparison tk d lo) (fun r => if Pr.any tk sCmp (Pr.sum tk d glo r).2 then (Pr.bin (Pr.sum tk d glo r).1 (Pr.leaf tk (Pr.sum tk d glo r).2).1 (Pr.sum tk d glo (Pr.leaf tk (Pr.sum tk d glo r).2).2).1, (Pr.sum tk d glo (Pr.leaf tk (Pr.sum tk d glo r).2).2).2) else Pr.sum tk d glo r) := by
  have hs : Sim tk (sum tk d lo) (Pr.sum tk d glo) := sim_row ht (sim_row ht (sim_factor ht h) sMul) sSum
  obtain ⟨n, hn⟩ : ∃ n, tk.length = n + 1 := ⟨tk.length - 1, by have := ht.pos; omega⟩
  refine ⟨fun s r he hi hr => ?_, fun s he => ?_, fun r he => ?_⟩
  · have o : Out tk s (sum tk d lo s).2 [(sum tk d lo s).1] (Pr.sum tk d glo r).2 (Pr.sum tk d glo r).1 := hs.go s r he hi hr
    have hb := both_any o sCmp
    unfold lift comparison row
    rw [hn]
    unfold rowGo
    by_cases hx : (sum tk d lo s).2.e = 0 ∧ nextB tk sCmp (sum tk d lo s).2.used = true
    · simp only [if_pos hx, if_pos (hb.1 hx), if_true]
      exact (((o.leaf ht hx.1 (next_kind hx.2)).1.then hs).node (k := 10) (by decide) (fun _ => by simp [lift])).cast (by rw [dig10]; simp [Pr.bin])
    · simp only [if_neg hx, if_neg (fun e => hx (hb.2 e))]
      exact o
  · unfold lift comparison row
    have h1 : (sum tk d lo s).2 = s := hs.df s he
    rw [h1]
    exact rowGo_dead he _ _
  · have h1 : (Pr.sum tk d glo r).2 = r := hs.dg r he
    rw [h1, any_dead he, if_neg (by simp)]
    exact h1
theorem sim_negation (ht : Toks tk) {d : Nat} {lo : Ps.Lv} {glo : Pr.Lv} (h : SimV tk d lo glo) : Sim tk (negation tk d lo) (Pr.not tk d glo) := by
  have ha := sim_comparison ht h
  refine ⟨fun s r he hi hr => ?_, fun s he => ?_, fun r he => ?_⟩
  · have hb := is_eq hi hr he tNot
    unfold lift negation Pr.not
    by_cases hn : nextB tk [tNot] s.used = true
    · rw [if_pos ⟨he, hn⟩, if_pos (by rw [hb]; exact hn)]
      exact sim_unary ht (fun hd => (h.rest hd).2.1) he hi hr (next_kind hn)
    · rw [if_neg (by simp [hn]), if_neg (by rw [hb]; exact hn)]
      exact ha.go s r he hi hr
  · unfold lift negation
    rw [if_neg (by simp [he])]
    exact ha.df s he
  · unfold Pr.not
    rw [is_dead he, if_neg (by simp)]
    exact ha.dg r he
theorem sim_formula (ht : Toks tk) {d : Nat} {lo : Ps.Lv} {glo : Pr.Lv} (h : SimV tk d lo glo) : Sim tk (formula tk d lo) (Pr.formula tk d glo) := by
  have hs : Sim tk (disjunction tk d lo) (Pr.or tk d glo) := sim_row ht (sim_row ht (sim_negation ht h) sAnd) sOr
  refine ⟨fun s r he hi hr => ?_, fun s he => ?_, fun r he => ?_⟩
  · have o : Out tk s (disjunction tk d lo s).2 [(disjunction tk d lo s).1] (Pr.or tk d glo r).2 (Pr.or tk d glo r).1 := hs.go s r he hi hr
    have hb := both_is o [61, 62]
    unfold lift formula Pr.formula
    simp only
    by_cases hx : (disjunction tk d lo s).2.e = 0 ∧ nextB tk [[61, 62]] (disjunction tk d lo s).2.used = true
    · rw [if_pos hx, if_pos (hb.1 hx)]
      obtain ⟨o1, e1⟩ := o.leaf ht hx.1 (next_kind hx.2)
      have re1 := o1.2.2.1.1.trans e1
      unfold deep Pr.nest
      by_cases hd : d = 0
      · simp only [if_pos hd]
        have o2 := o1.fail (e := 23) (by decide) [0] []
        have h1 : (fail tk 23 (leaf tk (disjunction tk d lo s).2).2).e ≠ 0 := by unfold fail; rw [if_pos e1]; show (23 : Int) ≠ 0; decide
        rw [if_neg h1, if_neg (by rw [o2.2.2.1.1]; exact h1)]
        exact o2
      · simp only [if_neg hd, if_pos e1, if_pos re1]
        exact ((o1.then (h.rest hd).1).node (k := 10) (by decide) (fun _ => by simp [lift])).cast (by rw [dig10]; simp [Pr.bin])
    · rw [if_neg hx, if_neg (fun e => hx (hb.2 e))]
      exact o
  · unfold lift formula
    have h1 : (disjunction tk d lo s).2 = s := hs.df s he
    simp only
    rw [h1, if_neg (by simp [he])]
    exact h1
  · unfold Pr.formula
    have h1 : (Pr.or tk d glo r).2 = r := hs.dg r he
    simp only
    rw [h1, is_dead he, if_neg (by simp)]
    exact h1
theorem sim_express (ht : Toks tk) {d : Nat} {lo : Ps.Lv} {glo : Pr.Lv} (h : SimV tk d lo glo) : Sim tk (express tk d lo) (Pr.express tk d glo) := by
  have hf := sim_formula ht h
  have hx := h.ex
  refine ⟨fun s r he hi hr => ?_, fun s he => ?_, fun r he => ?_⟩
  · have o := Out.nil hi hr
    have b1 := is_eq hi hr he tLet
    have b2 := is_eq hi hr he tIf
    have b3 := is_eq hi hr he tAssert
    have hc := (hr.2.2 he).2
    unfold lift express Pr.express
    simp only [if_pos he, if_pos (hr.1.trans he)]
    rw [b1, b2, b3, hc]
    cases hcl : s.clause with
    | true => simpa [lift] using hf.go s r he hi hr
    | false =>
      simp only [Bool.not_false, Bool.true_and, Bool.false_eq_true, if_false]
      by_cases h1 : nextB tk [tLet] s.used = true
      · rw [if_pos h1, if_pos h1]
        exact (((((((o.leaf ht he (next_kind h1)).1.then (sim_kind ht (k := 1) (by decide))).then (sim_must ht [61])).then hx).then (sim_must ht tIn)).then hx).node (k := 7) (by decide) (fun _ => by simp [lift])).cast (by rw [dig7]; simp [Pr.exLet])
      · rw [if_neg h1, if_neg h1]
        by_cases h2 : nextB tk [tIf] s.used = true
        · rw [if_pos h2, if_pos h2]
          exact (((((((o.leaf ht he (next_kind h2)).1.then hx).then (sim_must ht tThen)).then hx).then (sim_must ht tElse)).then hx).node (k := 8) (by decide) (fun _ => by simp [lift])).cast (by rw [dig8]; simp [Pr.exIf])
        · rw [if_neg h2, if_neg h2]
          by_cases h3 : nextB tk [tAssert] s.used = true
          · rw [if_pos h3, if_pos h3]
            exact (((((o.leaf ht he (next_kind h3)).1.then hx).then (sim_must ht tIn)).then hx).node (k := 9) (by decide) (fun _ => by simp [lift])).cast (by rw [dig9]; simp [Pr.exAssert])
          · rw [if_neg h3, if_neg h3]
            exact hf.go s r he hi hr
  · unfold lift express
    rw [if_neg he]
  · unfold Pr.express
    rw [if_neg he]
/-- All levels. -/
theorem sim_lv (ht : Toks tk) : ∀ d : Nat, SimV tk d (Ps.lv tk d) (Pr.lv tk d)
  | 0 => by
    refine ⟨⟨fun s r he hi hr => (Out.nil hi hr).fail (by decide) _ _, fun s he => ?_, fun r he => ?_⟩, fun h => absurd rfl h⟩
    · unfold lift Ps.lv
      exact fail_dead he
    · unfold Pr.lv
      exact rfail_dead he
  | d + 1 => by
    have h := sim_lv ht d
    exact ⟨sim_express ht h, fun _ => ⟨sim_formula ht h, sim_negation ht h, sim_factor ht h⟩⟩
end
end Go.Proofs.YtlejecaanllghaaGreatDoor.Pc
/- Plain: definitions and programs: the two parsers side by side; a parsed tree is right. No program in sight. -/
namespace Go.Proofs.YtlejecaanllghaaGreatDoor.Pc
open Tr Ps

section
variable {tk : List Tk}

theorem sim_base (ht : Toks tk) {s0 s : St} {l : List Int} {r : Pr.Rs} {x : List UInt8} (o : Out tk s0 s l r x) :
    Out tk s0 (node 5 [(must tk [tInt, tBool] s).1] (must tk [tInt, tBool] s).2).2 (l ++ [(node 5 [(must tk [tInt, tBool] s).1] (must tk [tInt, tBool] s).2).1]) (Pr.base tk x r).2 (Pr.base tk x r).1 := by
  by_cases he : s.e = 0
  · have b1 := is_eq o.2.1 o.2.2.1 he tInt
    have b2 := is_eq o.2.1 o.2.2.1 he tBool
    have b3 : nextB tk [tInt, tBool] s.used = (nextB tk [tInt] s.used || nextB tk [tBool] s.used) := by
      have q := any_eq o.2.1 o.2.2.1 he [tInt, tBool]
      rw [← q, ← b1, ← b2]
      simp [Pr.any]
    unfold must Pr.base
    rw [b1, b2, ← b3]
    by_cases h : nextB tk [tInt, tBool] s.used = true
    · rw [if_pos ⟨he, h⟩, if_pos h]
      have o1 := Out.one ht o.2.1 o.2.2.1 he (next_kind h) (k := 5) (by decide)
      refine ⟨o.1, o1.2.1, o1.2.2.1, fun e2 => ?_⟩
      have h2 := (o.2.2.2 he).trans o.2.1.2.2 (o1.2.2.2 e2)
      rw [dig5] at h2
      simpa using h2
    · rw [if_neg (by simp [h]), if_neg h]
      have o2 := o.fail (e := 22) (by decide) (l ++ [(node 5 [0] (fail tk 22 s)).1]) x
      have h1 : (fail tk 22 s).e ≠ 0 := by unfold fail; rw [if_pos he]; show (22 : Int) ≠ 0; decide
      simp only
      rw [node_dead h1] at o2 ⊢
      exact o2
  · have hr : r.e ≠ 0 := by rw [o.2.2.1.1]; exact he
    rw [must_dead he, node_dead he]
    unfold Pr.base
    rw [is_dead hr, is_dead hr, if_neg (by simp), rfail_dead hr]
    exact o.dead he _ _

theorem Out.clause {s0 s : St} {l : List Int} {r : Pr.Rs} {x : List UInt8} (o : Out tk s0 s l r x) (b : Bool) : Inv tk { s with clause := b } ∧ Rel { s with clause := b } { r with inn := b } := by
  refine ⟨o.2.1, o.2.2.1.1, o.2.2.1.2.1, fun e => ⟨(o.2.2.1.2.2 e).1, rfl⟩⟩
theorem Got.unclause {s0 s : St} {l : List Int} {x : List UInt8} {b c : Bool} (h : Got tk { s0 with clause := b } s l x) : Got tk s0 { s with clause := c } l x :=
  ⟨h.nodes, h.used, h.lvs, h.text, h.room⟩
/-- A formula in braces. -/
theorem sim_clause (ht : Toks tk) {ex : F} {g : Pr.G} (hx : Sim tk ex g) {s0 s : St} {l : List Int} {r : Pr.Rs} {x : List UInt8} (o : Out tk s0 s l r x) (he : s.e = 0) (hk : nextB tk [[123]] s.used = true) :
    Out tk s0 (node 6 [(leaf tk s).1, (ex { (leaf tk s).2 with clause := true }).1, (must tk [[125]] { (ex { (leaf tk s).2 with clause := true }).2 with clause := false }).1] (must tk [[125]] { (ex { (leaf tk s).2 with clause := true }).2 with clause := false }).2).2
      (l ++ [(node 6 [(leaf tk s).1, (ex { (leaf tk s).2 with clause := true }).1, (must tk [[125]] { (ex { (leaf tk s).2 with clause := true }).2 with clause := false }).1] (must tk [[125]] { (ex { (leaf tk s).2 with clause := true }).2 with clause := false }).2).1])
      (Pr.must tk [125] { (g { (Pr.leaf tk r).2 with inn := true }).2 with inn := false }).2
      (x ++ ([32, 40, 54] ++ (Pr.leaf tk r).1 ++ (g { (Pr.leaf tk r).2 with inn := true }).1 ++ (Pr.must tk [125] { (g { (Pr.leaf tk r).2 with inn := true }).2 with inn := false }).1 ++ [41])) := by
  obtain ⟨o1, e1⟩ := (Out.nil o.2.1 o.2.2.1).leaf ht he (next_kind hk)
  obtain ⟨i2, r2⟩ := o1.clause true
  have o2 : Out tk _ (ex _).2 [(ex _).1] (g _).2 (g _).1 := hx.go { (leaf tk s).2 with clause := true } { (Pr.leaf tk r).2 with inn := true } e1 i2 r2
  obtain ⟨i3, r3⟩ := o2.clause false
  have o3 : Out tk s { (ex { (leaf tk s).2 with clause := true }).2 with clause := false } ([(leaf tk s).1] ++ [(ex { (leaf tk s).2 with clause := true }).1]) { (g { (Pr.leaf tk r).2 with inn := true }).2 with inn := false } ((Pr.leaf tk r).1 ++ (g { (Pr.leaf tk r).2 with inn := true }).1) := by
    refine ⟨o.2.1, i3, r3, fun e2 => ?_⟩
    have h1 := o1.2.2.2 e1
    have h2 : Got tk (leaf tk s).2 { (ex { (leaf tk s).2 with clause := true }).2 with clause := false } _ _ := (o2.2.2.2 e2).unclause
    exact h1.trans o1.2.1.2.2 h2
  have o4 := (o3.then (sim_must ht [125])).node (k := 6) (by decide) (fun _ => by simp [lift])
  refine ⟨o.1, o4.2.1, o4.2.2.1, fun e2 => ?_⟩
  have h5 := (o.2.2.2 he).trans o.2.1.2.2 (o4.2.2.2 e2)
  rw [dig6] at h5
  simpa [lift] using h5
theorem typed_dead {ex : F} {l : List Int} {s : St} (he : s.e ≠ 0) : (typed tk ex l s).2 = s := by
  simp only [typed, must_dead he, node_dead he]
  rw [if_neg (by simp [he])]
theorem sim_typed (ht : Toks tk) {ex : F} {g : Pr.G} (hx : Sim tk ex g) {s0 s : St} {l : List Int} {r : Pr.Rs} {x : List UInt8} (o : Out tk s0 s l r x) :
    Out tk s0 (typed tk ex l s).2 (typed tk ex l s).1 (Pr.typed tk g r).2 (x ++ (Pr.typed tk g r).1) := by
  have o1 := sim_base ht ((Out.nil o.2.1 o.2.2.1).then (sim_must ht [58]))
  rw [List.nil_append, List.nil_append] at o1
  have hb := both_is o1 [123]
  have h : Out tk s (typed tk ex [] s).2 (typed tk ex [] s).1 (Pr.typed tk g r).2 (Pr.typed tk g r).1 := by
    unfold typed Pr.typed
    simp only [List.nil_append]
    refine out_if hb (fun h => ?_) (fun _ => o1)
    exact sim_clause ht hx o1 h.1 h.2
  have hl : (typed tk ex l s).2 = (typed tk ex [] s).2 ∧ (typed tk ex l s).1 = l ++ (typed tk ex [] s).1 := by
    unfold typed
    simp only
    split <;> simp
  rw [hl.1, hl.2]
  by_cases he : s.e = 0
  · exact ⟨o.1, h.2.1, h.2.2.1, fun e2 => (o.2.2.2 he).trans o.2.1.2.2 (h.2.2.2 e2)⟩
  · refine ⟨o.1, h.2.1, h.2.2.1, fun e2 => ?_⟩
    exfalso
    have h3 : (typed tk ex [] s).2 = s := typed_dead he
    rw [h3] at e2
    exact he e2
theorem rtyped_dead {g : Pr.G} {r : Pr.Rs} (he : r.e ≠ 0) : Pr.typed tk g r = ([], r) := by
  simp only [Pr.typed, Pr.base, rmust_dead he, is_dead he, rfail_dead he, Bool.or_self, Bool.false_eq_true, if_false]
end
end Go.Proofs.YtlejecaanllghaaGreatDoor.Pc
/- Plain: a parsed tree is right. No program in sight. -/
namespace Go.Proofs.YtlejecaanllghaaGreatDoor.Pc
open Tr Ps

theorem getD_set' (l : List Bool) (i j : Nat) (h : i < l.length) : (l.set i true).getD j false = (l.getD j false || decide (j = i)) := by
  simp only [List.getD]
  by_cases e : i = j
  · subst e
    rw [List.getElem?_set_self h]
    simp
  · rw [List.getElem?_set_ne e, decide_eq_false (fun h => e h.symm), Bool.or_false]
theorem marks_ok : ∀ (ks : List Int) (kid : List Bool), ks.Nodup → (∀ k ∈ ks, 0 ≤ k ∧ k.toNat < kid.length ∧ kid.getD k.toNat false = false) →
    ∃ kid', marks kid ks = some kid' ∧ kid'.length = kid.length ∧ ∀ j : Nat, kid'.getD j false = (kid.getD j false || decide ((j : Int) ∈ ks))
  | [], kid, _, _ => ⟨kid, rfl, rfl, fun j => by simp⟩
  | k :: ks, kid, hn, hk => by
    have h0 := hk k (by simp)
    rw [List.nodup_cons] at hn
    obtain ⟨kid', h1, h2, h3⟩ := marks_ok ks (kid.set k.toNat true) hn.2 (fun x hx => by
      have hx1 := hk x (by simp [hx])
      refine ⟨hx1.1, by rw [List.length_set]; exact hx1.2.1, ?_⟩
      rw [getD_set' _ _ _ h0.2.1, hx1.2.2, Bool.false_or, decide_eq_false]
      intro e
      have : x = k := by omega
      exact hn.1 (this ▸ hx))
    refine ⟨kid', ?_, by rw [h2, List.length_set], fun j => ?_⟩
    · unfold marks
      rw [h0.2.2, if_neg (by simp)]
      exact h1
    · rw [h3, getD_set' _ _ _ h0.2.1, Bool.or_assoc]
      congr 1
      rw [Bool.eq_iff_iff]
      simp only [Bool.or_eq_true, decide_eq_true_eq, List.mem_cons]
      constructor
      · rintro (h | h)
        · exact Or.inl (by omega)
        · exact Or.inr h
      · rintro (h | h)
        · exact Or.inl (by omega)
        · exact Or.inr h
theorem rightGo_ok {t : T} : ∀ (l : List Nd) (i : Nat) (kid : List Bool), t.nodes.drop i = l → (∀ j n, t.nodes[j]? = some n → formed t j n = true) → (l.flatMap (·.kids)).Nodup → (∀ k ∈ l.flatMap (·.kids), 0 ≤ k ∧ k.toNat < kid.length ∧ kid.getD k.toNat false = false) →
    ∃ kid', rightGo t i l kid = some kid' ∧ kid'.length = kid.length ∧ ∀ j : Nat, kid'.getD j false = (kid.getD j false || decide ((j : Int) ∈ l.flatMap (·.kids)))
  | [], i, kid, _, _, _, _ => ⟨kid, rfl, rfl, fun j => by simp⟩
  | n :: l, i, kid, hl, hf, hn, hk => by
    have hlt : i < t.nodes.length := by
      rcases Nat.lt_or_ge i t.nodes.length with h1 | h1
      · exact h1
      · rw [List.drop_eq_nil_of_le h1] at hl; cases hl
    have hl2 := List.drop_eq_getElem_cons hlt
    rw [hl] at hl2
    injection hl2 with e1 e2
    have hni : t.nodes[i]? = some n := by rw [List.getElem?_eq_getElem hlt, ← e1]
    rw [List.flatMap_cons, List.nodup_append] at hn
    obtain ⟨hn1, hn2, hn3⟩ := hn
    obtain ⟨k1, a1, a2, a3⟩ := marks_ok n.kids kid hn1 (fun x hx => hk x (by rw [List.flatMap_cons]; exact List.mem_append_left _ hx))
    obtain ⟨k2, b1, b2, b3⟩ := rightGo_ok l (i + 1) k1 e2.symm hf hn2 (fun x hx => by
      have hx1 := hk x (by rw [List.flatMap_cons]; exact List.mem_append_right _ hx)
      refine ⟨hx1.1, by rw [a2]; exact hx1.2.1, ?_⟩
      rw [a3, hx1.2.2, Bool.false_or, decide_eq_false]
      intro h
      rw [Int.toNat_of_nonneg hx1.1] at h
      exact hn3 x h x hx rfl)
    refine ⟨k2, ?_, by rw [b2, a2], fun j => ?_⟩
    · unfold rightGo
      rw [if_pos (hf i n hni), a1]
      exact b1
    · rw [b3, a3, Bool.or_assoc, List.flatMap_cons]
      congr 1
      rw [Bool.eq_iff_iff]
      simp only [Bool.or_eq_true, decide_eq_true_eq, List.mem_append]

/-- A parsed tree is right, its root the last node, its text what was told. -/
theorem right_of_got {tk : List Tk} {s : St} {root : Int} {x : List UInt8} (hf : Fm tk s.nodes) (hu : s.used = tk.length) (h : Got tk St.first s [root] x) :
    right ⟨tk, s.nodes⟩ = true ∧ 0 < s.nodes.length ∧ root = ((s.nodes.length - 1 : Nat) : Int) ∧ 32 :: dump ⟨tk, s.nodes⟩ (s.nodes.length - 1) = x := by
  obtain ⟨m, hm, hp⟩ := h.nodes
  have hm2 : s.nodes = m := by rw [hm]; rfl
  subst hm2
  have hz : St.first.nodes.length = 0 := rfl
  rw [hz] at hp
  have hlow := hf.low
  have hr : root ∈ ints 0 s.nodes.length := hp.mem_iff.1 (by simp)
  rw [mem_ints] at hr
  have h0 : 0 < s.nodes.length := by omega
  have hkid : ∀ k ∈ s.nodes.flatMap (·.kids), 0 ≤ k ∧ k < ((s.nodes.length - 1 : Nat) : Int) := by
    intro k hk
    rw [List.mem_flatMap] at hk
    obtain ⟨n, hn, hk⟩ := hk
    obtain ⟨j, hj⟩ := List.getElem?_of_mem hn
    have h1 := (hlow j n hj).1 k hk
    have h2 := get_lt hj
    omega
  have hroot : root = ((s.nodes.length - 1 : Nat) : Int) := by
    have h1 : ((s.nodes.length - 1 : Nat) : Int) ∈ s.nodes.flatMap (·.kids) ++ [root] := hp.mem_iff.2 (by rw [mem_ints]; omega)
    rw [List.mem_append, List.mem_singleton] at h1
    rcases h1 with h1 | h1
    · have := hkid _ h1
      omega
    · exact h1.symm
  have hnd : (s.nodes.flatMap (·.kids) ++ [root]).Nodup := hp.nodup_iff.2 (by
    unfold ints
    exact List.Pairwise.map _ (fun a b hab => fun e => hab (Int.ofNat.inj e)) List.nodup_range')
  rw [List.nodup_append] at hnd
  obtain ⟨kid, b1, b2, b3⟩ := rightGo_ok (t := ⟨tk, s.nodes⟩) s.nodes 0 (List.replicate s.nodes.length false) (by simp) hf hnd.1 (fun k hk => by
    have := hkid k hk
    refine ⟨this.1, by rw [List.length_replicate]; omega, ?_⟩
    simp only [List.getD, List.getElem?_replicate]
    split <;> rfl)
  rw [List.length_replicate] at b2
  have htx := h.text
  have hlv := h.lvs
  simp only [List.flatMap_cons, List.flatMap_nil, List.append_nil, hroot, Int.toNat_natCast] at htx hlv
  refine ⟨?_, h0, hroot, htx⟩
  rw [right_some b1]
  simp only [Bool.and_eq_true, Bool.not_eq_true', beq_iff_eq]
  refine ⟨⟨?_, ?_⟩, ?_⟩
  · cases kid with
    | nil => simp only [List.length_nil] at b2; omega
    | cons _ _ => rfl
  · rw [← Bool.not_eq_true, List.contains_iff_mem]
    intro hmem
    obtain ⟨j, hj⟩ := List.getElem?_of_mem hmem
    rw [List.getElem?_take] at hj
    split at hj
    · rename_i hj1
      have h1 := b3 j
      simp only [List.getD, hj, Option.getD_some, List.getElem?_replicate] at h1
      have h2 : (j : Int) ∈ s.nodes.flatMap (·.kids) ++ [root] := hp.mem_iff.2 (by rw [mem_ints]; omega)
      rw [List.mem_append, List.mem_singleton] at h2
      rcases h2 with h2 | h2
      · rw [decide_eq_true h2, Bool.or_true] at h1
        cases h1
      · omega
    · cases hj
  · show leafs s.nodes (s.nodes.length - 1) = _
    rw [hlv, hu]
    show (List.range' 0 (tk.length - 0)).map Int.ofNat = _
    rw [Nat.sub_zero, ← List.range_eq_range']
    rfl
end Go.Proofs.YtlejecaanllghaaGreatDoor.Pc
/- Plain: whole programs: what the program's parser says is what the document's says. No program in sight. -/
namespace Go.Proofs.YtlejecaanllghaaGreatDoor.Pc
open Tr Ps

section
variable {tk : List Tk}

theorem rargs_dead' {g : Pr.G} {r : Pr.Rs} (hg : (g r).2 = r) (he : r.e ≠ 0) : (Pr.args tk g r).2 = r := by
  unfold Pr.args
  rw [hg, rargs_dead he]
theorem sim_param (ht : Toks tk) {ex : F} {g : Pr.G} (hx : Sim tk ex g) : Sim tk (param tk ex) (Pr.param tk g) := by
  refine ⟨fun s r he hi hr => ?_, fun s he => ?_, fun r he => ?_⟩
  · have o1 := sim_typed ht hx ((Out.nil hi hr).then (sim_kind ht (k := 1) (by decide)))
    have hl : (typed tk ex [(kind tk 1 s).1] (kind tk 1 s).2).2.e = 0 → 2 ≤ (typed tk ex [(kind tk 1 s).1] (kind tk 1 s).2).1.length := by
      intro _
      unfold typed
      simp only
      split <;> simp
    exact (o1.node (k := 4) (by decide) hl).cast (by rw [dig4]; simp [Pr.param])
  · simp only [lift, param, kind_dead he]
    have h := typed_dead (tk := tk) (ex := ex) (l := [0]) he
    rw [node_dead (by rw [h]; exact he)]
    exact h
  · simp only [Pr.param, rkind_dead he, rtyped_dead he]
theorem sim_imported (ht : Toks tk) {s0 s : St} {l : List Int} {r : Pr.Rs} {x : List UInt8} (o : Out tk s0 s l r x) (he : s.e = 0) (hk : nextB tk [tImport] s.used = true) :
    Out tk s0 (imported tk s).2 (l ++ [(imported tk s).1]) (Pr.must tk [59] (Pr.kind tk 1 (Pr.leaf tk r).2).2).2 (x ++ ([32, 40, 50] ++ (Pr.leaf tk r).1 ++ (Pr.kind tk 1 (Pr.leaf tk r).2).1 ++ (Pr.must tk [59] (Pr.kind tk 1 (Pr.leaf tk r).2).2).1 ++ [41])) := by
  have o1 := ((((Out.nil o.2.1 o.2.2.1).leaf ht he (next_kind hk)).1.then (sim_kind ht (k := 1) (by decide))).then (sim_must ht [59])).node (k := 2) (by decide) (fun _ => by simp [lift])
  refine ⟨o.1, o1.2.1, o1.2.2.1, fun e2 => ?_⟩
  have h := (o.2.2.2 he).trans o.2.1.2.2 (o1.2.2.2 e2)
  rw [dig2] at h
  simpa [lift, imported] using h
theorem sim_importsGo (ht : Toks tk) : ∀ (n : Nat) {s0 s : St} {l : List Int} {r : Pr.Rs} {x : List UInt8}, Out tk s0 s l r x →
    Out tk s0 (severalGo tk (imported tk) [tImport] n l s).2 (severalGo tk (imported tk) [tImport] n l s).1 (Pr.importsGo tk n x r).2.1 (Pr.importsGo tk n x r).1 ∧
    ((Pr.importsGo tk n x r).2.2 = false → (severalGo tk (imported tk) [tImport] n l s).2.e ≠ 0)
  | 0, s0, s, l, r, x, o => by
    have hb := both_is o tImport
    unfold severalGo Pr.importsGo
    by_cases h : s.e = 0 ∧ nextB tk [tImport] s.used = true
    · rw [if_pos h, if_pos (hb.1 h)]
      refine ⟨o.fail (by decide) _ _, fun _ => ?_⟩
      unfold fail
      rw [if_pos h.1]
      show (15 : Int) ≠ 0
      decide
    · rw [if_neg h, if_neg (fun e => h (hb.2 e))]
      exact ⟨o, fun e => by cases e⟩
  | n + 1, s0, s, l, r, x, o => by
    have hb := both_is o tImport
    unfold severalGo Pr.importsGo
    by_cases h : s.e = 0 ∧ nextB tk [tImport] s.used = true
    · rw [if_pos h, if_pos (hb.1 h)]
      exact sim_importsGo ht n (sim_imported ht o h.1 h.2)
    · rw [if_neg h, if_neg (fun e => h (hb.2 e))]
      exact ⟨o, fun e => by cases e⟩
theorem sim_defHead (ht : Toks tk) {s0 s : St} {l : List Int} {r : Pr.Rs} {x : List UInt8} (o : Out tk s0 s l r x) :
    Out tk s0 (defHead tk l s).2 (defHead tk l s).1 (Pr.defHead tk x r).2 (Pr.defHead tk x r).1 := by
  have o1 := ((o.then (sim_must ht tFun)).then (sim_kind ht (k := 1) (by decide))).then (sim_must ht [40])
  have e1 : (defHead tk l s).1 = l ++ (lift (must tk [tFun]) s).1 ++ (lift (kind tk 1) (lift (must tk [tFun]) s).2).1 ++ (lift (must tk [[40]]) (lift (kind tk 1) (lift (must tk [tFun]) s).2).2).1 := by simp [lift, defHead]
  rw [e1]
  exact o1.cast (by simp [Pr.defHead])
theorem sim_defList (ht : Toks tk) {ex : F} {g : Pr.G} (hx : Sim tk ex g) {s0 s : St} {l : List Int} {r : Pr.Rs} {x : List UInt8} (o : Out tk s0 s l r x) :
    Out tk s0 (list tk (param tk ex) s).2 (l ++ (list tk (param tk ex) s).1) (Pr.defList tk g x r).2 (Pr.defList tk g x r).1 := sim_list ht (sim_param ht hx) o
theorem sim_defRest (ht : Toks tk) {ex : F} {g : Pr.G} (hx : Sim tk ex g) {s0 s : St} {l : List Int} {r : Pr.Rs} {x : List UInt8} (o : Out tk s0 s l r x) :
    Out tk s0 (defRest tk ex l s).2 [(defRest tk ex l s).1] (Pr.defRest tk g x r).2 ([32, 40, 51] ++ (Pr.defRest tk g x r).1) := by
  have o1 := sim_typed ht hx (o.then (sim_must ht [41]))
  have o2 := (((o1.then (sim_must ht [61])).then hx).then (sim_must ht [59])).node (k := 3) (by decide) (fun _ => by simp [lift])
  have e1 : defRest tk ex l s = node 3 ((typed tk ex (l ++ (lift (must tk [[41]]) s).1) (lift (must tk [[41]]) s).2).1 ++ (lift (must tk [[61]]) (typed tk ex (l ++ (lift (must tk [[41]]) s).1) (lift (must tk [[41]]) s).2).2).1 ++ (lift ex (lift (must tk [[61]]) (typed tk ex (l ++ (lift (must tk [[41]]) s).1) (lift (must tk [[41]]) s).2).2).2).1 ++ (lift (must tk [[59]]) (lift ex (lift (must tk [[61]]) (typed tk ex (l ++ (lift (must tk [[41]]) s).1) (lift (must tk [[41]]) s).2).2).2).2).1) (lift (must tk [[59]]) (lift ex (lift (must tk [[61]]) (typed tk ex (l ++ (lift (must tk [[41]]) s).1) (lift (must tk [[41]]) s).2).2).2).2).2 := by
    simp [lift, defRest]
  rw [e1]
  exact o2.cast (by rw [dig3]; simp [Pr.defRest])
theorem sim_defn (ht : Toks tk) {ex : F} {g : Pr.G} (hx : Sim tk ex g) {s0 s : St} {l : List Int} {r : Pr.Rs} {x : List UInt8} (o : Out tk s0 s l r x) :
    Out tk s0 (defn tk ex l s).2 [(defn tk ex l s).1] (Pr.defn tk g x r).2 ([32, 40, 51] ++ (Pr.defn tk g x r).1) :=
  sim_defRest ht hx (sim_defList ht hx (sim_defHead ht o))
theorem rdef_pre {g : Pr.G} (p x : List UInt8) (r : Pr.Rs) : (Pr.defn tk g (p ++ x) r).2 = (Pr.defn tk g x r).2 ∧ (Pr.defn tk g (p ++ x) r).1 = p ++ (Pr.defn tk g x r).1 := by
  have h1 : Pr.defHead tk (p ++ x) r = (p ++ (Pr.defHead tk x r).1, (Pr.defHead tk x r).2) := by simp [Pr.defHead]
  have h2 : ∀ (y : List UInt8) (q : Pr.Rs), Pr.defList tk g (p ++ y) q = (p ++ (Pr.defList tk g y q).1, (Pr.defList tk g y q).2) := by
    intro y q
    unfold Pr.defList
    split <;> simp
  unfold Pr.defn
  simp only [h1, h2]
  unfold Pr.defRest
  simp
theorem sim_definition (ht : Toks tk) {ex : F} {g : Pr.G} (hx : Sim tk ex g) {s0 s : St} {l : List Int} {r : Pr.Rs} {x : List UInt8} (o : Out tk s0 s l r x) (he : s.e = 0) :
    Out tk s0 (definition tk ex s).2 (l ++ [(definition tk ex s).1]) (Pr.definition tk g r).2 (x ++ (Pr.definition tk g r).1) := by
  have hb := is_eq o.2.1 o.2.2.1 he tPub
  have h : Out tk s (definition tk ex s).2 [(definition tk ex s).1] (Pr.definition tk g r).2 (Pr.definition tk g r).1 := by
    have o0 := Out.nil o.2.1 o.2.2.1
    unfold definition Pr.definition Pr.head
    by_cases h : nextB tk [tPub] s.used = true
    · rw [if_pos h, if_pos (by rw [hb]; exact h)]
      have := rdef_pre (tk := tk) (g := g) [32, 40, 51] (Pr.leaf tk r).1 (Pr.leaf tk r).2
      simp only
      rw [this.1, this.2]
      exact sim_defn ht hx ((o0.leaf ht he (next_kind h)).1)
    · rw [if_neg h, if_neg (by rw [hb]; exact h)]
      have := rdef_pre (tk := tk) (g := g) [32, 40, 51] [] r
      simp only [List.append_nil] at this ⊢
      rw [this.1, this.2]
      exact sim_defn ht hx o0
  exact ⟨o.1, h.2.1, h.2.2.1, fun e2 => (o.2.2.2 he).trans o.2.1.2.2 (h.2.2.2 e2)⟩
theorem sim_defsGo (ht : Toks tk) {ex : F} {g : Pr.G} (hx : Sim tk ex g) : ∀ (n : Nat) {s0 s : St} {l ks : List Int} {r : Pr.Rs} {x : List UInt8}, Out tk s0 s (l ++ ks) r x →
    Out tk s0 (severalGo tk (definition tk ex) [tPub, tFun] n ks s).2 (l ++ (severalGo tk (definition tk ex) [tPub, tFun] n ks s).1) (Pr.defsGo tk g n x r).2.1 (Pr.defsGo tk g n x r).1 ∧
    ((Pr.defsGo tk g n x r).2.2 = false → (severalGo tk (definition tk ex) [tPub, tFun] n ks s).2.e ≠ 0)
  | 0, s0, s, l, ks, r, x, o => by
    have hb : (s.e = 0 ∧ nextB tk [tPub, tFun] s.used = true) ↔ (Pr.is tk tPub r || Pr.is tk tFun r) = true := by
      rw [both_any o]; simp [Pr.any]
    unfold severalGo Pr.defsGo
    by_cases h : s.e = 0 ∧ nextB tk [tPub, tFun] s.used = true
    · rw [if_pos h, if_pos (hb.1 h)]
      refine ⟨o.fail (by decide) _ _, fun _ => ?_⟩
      unfold fail
      rw [if_pos h.1]
      show (15 : Int) ≠ 0
      decide
    · rw [if_neg h, if_neg (fun e => h (hb.2 e))]
      exact ⟨o, fun e => by cases e⟩
  | n + 1, s0, s, l, ks, r, x, o => by
    have hb : (s.e = 0 ∧ nextB tk [tPub, tFun] s.used = true) ↔ (Pr.is tk tPub r || Pr.is tk tFun r) = true := by
      rw [both_any o]; simp [Pr.any]
    unfold severalGo Pr.defsGo
    by_cases h : s.e = 0 ∧ nextB tk [tPub, tFun] s.used = true
    · rw [if_pos h, if_pos (hb.1 h)]
      refine sim_defsGo ht hx n ?_
      rw [← List.append_assoc]
      exact sim_definition ht hx o h.1
    · rw [if_neg h, if_neg (fun e => h (hb.2 e))]
      exact ⟨o, fun e => by cases e⟩

/-- The end, and the root. -/
theorem sim_end (ht : Toks tk) {s : St} {l : List Int} {r : Pr.Rs} {x : List UInt8} (o : Out tk St.first s l r x) {k : Int} (hk : 1 ≤ k ∧ k ≤ 18) :
    (Pr.kind tk 5 r).2.e = (node k (l ++ [(kind tk 5 s).1]) (kind tk 5 s).2).2.e ∧
    ((node k (l ++ [(kind tk 5 s).1]) (kind tk 5 s).2).2.e ≠ 0 → (Pr.kind tk 5 r).2.pos = (node k (l ++ [(kind tk 5 s).1]) (kind tk 5 s).2).2.pos) ∧
    ((node k (l ++ [(kind tk 5 s).1]) (kind tk 5 s).2).2.e = 0 → Fm tk (node k (l ++ [(kind tk 5 s).1]) (kind tk 5 s).2).2.nodes ∧ (node k (l ++ [(kind tk 5 s).1]) (kind tk 5 s).2).2.used = tk.length ∧
      Got tk St.first (node k (l ++ [(kind tk 5 s).1]) (kind tk 5 s).2).2 [(node k (l ++ [(kind tk 5 s).1]) (kind tk 5 s).2).1] ([32, 40] ++ Lib.decDigits k.toNat ++ (x ++ (Pr.kind tk 5 r).1) ++ [41]) ∧
      ((node k (l ++ [(kind tk 5 s).1]) (kind tk 5 s).2).2.nodes[(node k (l ++ [(kind tk 5 s).1]) (kind tk 5 s).2).2.nodes.length - 1]?).map (·.kind) = some k) := by
  by_cases he : s.e = 0
  · obtain ⟨t, h1, h2, h3⟩ := o.2.1.get
    have hp := peek_tok o.2.1 o.2.2.1 he
    by_cases h5 : (peek tk s.used).kind = 5
    · have hu : s.used + 1 = tk.length := by
        have q := o.2.1.1
        rcases Nat.lt_or_ge (s.used + 1) tk.length with h4 | h4
        · exact absurd (h2 ▸ h5) (ht.other _ _ h4 h1)
        · omega
      have htx : t.text = [] := (ht.last t (by rw [← h1]; congr 1; omega)).2
      obtain ⟨g1, g2, g3, g4, _, g5⟩ := got_leaf o.2.1.2.2 h1
      have e1 : kind tk 5 s = leaf tk s := by unfold kind; rw [if_pos ⟨he, h5⟩]
      have e2 : Pr.kind tk 5 r = ([32, 36], r) := by
        unfold Pr.kind
        rw [if_pos ⟨o.2.2.1.1.trans he, by rw [hp]; exact h5⟩]
        unfold Pr.leaf
        rw [hp, if_pos h5]
      rw [e1, e2]
      rw [h2] at h5
      rw [if_pos h5, htx] at g5
      have hg := (o.2.2.2 he).trans o.2.1.2.2 g5
      have hroom := (o.2.2.2 he).room
      have z1 : St.first.nodes.length = 0 := rfl
      have z2 : St.first.used = 0 := rfl
      obtain ⟨k1, k2, k3, k4, _, k5⟩ := got_node g1 hg (g3.trans he) hk (by rw [g4, g2]; omega)
      refine ⟨by rw [k3]; exact o.2.2.1.1.trans he, fun h => absurd k3 h, fun _ => ⟨k1, by rw [k2, g2, hu], k5, ?_⟩⟩
      have hm : ¬ ((l ++ [(leaf tk s).1]).any (fun x => decide (x < 0) || decide (((leaf tk s).2.nodes.length : Int) ≤ x)) = true) := by
        simp only [List.any_eq_true, Bool.or_eq_true, decide_eq_true_eq, not_exists, not_and]
        intro y hy
        have := hg.mem hy
        omega
      have e3 : node k (l ++ [(leaf tk s).1]) (leaf tk s).2 = (((leaf tk s).2.nodes.length : Int), { (leaf tk s).2 with nodes := (leaf tk s).2.nodes ++ [⟨k, -1, l ++ [(leaf tk s).1]⟩] }) := by
        unfold node
        rw [if_pos (g3.trans he), if_neg hm]
      rw [e3]
      simp
    · have e1 : kind tk 5 s = (0, fail tk 22 s) := by unfold kind; rw [if_neg (by simp [h5])]
      have e2 : Pr.kind tk 5 r = ([], Pr.fail tk 22 r) := by unfold Pr.kind; rw [if_neg (by rw [hp]; simp [h5])]
      have o2 := o.fail (e := 22) (by decide) [] []
      have h6 : (fail tk 22 s).e ≠ 0 := by unfold fail; rw [if_pos he]; show (22 : Int) ≠ 0; decide
      rw [e1, e2]
      simp only
      rw [node_dead h6]
      exact ⟨o2.2.2.1.1, o2.2.2.1.2.1, fun h => absurd h h6⟩
  · have hr : r.e ≠ 0 := by rw [o.2.2.1.1]; exact he
    rw [kind_dead he, rkind_dead hr]
    simp only
    rw [node_dead he]
    exact ⟨o.2.2.1.1, o.2.2.1.2.1, fun h => absurd h he⟩

theorem several_dead {one : F} {ts : List (List UInt8)} {s : St} (he : s.e ≠ 0) (n : Nat) (ks : List Int) : (severalGo tk one ts n ks s).2 = s := by
  cases n <;> (unfold severalGo; rw [if_neg (by simp [he])])
/-- What both say of a whole text. -/
structure Same (tk : List Tk) (k : Int) (s : St) (r : Pr.Rs) (x : List UInt8) : Prop where
  e : r.e = s.e
  pos : s.e ≠ 0 → r.pos = s.pos
  right : s.e = 0 → Tr.right ⟨tk, s.nodes⟩ = true ∧ 0 < s.nodes.length ∧ dump ⟨tk, s.nodes⟩ (s.nodes.length - 1) = x ∧ (s.nodes[s.nodes.length - 1]?).map (·.kind) = some k
  used : s.e = 0 → s.used = tk.length
  small : s.e = 0 → s.nodes.length ≤ 3 * tk.length ∧ ∀ n ∈ s.nodes, n.kids.length ≤ s.nodes.length
theorem small_of_got {s : St} {l : List Int} {x : List UInt8} (hu : s.used = tk.length) (h : Got tk St.first s l x) : s.nodes.length ≤ 3 * tk.length ∧ ∀ n ∈ s.nodes, n.kids.length ≤ s.nodes.length := by
  have hr := h.room
  obtain ⟨m, hm, hp⟩ := h.nodes
  have hm2 : s.nodes = m := by rw [hm]; rfl
  subst hm2
  have hz : St.first.nodes.length = 0 := rfl
  have hz2 : St.first.used = 0 := rfl
  rw [hz, hz2] at hr
  have hl := hp.length_eq
  simp only [List.length_append, ints, List.length_map, List.length_range'] at hl
  refine ⟨by omega, fun n hn => ?_⟩
  have h1 : n.kids.length ≤ (s.nodes.flatMap (·.kids)).length := by
    obtain ⟨a, b, hab⟩ := List.append_of_mem hn
    rw [hab]
    simp only [List.flatMap_append, List.flatMap_cons, List.length_append]
    omega
  omega
theorem same_of_end (ht : Toks tk) {s : St} {l : List Int} {r : Pr.Rs} {x : List UInt8} (o : Out tk St.first s l r x) {k : Int} (hk : 1 ≤ k ∧ k ≤ 18) :
    Same tk k (node k (l ++ [(kind tk 5 s).1]) (kind tk 5 s).2).2 (Pr.kind tk 5 r).2 ([40] ++ Lib.decDigits k.toNat ++ (x ++ (Pr.kind tk 5 r).1) ++ [41]) := by
  obtain ⟨h1, h2, h3⟩ := sim_end ht o hk
  refine ⟨h1, h2, fun h => ?_, fun h => (h3 h).2.1, fun h => small_of_got (h3 h).2.1 (h3 h).2.2.1⟩
  obtain ⟨g1, g2, g3, g4⟩ := h3 h
  obtain ⟨r1, r2, _, r4⟩ := right_of_got g1 g2 g3
  refine ⟨r1, r2, ?_, g4⟩
  simpa using r4
theorem first_out (ht : Toks tk) : Inv tk St.first ∧ Rel St.first Pr.Rs.first := by
  refine ⟨⟨ht.pos, Nat.zero_le _, fun j n hj => by cases hj⟩, rfl, fun h => absurd rfl h, fun _ => ⟨rfl, rfl⟩⟩
theorem same_program (ht : Toks tk) (d : Nat) : Same tk 1 (Ps.program tk (Ps.lv tk d).ex St.first).2 (Pr.program tk (Pr.lv tk d).ex Pr.Rs.first).2 (Pr.program tk (Pr.lv tk d).ex Pr.Rs.first).1 := by
  have hx := (sim_lv ht d).ex
  obtain ⟨hi, hr⟩ := first_out ht
  obtain ⟨o1, n1⟩ := sim_importsGo ht 16 (x := []) (Out.nil hi hr)
  have hpre : ∀ (n : Nat) (p x : List UInt8) (r : Pr.Rs), (Pr.importsGo tk n (p ++ x) r).2 = (Pr.importsGo tk n x r).2 ∧ ((Pr.importsGo tk n x r).2.2 = true → (Pr.importsGo tk n (p ++ x) r).1 = p ++ (Pr.importsGo tk n x r).1) := by
    intro n
    induction n with
    | zero =>
      intro p x r
      unfold Pr.importsGo
      split <;> simp
    | succ n ih =>
      intro p x r
      unfold Pr.importsGo
      split
      · simp only
        rw [List.append_assoc]
        exact ih _ _ _
      · simp
  have hpre2 : ∀ (n : Nat) (p x : List UInt8) (r : Pr.Rs), (Pr.defsGo tk (Pr.lv tk d).ex n (p ++ x) r).2 = (Pr.defsGo tk (Pr.lv tk d).ex n x r).2 ∧ ((Pr.defsGo tk (Pr.lv tk d).ex n x r).2.2 = true → (Pr.defsGo tk (Pr.lv tk d).ex n (p ++ x) r).1 = p ++ (Pr.defsGo tk (Pr.lv tk d).ex n x r).1) := by
    intro n
    induction n with
    | zero =>
      intro p x r
      unfold Pr.defsGo
      split <;> simp
    | succ n ih =>
      intro p x r
      unfold Pr.defsGo
      split
      · rw [List.append_assoc]
        exact ih _ _ _
      · simp
  have p1 := hpre 16 [40, 49] [] Pr.Rs.first
  rw [List.append_nil] at p1
  unfold Ps.program Pr.program
  simp only
  rw [p1.1]
  have o1' := o1
  rw [← List.append_nil (severalGo tk (imported tk) [tImport] 16 [] St.first).1] at o1'
  obtain ⟨o2, n2⟩ := sim_defsGo ht hx 64 o1'
  have ss := same_of_end ht o2 (k := 1) (by decide)
  by_cases hb : (Pr.importsGo tk 16 [] Pr.Rs.first).2.2 = true
  · rw [if_pos hb, p1.2 hb]
    have p2 := hpre2 64 [40, 49] (Pr.importsGo tk 16 [] Pr.Rs.first).1 (Pr.importsGo tk 16 [] Pr.Rs.first).2.1
    rw [p2.1]
    by_cases hb2 : (Pr.defsGo tk (Pr.lv tk d).ex 64 (Pr.importsGo tk 16 [] Pr.Rs.first).1 (Pr.importsGo tk 16 [] Pr.Rs.first).2.1).2.2 = true
    · rw [if_pos hb2, p2.2 hb2]
      refine ⟨ss.e, ss.pos, fun h => ?_, ss.used, ss.small⟩
      obtain ⟨q1, q2, q3, q4⟩ := ss.right h
      refine ⟨q1, q2, ?_, q4⟩
      rw [q3, dig1]
      simp
    · have hd := n2 (by simpa using hb2)
      rw [if_neg hb2, kind_dead hd]
      simp only
      rw [node_dead hd]
      exact ⟨o2.2.2.1.1, o2.2.2.1.2.1, fun h => absurd h hd, fun h => absurd h hd, fun h => absurd h hd⟩
  · have hd := n1 (by simpa using hb)
    have hd2 := fun (n : Nat) (ks : List Int) => several_dead (tk := tk) (one := definition tk (Ps.lv tk d).ex) (ts := [tPub, tFun]) hd n ks
    rw [if_neg hb, hd2, kind_dead hd]
    simp only
    rw [node_dead hd]
    exact ⟨o1.2.2.1.1, o1.2.2.1.2.1, fun h => absurd h hd, fun h => absurd h hd, fun h => absurd h hd⟩
theorem same_alone (ht : Toks tk) (d : Nat) : Same tk 18 (alone tk (Ps.lv tk d).ex St.first).2 (Pr.alone tk (Pr.lv tk d).ex Pr.Rs.first).2 (Pr.alone tk (Pr.lv tk d).ex Pr.Rs.first).1 := by
  have hx := (sim_lv ht d).ex
  obtain ⟨hi, hr⟩ := first_out ht
  obtain ⟨i2, r2⟩ := (Out.nil hi hr).clause true
  have o1 : Out tk { St.first with clause := true } _ [((Ps.lv tk d).ex { St.first with clause := true }).1] _ _ := hx.go { St.first with clause := true } { Pr.Rs.first with inn := true } rfl i2 r2
  have o2 : Out tk St.first ((Ps.lv tk d).ex { St.first with clause := true }).2 [((Ps.lv tk d).ex { St.first with clause := true }).1] ((Pr.lv tk d).ex { Pr.Rs.first with inn := true }).2 ((Pr.lv tk d).ex { Pr.Rs.first with inn := true }).1 :=
    ⟨hi, o1.2.1, o1.2.2.1, fun e2 => ⟨(o1.2.2.2 e2).nodes, (o1.2.2.2 e2).used, (o1.2.2.2 e2).lvs, (o1.2.2.2 e2).text, (o1.2.2.2 e2).room⟩⟩
  have ss := same_of_end ht o2 (k := 18) (by decide)
  unfold alone Pr.alone
  refine ⟨ss.e, ss.pos, fun h => ?_, ss.used, ss.small⟩
  obtain ⟨q1, q2, q3, q4⟩ := ss.right h
  refine ⟨q1, q2, ?_, q4⟩
  simp only
  rw [show (node 18 [((Ps.lv tk d).ex { St.first with clause := true }).1, (kind tk 5 ((Ps.lv tk d).ex { St.first with clause := true }).2).1] (kind tk 5 ((Ps.lv tk d).ex { St.first with clause := true }).2).2) = (node 18 ([((Ps.lv tk d).ex { St.first with clause := true }).1] ++ [(kind tk 5 ((Ps.lv tk d).ex { St.first with clause := true }).2).1]) (kind tk 5 ((Ps.lv tk d).ex { St.first with clause := true }).2).2) from rfl, q3, dig18]
  simp
end
end Go.Proofs.YtlejecaanllghaaGreatDoor.Pc
/- Plain: the tokens of a text: the last one alone is the end; they stand one behind another. No program in sight. -/
namespace Go.Proofs.YtlejecaanllghaaGreatDoor.Pc
open Tr

def tkOf (t : Lx.Tok) : Tk := ⟨t.kind, t.lead, t.text, t.pos⟩
/-- Tokens that were read so far: none is the end; each stands no farther than the next one. -/
def SoFar (acc : List Lx.Tok) (p : Nat) : Prop := (∀ t ∈ acc, t.kind ≠ 5) ∧ acc.Pairwise (fun a b => a.pos ≤ b.pos) ∧ ∀ t ∈ acc, t.pos ≤ p
theorem SoFar.snoc {acc : List Lx.Tok} {p q : Nat} (h : SoFar acc p) {t : Lx.Tok} (hk : t.kind ≠ 5) (hp : p ≤ t.pos) (hq : t.pos ≤ q) : SoFar (acc ++ [t]) q := by
  refine ⟨fun x hx => ?_, ?_, fun x hx => ?_⟩
  · rcases List.mem_append.1 hx with hx | hx
    · exact h.1 x hx
    · rw [List.mem_singleton.1 hx]
      exact hk
  · rw [List.pairwise_append]
    refine ⟨h.2.1, by simp, fun a ha b hb => ?_⟩
    rw [List.mem_singleton.1 hb]
    exact Nat.le_trans (h.2.2 a ha) hp
  · rcases List.mem_append.1 hx with hx | hx
    · exact Nat.le_trans (h.2.2 x hx) (Nat.le_trans hp hq)
    · rw [List.mem_singleton.1 hx]
      exact hq
/-- A text's tokens. -/
structure LexedTo (ts : List Lx.Tok) : Prop where
  ends : ∃ (init : List Lx.Tok) (z : Lx.Tok), ts = init ++ [z] ∧ z.kind = 5 ∧ z.text = [] ∧ (∀ t ∈ init, t.kind ≠ 5)
  rising : ts.Pairwise fun a b => a.pos ≤ b.pos
theorem token_end {r : List UInt8} (he : (Lx.token r).2.2 = 0) (hk : (Lx.token r).1 = 5) : (Lx.token r).2.1 = [] := by
  have h := (Lx.token_text r he).2.1 hk
  rw [h]
  rfl
theorem lexGo_to : ∀ (n : Nat) (r : List UInt8) (p : Nat) (acc : List Lx.Tok), r.length < n → (Lx.lexGo n r p acc).2.1 = 0 → SoFar acc p → LexedTo (Lx.lexGo n r p acc).1
  | 0, _, _, _, h, _, _ => absurd h (by omega)
  | n + 1, r, p, acc, h, hz, hs => by
    by_cases he : (Lx.token (r.drop (Lx.between r).length)).2.2 = 0
    · have ht := Lx.token_text (r.drop (Lx.between r).length) he
      by_cases hk : (Lx.token (r.drop (Lx.between r).length)).1 = 5
      · rw [Lx.lexGo_end he hk]
        refine ⟨⟨acc, _, rfl, hk, token_end he hk, hs.1⟩, ?_⟩
        rw [List.pairwise_append]
        refine ⟨hs.2.1, by simp, fun a ha b hb => ?_⟩
        rw [List.mem_singleton.1 hb]
        exact Nat.le_trans (hs.2.2 a ha) (Nat.le_add_right _ _)
      · rw [Lx.lexGo_on he hk] at hz ⊢
        have h3 := ht.2.2 hk
        have h4 := ht.1.length_le
        simp only [List.length_drop] at h4
        exact lexGo_to n _ _ _ (by simp only [List.length_drop]; omega) hz (hs.snoc hk (Nat.le_add_right _ _) (Nat.le_add_right _ _))
    · rw [Lx.lexGo_bad he] at hz
      exact absurd hz he
theorem lex_to {l : List UInt8} (h : (Lx.lex l).2.1 = 0) : LexedTo (Lx.lex l).1 := by
  unfold Lx.lex at h ⊢
  split at h
  · exact absurd h (by simp)
  · rename_i hs
    rw [if_neg hs]
    exact lexGo_to _ _ _ _ (by omega) h ⟨fun t ht => (by cases ht), List.Pairwise.nil, fun t ht => (by cases ht)⟩
theorem LexedTo.toks {ts : List Lx.Tok} (h : LexedTo ts) : Toks (ts.map tkOf) := by
  obtain ⟨init, z, rfl, h1, h2, h3⟩ := h.ends
  refine ⟨by simp, fun k hk => ?_, fun i k hi hk => ?_⟩
  · simp only [List.length_map, List.length_append, List.length_singleton, Nat.add_sub_cancel, List.map_append] at hk
    rw [List.getElem?_append_right (by simp)] at hk
    simp only [List.length_map, Nat.sub_self, List.map_cons, List.map_nil, List.getElem?_cons_zero, Option.some.injEq] at hk
    subst hk
    exact ⟨by simp [tkOf, h1], h2⟩
  · simp only [List.length_map, List.length_append, List.length_singleton] at hi
    rw [List.map_append, List.getElem?_append_left (by simp; omega), List.getElem?_map] at hk
    cases hx : init[i]? with
    | none => rw [hx] at hk; cases hk
    | some t =>
      rw [hx] at hk
      simp only [Option.map_some, Option.some.injEq] at hk
      subst hk
      have := h3 t (List.mem_of_getElem? hx)
      simp only [tkOf]
      omega
theorem get_lt' {α : Type} {l : List α} {i : Nat} {x : α} (h : l[i]? = some x) : i < l.length := by
  rcases Nat.lt_or_ge i l.length with h1 | h1
  · exact h1
  · rw [List.getElem?_eq_none h1] at h; cases h
theorem LexedTo.pos {ts : List Lx.Tok} (h : LexedTo ts) {i j : Nat} {a b : Tk} (hij : i ≤ j) (ha : (ts.map tkOf)[i]? = some a) (hb : (ts.map tkOf)[j]? = some b) : a.pos ≤ b.pos := by
  rcases Nat.lt_or_ge i j with hlt | hge
  · rw [List.getElem?_map] at ha hb
    cases hx : ts[i]? with
    | none => rw [hx] at ha; cases ha
    | some x =>
      cases hy : ts[j]? with
      | none => rw [hy] at hb; cases hb
      | some y =>
        rw [hx] at ha
        rw [hy] at hb
        simp only [Option.map_some, Option.some.injEq] at ha hb
        subst ha hb
        have h1 := List.pairwise_iff_getElem.1 h.rising i j (get_lt' hx) (get_lt' hy) hlt
        rw [List.getElem?_eq_getElem (get_lt' hx)] at hx
        rw [List.getElem?_eq_getElem (get_lt' hy)] at hy
        simp only [Option.some.injEq] at hx hy
        rw [hx, hy] at h1
        simp only [tkOf]
        omega
  · obtain rfl : i = j := by omega
    rw [ha] at hb
    simp only [Option.some.injEq] at hb
    rw [hb]
    exact Int.le_refl _
end Go.Proofs.YtlejecaanllghaaGreatDoor.Pc
/- ParseLimits: what the document's parser says of the text that it builds. No program in sight. -/
namespace Go.Proofs.YtlejecaanllghaaGreatDoor.Lm
open Tr Ps

def Dr (tk : List Tk) (u : Nat) (L : List Lx.Tok) : Prop := tk.drop u = L.map toTk
theorem Dr.at {tk : List Tk} {u : Nat} {L : List Lx.Tok} (h : Dr tk u L) (k : Nat) : Pr.tok tk (u + k) = ((L[k]?).map toTk).getD ⟨0, [], [], 0⟩ := by
  have h : tk.drop u = L.map toTk := h
  unfold Pr.tok
  rw [← List.getElem?_drop, h, List.getElem?_map]
theorem Dr.more {tk : List Tk} {u n : Nat} {c L : List Lx.Tok} (h : Dr tk u (c ++ L)) (hn : c.length = n) : Dr tk (u + n) L := by
  have h : tk.drop u = (c ++ L).map toTk := h
  show tk.drop (u + n) = _
  rw [← List.drop_drop, h, List.map_append, List.drop_append_of_le_length (by rw [List.length_map, hn]; exact Nat.le_refl _), List.drop_of_length_le (by rw [List.length_map, hn]; exact Nat.le_refl _)]
  rfl
/-- A token's kind and text. -/
def At (tk : List Tk) (u : Nat) (k : Int) (x : List UInt8) : Prop := (Pr.tok tk u).kind = k ∧ (Pr.tok tk u).text = x
section
variable {tk : List Tk} {u : Nat} {k q : Int} {x : List UInt8} {b : Bool}
theorem is_at (h : At tk u k x) (y : List UInt8) : Pr.is tk y ⟨u, b, 0, q⟩ = ((decide (k = 2) || decide (k = 4)) && x == y) := by
  unfold Pr.is
  simp [h.1, h.2]
theorem leaf_at (h : At tk u k x) (hk : k ≠ 5) {e : Int} : (Pr.leaf tk ⟨u, b, e, q⟩).2 = ⟨u + 1, b, e, q⟩ := by
  unfold Pr.leaf
  rw [if_neg (by rw [h.1]; exact hk)]
theorem must_at (h : At tk u k x) (hk : k = 2 ∨ k = 4) : (Pr.must tk x ⟨u, b, 0, q⟩).2 = ⟨u + 1, b, 0, q⟩ := by
  unfold Pr.must
  rw [is_at h, if_pos (by rcases hk with rfl | rfl <;> simp)]
  exact leaf_at h (by rcases hk with rfl | rfl <;> decide)
theorem kind_at (h : At tk u k x) (hk : k ≠ 5) : (Pr.kind tk k ⟨u, b, 0, q⟩).2 = ⟨u + 1, b, 0, q⟩ := by
  unfold Pr.kind
  rw [if_pos ⟨rfl, h.1⟩]
  exact leaf_at h hk
/-- Behind such a token no operator comes. -/
def Stop (tk : List Tk) (s : Pr.Rs) : Prop := s.e ≠ 0 ∨ (Pr.tok tk s.i).text = [59] ∨ (Pr.tok tk s.i).text = [41] ∨ (Pr.tok tk s.i).text = [44]
theorem Stop.is {s : Pr.Rs} (h : Stop tk s) (y : List UInt8) (h1 : ([59] : List UInt8) ≠ y) (h2 : ([41] : List UInt8) ≠ y) (h3 : ([44] : List UInt8) ≠ y) : Pr.is tk y s = false := by
  unfold Pr.is
  rcases h with h | h | h | h
  · simp [h]
  · rw [h, show (([59] : List UInt8) == y) = false from by simpa using h1, Bool.and_false]
  · rw [h, show (([41] : List UInt8) == y) = false from by simpa using h2, Bool.and_false]
  · rw [h, show (([44] : List UInt8) == y) = false from by simpa using h3, Bool.and_false]
theorem Stop.any {s : Pr.Rs} (h : Stop tk s) (ts : List (List UInt8)) (hts : ∀ y ∈ ts, ([59] : List UInt8) ≠ y ∧ ([41] : List UInt8) ≠ y ∧ ([44] : List UInt8) ≠ y) : Pr.any tk ts s = false := by
  unfold Pr.any
  rw [List.any_eq_false]
  intro y hy
  rw [h.is y (hts y hy).1 (hts y hy).2.1 (hts y hy).2.2]
  decide
theorem row_stop {part : Pr.G} {ts : List (List UInt8)} {s s' : Pr.Rs} (hp : (part s).2 = s') (h : Pr.any tk ts s' = false) : (Pr.row tk part ts s).2 = s' := by
  unfold Pr.row
  cases tk.length with
  | zero => exact hp
  | succ n =>
    unfold Pr.rowGo
    rw [hp, if_neg (by rw [h]; decide)]
theorem ex_atom {d : Nat} {lo : Pr.Lv} {s s' : Pr.Rs} (h0 : s.e = 0) (hm : Pr.is tk [45] s = false) (hn : Pr.is tk tNot s = false) (hl : Pr.is tk tLet s = false) (hi : Pr.is tk tIf s = false) (ha : Pr.is tk tAssert s = false)
    (hat : (Pr.atom tk lo.ex s).2 = s') (hs : Stop tk s') : (Pr.express tk d lo s).2 = s' := by
  have h1 : (Pr.factor tk d lo s).2 = s' := by unfold Pr.factor; rw [hm]; exact hat
  have h2 : (Pr.product tk d lo s).2 = s' := row_stop h1 (hs.any _ (by decide))
  have h3 : (Pr.sum tk d lo s).2 = s' := row_stop h2 (hs.any _ (by decide))
  have h4 : (Pr.not tk d lo s).2 = s' := by
    unfold Pr.not
    rw [hn]
    show (if Pr.any tk sCmp (Pr.sum tk d lo s).2 = true then _ else _ : Pr.Txt × Pr.Rs).2 = s'
    rw [h3, if_neg (by rw [hs.any _ (by decide)]; decide)]
    exact h3
  have h5 : (Pr.and tk d lo s).2 = s' := row_stop h4 (hs.any _ (by decide))
  have h6 : (Pr.or tk d lo s).2 = s' := row_stop h5 (hs.any _ (by decide))
  have h7 : (Pr.formula tk d lo s).2 = s' := by
    unfold Pr.formula
    show (if Pr.is tk [61, 62] (Pr.or tk d lo s).2 = true then _ else _ : Pr.Txt × Pr.Rs).2 = s'
    rw [h6, if_neg (by rw [hs.is _ (by decide) (by decide) (by decide)]; decide)]
    exact h6
  unfold Pr.express
  rw [if_pos h0, hl, hi, ha]
  simpa using h7
theorem express_dead {d : Nat} {lo : Pr.Lv} {s : Pr.Rs} (he : s.e ≠ 0) : (Pr.express tk d lo s).2 = s := by unfold Pr.express; rw [if_neg he]
theorem ex_dead (d : Nat) (s : Pr.Rs) (he : s.e ≠ 0) : ((Pr.lv tk (d + 1)).ex s).2 = s := express_dead he
/-- A number alone. -/
theorem ex_number {d : Nat} {x : List UInt8} (h : At tk u 3 x) (hs : Stop tk ⟨u + 1, false, 0, 0⟩) : ((Pr.lv tk (d + 1)).ex ⟨u, false, 0, 0⟩).2 = ⟨u + 1, false, 0, 0⟩ := by
  show (Pr.express tk d (Pr.lv tk d) ⟨u, false, 0, 0⟩).2 = _
  have hno : ∀ y, Pr.is tk y ⟨u, false, 0, 0⟩ = false := fun y => by rw [is_at h]; rfl
  refine ex_atom rfl (hno _) (hno _) (hno _) (hno _) (hno _) ?_ hs
  unfold Pr.atom
  rw [if_pos rfl, if_pos h.1]
  exact leaf_at h (by decide)
theorem args_go (part : Pr.G) (w n : Nat) (hdead : ∀ s : Pr.Rs, s.e ≠ 0 → (part s).2 = s) (hp : ∀ j, j ≤ n → (part ⟨u + j * (w + 1), false, 0, 0⟩).2 = ⟨u + j * (w + 1) + w, false, 0, 0⟩)
    (hc : ∀ j, j < n → At tk (u + j * (w + 1) + w) 4 [44]) (hn : Pr.is tk [44] ⟨u + n * (w + 1) + w, false, 0, 0⟩ = false) :
    ∀ (f j : Nat) (a : List UInt8), j ≤ n → n ≤ f + j → j ≤ 7 → (Pr.argsGo tk part f (j + 1) a ⟨u + j * (w + 1) + w, false, 0, 0⟩).2 = if n < 8 then ⟨u + n * (w + 1) + w, false, 0, 0⟩ else ⟨u + 8 * (w + 1), false, 15, (Pr.tok tk (u + 8 * (w + 1))).pos⟩
  | 0, j, a, h1, h2, h3 => by
    obtain rfl : j = n := by omega
    rw [if_pos (by omega)]
    rfl
  | f + 1, j, a, h1, h2, h3 => by
    unfold Pr.argsGo
    by_cases hj : j = n
    · subst hj
      rw [if_neg (by rw [hn]; decide), if_pos (by omega)]
    · have hjn : j < n := by omega
      have hat := hc j hjn
      rw [if_pos (by rw [is_at hat]; rfl)]
      have hl : (Pr.leaf tk ⟨u + j * (w + 1) + w, false, 0, 0⟩).2 = ⟨u + (j + 1) * (w + 1), false, 0, 0⟩ := by
        rw [leaf_at hat (by decide)]
        have : u + j * (w + 1) + w + 1 = u + (j + 1) * (w + 1) := by rw [Nat.succ_mul]; omega
        rw [this]
      simp only [hl]
      by_cases h8 : j + 1 = 8
      · obtain rfl : j = 7 := by omega
        have hf : Pr.fail tk 15 ⟨u + (7 + 1) * (w + 1), false, 0, 0⟩ = ⟨u + 8 * (w + 1), false, 15, (Pr.tok tk (u + 8 * (w + 1))).pos⟩ := by
          unfold Pr.fail
          rw [if_pos rfl]
        rw [if_pos rfl, hf, if_neg (by omega)]
        have hd := hdead ⟨u + 8 * (w + 1), false, 15, (Pr.tok tk (u + 8 * (w + 1))).pos⟩ (show (15 : Int) ≠ 0 by decide)
        rw [hd]
        exact Pc.rargs_dead (show (15 : Int) ≠ 0 by decide) _ _ _
      · rw [if_neg h8, hp (j + 1) (by omega)]
        exact args_go part w n hdead hp hc hn f (j + 1) _ (by omega) (by omega) (by omega)
theorem args_many (part : Pr.G) (w n : Nat) (hdead : ∀ s : Pr.Rs, s.e ≠ 0 → (part s).2 = s) (hp : ∀ j, j ≤ n → (part ⟨u + j * (w + 1), false, 0, 0⟩).2 = ⟨u + j * (w + 1) + w, false, 0, 0⟩)
    (hc : ∀ j, j < n → At tk (u + j * (w + 1) + w) 4 [44]) (hn : Pr.is tk [44] ⟨u + n * (w + 1) + w, false, 0, 0⟩ = false) (hf : n ≤ tk.length) :
    (Pr.args tk part ⟨u, false, 0, 0⟩).2 = if n < 8 then ⟨u + n * (w + 1) + w, false, 0, 0⟩ else ⟨u + 8 * (w + 1), false, 15, (Pr.tok tk (u + 8 * (w + 1))).pos⟩ := by
  have h0 := hp 0 (Nat.zero_le _)
  have h1 := args_go part w n hdead hp hc hn tk.length 0 (part ⟨u, false, 0, 0⟩).1 (Nat.zero_le _) (by omega) (by omega)
  rw [Nat.zero_mul, Nat.add_zero] at h0 h1
  unfold Pr.args
  rw [h0]
  exact h1
theorem typed_int {g : Pr.G} (h0 : At tk u 4 [58]) (h1 : At tk (u + 1) 2 [105, 110, 116]) (h2 : Pr.is tk [123] ⟨u + 2, false, 0, 0⟩ = false) : (Pr.typed tk g ⟨u, false, 0, 0⟩).2 = ⟨u + 2, false, 0, 0⟩ := by
  have hb : ∀ a, (Pr.base tk a ⟨u + 1, false, 0, 0⟩).2 = ⟨u + 2, false, 0, 0⟩ := fun a => by
    unfold Pr.base
    rw [if_pos (by rw [is_at h1]; rfl)]
    exact leaf_at h1 (by decide)
  unfold Pr.typed
  simp only [must_at h0 (Or.inr rfl), hb]
  rw [if_neg (by rw [h2]; decide)]
  exact hb _
theorem param_one {g : Pr.G} {x : List UInt8} (h : At tk u 1 x) (h0 : At tk (u + 1) 4 [58]) (h1 : At tk (u + 2) 2 [105, 110, 116]) (h2 : Pr.is tk [123] ⟨u + 3, false, 0, 0⟩ = false) : (Pr.param tk g ⟨u, false, 0, 0⟩).2 = ⟨u + 3, false, 0, 0⟩ := by
  unfold Pr.param
  simp only [kind_at h (show (1 : Int) ≠ 5 by decide)]
  exact typed_int h0 h1 h2
theorem param_dead {g : Pr.G} (s : Pr.Rs) (he : s.e ≠ 0) : (Pr.param tk g s).2 = s := by
  unfold Pr.param
  rw [Pc.rkind_dead he]
  show (Pr.typed tk g s).2 = s
  rw [Pc.rtyped_dead he]
theorem rest_dead {ex : Pr.G} {s : Pr.Rs} (he : s.e ≠ 0) (hx : (ex s).2 = s) (a : List UInt8) : (Pr.defRest tk ex a s).2 = s := by
  unfold Pr.defRest
  simp only [Pc.rmust_dead he, Pc.rtyped_dead he, hx]
theorem rest_ok {ex : Pr.G} {s : Pr.Rs} (h0 : At tk u 4 [41]) (h1 : At tk (u + 1) 4 [58]) (h2 : At tk (u + 2) 2 [105, 110, 116]) (h3 : At tk (u + 3) 4 [61]) (hx : (ex ⟨u + 4, false, 0, 0⟩).2 = s) (a : List UInt8) :
    (Pr.defRest tk ex a ⟨u, false, 0, 0⟩).2 = (Pr.must tk [59] s).2 := by
  have ht : (Pr.typed tk ex ⟨u + 1, false, 0, 0⟩).2 = ⟨u + 3, false, 0, 0⟩ := typed_int h1 h2 (by rw [is_at h3]; rfl)
  unfold Pr.defRest
  simp only [must_at h0 (Or.inr rfl), ht, must_at h3 (Or.inr rfl), hx]
theorem def_state {ex : Pr.G} {x : List UInt8} {s1 s2 : Pr.Rs} (h0 : At tk u 2 tFun) (h1 : At tk (u + 1) 1 x) (h2 : At tk (u + 2) 4 [40]) (hl : ∀ a, (Pr.defList tk ex a ⟨u + 3, false, 0, 0⟩).2 = s1) (hr : ∀ a, (Pr.defRest tk ex a s1).2 = s2) :
    (Pr.definition tk ex ⟨u, false, 0, 0⟩).2 = s2 := by
  have hp : Pr.is tk tPub ⟨u, false, 0, 0⟩ = false := by rw [is_at h0]; rfl
  unfold Pr.definition Pr.head
  rw [if_neg (by rw [hp]; decide)]
  unfold Pr.defn Pr.defHead
  simp only [must_at h0 (Or.inl rfl), kind_at h1 (by decide), must_at h2 (Or.inr rfl), hl]
  exact hr _
end
end Go.Proofs.YtlejecaanllghaaGreatDoor.Lm
/- ParseLimits: the fault that the document's parser finds in the text that it builds. No program in sight. -/
namespace Go.Proofs.YtlejecaanllghaaGreatDoor.Lm
open Tr Ps

section
variable {tk : List Tk}
theorem Dr.rep {f : Nat → List Lx.Tok} {w c n u p : Nat} {R : List Lx.Tok} (hf : ∀ p, (f p).length = c) (h : Dr tk u (repsT f w n p ++ R)) : ∀ j, j ≤ n → Dr tk (u + j * c) (repsT f w (n - j) (p + j * w) ++ R)
  | 0, _ => by simpa using h
  | j + 1, hj => by
    have h1 := Dr.rep hf h j (by omega)
    obtain ⟨m, hm⟩ : ∃ m, n - j = m + 1 := ⟨n - j - 1, by omega⟩
    rw [hm] at h1
    have h2 : Dr tk (u + j * c) (f (p + j * w) ++ (repsT f w m (p + j * w + w) ++ R)) := by
      have : repsT f w (m + 1) (p + j * w) ++ R = f (p + j * w) ++ (repsT f w m (p + j * w + w) ++ R) := by
        show (f (p + j * w) ++ repsT f w m (p + j * w + w)) ++ R = _
        rw [List.append_assoc]
      rw [← this]
      exact h1
    have h3 := h2.more (hf _)
    have e1 : n - (j + 1) = m := by omega
    rw [e1, Nat.succ_mul, Nat.succ_mul, ← Nat.add_assoc, ← Nat.add_assoc]
    exact h3
theorem Dr.item {f : Nat → List Lx.Tok} {w c n u p j : Nat} {R : List Lx.Tok} (hf : ∀ p, (f p).length = c) (h : Dr tk u (repsT f w n p ++ R)) (hj : j < n) : ∃ R', Dr tk (u + j * c) (f (p + j * w) ++ R') := by
  have h1 := Dr.rep hf h j (by omega)
  obtain ⟨m, hm⟩ : ∃ m, n - j = m + 1 := ⟨n - j - 1, by omega⟩
  rw [hm] at h1
  refine ⟨repsT f w m (p + j * w + w) ++ R, ?_⟩
  rw [← List.append_assoc]
  exact h1
theorem Dr.seps {f : Nat → List Lx.Tok} {w c n u p j : Nat} {R : List Lx.Tok} (hf : ∀ p, (f p).length = c) (h : Dr tk u (sepT f w (n + 1) p ++ R)) (hj : j ≤ n) :
    ∃ R', Dr tk (u + j * (c + 1)) (f (p + j * (w + 1)) ++ R') ∧ (j < n → ∃ y R2, R' = comT y ++ R2) ∧ (j = n → R' = R) := by
  have hf2 : ∀ p, ((fun q => f q ++ comT (q + w)) p).length = c + 1 := fun p => by rw [List.length_append, hf]; rfl
  have h0 : Dr tk u (repsT (fun q => f q ++ comT (q + w)) (w + 1) n p ++ (f (p + n * (w + 1)) ++ R)) := by
    rw [sepT_succ, List.append_assoc] at h
    exact h
  by_cases hjn : j < n
  · obtain ⟨R', h1⟩ := Dr.item hf2 h0 hjn
    rw [List.append_assoc] at h1
    exact ⟨_, h1, fun _ => ⟨_, _, rfl⟩, fun e => absurd e (by omega)⟩
  · obtain rfl : j = n := by omega
    have h1 := Dr.rep hf2 h0 j (Nat.le_refl _)
    rw [Nat.sub_self] at h1
    exact ⟨R, h1, fun e => absurd e (by omega), fun _ => rfl⟩
variable {u : Nat}
theorem at_of {k : Nat} {L : List Lx.Tok} {kd : Int} {x : List UInt8} (h : Dr tk u L) (h1 : (((L[k]?).map toTk).getD ⟨0, [], [], 0⟩).kind = kd) (h2 : (((L[k]?).map toTk).getD ⟨0, [], [], 0⟩).text = x) : At tk (u + k) kd x :=
  ⟨by rw [h.at k]; exact h1, by rw [h.at k]; exact h2⟩
theorem imports_go {R : List Lx.Tok} : ∀ (n m u p : Nat) (a : List UInt8), Dr tk u (repsT impT 9 n p ++ R) → Pr.is tk tImport ⟨u + n * 3, false, 0, 0⟩ = false →
    (n ≤ m → ∃ a2, Pr.importsGo tk m a ⟨u, false, 0, 0⟩ = (a2, ⟨u + n * 3, false, 0, 0⟩, true)) ∧ (m < n → ∃ j, Pr.importsGo tk m a ⟨u, false, 0, 0⟩ = ([], ⟨j, false, 15, ((p + m * 9 : Nat) : Int)⟩, false))
  | 0, m, u, p, a, h, hn => by
    rw [Nat.zero_mul, Nat.add_zero] at hn ⊢
    refine ⟨fun _ => ⟨a, ?_⟩, fun hm => absurd hm (by omega)⟩
    cases m with
    | zero => unfold Pr.importsGo; rw [if_neg (by rw [hn]; decide)]
    | succ m => unfold Pr.importsGo; rw [if_neg (by rw [hn]; decide)]
  | n + 1, m, u, p, a, h, hn => by
    have d : Dr tk u (impT p ++ (repsT impT 9 n (p + 9) ++ R)) := by rw [← List.append_assoc]; exact h
    have h0 : At tk u 2 tImport := at_of (k := 0) d rfl rfl
    have h1 : At tk (u + 1) 1 [109] := at_of (k := 1) d rfl rfl
    have h2 : At tk (u + 2) 4 [59] := at_of (k := 2) d rfl rfl
    cases m with
    | zero =>
      refine ⟨fun hm => absurd hm (by omega), fun _ => ⟨u, ?_⟩⟩
      unfold Pr.importsGo
      rw [if_pos (by rw [is_at h0]; rfl)]
      have hp : (Pr.tok tk u).pos = (p : Int) := by
        have h3 := d.at 0
        rw [Nat.add_zero] at h3
        rw [h3]
        rfl
      unfold Pr.fail
      rw [if_pos rfl, hp, Nat.zero_mul]
      rfl
    | succ m =>
      have hs : ∃ a2, Pr.importsGo tk (m + 1) a ⟨u, false, 0, 0⟩ = Pr.importsGo tk m a2 ⟨u + 3, false, 0, 0⟩ := by
        conv => enter [1, a2, 1]; unfold Pr.importsGo
        rw [if_pos (by rw [is_at h0]; rfl)]
        simp only [leaf_at h0 (show (2 : Int) ≠ 5 by decide), kind_at h1 (show (1 : Int) ≠ 5 by decide), must_at h2 (Or.inr rfl)]
        exact ⟨_, rfl⟩
      obtain ⟨a2, hs⟩ := hs
      rw [hs]
      have e1 : u + (n + 1) * 3 = u + 3 + n * 3 := by omega
      have e2 : p + (m + 1) * 9 = p + 9 + m * 9 := by omega
      rw [e1] at hn ⊢
      rw [e2]
      obtain ⟨i1, i2⟩ := imports_go n m (u + 3) (p + 9) a2 (d.more rfl) hn
      exact ⟨fun hm => i1 (by omega), fun hm => i2 (by omega)⟩
theorem def_f {p : Nat} {R : List Lx.Tok} (d : Nat) (h : Dr tk u (defT p ++ R)) : (Pr.definition tk (Pr.lv tk (d + 1)).ex ⟨u, false, 0, 0⟩).2 = ⟨u + 9, false, 0, 0⟩ := by
  have h0 : At tk u 2 tFun := at_of (k := 0) h rfl rfl
  have h1 : At tk (u + 1) 1 [102] := at_of (k := 1) h rfl rfl
  have h2 : At tk (u + 2) 4 [40] := at_of (k := 2) h rfl rfl
  have h3 : At tk (u + 3) 4 [41] := at_of (k := 3) h rfl rfl
  have h4 : At tk (u + 4) 4 [58] := at_of (k := 4) h rfl rfl
  have h5 : At tk (u + 5) 2 [105, 110, 116] := at_of (k := 5) h rfl rfl
  have h6 : At tk (u + 6) 4 [61] := at_of (k := 6) h rfl rfl
  have h7 : At tk (u + 7) 3 [49] := at_of (k := 7) h rfl rfl
  have h8 : At tk (u + 8) 4 [59] := at_of (k := 8) h rfl rfl
  refine def_state h0 h1 h2 (s1 := ⟨u + 3, false, 0, 0⟩) (fun a => ?_) (fun a => ?_)
  · unfold Pr.defList
    rw [if_neg (by rw [is_at h3]; exact fun h => absurd h.2 (by decide))]
  · rw [rest_ok h3 h4 h5 h6 (ex_number h7 (Or.inr (Or.inl h8.2))) a]
    exact must_at h8 (Or.inr rfl)
theorem defs_go {R : List Lx.Tok} (d : Nat) : ∀ (n m u p : Nat) (a : List UInt8), Dr tk u (repsT defT 14 n p ++ R) →
    (n ≤ m → ∃ a2, Pr.defsGo tk (Pr.lv tk (d + 1)).ex m a ⟨u, false, 0, 0⟩ = Pr.defsGo tk (Pr.lv tk (d + 1)).ex (m - n) a2 ⟨u + n * 9, false, 0, 0⟩) ∧ (m < n → ∃ j, Pr.defsGo tk (Pr.lv tk (d + 1)).ex m a ⟨u, false, 0, 0⟩ = ([], ⟨j, false, 15, ((p + m * 14 : Nat) : Int)⟩, false))
  | 0, m, u, p, a, h => by
    rw [Nat.zero_mul, Nat.add_zero]
    exact ⟨fun _ => ⟨a, rfl⟩, fun hm => absurd hm (by omega)⟩
  | n + 1, m, u, p, a, h => by
    have dd : Dr tk u (defT p ++ (repsT defT 14 n (p + 14) ++ R)) := by rw [← List.append_assoc]; exact h
    have h0 : At tk u 2 tFun := at_of (k := 0) dd rfl rfl
    cases m with
    | zero =>
      refine ⟨fun hm => absurd hm (by omega), fun _ => ⟨u, ?_⟩⟩
      unfold Pr.defsGo
      rw [if_pos (by rw [is_at h0, is_at h0]; rfl)]
      have hp : (Pr.tok tk u).pos = (p : Int) := by
        have h3 := dd.at 0
        rw [Nat.add_zero] at h3
        rw [h3]
        rfl
      unfold Pr.fail
      rw [if_pos rfl, hp, Nat.zero_mul]
      rfl
    | succ m =>
      have hs : ∃ a2, Pr.defsGo tk (Pr.lv tk (d + 1)).ex (m + 1) a ⟨u, false, 0, 0⟩ = Pr.defsGo tk (Pr.lv tk (d + 1)).ex m a2 ⟨u + 9, false, 0, 0⟩ := by
        conv => enter [1, a2, 1]; unfold Pr.defsGo
        rw [if_pos (by rw [is_at h0, is_at h0]; rfl), def_f d dd]
        exact ⟨_, rfl⟩
      obtain ⟨a2, hs⟩ := hs
      rw [hs]
      have e1 : u + (n + 1) * 9 = u + 9 + n * 9 := by omega
      have e2 : p + (m + 1) * 14 = p + 14 + m * 14 := by omega
      have e3 : m + 1 - (n + 1) = m - n := by omega
      rw [e1, e2, e3]
      obtain ⟨i1, i2⟩ := defs_go d n m (u + 9) (p + 14) a2 (dd.more rfl)
      exact ⟨fun hm => i1 (by omega), fun hm => i2 (by omega)⟩
/-- A call with so many numbers. -/
theorem call_state {ex : Pr.G} {d : Nat} {lo : Pr.Lv} {s1 s2 : Pr.Rs} (hlo : lo.ex = ex) (h0 : At tk u 1 [104]) (h1 : At tk (u + 1) 4 [40]) (hl : (if Pr.is tk [41] ⟨u + 2, false, 0, 0⟩ = true then (⟨u + 2, false, 0, 0⟩ : Pr.Rs) else (Pr.args tk ex ⟨u + 2, false, 0, 0⟩).2) = s1)
    (h2 : (Pr.must tk [41] s1).2 = s2) (hs : Stop tk s2) : (Pr.express tk d lo ⟨u, false, 0, 0⟩).2 = s2 := by
  have hno : ∀ y, Pr.is tk y ⟨u, false, 0, 0⟩ = false := fun y => by rw [is_at h0]; rfl
  refine ex_atom rfl (hno _) (hno _) (hno _) (hno _) (hno _) ?_ hs
  unfold Pr.atom
  rw [if_pos rfl, if_neg (by rw [h0.1]; decide), if_neg (by rw [hno, hno]; decide), if_neg (by rw [hno, Bool.and_false]; decide), if_neg (by rw [hno]; decide), if_pos h0.1, hlo]
  unfold Pr.name
  simp only [leaf_at h0 (show (1 : Int) ≠ 5 by decide)]
  have hd : Pr.is tk [46] ⟨u + 1, false, 0, 0⟩ = false := by rw [is_at h1]; rfl
  have hp : Pr.is tk [40] ⟨u + 1, false, 0, 0⟩ = true := by rw [is_at h1]; rfl
  rw [hd, hp, if_neg (by decide)]
  have hc : ∀ a, Pr.callee tk a ⟨u + 1, false, 0, 0⟩ = (a, ⟨u + 1, false, 0, 0⟩) := fun a => by
    unfold Pr.callee
    rw [if_neg (by rw [hd]; decide)]
  rw [hc]
  unfold Pr.call
  simp only [must_at h1 (Or.inr rfl)]
  rw [← h2, ← hl]
  split <;> rfl
theorem parT_len (p : Nat) : (parT p).length = 3 := rfl
theorem argT_len (p : Nat) : (argT p).length = 1 := rfl
/-- The list of parameters. -/
theorem params_state {R : List Lx.Tok} {n p : Nat} {g : Pr.G} (h : Dr tk u (sepT parT 5 (n + 1) p ++ (hT (p + n * 6 + 5) ++ R))) (hf : n ≤ tk.length) :
    (Pr.params tk g ⟨u, false, 0, 0⟩).2 = if n < 8 then ⟨u + n * 4 + 3, false, 0, 0⟩ else ⟨u + 32, false, 15, ((p + 48 : Nat) : Int)⟩ := by
  have hit : ∀ j, j ≤ n → ∃ R', Dr tk (u + j * 4) (parT (p + j * 6) ++ R') ∧ (j < n → ∃ y R2, R' = comT y ++ R2) ∧ (j = n → R' = hT (p + n * 6 + 5) ++ R) := fun j hj => Dr.seps parT_len h hj
  have hw : (Pr.args tk (Pr.param tk g) ⟨u, false, 0, 0⟩).2 = if n < 8 then ⟨u + n * (3 + 1) + 3, false, 0, 0⟩ else ⟨u + 8 * (3 + 1), false, 15, (Pr.tok tk (u + 8 * (3 + 1))).pos⟩ := by
    refine args_many (Pr.param tk g) 3 n param_dead (fun j hj => ?_) (fun j hj => ?_) ?_ hf
    · obtain ⟨R', hd, hc, he⟩ := hit j hj
      refine param_one (x := [120]) (at_of (k := 0) hd rfl rfl) (at_of (k := 1) hd rfl rfl) (at_of (k := 2) hd rfl rfl) ?_
      by_cases hjn : j < n
      · obtain ⟨y, R2, rfl⟩ := hc hjn
        have h3 : At tk (u + j * (3 + 1) + 3) 4 [44] := at_of (k := 3) hd rfl rfl
        rw [is_at h3]
        rfl
      · rw [he (by omega)] at hd
        have h3 : At tk (u + j * (3 + 1) + 3) 4 [41] := at_of (k := 3) hd rfl rfl
        rw [is_at h3]
        rfl
    · obtain ⟨R', hd, hc, he⟩ := hit j (by omega)
      obtain ⟨y, R2, rfl⟩ := hc hj
      exact at_of (k := 3) hd rfl rfl
    · obtain ⟨R', hd, hc, he⟩ := hit n (Nat.le_refl _)
      rw [he rfl] at hd
      have h3 : At tk (u + n * (3 + 1) + 3) 4 [41] := at_of (k := 3) hd rfl rfl
      rw [is_at h3]
      rfl
  unfold Pr.params
  rw [hw]
  by_cases h8 : n < 8
  · rw [if_pos h8, if_pos h8]
  · rw [if_neg h8, if_neg h8]
    obtain ⟨R', hd, _, _⟩ := hit 8 (by omega)
    have h3 := hd.at 0
    have h4 : (Pr.tok tk (u + 8 * (3 + 1))).pos = ((p + 48 : Nat) : Int) := by
      rw [show u + 8 * (3 + 1) = u + 8 * 4 + 0 from rfl, h3]
      rfl
    rw [h4]
/-- The list of arguments. -/
theorem args_state {R : List Lx.Tok} {n p d : Nat} (h : Dr tk u (sepT argT 1 (n + 1) p ++ (endT (p + n * 2 + 1) ++ R))) (hf : n ≤ tk.length) :
    (Pr.args tk (Pr.lv tk (d + 1)).ex ⟨u, false, 0, 0⟩).2 = if n < 8 then ⟨u + n * 2 + 1, false, 0, 0⟩ else ⟨u + 16, false, 15, ((p + 16 : Nat) : Int)⟩ := by
  have hit : ∀ j, j ≤ n → ∃ R', Dr tk (u + j * 2) (argT (p + j * 2) ++ R') ∧ (j < n → ∃ y R2, R' = comT y ++ R2) ∧ (j = n → R' = endT (p + n * 2 + 1) ++ R) := fun j hj => Dr.seps argT_len h hj
  have hw : (Pr.args tk (Pr.lv tk (d + 1)).ex ⟨u, false, 0, 0⟩).2 = if n < 8 then ⟨u + n * (1 + 1) + 1, false, 0, 0⟩ else ⟨u + 8 * (1 + 1), false, 15, (Pr.tok tk (u + 8 * (1 + 1))).pos⟩ := by
    refine args_many (Pr.lv tk (d + 1)).ex 1 n (ex_dead d) (fun j hj => ?_) (fun j hj => ?_) ?_ hf
    · obtain ⟨R', hd, hc, he⟩ := hit j hj
      refine ex_number (x := [49]) (at_of (k := 0) hd rfl rfl) ?_
      by_cases hjn : j < n
      · obtain ⟨y, R2, rfl⟩ := hc hjn
        have h3 : At tk (u + j * (1 + 1) + 1) 4 [44] := at_of (k := 1) hd rfl rfl
        exact Or.inr (Or.inr (Or.inr h3.2))
      · rw [he (by omega)] at hd
        have h3 : At tk (u + j * (1 + 1) + 1) 4 [41] := at_of (k := 1) hd rfl rfl
        exact Or.inr (Or.inr (Or.inl h3.2))
    · obtain ⟨R', hd, hc, he⟩ := hit j (by omega)
      obtain ⟨y, R2, rfl⟩ := hc hj
      exact at_of (k := 1) hd rfl rfl
    · obtain ⟨R', hd, hc, he⟩ := hit n (Nat.le_refl _)
      rw [he rfl] at hd
      have h3 : At tk (u + n * (1 + 1) + 1) 4 [41] := at_of (k := 1) hd rfl rfl
      rw [is_at h3]
      rfl
  rw [hw]
  by_cases h8 : n < 8
  · rw [if_pos h8, if_pos h8]
  · rw [if_neg h8, if_neg h8]
    obtain ⟨R', hd, _, _⟩ := hit 8 (by omega)
    have h3 := hd.at 0
    have h4 : (Pr.tok tk (u + 8 * (1 + 1))).pos = ((p + 16 : Nat) : Int) := by
      rw [show u + 8 * (1 + 1) = u + 8 * 2 + 0 from rfl, h3]
      rfl
    rw [h4]
end
end Go.Proofs.YtlejecaanllghaaGreatDoor.Lm
/- What the document says of a text: plain. -/
namespace Go.Proofs.YtlejecaanllghaaGreatDoor

/-- What the document says of a text. -/
def Pr.whole (tk : List Tr.Tk) (d : Nat) (fm : Bool) : List UInt8 × Pr.Rs := if fm then Pr.alone tk (Pr.lv tk d).ex Pr.Rs.first else Pr.program tk (Pr.lv tk d).ex Pr.Rs.first
def Pr.read (l : List UInt8) (dp : Int) (fm : Bool) : List UInt8 × Int × Int :=
  if dp < 1 ∨ 200 < dp then ([], 12, 0)
  else if (Lx.lex l).2.1 ≠ 0 then ([], (Lx.lex l).2.1, (Lx.lex l).2.2)
  else if (Pr.whole ((Lx.lex l).1.map toTk) dp.toNat fm).2.e ≠ 0 then ([], (Pr.whole ((Lx.lex l).1.map toTk) dp.toNat fm).2.e, (Pr.whole ((Lx.lex l).1.map toTk) dp.toNat fm).2.pos)
  else ((Pr.whole ((Lx.lex l).1.map toTk) dp.toNat fm).1, 0, 0)
end Go.Proofs.YtlejecaanllghaaGreatDoor
/- slices.Index, slices.Contains at []string. -/
namespace Go.Proofs.YtlejecaanllghaaGreatDoor
open Go.RowKit

def strCells (l : List (List UInt8)) : List Value := l.map fun t => .string ⟨t.toArray⟩

set_option maxRecDepth 100000 in
theorem index_str {w : World} {P : Nat → Prop} {v : Value} {l : List (List UInt8)} {x : List UInt8} (h : RdS w P 1 v l.length (strCells l)) (hl : l.length ≤ 1073741824) :
    Calls Tryz.prog 223 #[v, .string ⟨x.toArray⟩] w fun e w' => ∃ r : Int, e = .returned (.int .i64 r) ∧ decide (0 ≤ r) = l.contains x ∧ w = w' := by
  obtain ⟨_, a, cl, rfl, _, hd⟩ := h
  have hl' : (l.length : Int) ≤ 1073741824 := by omega
  have HD := Lib.hid hd
  clear hd
  go_enter Tryz.func223, Tryz.ntmps223
  go_wp2
  go_loopg [8] l.length (fun k v8 wr => ∃ j : Nat, v8 = .int .i64 j ∧ k = l.length - j ∧ j ≤ l.length ∧ wr = w ∧ (l.take j).contains x = false)
  case atStart => exact ⟨0, rfl, rfl, Nat.zero_le _, rfl, by simp⟩
  case round =>
    obtain ⟨j, rfl, hk, hj, rfl, hall⟩ := hrel
    have HK := Lib.hid hk
    have HA := Lib.hid hall
    clear hk hall
    by_cases hlt : j < l.length
    · have hlt' : (j : Int) < (l.length : Int) := by omega
      obtain ⟨b2, off, rfl, _, hr⟩ := HD.out.resolve_left (fun h => by omega)
      have hcell : wr.cell? ⟨b2, off + j, none⟩ = some (.string ⟨(l[j]).toArray⟩) := hr j _ (by simp [strCells, List.getElem?_eq_getElem hlt])
      clear hr
      obtain ⟨y, hy⟩ : ∃ y, l[j] = y := ⟨_, rfl⟩
      rw [hy] at hcell
      have HY := Lib.hid hy
      clear hy
      by_cases he : x = y
      · subst he
        go_wp2
        go_ret
        refine ⟨(j : Int), rfl, ?_, rfl⟩
        have h2 : l.contains x = true := by
          rw [List.contains_iff_mem]
          have h3 := List.getElem_mem hlt
          rw [HY.out] at h3
          exact h3
        rw [h2]
        simp
      · have he2 : (x == y) = false := by simpa using he
        have HE := Lib.hid he
        clear he
        go_wp2
        go_roundg (l.length - (j + 1))
        case measure => have := HK.out; omega
        case rel =>
          refine ⟨j + 1, by go_num, rfl, by omega, rfl, ?_⟩
          rw [List.take_succ_eq_append_getElem hlt, HY.out]
          have := HA.out
          have h3 := HE.out
          simp only [List.contains_eq_mem, decide_eq_false_iff_not] at this ⊢
          simp [this, h3]
    · obtain rfl : j = l.length := by omega
      go_wp2
      go_ret
      refine ⟨-1, rfl, ?_, rfl⟩
      have h2 := HA.out
      rw [List.take_length] at h2
      rw [h2]
      rfl
theorem contains_str {w : World} {P : Nat → Prop} {v : Value} {l : List (List UInt8)} {x : List UInt8} (h : RdS w P 1 v l.length (strCells l)) (hl : l.length ≤ 1073741824) :
    Calls Tryz.prog 180 #[v, .string ⟨x.toArray⟩] w fun e w' => e = .returned (.bool (l.contains x)) ∧ w = w' := by
  have HI := Lib.hid (index_str (x := x) h hl)
  obtain ⟨a, c, rfl⟩ := h.form
  clear h
  go_enter Tryz.func180, Tryz.ntmps180
  go_wp2_with (go_at_call 223; refine HI.out.mono ?_; rintro e w1 ⟨r, rfl, hr, rfl⟩; have HR := Lib.hid hr; clear hr)
  go_ret
  exact ⟨by rw [← HR.out]; rfl, rfl⟩
end Go.Proofs.YtlejecaanllghaaGreatDoor
