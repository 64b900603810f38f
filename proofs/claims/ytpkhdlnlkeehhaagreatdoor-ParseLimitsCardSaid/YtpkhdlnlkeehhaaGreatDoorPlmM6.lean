/- Contracts and plain laws, in one text. Plain: whole programs: what the program's parser says is what the document's says. No program in sight. | Plain: the tokens of a text: the last one alone is the end; they stand one behind another. No program in sight. | ParseLimits: what the document's parser says of the text that it builds. No program in sight. | ParseLimits: the fault that the document's parser finds in the text that it builds. No program in sight. | append(own row, slice...): the slice may be of none. | append(own row, slice...) in a plain region: the slice may be of none. | The document's parser: rows, negation, factor, fo -/
import Derived.Test.YtpkhdlnlkeehhaaGreatDoorPlmM5
import Derived.Test.YtpkhdlnlkeehhaaGreatDoorPlmM1
import Derived.Test.YtpkhdlnlkeehhaaGreatDoorPlmM4
import Derived.Deep.Upon
import Derived.Deep.AppendLies
import Derived.Laws.Strings
/- Plain: whole programs: what the program's parser says is what the document's says. No program in sight. -/
namespace Go.Proofs.YtpkhdlnlkeehhaaGreatDoor.Pc
open Tr Ps

section
variable {tk : List Tk}

theorem rargs_dead' {g : Pr.G} {r : Pr.Rs} (hg : (g r).2 = r) (he : r.e ≠ 0) : (Pr.args tk g r).2 = r := by
  unfold Pr.args
  rw [hg, rargs_dead he]
theorem sim_param (ht : Toks tk) {ex : F} {g : Pr.G} (hx : Sim tk ex g) : Sim tk (param tk ex) (Pr.param tk g) := by
  refine ⟨fun s r he hi hr => ?_, fun s he => ?_, fun r he => ?_⟩
  · have o1 := sim_typed ht hx ((Out.nil hi hr).then (sim_kind ht (k := 1) (by decide)))
    have hl : (typed tk ex [(kind tk 1 s).1] (kind tk 1 s).2).2.e = 0 → 2 ≤ (typed tk ex [(kind tk 1 s).1] (kind tk 1 s).2).1.length := by
      intro _
      unfold typed
      simp only
      split <;> simp
    exact (o1.node (k := 4) (by decide) hl).cast (by rw [dig4]; simp [Pr.param])
  · simp only [lift, param, kind_dead he]
    have h := typed_dead (tk := tk) (ex := ex) (l := [0]) he
    rw [node_dead (by rw [h]; exact he)]
    exact h
  · simp only [Pr.param, rkind_dead he, rtyped_dead he]
theorem sim_imported (ht : Toks tk) {s0 s : St} {l : List Int} {r : Pr.Rs} {x : List UInt8} (o : Out tk s0 s l r x) (he : s.e = 0) (hk : nextB tk [tImport] s.used = true) :
    Out tk s0 (imported tk s).2 (l ++ [(imported tk s).1]) (Pr.must tk [59] (Pr.kind tk 1 (Pr.leaf tk r).2).2).2 (x ++ ([32, 40, 50] ++ (Pr.leaf tk r).1 ++ (Pr.kind tk 1 (Pr.leaf tk r).2).1 ++ (Pr.must tk [59] (Pr.kind tk 1 (Pr.leaf tk r).2).2).1 ++ [41])) := by
  have o1 := ((((Out.nil o.2.1 o.2.2.1).leaf ht he (next_kind hk)).1.then (sim_kind ht (k := 1) (by decide))).then (sim_must ht [59])).node (k := 2) (by decide) (fun _ => by simp [lift])
  refine ⟨o.1, o1.2.1, o1.2.2.1, fun e2 => ?_⟩
  have h := (o.2.2.2 he).trans o.2.1.2.2 (o1.2.2.2 e2)
  rw [dig2] at h
  simpa [lift, imported] using h
theorem sim_importsGo (ht : Toks tk) : ∀ (n : Nat) {s0 s : St} {l : List Int} {r : Pr.Rs} {x : List UInt8}, Out tk s0 s l r x →
    Out tk s0 (severalGo tk (imported tk) [tImport] n l s).2 (severalGo tk (imported tk) [tImport] n l s).1 (Pr.importsGo tk n x r).2.1 (Pr.importsGo tk n x r).1 ∧
    ((Pr.importsGo tk n x r).2.2 = false → (severalGo tk (imported tk) [tImport] n l s).2.e ≠ 0)
  | 0, s0, s, l, r, x, o => by
    have hb := both_is o tImport
    unfold severalGo Pr.importsGo
    by_cases h : s.e = 0 ∧ nextB tk [tImport] s.used = true
    · rw [if_pos h, if_pos (hb.1 h)]
      refine ⟨o.fail (by decide) _ _, fun _ => ?_⟩
      unfold fail
      rw [if_pos h.1]
      show (15 : Int) ≠ 0
      decide
    · rw [if_neg h, if_neg (fun e => h (hb.2 e))]
      exact ⟨o, fun e => by cases e⟩
  | n + 1, s0, s, l, r, x, o => by
    have hb := both_is o tImport
    unfold severalGo Pr.importsGo
    by_cases h : s.e = 0 ∧ nextB tk [tImport] s.used = true
    · rw [if_pos h, if_pos (hb.1 h)]
      exact sim_importsGo ht n (sim_imported ht o h.1 h.2)
    · rw [if_neg h, if_neg (fun e => h (hb.2 e))]
      exact ⟨o, fun e => by cases e⟩
theorem sim_defHead (ht : Toks tk) {s0 s : St} {l : List Int} {r : Pr.Rs} {x : List UInt8} (o : Out tk s0 s l r x) :
    Out tk s0 (defHead tk l s).2 (defHead tk l s).1 (Pr.defHead tk x r).2 (Pr.defHead tk x r).1 := by
  have o1 := ((o.then (sim_must ht tFun)).then (sim_kind ht (k := 1) (by decide))).then (sim_must ht [40])
  have e1 : (defHead tk l s).1 = l ++ (lift (must tk [tFun]) s).1 ++ (lift (kind tk 1) (lift (must tk [tFun]) s).2).1 ++ (lift (must tk [[40]]) (lift (kind tk 1) (lift (must tk [tFun]) s).2).2).1 := by simp [lift, defHead]
  rw [e1]
  exact o1.cast (by simp [Pr.defHead])
theorem sim_defList (ht : Toks tk) {ex : F} {g : Pr.G} (hx : Sim tk ex g) {s0 s : St} {l : List Int} {r : Pr.Rs} {x : List UInt8} (o : Out tk s0 s l r x) :
    Out tk s0 (list tk (param tk ex) s).2 (l ++ (list tk (param tk ex) s).1) (Pr.defList tk g x r).2 (Pr.defList tk g x r).1 := sim_list ht (sim_param ht hx) o
theorem sim_defRest (ht : Toks tk) {ex : F} {g : Pr.G} (hx : Sim tk ex g) {s0 s : St} {l : List Int} {r : Pr.Rs} {x : List UInt8} (o : Out tk s0 s l r x) :
    Out tk s0 (defRest tk ex l s).2 [(defRest tk ex l s).1] (Pr.defRest tk g x r).2 ([32, 40, 51] ++ (Pr.defRest tk g x r).1) := by
  have o1 := sim_typed ht hx (o.then (sim_must ht [41]))
  have o2 := (((o1.then (sim_must ht [61])).then hx).then (sim_must ht [59])).node (k := 3) (by decide) (fun _ => by simp [lift])
  have e1 : defRest tk ex l s = node 3 ((typed tk ex (l ++ (lift (must tk [[41]]) s).1) (lift (must tk [[41]]) s).2).1 ++ (lift (must tk [[61]]) (typed tk ex (l ++ (lift (must tk [[41]]) s).1) (lift (must tk [[41]]) s).2).2).1 ++ (lift ex (lift (must tk [[61]]) (typed tk ex (l ++ (lift (must tk [[41]]) s).1) (lift (must tk [[41]]) s).2).2).2).1 ++ (lift (must tk [[59]]) (lift ex (lift (must tk [[61]]) (typed tk ex (l ++ (lift (must tk [[41]]) s).1) (lift (must tk [[41]]) s).2).2).2).2).1) (lift (must tk [[59]]) (lift ex (lift (must tk [[61]]) (typed tk ex (l ++ (lift (must tk [[41]]) s).1) (lift (must tk [[41]]) s).2).2).2).2).2 := by
    simp [lift, defRest]
  rw [e1]
  exact o2.cast (by rw [dig3]; simp [Pr.defRest])
theorem sim_defn (ht : Toks tk) {ex : F} {g : Pr.G} (hx : Sim tk ex g) {s0 s : St} {l : List Int} {r : Pr.Rs} {x : List UInt8} (o : Out tk s0 s l r x) :
    Out tk s0 (defn tk ex l s).2 [(defn tk ex l s).1] (Pr.defn tk g x r).2 ([32, 40, 51] ++ (Pr.defn tk g x r).1) :=
  sim_defRest ht hx (sim_defList ht hx (sim_defHead ht o))
theorem rdef_pre {g : Pr.G} (p x : List UInt8) (r : Pr.Rs) : (Pr.defn tk g (p ++ x) r).2 = (Pr.defn tk g x r).2 ∧ (Pr.defn tk g (p ++ x) r).1 = p ++ (Pr.defn tk g x r).1 := by
  have h1 : Pr.defHead tk (p ++ x) r = (p ++ (Pr.defHead tk x r).1, (Pr.defHead tk x r).2) := by simp [Pr.defHead]
  have h2 : ∀ (y : List UInt8) (q : Pr.Rs), Pr.defList tk g (p ++ y) q = (p ++ (Pr.defList tk g y q).1, (Pr.defList tk g y q).2) := by
    intro y q
    unfold Pr.defList
    split <;> simp
  unfold Pr.defn
  simp only [h1, h2]
  unfold Pr.defRest
  simp
theorem sim_definition (ht : Toks tk) {ex : F} {g : Pr.G} (hx : Sim tk ex g) {s0 s : St} {l : List Int} {r : Pr.Rs} {x : List UInt8} (o : Out tk s0 s l r x) (he : s.e = 0) :
    Out tk s0 (definition tk ex s).2 (l ++ [(definition tk ex s).1]) (Pr.definition tk g r).2 (x ++ (Pr.definition tk g r).1) := by
  have hb := is_eq o.2.1 o.2.2.1 he tPub
  have h : Out tk s (definition tk ex s).2 [(definition tk ex s).1] (Pr.definition tk g r).2 (Pr.definition tk g r).1 := by
    have o0 := Out.nil o.2.1 o.2.2.1
    unfold definition Pr.definition Pr.head
    by_cases h : nextB tk [tPub] s.used = true
    · rw [if_pos h, if_pos (by rw [hb]; exact h)]
      have := rdef_pre (tk := tk) (g := g) [32, 40, 51] (Pr.leaf tk r).1 (Pr.leaf tk r).2
      simp only
      rw [this.1, this.2]
      exact sim_defn ht hx ((o0.leaf ht he (next_kind h)).1)
    · rw [if_neg h, if_neg (by rw [hb]; exact h)]
      have := rdef_pre (tk := tk) (g := g) [32, 40, 51] [] r
      simp only [List.append_nil] at this ⊢
      rw [this.1, this.2]
      exact sim_defn ht hx o0
  exact ⟨o.1, h.2.1, h.2.2.1, fun e2 => (o.2.2.2 he).trans o.2.1.2.2 (h.2.2.2 e2)⟩
theorem sim_defsGo (ht : Toks tk) {ex : F} {g : Pr.G} (hx : Sim tk ex g) : ∀ (n : Nat) {s0 s : St} {l ks : List Int} {r : Pr.Rs} {x : List UInt8}, Out tk s0 s (l ++ ks) r x →
    Out tk s0 (severalGo tk (definition tk ex) [tPub, tFun] n ks s).2 (l ++ (severalGo tk (definition tk ex) [tPub, tFun] n ks s).1) (Pr.defsGo tk g n x r).2.1 (Pr.defsGo tk g n x r).1 ∧
    ((Pr.defsGo tk g n x r).2.2 = false → (severalGo tk (definition tk ex) [tPub, tFun] n ks s).2.e ≠ 0)
  | 0, s0, s, l, ks, r, x, o => by
    have hb : (s.e = 0 ∧ nextB tk [tPub, tFun] s.used = true) ↔ (Pr.is tk tPub r || Pr.is tk tFun r) = true := by
      rw [both_any o]; simp [Pr.any]
    unfold severalGo Pr.defsGo
    by_cases h : s.e = 0 ∧ nextB tk [tPub, tFun] s.used = true
    · rw [if_pos h, if_pos (hb.1 h)]
      refine ⟨o.fail (by decide) _ _, fun _ => ?_⟩
      unfold fail
      rw [if_pos h.1]
      show (15 : Int) ≠ 0
      decide
    · rw [if_neg h, if_neg (fun e => h (hb.2 e))]
      exact ⟨o, fun e => by cases e⟩
  | n + 1, s0, s, l, ks, r, x, o => by
    have hb : (s.e = 0 ∧ nextB tk [tPub, tFun] s.used = true) ↔ (Pr.is tk tPub r || Pr.is tk tFun r) = true := by
      rw [both_any o]; simp [Pr.any]
    unfold severalGo Pr.defsGo
    by_cases h : s.e = 0 ∧ nextB tk [tPub, tFun] s.used = true
    · rw [if_pos h, if_pos (hb.1 h)]
      refine sim_defsGo ht hx n ?_
      rw [← List.append_assoc]
      exact sim_definition ht hx o h.1
    · rw [if_neg h, if_neg (fun e => h (hb.2 e))]
      exact ⟨o, fun e => by cases e⟩

/-- The end, and the root. -/
theorem sim_end (ht : Toks tk) {s : St} {l : List Int} {r : Pr.Rs} {x : List UInt8} (o : Out tk St.first s l r x) {k : Int} (hk : 1 ≤ k ∧ k ≤ 18) :
    (Pr.kind tk 5 r).2.e = (node k (l ++ [(kind tk 5 s).1]) (kind tk 5 s).2).2.e ∧
    ((node k (l ++ [(kind tk 5 s).1]) (kind tk 5 s).2).2.e ≠ 0 → (Pr.kind tk 5 r).2.pos = (node k (l ++ [(kind tk 5 s).1]) (kind tk 5 s).2).2.pos) ∧
    ((node k (l ++ [(kind tk 5 s).1]) (kind tk 5 s).2).2.e = 0 → Fm tk (node k (l ++ [(kind tk 5 s).1]) (kind tk 5 s).2).2.nodes ∧ (node k (l ++ [(kind tk 5 s).1]) (kind tk 5 s).2).2.used = tk.length ∧
      Got tk St.first (node k (l ++ [(kind tk 5 s).1]) (kind tk 5 s).2).2 [(node k (l ++ [(kind tk 5 s).1]) (kind tk 5 s).2).1] ([32, 40] ++ Lib.decDigits k.toNat ++ (x ++ (Pr.kind tk 5 r).1) ++ [41]) ∧
      ((node k (l ++ [(kind tk 5 s).1]) (kind tk 5 s).2).2.nodes[(node k (l ++ [(kind tk 5 s).1]) (kind tk 5 s).2).2.nodes.length - 1]?).map (·.kind) = some k) := by
  by_cases he : s.e = 0
  · obtain ⟨t, h1, h2, h3⟩ := o.2.1.get
    have hp := peek_tok o.2.1 o.2.2.1 he
    by_cases h5 : (peek tk s.used).kind = 5
    · have hu : s.used + 1 = tk.length := by
        have q := o.2.1.1
        rcases Nat.lt_or_ge (s.used + 1) tk.length with h4 | h4
        · exact absurd (h2 ▸ h5) (ht.other _ _ h4 h1)
        · omega
      have htx : t.text = [] := (ht.last t (by rw [← h1]; congr 1; omega)).2
      obtain ⟨g1, g2, g3, g4, _, g5⟩ := got_leaf o.2.1.2.2 h1
      have e1 : kind tk 5 s = leaf tk s := by unfold kind; rw [if_pos ⟨he, h5⟩]
      have e2 : Pr.kind tk 5 r = ([32, 36], r) := by
        unfold Pr.kind
        rw [if_pos ⟨o.2.2.1.1.trans he, by rw [hp]; exact h5⟩]
        unfold Pr.leaf
        rw [hp, if_pos h5]
      rw [e1, e2]
      rw [h2] at h5
      rw [if_pos h5, htx] at g5
      have hg := (o.2.2.2 he).trans o.2.1.2.2 g5
      have hroom := (o.2.2.2 he).room
      have z1 : St.first.nodes.length = 0 := rfl
      have z2 : St.first.used = 0 := rfl
      obtain ⟨k1, k2, k3, k4, _, k5⟩ := got_node g1 hg (g3.trans he) hk (by rw [g4, g2]; omega)
      refine ⟨by rw [k3]; exact o.2.2.1.1.trans he, fun h => absurd k3 h, fun _ => ⟨k1, by rw [k2, g2, hu], k5, ?_⟩⟩
      have hm : ¬ ((l ++ [(leaf tk s).1]).any (fun x => decide (x < 0) || decide (((leaf tk s).2.nodes.length : Int) ≤ x)) = true) := by
        simp only [List.any_eq_true, Bool.or_eq_true, decide_eq_true_eq, not_exists, not_and]
        intro y hy
        have := hg.mem hy
        omega
      have e3 : node k (l ++ [(leaf tk s).1]) (leaf tk s).2 = (((leaf tk s).2.nodes.length : Int), { (leaf tk s).2 with nodes := (leaf tk s).2.nodes ++ [⟨k, -1, l ++ [(leaf tk s).1]⟩] }) := by
        unfold node
        rw [if_pos (g3.trans he), if_neg hm]
      rw [e3]
      simp
    · have e1 : kind tk 5 s = (0, fail tk 22 s) := by unfold kind; rw [if_neg (by simp [h5])]
      have e2 : Pr.kind tk 5 r = ([], Pr.fail tk 22 r) := by unfold Pr.kind; rw [if_neg (by rw [hp]; simp [h5])]
      have o2 := o.fail (e := 22) (by decide) [] []
      have h6 : (fail tk 22 s).e ≠ 0 := by unfold fail; rw [if_pos he]; show (22 : Int) ≠ 0; decide
      rw [e1, e2]
      simp only
      rw [node_dead h6]
      exact ⟨o2.2.2.1.1, o2.2.2.1.2.1, fun h => absurd h h6⟩
  · have hr : r.e ≠ 0 := by rw [o.2.2.1.1]; exact he
    rw [kind_dead he, rkind_dead hr]
    simp only
    rw [node_dead he]
    exact ⟨o.2.2.1.1, o.2.2.1.2.1, fun h => absurd h he⟩

theorem several_dead {one : F} {ts : List (List UInt8)} {s : St} (he : s.e ≠ 0) (n : Nat) (ks : List Int) : (severalGo tk one ts n ks s).2 = s := by
  cases n <;> (unfold severalGo; rw [if_neg (by simp [he])])
/-- What both say of a whole text. -/
structure Same (tk : List Tk) (k : Int) (s : St) (r : Pr.Rs) (x : List UInt8) : Prop where
  e : r.e = s.e
  pos : s.e ≠ 0 → r.pos = s.pos
  right : s.e = 0 → Tr.right ⟨tk, s.nodes⟩ = true ∧ 0 < s.nodes.length ∧ dump ⟨tk, s.nodes⟩ (s.nodes.length - 1) = x ∧ (s.nodes[s.nodes.length - 1]?).map (·.kind) = some k
  used : s.e = 0 → s.used = tk.length
  small : s.e = 0 → s.nodes.length ≤ 3 * tk.length ∧ ∀ n ∈ s.nodes, n.kids.length ≤ s.nodes.length
theorem small_of_got {s : St} {l : List Int} {x : List UInt8} (hu : s.used = tk.length) (h : Got tk St.first s l x) : s.nodes.length ≤ 3 * tk.length ∧ ∀ n ∈ s.nodes, n.kids.length ≤ s.nodes.length := by
  have hr := h.room
  obtain ⟨m, hm, hp⟩ := h.nodes
  have hm2 : s.nodes = m := by rw [hm]; rfl
  subst hm2
  have hz : St.first.nodes.length = 0 := rfl
  have hz2 : St.first.used = 0 := rfl
  rw [hz, hz2] at hr
  have hl := hp.length_eq
  simp only [List.length_append, ints, List.length_map, List.length_range'] at hl
  refine ⟨by omega, fun n hn => ?_⟩
  have h1 : n.kids.length ≤ (s.nodes.flatMap (·.kids)).length := by
    obtain ⟨a, b, hab⟩ := List.append_of_mem hn
    rw [hab]
    simp only [List.flatMap_append, List.flatMap_cons, List.length_append]
    omega
  omega
theorem same_of_end (ht : Toks tk) {s : St} {l : List Int} {r : Pr.Rs} {x : List UInt8} (o : Out tk St.first s l r x) {k : Int} (hk : 1 ≤ k ∧ k ≤ 18) :
    Same tk k (node k (l ++ [(kind tk 5 s).1]) (kind tk 5 s).2).2 (Pr.kind tk 5 r).2 ([40] ++ Lib.decDigits k.toNat ++ (x ++ (Pr.kind tk 5 r).1) ++ [41]) := by
  obtain ⟨h1, h2, h3⟩ := sim_end ht o hk
  refine ⟨h1, h2, fun h => ?_, fun h => (h3 h).2.1, fun h => small_of_got (h3 h).2.1 (h3 h).2.2.1⟩
  obtain ⟨g1, g2, g3, g4⟩ := h3 h
  obtain ⟨r1, r2, _, r4⟩ := right_of_got g1 g2 g3
  refine ⟨r1, r2, ?_, g4⟩
  simpa using r4
theorem first_out (ht : Toks tk) : Inv tk St.first ∧ Rel St.first Pr.Rs.first := by
  refine ⟨⟨ht.pos, Nat.zero_le _, fun j n hj => by cases hj⟩, rfl, fun h => absurd rfl h, fun _ => ⟨rfl, rfl⟩⟩
theorem same_program (ht : Toks tk) (d : Nat) : Same tk 1 (Ps.program tk (Ps.lv tk d).ex St.first).2 (Pr.program tk (Pr.lv tk d).ex Pr.Rs.first).2 (Pr.program tk (Pr.lv tk d).ex Pr.Rs.first).1 := by
  have hx := (sim_lv ht d).ex
  obtain ⟨hi, hr⟩ := first_out ht
  obtain ⟨o1, n1⟩ := sim_importsGo ht 16 (x := []) (Out.nil hi hr)
  have hpre : ∀ (n : Nat) (p x : List UInt8) (r : Pr.Rs), (Pr.importsGo tk n (p ++ x) r).2 = (Pr.importsGo tk n x r).2 ∧ ((Pr.importsGo tk n x r).2.2 = true → (Pr.importsGo tk n (p ++ x) r).1 = p ++ (Pr.importsGo tk n x r).1) := by
    intro n
    induction n with
    | zero =>
      intro p x r
      unfold Pr.importsGo
      split <;> simp
    | succ n ih =>
      intro p x r
      unfold Pr.importsGo
      split
      · simp only
        rw [List.append_assoc]
        exact ih _ _ _
      · simp
  have hpre2 : ∀ (n : Nat) (p x : List UInt8) (r : Pr.Rs), (Pr.defsGo tk (Pr.lv tk d).ex n (p ++ x) r).2 = (Pr.defsGo tk (Pr.lv tk d).ex n x r).2 ∧ ((Pr.defsGo tk (Pr.lv tk d).ex n x r).2.2 = true → (Pr.defsGo tk (Pr.lv tk d).ex n (p ++ x) r).1 = p ++ (Pr.defsGo tk (Pr.lv tk d).ex n x r).1) := by
    intro n
    induction n with
    | zero =>
      intro p x r
      unfold Pr.defsGo
      split <;> simp
    | succ n ih =>
      intro p x r
      unfold Pr.defsGo
      split
      · rw [List.append_assoc]
        exact ih _ _ _
      · simp
  have p1 := hpre 16 [40, 49] [] Pr.Rs.first
  rw [List.append_nil] at p1
  unfold Ps.program Pr.program
  simp only
  rw [p1.1]
  have o1' := o1
  rw [← List.append_nil (severalGo tk (imported tk) [tImport] 16 [] St.first).1] at o1'
  obtain ⟨o2, n2⟩ := sim_defsGo ht hx 64 o1'
  have ss := same_of_end ht o2 (k := 1) (by decide)
  by_cases hb : (Pr.importsGo tk 16 [] Pr.Rs.first).2.2 = true
  · rw [if_pos hb, p1.2 hb]
    have p2 := hpre2 64 [40, 49] (Pr.importsGo tk 16 [] Pr.Rs.first).1 (Pr.importsGo tk 16 [] Pr.Rs.first).2.1
    rw [p2.1]
    by_cases hb2 : (Pr.defsGo tk (Pr.lv tk d).ex 64 (Pr.importsGo tk 16 [] Pr.Rs.first).1 (Pr.importsGo tk 16 [] Pr.Rs.first).2.1).2.2 = true
    · rw [if_pos hb2, p2.2 hb2]
      refine ⟨ss.e, ss.pos, fun h => ?_, ss.used, ss.small⟩
      obtain ⟨q1, q2, q3, q4⟩ := ss.right h
      refine ⟨q1, q2, ?_, q4⟩
      rw [q3, dig1]
      simp
    · have hd := n2 (by simpa using hb2)
      rw [if_neg hb2, kind_dead hd]
      simp only
      rw [node_dead hd]
      exact ⟨o2.2.2.1.1, o2.2.2.1.2.1, fun h => absurd h hd, fun h => absurd h hd, fun h => absurd h hd⟩
  · have hd := n1 (by simpa using hb)
    have hd2 := fun (n : Nat) (ks : List Int) => several_dead (tk := tk) (one := definition tk (Ps.lv tk d).ex) (ts := [tPub, tFun]) hd n ks
    rw [if_neg hb, hd2, kind_dead hd]
    simp only
    rw [node_dead hd]
    exact ⟨o1.2.2.1.1, o1.2.2.1.2.1, fun h => absurd h hd, fun h => absurd h hd, fun h => absurd h hd⟩
theorem same_alone (ht : Toks tk) (d : Nat) : Same tk 18 (alone tk (Ps.lv tk d).ex St.first).2 (Pr.alone tk (Pr.lv tk d).ex Pr.Rs.first).2 (Pr.alone tk (Pr.lv tk d).ex Pr.Rs.first).1 := by
  have hx := (sim_lv ht d).ex
  obtain ⟨hi, hr⟩ := first_out ht
  obtain ⟨i2, r2⟩ := (Out.nil hi hr).clause true
  have o1 : Out tk { St.first with clause := true } _ [((Ps.lv tk d).ex { St.first with clause := true }).1] _ _ := hx.go { St.first with clause := true } { Pr.Rs.first with inn := true } rfl i2 r2
  have o2 : Out tk St.first ((Ps.lv tk d).ex { St.first with clause := true }).2 [((Ps.lv tk d).ex { St.first with clause := true }).1] ((Pr.lv tk d).ex { Pr.Rs.first with inn := true }).2 ((Pr.lv tk d).ex { Pr.Rs.first with inn := true }).1 :=
    ⟨hi, o1.2.1, o1.2.2.1, fun e2 => ⟨(o1.2.2.2 e2).nodes, (o1.2.2.2 e2).used, (o1.2.2.2 e2).lvs, (o1.2.2.2 e2).text, (o1.2.2.2 e2).room⟩⟩
  have ss := same_of_end ht o2 (k := 18) (by decide)
  unfold alone Pr.alone
  refine ⟨ss.e, ss.pos, fun h => ?_, ss.used, ss.small⟩
  obtain ⟨q1, q2, q3, q4⟩ := ss.right h
  refine ⟨q1, q2, ?_, q4⟩
  simp only
  rw [show (node 18 [((Ps.lv tk d).ex { St.first with clause := true }).1, (kind tk 5 ((Ps.lv tk d).ex { St.first with clause := true }).2).1] (kind tk 5 ((Ps.lv tk d).ex { St.first with clause := true }).2).2) = (node 18 ([((Ps.lv tk d).ex { St.first with clause := true }).1] ++ [(kind tk 5 ((Ps.lv tk d).ex { St.first with clause := true }).2).1]) (kind tk 5 ((Ps.lv tk d).ex { St.first with clause := true }).2).2) from rfl, q3, dig18]
  simp
end
end Go.Proofs.YtpkhdlnlkeehhaaGreatDoor.Pc
/- Plain: the tokens of a text: the last one alone is the end; they stand one behind another. No program in sight. -/
namespace Go.Proofs.YtpkhdlnlkeehhaaGreatDoor.Pc
open Tr

def tkOf (t : Lx.Tok) : Tk := ⟨t.kind, t.lead, t.text, t.pos⟩
/-- Tokens that were read so far: none is the end; each stands no farther than the next one. -/
def SoFar (acc : List Lx.Tok) (p : Nat) : Prop := (∀ t ∈ acc, t.kind ≠ 5) ∧ acc.Pairwise (fun a b => a.pos ≤ b.pos) ∧ ∀ t ∈ acc, t.pos ≤ p
theorem SoFar.snoc {acc : List Lx.Tok} {p q : Nat} (h : SoFar acc p) {t : Lx.Tok} (hk : t.kind ≠ 5) (hp : p ≤ t.pos) (hq : t.pos ≤ q) : SoFar (acc ++ [t]) q := by
  refine ⟨fun x hx => ?_, ?_, fun x hx => ?_⟩
  · rcases List.mem_append.1 hx with hx | hx
    · exact h.1 x hx
    · rw [List.mem_singleton.1 hx]
      exact hk
  · rw [List.pairwise_append]
    refine ⟨h.2.1, by simp, fun a ha b hb => ?_⟩
    rw [List.mem_singleton.1 hb]
    exact Nat.le_trans (h.2.2 a ha) hp
  · rcases List.mem_append.1 hx with hx | hx
    · exact Nat.le_trans (h.2.2 x hx) (Nat.le_trans hp hq)
    · rw [List.mem_singleton.1 hx]
      exact hq
/-- A text's tokens. -/
structure LexedTo (ts : List Lx.Tok) : Prop where
  ends : ∃ (init : List Lx.Tok) (z : Lx.Tok), ts = init ++ [z] ∧ z.kind = 5 ∧ z.text = [] ∧ (∀ t ∈ init, t.kind ≠ 5)
  rising : ts.Pairwise fun a b => a.pos ≤ b.pos
theorem token_end {r : List UInt8} (he : (Lx.token r).2.2 = 0) (hk : (Lx.token r).1 = 5) : (Lx.token r).2.1 = [] := by
  have h := (Lx.token_text r he).2.1 hk
  rw [h]
  rfl
theorem lexGo_to : ∀ (n : Nat) (r : List UInt8) (p : Nat) (acc : List Lx.Tok), r.length < n → (Lx.lexGo n r p acc).2.1 = 0 → SoFar acc p → LexedTo (Lx.lexGo n r p acc).1
  | 0, _, _, _, h, _, _ => absurd h (by omega)
  | n + 1, r, p, acc, h, hz, hs => by
    by_cases he : (Lx.token (r.drop (Lx.between r).length)).2.2 = 0
    · have ht := Lx.token_text (r.drop (Lx.between r).length) he
      by_cases hk : (Lx.token (r.drop (Lx.between r).length)).1 = 5
      · rw [Lx.lexGo_end he hk]
        refine ⟨⟨acc, _, rfl, hk, token_end he hk, hs.1⟩, ?_⟩
        rw [List.pairwise_append]
        refine ⟨hs.2.1, by simp, fun a ha b hb => ?_⟩
        rw [List.mem_singleton.1 hb]
        exact Nat.le_trans (hs.2.2 a ha) (Nat.le_add_right _ _)
      · rw [Lx.lexGo_on he hk] at hz ⊢
        have h3 := ht.2.2 hk
        have h4 := ht.1.length_le
        simp only [List.length_drop] at h4
        exact lexGo_to n _ _ _ (by simp only [List.length_drop]; omega) hz (hs.snoc hk (Nat.le_add_right _ _) (Nat.le_add_right _ _))
    · rw [Lx.lexGo_bad he] at hz
      exact absurd hz he
theorem lex_to {l : List UInt8} (h : (Lx.lex l).2.1 = 0) : LexedTo (Lx.lex l).1 := by
  unfold Lx.lex at h ⊢
  split at h
  · exact absurd h (by simp)
  · rename_i hs
    rw [if_neg hs]
    exact lexGo_to _ _ _ _ (by omega) h ⟨fun t ht => (by cases ht), List.Pairwise.nil, fun t ht => (by cases ht)⟩
theorem LexedTo.toks {ts : List Lx.Tok} (h : LexedTo ts) : Toks (ts.map tkOf) := by
  obtain ⟨init, z, rfl, h1, h2, h3⟩ := h.ends
  refine ⟨by simp, fun k hk => ?_, fun i k hi hk => ?_⟩
  · simp only [List.length_map, List.length_append, List.length_singleton, Nat.add_sub_cancel, List.map_append] at hk
    rw [List.getElem?_append_right (by simp)] at hk
    simp only [List.length_map, Nat.sub_self, List.map_cons, List.map_nil, List.getElem?_cons_zero, Option.some.injEq] at hk
    subst hk
    exact ⟨by simp [tkOf, h1], h2⟩
  · simp only [List.length_map, List.length_append, List.length_singleton] at hi
    rw [List.map_append, List.getElem?_append_left (by simp; omega), List.getElem?_map] at hk
    cases hx : init[i]? with
    | none => rw [hx] at hk; cases hk
    | some t =>
      rw [hx] at hk
      simp only [Option.map_some, Option.some.injEq] at hk
      subst hk
      have := h3 t (List.mem_of_getElem? hx)
      simp only [tkOf]
      omega
theorem get_lt' {α : Type} {l : List α} {i : Nat} {x : α} (h : l[i]? = some x) : i < l.length := by
  rcases Nat.lt_or_ge i l.length with h1 | h1
  · exact h1
  · rw [List.getElem?_eq_none h1] at h; cases h
theorem LexedTo.pos {ts : List Lx.Tok} (h : LexedTo ts) {i j : Nat} {a b : Tk} (hij : i ≤ j) (ha : (ts.map tkOf)[i]? = some a) (hb : (ts.map tkOf)[j]? = some b) : a.pos ≤ b.pos := by
  rcases Nat.lt_or_ge i j with hlt | hge
  · rw [List.getElem?_map] at ha hb
    cases hx : ts[i]? with
    | none => rw [hx] at ha; cases ha
    | some x =>
      cases hy : ts[j]? with
      | none => rw [hy] at hb; cases hb
      | some y =>
        rw [hx] at ha
        rw [hy] at hb
        simp only [Option.map_some, Option.some.injEq] at ha hb
        subst ha hb
        have h1 := List.pairwise_iff_getElem.1 h.rising i j (get_lt' hx) (get_lt' hy) hlt
        rw [List.getElem?_eq_getElem (get_lt' hx)] at hx
        rw [List.getElem?_eq_getElem (get_lt' hy)] at hy
        simp only [Option.some.injEq] at hx hy
        rw [hx, hy] at h1
        simp only [tkOf]
        omega
  · obtain rfl : i = j := by omega
    rw [ha] at hb
    simp only [Option.some.injEq] at hb
    rw [hb]
    exact Int.le_refl _
end Go.Proofs.YtpkhdlnlkeehhaaGreatDoor.Pc
/- ParseLimits: what the document's parser says of the text that it builds. No program in sight. -/
namespace Go.Proofs.YtpkhdlnlkeehhaaGreatDoor.Lm
open Tr Ps

def Dr (tk : List Tk) (u : Nat) (L : List Lx.Tok) : Prop := tk.drop u = L.map toTk
theorem Dr.at {tk : List Tk} {u : Nat} {L : List Lx.Tok} (h : Dr tk u L) (k : Nat) : Pr.tok tk (u + k) = ((L[k]?).map toTk).getD ⟨0, [], [], 0⟩ := by
  have h : tk.drop u = L.map toTk := h
  unfold Pr.tok
  rw [← List.getElem?_drop, h, List.getElem?_map]
theorem Dr.more {tk : List Tk} {u n : Nat} {c L : List Lx.Tok} (h : Dr tk u (c ++ L)) (hn : c.length = n) : Dr tk (u + n) L := by
  have h : tk.drop u = (c ++ L).map toTk := h
  show tk.drop (u + n) = _
  rw [← List.drop_drop, h, List.map_append, List.drop_append_of_le_length (by rw [List.length_map, hn]; exact Nat.le_refl _), List.drop_of_length_le (by rw [List.length_map, hn]; exact Nat.le_refl _)]
  rfl
/-- A token's kind and text. -/
def At (tk : List Tk) (u : Nat) (k : Int) (x : List UInt8) : Prop := (Pr.tok tk u).kind = k ∧ (Pr.tok tk u).text = x
section
variable {tk : List Tk} {u : Nat} {k q : Int} {x : List UInt8} {b : Bool}
theorem is_at (h : At tk u k x) (y : List UInt8) : Pr.is tk y ⟨u, b, 0, q⟩ = ((decide (k = 2) || decide (k = 4)) && x == y) := by
  unfold Pr.is
  simp [h.1, h.2]
theorem leaf_at (h : At tk u k x) (hk : k ≠ 5) {e : Int} : (Pr.leaf tk ⟨u, b, e, q⟩).2 = ⟨u + 1, b, e, q⟩ := by
  unfold Pr.leaf
  rw [if_neg (by rw [h.1]; exact hk)]
theorem must_at (h : At tk u k x) (hk : k = 2 ∨ k = 4) : (Pr.must tk x ⟨u, b, 0, q⟩).2 = ⟨u + 1, b, 0, q⟩ := by
  unfold Pr.must
  rw [is_at h, if_pos (by rcases hk with rfl | rfl <;> simp)]
  exact leaf_at h (by rcases hk with rfl | rfl <;> decide)
theorem kind_at (h : At tk u k x) (hk : k ≠ 5) : (Pr.kind tk k ⟨u, b, 0, q⟩).2 = ⟨u + 1, b, 0, q⟩ := by
  unfold Pr.kind
  rw [if_pos ⟨rfl, h.1⟩]
  exact leaf_at h hk
/-- Behind such a token no operator comes. -/
def Stop (tk : List Tk) (s : Pr.Rs) : Prop := s.e ≠ 0 ∨ (Pr.tok tk s.i).text = [59] ∨ (Pr.tok tk s.i).text = [41] ∨ (Pr.tok tk s.i).text = [44]
theorem Stop.is {s : Pr.Rs} (h : Stop tk s) (y : List UInt8) (h1 : ([59] : List UInt8) ≠ y) (h2 : ([41] : List UInt8) ≠ y) (h3 : ([44] : List UInt8) ≠ y) : Pr.is tk y s = false := by
  unfold Pr.is
  rcases h with h | h | h | h
  · simp [h]
  · rw [h, show (([59] : List UInt8) == y) = false from by simpa using h1, Bool.and_false]
  · rw [h, show (([41] : List UInt8) == y) = false from by simpa using h2, Bool.and_false]
  · rw [h, show (([44] : List UInt8) == y) = false from by simpa using h3, Bool.and_false]
theorem Stop.any {s : Pr.Rs} (h : Stop tk s) (ts : List (List UInt8)) (hts : ∀ y ∈ ts, ([59] : List UInt8) ≠ y ∧ ([41] : List UInt8) ≠ y ∧ ([44] : List UInt8) ≠ y) : Pr.any tk ts s = false := by
  unfold Pr.any
  rw [List.any_eq_false]
  intro y hy
  rw [h.is y (hts y hy).1 (hts y hy).2.1 (hts y hy).2.2]
  decide
theorem row_stop {part : Pr.G} {ts : List (List UInt8)} {s s' : Pr.Rs} (hp : (part s).2 = s') (h : Pr.any tk ts s' = false) : (Pr.row tk part ts s).2 = s' := by
  unfold Pr.row
  cases tk.length with
  | zero => exact hp
  | succ n =>
    unfold Pr.rowGo
    rw [hp, if_neg (by rw [h]; decide)]
theorem ex_atom {d : Nat} {lo : Pr.Lv} {s s' : Pr.Rs} (h0 : s.e = 0) (hm : Pr.is tk [45] s = false) (hn : Pr.is tk tNot s = false) (hl : Pr.is tk tLet s = false) (hi : Pr.is tk tIf s = false) (ha : Pr.is tk tAssert s = false)
    (hat : (Pr.atom tk lo.ex s).2 = s') (hs : Stop tk s') : (Pr.express tk d lo s).2 = s' := by
  have h1 : (Pr.factor tk d lo s).2 = s' := by unfold Pr.factor; rw [hm]; exact hat
  have h2 : (Pr.product tk d lo s).2 = s' := row_stop h1 (hs.any _ (by decide))
  have h3 : (Pr.sum tk d lo s).2 = s' := row_stop h2 (hs.any _ (by decide))
  have h4 : (Pr.not tk d lo s).2 = s' := by
    unfold Pr.not
    rw [hn]
    show (if Pr.any tk sCmp (Pr.sum tk d lo s).2 = true then _ else _ : Pr.Txt × Pr.Rs).2 = s'
    rw [h3, if_neg (by rw [hs.any _ (by decide)]; decide)]
    exact h3
  have h5 : (Pr.and tk d lo s).2 = s' := row_stop h4 (hs.any _ (by decide))
  have h6 : (Pr.or tk d lo s).2 = s' := row_stop h5 (hs.any _ (by decide))
  have h7 : (Pr.formula tk d lo s).2 = s' := by
    unfold Pr.formula
    show (if Pr.is tk [61, 62] (Pr.or tk d lo s).2 = true then _ else _ : Pr.Txt × Pr.Rs).2 = s'
    rw [h6, if_neg (by rw [hs.is _ (by decide) (by decide) (by decide)]; decide)]
    exact h6
  unfold Pr.express
  rw [if_pos h0, hl, hi, ha]
  simpa using h7
theorem express_dead {d : Nat} {lo : Pr.Lv} {s : Pr.Rs} (he : s.e ≠ 0) : (Pr.express tk d lo s).2 = s := by unfold Pr.express; rw [if_neg he]
theorem ex_dead (d : Nat) (s : Pr.Rs) (he : s.e ≠ 0) : ((Pr.lv tk (d + 1)).ex s).2 = s := express_dead he
/-- A number alone. -/
theorem ex_number {d : Nat} {x : List UInt8} (h : At tk u 3 x) (hs : Stop tk ⟨u + 1, false, 0, 0⟩) : ((Pr.lv tk (d + 1)).ex ⟨u, false, 0, 0⟩).2 = ⟨u + 1, false, 0, 0⟩ := by
  show (Pr.express tk d (Pr.lv tk d) ⟨u, false, 0, 0⟩).2 = _
  have hno : ∀ y, Pr.is tk y ⟨u, false, 0, 0⟩ = false := fun y => by rw [is_at h]; rfl
  refine ex_atom rfl (hno _) (hno _) (hno _) (hno _) (hno _) ?_ hs
  unfold Pr.atom
  rw [if_pos rfl, if_pos h.1]
  exact leaf_at h (by decide)
theorem args_go (part : Pr.G) (w n : Nat) (hdead : ∀ s : Pr.Rs, s.e ≠ 0 → (part s).2 = s) (hp : ∀ j, j ≤ n → (part ⟨u + j * (w + 1), false, 0, 0⟩).2 = ⟨u + j * (w + 1) + w, false, 0, 0⟩)
    (hc : ∀ j, j < n → At tk (u + j * (w + 1) + w) 4 [44]) (hn : Pr.is tk [44] ⟨u + n * (w + 1) + w, false, 0, 0⟩ = false) :
    ∀ (f j : Nat) (a : List UInt8), j ≤ n → n ≤ f + j → j ≤ 7 → (Pr.argsGo tk part f (j + 1) a ⟨u + j * (w + 1) + w, false, 0, 0⟩).2 = if n < 8 then ⟨u + n * (w + 1) + w, false, 0, 0⟩ else ⟨u + 8 * (w + 1), false, 15, (Pr.tok tk (u + 8 * (w + 1))).pos⟩
  | 0, j, a, h1, h2, h3 => by
    obtain rfl : j = n := by omega
    rw [if_pos (by omega)]
    rfl
  | f + 1, j, a, h1, h2, h3 => by
    unfold Pr.argsGo
    by_cases hj : j = n
    · subst hj
      rw [if_neg (by rw [hn]; decide), if_pos (by omega)]
    · have hjn : j < n := by omega
      have hat := hc j hjn
      rw [if_pos (by rw [is_at hat]; rfl)]
      have hl : (Pr.leaf tk ⟨u + j * (w + 1) + w, false, 0, 0⟩).2 = ⟨u + (j + 1) * (w + 1), false, 0, 0⟩ := by
        rw [leaf_at hat (by decide)]
        have : u + j * (w + 1) + w + 1 = u + (j + 1) * (w + 1) := by rw [Nat.succ_mul]; omega
        rw [this]
      simp only [hl]
      by_cases h8 : j + 1 = 8
      · obtain rfl : j = 7 := by omega
        have hf : Pr.fail tk 15 ⟨u + (7 + 1) * (w + 1), false, 0, 0⟩ = ⟨u + 8 * (w + 1), false, 15, (Pr.tok tk (u + 8 * (w + 1))).pos⟩ := by
          unfold Pr.fail
          rw [if_pos rfl]
        rw [if_pos rfl, hf, if_neg (by omega)]
        have hd := hdead ⟨u + 8 * (w + 1), false, 15, (Pr.tok tk (u + 8 * (w + 1))).pos⟩ (show (15 : Int) ≠ 0 by decide)
        rw [hd]
        exact Pc.rargs_dead (show (15 : Int) ≠ 0 by decide) _ _ _
      · rw [if_neg h8, hp (j + 1) (by omega)]
        exact args_go part w n hdead hp hc hn f (j + 1) _ (by omega) (by omega) (by omega)
theorem args_many (part : Pr.G) (w n : Nat) (hdead : ∀ s : Pr.Rs, s.e ≠ 0 → (part s).2 = s) (hp : ∀ j, j ≤ n → (part ⟨u + j * (w + 1), false, 0, 0⟩).2 = ⟨u + j * (w + 1) + w, false, 0, 0⟩)
    (hc : ∀ j, j < n → At tk (u + j * (w + 1) + w) 4 [44]) (hn : Pr.is tk [44] ⟨u + n * (w + 1) + w, false, 0, 0⟩ = false) (hf : n ≤ tk.length) :
    (Pr.args tk part ⟨u, false, 0, 0⟩).2 = if n < 8 then ⟨u + n * (w + 1) + w, false, 0, 0⟩ else ⟨u + 8 * (w + 1), false, 15, (Pr.tok tk (u + 8 * (w + 1))).pos⟩ := by
  have h0 := hp 0 (Nat.zero_le _)
  have h1 := args_go part w n hdead hp hc hn tk.length 0 (part ⟨u, false, 0, 0⟩).1 (Nat.zero_le _) (by omega) (by omega)
  rw [Nat.zero_mul, Nat.add_zero] at h0 h1
  unfold Pr.args
  rw [h0]
  exact h1
theorem typed_int {g : Pr.G} (h0 : At tk u 4 [58]) (h1 : At tk (u + 1) 2 [105, 110, 116]) (h2 : Pr.is tk [123] ⟨u + 2, false, 0, 0⟩ = false) : (Pr.typed tk g ⟨u, false, 0, 0⟩).2 = ⟨u + 2, false, 0, 0⟩ := by
  have hb : ∀ a, (Pr.base tk a ⟨u + 1, false, 0, 0⟩).2 = ⟨u + 2, false, 0, 0⟩ := fun a => by
    unfold Pr.base
    rw [if_pos (by rw [is_at h1]; rfl)]
    exact leaf_at h1 (by decide)
  unfold Pr.typed
  simp only [must_at h0 (Or.inr rfl), hb]
  rw [if_neg (by rw [h2]; decide)]
  exact hb _
theorem param_one {g : Pr.G} {x : List UInt8} (h : At tk u 1 x) (h0 : At tk (u + 1) 4 [58]) (h1 : At tk (u + 2) 2 [105, 110, 116]) (h2 : Pr.is tk [123] ⟨u + 3, false, 0, 0⟩ = false) : (Pr.param tk g ⟨u, false, 0, 0⟩).2 = ⟨u + 3, false, 0, 0⟩ := by
  unfold Pr.param
  simp only [kind_at h (show (1 : Int) ≠ 5 by decide)]
  exact typed_int h0 h1 h2
theorem param_dead {g : Pr.G} (s : Pr.Rs) (he : s.e ≠ 0) : (Pr.param tk g s).2 = s := by
  unfold Pr.param
  rw [Pc.rkind_dead he]
  show (Pr.typed tk g s).2 = s
  rw [Pc.rtyped_dead he]
theorem rest_dead {ex : Pr.G} {s : Pr.Rs} (he : s.e ≠ 0) (hx : (ex s).2 = s) (a : List UInt8) : (Pr.defRest tk ex a s).2 = s := by
  unfold Pr.defRest
  simp only [Pc.rmust_dead he, Pc.rtyped_dead he, hx]
theorem rest_ok {ex : Pr.G} {s : Pr.Rs} (h0 : At tk u 4 [41]) (h1 : At tk (u + 1) 4 [58]) (h2 : At tk (u + 2) 2 [105, 110, 116]) (h3 : At tk (u + 3) 4 [61]) (hx : (ex ⟨u + 4, false, 0, 0⟩).2 = s) (a : List UInt8) :
    (Pr.defRest tk ex a ⟨u, false, 0, 0⟩).2 = (Pr.must tk [59] s).2 := by
  have ht : (Pr.typed tk ex ⟨u + 1, false, 0, 0⟩).2 = ⟨u + 3, false, 0, 0⟩ := typed_int h1 h2 (by rw [is_at h3]; rfl)
  unfold Pr.defRest
  simp only [must_at h0 (Or.inr rfl), ht, must_at h3 (Or.inr rfl), hx]
theorem def_state {ex : Pr.G} {x : List UInt8} {s1 s2 : Pr.Rs} (h0 : At tk u 2 tFun) (h1 : At tk (u + 1) 1 x) (h2 : At tk (u + 2) 4 [40]) (hl : ∀ a, (Pr.defList tk ex a ⟨u + 3, false, 0, 0⟩).2 = s1) (hr : ∀ a, (Pr.defRest tk ex a s1).2 = s2) :
    (Pr.definition tk ex ⟨u, false, 0, 0⟩).2 = s2 := by
  have hp : Pr.is tk tPub ⟨u, false, 0, 0⟩ = false := by rw [is_at h0]; rfl
  unfold Pr.definition Pr.head
  rw [if_neg (by rw [hp]; decide)]
  unfold Pr.defn Pr.defHead
  simp only [must_at h0 (Or.inl rfl), kind_at h1 (by decide), must_at h2 (Or.inr rfl), hl]
  exact hr _
end
end Go.Proofs.YtpkhdlnlkeehhaaGreatDoor.Lm
/- ParseLimits: the fault that the document's parser finds in the text that it builds. No program in sight. -/
namespace Go.Proofs.YtpkhdlnlkeehhaaGreatDoor.Lm
open Tr Ps

section
variable {tk : List Tk}
theorem Dr.rep {f : Nat → List Lx.Tok} {w c n u p : Nat} {R : List Lx.Tok} (hf : ∀ p, (f p).length = c) (h : Dr tk u (repsT f w n p ++ R)) : ∀ j, j ≤ n → Dr tk (u + j * c) (repsT f w (n - j) (p + j * w) ++ R)
  | 0, _ => by simpa using h
  | j + 1, hj => by
    have h1 := Dr.rep hf h j (by omega)
    obtain ⟨m, hm⟩ : ∃ m, n - j = m + 1 := ⟨n - j - 1, by omega⟩
    rw [hm] at h1
    have h2 : Dr tk (u + j * c) (f (p + j * w) ++ (repsT f w m (p + j * w + w) ++ R)) := by
      have : repsT f w (m + 1) (p + j * w) ++ R = f (p + j * w) ++ (repsT f w m (p + j * w + w) ++ R) := by
        show (f (p + j * w) ++ repsT f w m (p + j * w + w)) ++ R = _
        rw [List.append_assoc]
      rw [← this]
      exact h1
    have h3 := h2.more (hf _)
    have e1 : n - (j + 1) = m := by omega
    rw [e1, Nat.succ_mul, Nat.succ_mul, ← Nat.add_assoc, ← Nat.add_assoc]
    exact h3
theorem Dr.item {f : Nat → List Lx.Tok} {w c n u p j : Nat} {R : List Lx.Tok} (hf : ∀ p, (f p).length = c) (h : Dr tk u (repsT f w n p ++ R)) (hj : j < n) : ∃ R', Dr tk (u + j * c) (f (p + j * w) ++ R') := by
  have h1 := Dr.rep hf h j (by omega)
  obtain ⟨m, hm⟩ : ∃ m, n - j = m + 1 := ⟨n - j - 1, by omega⟩
  rw [hm] at h1
  refine ⟨repsT f w m (p + j * w + w) ++ R, ?_⟩
  rw [← List.append_assoc]
  exact h1
theorem Dr.seps {f : Nat → List Lx.Tok} {w c n u p j : Nat} {R : List Lx.Tok} (hf : ∀ p, (f p).length = c) (h : Dr tk u (sepT f w (n + 1) p ++ R)) (hj : j ≤ n) :
    ∃ R', Dr tk (u + j * (c + 1)) (f (p + j * (w + 1)) ++ R') ∧ (j < n → ∃ y R2, R' = comT y ++ R2) ∧ (j = n → R' = R) := by
  have hf2 : ∀ p, ((fun q => f q ++ comT (q + w)) p).length = c + 1 := fun p => by rw [List.length_append, hf]; rfl
  have h0 : Dr tk u (repsT (fun q => f q ++ comT (q + w)) (w + 1) n p ++ (f (p + n * (w + 1)) ++ R)) := by
    rw [sepT_succ, List.append_assoc] at h
    exact h
  by_cases hjn : j < n
  · obtain ⟨R', h1⟩ := Dr.item hf2 h0 hjn
    rw [List.append_assoc] at h1
    exact ⟨_, h1, fun _ => ⟨_, _, rfl⟩, fun e => absurd e (by omega)⟩
  · obtain rfl : j = n := by omega
    have h1 := Dr.rep hf2 h0 j (Nat.le_refl _)
    rw [Nat.sub_self] at h1
    exact ⟨R, h1, fun e => absurd e (by omega), fun _ => rfl⟩
variable {u : Nat}
theorem at_of {k : Nat} {L : List Lx.Tok} {kd : Int} {x : List UInt8} (h : Dr tk u L) (h1 : (((L[k]?).map toTk).getD ⟨0, [], [], 0⟩).kind = kd) (h2 : (((L[k]?).map toTk).getD ⟨0, [], [], 0⟩).text = x) : At tk (u + k) kd x :=
  ⟨by rw [h.at k]; exact h1, by rw [h.at k]; exact h2⟩
theorem imports_go {R : List Lx.Tok} : ∀ (n m u p : Nat) (a : List UInt8), Dr tk u (repsT impT 9 n p ++ R) → Pr.is tk tImport ⟨u + n * 3, false, 0, 0⟩ = false →
    (n ≤ m → ∃ a2, Pr.importsGo tk m a ⟨u, false, 0, 0⟩ = (a2, ⟨u + n * 3, false, 0, 0⟩, true)) ∧ (m < n → ∃ j, Pr.importsGo tk m a ⟨u, false, 0, 0⟩ = ([], ⟨j, false, 15, ((p + m * 9 : Nat) : Int)⟩, false))
  | 0, m, u, p, a, h, hn => by
    rw [Nat.zero_mul, Nat.add_zero] at hn ⊢
    refine ⟨fun _ => ⟨a, ?_⟩, fun hm => absurd hm (by omega)⟩
    cases m with
    | zero => unfold Pr.importsGo; rw [if_neg (by rw [hn]; decide)]
    | succ m => unfold Pr.importsGo; rw [if_neg (by rw [hn]; decide)]
  | n + 1, m, u, p, a, h, hn => by
    have d : Dr tk u (impT p ++ (repsT impT 9 n (p + 9) ++ R)) := by rw [← List.append_assoc]; exact h
    have h0 : At tk u 2 tImport := at_of (k := 0) d rfl rfl
    have h1 : At tk (u + 1) 1 [109] := at_of (k := 1) d rfl rfl
    have h2 : At tk (u + 2) 4 [59] := at_of (k := 2) d rfl rfl
    cases m with
    | zero =>
      refine ⟨fun hm => absurd hm (by omega), fun _ => ⟨u, ?_⟩⟩
      unfold Pr.importsGo
      rw [if_pos (by rw [is_at h0]; rfl)]
      have hp : (Pr.tok tk u).pos = (p : Int) := by
        have h3 := d.at 0
        rw [Nat.add_zero] at h3
        rw [h3]
        rfl
      unfold Pr.fail
      rw [if_pos rfl, hp, Nat.zero_mul]
      rfl
    | succ m =>
      have hs : ∃ a2, Pr.importsGo tk (m + 1) a ⟨u, false, 0, 0⟩ = Pr.importsGo tk m a2 ⟨u + 3, false, 0, 0⟩ := by
        conv => enter [1, a2, 1]; unfold Pr.importsGo
        rw [if_pos (by rw [is_at h0]; rfl)]
        simp only [leaf_at h0 (show (2 : Int) ≠ 5 by decide), kind_at h1 (show (1 : Int) ≠ 5 by decide), must_at h2 (Or.inr rfl)]
        exact ⟨_, rfl⟩
      obtain ⟨a2, hs⟩ := hs
      rw [hs]
      have e1 : u + (n + 1) * 3 = u + 3 + n * 3 := by omega
      have e2 : p + (m + 1) * 9 = p + 9 + m * 9 := by omega
      rw [e1] at hn ⊢
      rw [e2]
      obtain ⟨i1, i2⟩ := imports_go n m (u + 3) (p + 9) a2 (d.more rfl) hn
      exact ⟨fun hm => i1 (by omega), fun hm => i2 (by omega)⟩
theorem def_f {p : Nat} {R : List Lx.Tok} (d : Nat) (h : Dr tk u (defT p ++ R)) : (Pr.definition tk (Pr.lv tk (d + 1)).ex ⟨u, false, 0, 0⟩).2 = ⟨u + 9, false, 0, 0⟩ := by
  have h0 : At tk u 2 tFun := at_of (k := 0) h rfl rfl
  have h1 : At tk (u + 1) 1 [102] := at_of (k := 1) h rfl rfl
  have h2 : At tk (u + 2) 4 [40] := at_of (k := 2) h rfl rfl
  have h3 : At tk (u + 3) 4 [41] := at_of (k := 3) h rfl rfl
  have h4 : At tk (u + 4) 4 [58] := at_of (k := 4) h rfl rfl
  have h5 : At tk (u + 5) 2 [105, 110, 116] := at_of (k := 5) h rfl rfl
  have h6 : At tk (u + 6) 4 [61] := at_of (k := 6) h rfl rfl
  have h7 : At tk (u + 7) 3 [49] := at_of (k := 7) h rfl rfl
  have h8 : At tk (u + 8) 4 [59] := at_of (k := 8) h rfl rfl
  refine def_state h0 h1 h2 (s1 := ⟨u + 3, false, 0, 0⟩) (fun a => ?_) (fun a => ?_)
  · unfold Pr.defList
    rw [if_neg (by rw [is_at h3]; exact fun h => absurd h.2 (by decide))]
  · rw [rest_ok h3 h4 h5 h6 (ex_number h7 (Or.inr (Or.inl h8.2))) a]
    exact must_at h8 (Or.inr rfl)
theorem defs_go {R : List Lx.Tok} (d : Nat) : ∀ (n m u p : Nat) (a : List UInt8), Dr tk u (repsT defT 14 n p ++ R) →
    (n ≤ m → ∃ a2, Pr.defsGo tk (Pr.lv tk (d + 1)).ex m a ⟨u, false, 0, 0⟩ = Pr.defsGo tk (Pr.lv tk (d + 1)).ex (m - n) a2 ⟨u + n * 9, false, 0, 0⟩) ∧ (m < n → ∃ j, Pr.defsGo tk (Pr.lv tk (d + 1)).ex m a ⟨u, false, 0, 0⟩ = ([], ⟨j, false, 15, ((p + m * 14 : Nat) : Int)⟩, false))
  | 0, m, u, p, a, h => by
    rw [Nat.zero_mul, Nat.add_zero]
    exact ⟨fun _ => ⟨a, rfl⟩, fun hm => absurd hm (by omega)⟩
  | n + 1, m, u, p, a, h => by
    have dd : Dr tk u (defT p ++ (repsT defT 14 n (p + 14) ++ R)) := by rw [← List.append_assoc]; exact h
    have h0 : At tk u 2 tFun := at_of (k := 0) dd rfl rfl
    cases m with
    | zero =>
      refine ⟨fun hm => absurd hm (by omega), fun _ => ⟨u, ?_⟩⟩
      unfold Pr.defsGo
      rw [if_pos (by rw [is_at h0, is_at h0]; rfl)]
      have hp : (Pr.tok tk u).pos = (p : Int) := by
        have h3 := dd.at 0
        rw [Nat.add_zero] at h3
        rw [h3]
        rfl
      unfold Pr.fail
      rw [if_pos rfl, hp, Nat.zero_mul]
      rfl
    | succ m =>
      have hs : ∃ a2, Pr.defsGo tk (Pr.lv tk (d + 1)).ex (m + 1) a ⟨u, false, 0, 0⟩ = Pr.defsGo tk (Pr.lv tk (d + 1)).ex m a2 ⟨u + 9, false, 0, 0⟩ := by
        conv => enter [1, a2, 1]; unfold Pr.defsGo
        rw [if_pos (by rw [is_at h0, is_at h0]; rfl), def_f d dd]
        exact ⟨_, rfl⟩
      obtain ⟨a2, hs⟩ := hs
      rw [hs]
      have e1 : u + (n + 1) * 9 = u + 9 + n * 9 := by omega
      have e2 : p + (m + 1) * 14 = p + 14 + m * 14 := by omega
      have e3 : m + 1 - (n + 1) = m - n := by omega
      rw [e1, e2, e3]
      obtain ⟨i1, i2⟩ := defs_go d n m (u + 9) (p + 14) a2 (dd.more rfl)
      exact ⟨fun hm => i1 (by omega), fun hm => i2 (by omega)⟩
/-- A call with so many numbers. -/
theorem call_state {ex : Pr.G} {d : Nat} {lo : Pr.Lv} {s1 s2 : Pr.Rs} (hlo : lo.ex = ex) (h0 : At tk u 1 [104]) (h1 : At tk (u + 1) 4 [40]) (hl : (if Pr.is tk [41] ⟨u + 2, false, 0, 0⟩ = true then (⟨u + 2, false, 0, 0⟩ : Pr.Rs) else (Pr.args tk ex ⟨u + 2, false, 0, 0⟩).2) = s1)
    (h2 : (Pr.must tk [41] s1).2 = s2) (hs : Stop tk s2) : (Pr.express tk d lo ⟨u, false, 0, 0⟩).2 = s2 := by
  have hno : ∀ y, Pr.is tk y ⟨u, false, 0, 0⟩ = false := fun y => by rw [is_at h0]; rfl
  refine ex_atom rfl (hno _) (hno _) (hno _) (hno _) (hno _) ?_ hs
  unfold Pr.atom
  rw [if_pos rfl, if_neg (by rw [h0.1]; decide), if_neg (by rw [hno, hno]; decide), if_neg (by rw [hno, Bool.and_false]; decide), if_neg (by rw [hno]; decide), if_pos h0.1, hlo]
  unfold Pr.name
  simp only [leaf_at h0 (show (1 : Int) ≠ 5 by decide)]
  have hd : Pr.is tk [46] ⟨u + 1, false, 0, 0⟩ = false := by rw [is_at h1]; rfl
  have hp : Pr.is tk [40] ⟨u + 1, false, 0, 0⟩ = true := by rw [is_at h1]; rfl
  rw [hd, hp, if_neg (by decide)]
  have hc : ∀ a, Pr.callee tk a ⟨u + 1, false, 0, 0⟩ = (a, ⟨u + 1, false, 0, 0⟩) := fun a => by
    unfold Pr.callee
    rw [if_neg (by rw [hd]; decide)]
  rw [hc]
  unfold Pr.call
  simp only [must_at h1 (Or.inr rfl)]
  rw [← h2, ← hl]
  split <;> rfl
theorem parT_len (p : Nat) : (parT p).length = 3 := rfl
theorem argT_len (p : Nat) : (argT p).length = 1 := rfl
/-- The list of parameters. -/
theorem params_state {R : List Lx.Tok} {n p : Nat} {g : Pr.G} (h : Dr tk u (sepT parT 5 (n + 1) p ++ (hT (p + n * 6 + 5) ++ R))) (hf : n ≤ tk.length) :
    (Pr.params tk g ⟨u, false, 0, 0⟩).2 = if n < 8 then ⟨u + n * 4 + 3, false, 0, 0⟩ else ⟨u + 32, false, 15, ((p + 48 : Nat) : Int)⟩ := by
  have hit : ∀ j, j ≤ n → ∃ R', Dr tk (u + j * 4) (parT (p + j * 6) ++ R') ∧ (j < n → ∃ y R2, R' = comT y ++ R2) ∧ (j = n → R' = hT (p + n * 6 + 5) ++ R) := fun j hj => Dr.seps parT_len h hj
  have hw : (Pr.args tk (Pr.param tk g) ⟨u, false, 0, 0⟩).2 = if n < 8 then ⟨u + n * (3 + 1) + 3, false, 0, 0⟩ else ⟨u + 8 * (3 + 1), false, 15, (Pr.tok tk (u + 8 * (3 + 1))).pos⟩ := by
    refine args_many (Pr.param tk g) 3 n param_dead (fun j hj => ?_) (fun j hj => ?_) ?_ hf
    · obtain ⟨R', hd, hc, he⟩ := hit j hj
      refine param_one (x := [120]) (at_of (k := 0) hd rfl rfl) (at_of (k := 1) hd rfl rfl) (at_of (k := 2) hd rfl rfl) ?_
      by_cases hjn : j < n
      · obtain ⟨y, R2, rfl⟩ := hc hjn
        have h3 : At tk (u + j * (3 + 1) + 3) 4 [44] := at_of (k := 3) hd rfl rfl
        rw [is_at h3]
        rfl
      · rw [he (by omega)] at hd
        have h3 : At tk (u + j * (3 + 1) + 3) 4 [41] := at_of (k := 3) hd rfl rfl
        rw [is_at h3]
        rfl
    · obtain ⟨R', hd, hc, he⟩ := hit j (by omega)
      obtain ⟨y, R2, rfl⟩ := hc hj
      exact at_of (k := 3) hd rfl rfl
    · obtain ⟨R', hd, hc, he⟩ := hit n (Nat.le_refl _)
      rw [he rfl] at hd
      have h3 : At tk (u + n * (3 + 1) + 3) 4 [41] := at_of (k := 3) hd rfl rfl
      rw [is_at h3]
      rfl
  unfold Pr.params
  rw [hw]
  by_cases h8 : n < 8
  · rw [if_pos h8, if_pos h8]
  · rw [if_neg h8, if_neg h8]
    obtain ⟨R', hd, _, _⟩ := hit 8 (by omega)
    have h3 := hd.at 0
    have h4 : (Pr.tok tk (u + 8 * (3 + 1))).pos = ((p + 48 : Nat) : Int) := by
      rw [show u + 8 * (3 + 1) = u + 8 * 4 + 0 from rfl, h3]
      rfl
    rw [h4]
/-- The list of arguments. -/
theorem args_state {R : List Lx.Tok} {n p d : Nat} (h : Dr tk u (sepT argT 1 (n + 1) p ++ (endT (p + n * 2 + 1) ++ R))) (hf : n ≤ tk.length) :
    (Pr.args tk (Pr.lv tk (d + 1)).ex ⟨u, false, 0, 0⟩).2 = if n < 8 then ⟨u + n * 2 + 1, false, 0, 0⟩ else ⟨u + 16, false, 15, ((p + 16 : Nat) : Int)⟩ := by
  have hit : ∀ j, j ≤ n → ∃ R', Dr tk (u + j * 2) (argT (p + j * 2) ++ R') ∧ (j < n → ∃ y R2, R' = comT y ++ R2) ∧ (j = n → R' = endT (p + n * 2 + 1) ++ R) := fun j hj => Dr.seps argT_len h hj
  have hw : (Pr.args tk (Pr.lv tk (d + 1)).ex ⟨u, false, 0, 0⟩).2 = if n < 8 then ⟨u + n * (1 + 1) + 1, false, 0, 0⟩ else ⟨u + 8 * (1 + 1), false, 15, (Pr.tok tk (u + 8 * (1 + 1))).pos⟩ := by
    refine args_many (Pr.lv tk (d + 1)).ex 1 n (ex_dead d) (fun j hj => ?_) (fun j hj => ?_) ?_ hf
    · obtain ⟨R', hd, hc, he⟩ := hit j hj
      refine ex_number (x := [49]) (at_of (k := 0) hd rfl rfl) ?_
      by_cases hjn : j < n
      · obtain ⟨y, R2, rfl⟩ := hc hjn
        have h3 : At tk (u + j * (1 + 1) + 1) 4 [44] := at_of (k := 1) hd rfl rfl
        exact Or.inr (Or.inr (Or.inr h3.2))
      · rw [he (by omega)] at hd
        have h3 : At tk (u + j * (1 + 1) + 1) 4 [41] := at_of (k := 1) hd rfl rfl
        exact Or.inr (Or.inr (Or.inl h3.2))
    · obtain ⟨R', hd, hc, he⟩ := hit j (by omega)
      obtain ⟨y, R2, rfl⟩ := hc hj
      exact at_of (k := 1) hd rfl rfl
    · obtain ⟨R', hd, hc, he⟩ := hit n (Nat.le_refl _)
      rw [he rfl] at hd
      have h3 : At tk (u + n * (1 + 1) + 1) 4 [41] := at_of (k := 1) hd rfl rfl
      rw [is_at h3]
      rfl
  rw [hw]
  by_cases h8 : n < 8
  · rw [if_pos h8, if_pos h8]
  · rw [if_neg h8, if_neg h8]
    obtain ⟨R', hd, _, _⟩ := hit 8 (by omega)
    have h3 := hd.at 0
    have h4 : (Pr.tok tk (u + 8 * (1 + 1))).pos = ((p + 16 : Nat) : Int) := by
      rw [show u + 8 * (1 + 1) = u + 8 * 2 + 0 from rfl, h3]
      rfl
    rw [h4]
end
end Go.Proofs.YtpkhdlnlkeehhaaGreatDoor.Lm
/- append(own row, slice...): the slice may be of none. -/
namespace Go.Proofs.YtpkhdlnlkeehhaaGreatDoor
open Go.RowKit

theorem run_append_row {P : Program} (w : World) (t ty : TypeId) (base : Nat) (e : TypeId) (i : TypeInfo) (z : Value) (size bytes : Nat) (ht : P.underlying t = some (.slice e)) (hi : P.info? e = some i) (hz : i.zero = some z)
    (hsize : i.size = size) (hby : i.bytes = bytes) (hzs : z.cells.size = size) (hsz : 0 < size)
    (v : Value) (n : Nat) (xs : List Value) (hown : w.ownsRow base e size v n xs) {Q : Nat → Prop} {x : Value} {m : Nat} {news : List Value} (hx : RdS w Q size x m news) (h1 : ∀ u ∈ news, u.oneCell' = true)
    (h63 : n + m ≤ maxLen) (hbytes : (n + m) * bytes ≤ 140737488355328) (hbase : base ≤ w.heap.size) :
    ∃ a cap w', (Builtin.append_ #[t, t] ty #[v, x]).run P w = .ok (.slice a (n + m) cap) w' ∧
      w'.ownsRow base e size (.slice a (n + m) cap) (n + m) (xs ++ news) ∧ w.grownBy w' v.ownBlock ∧ (∀ k, (Value.slice a (n + m) cap).ownBlock = some k → v.ownBlock = some k ∨ k = w.heap.size) := by
  obtain ⟨hl, ax, cx, rfl, hmc, hr⟩ := hx
  rcases Nat.eq_zero_or_pos m with h0 | h0
  · subst h0
    obtain rfl : news = [] := List.eq_nil_of_length_eq_zero (by simpa using hl)
    have hs : Src P i.size t (.slice ax 0 cx) 0 [] w := by
      rcases ax with _ | ad
      · exact Src.ofNil w ht cx
      · exact Src.ofSlice w ht ad 0 cx [] (by simp) (fun j u h => by simp at h) (fun u h => by cases h)
    have key : ∃ a c, v = .slice a n c ∧ n ≤ c := by
      rcases hown.2 with ⟨rfl, rfl⟩ | ⟨g, cap, cur, rfl, _, _, hn, _⟩
      · exact ⟨none, 0, rfl, Nat.le_refl _⟩
      · exact ⟨_, cap, rfl, hn⟩
    obtain ⟨a, c, rfl, hnc⟩ := key
    refine ⟨a, c, w, run_append_nothing (P := P) w t t ty e i ht hi a n c hnc _ hs, by simpa using hown, ⟨rfl, rfl, rfl, Nat.le_refl _, fun _ _ _ => rfl⟩, fun k hk => Or.inl hk⟩
  · rcases hr with ⟨_, h⟩ | ⟨b, off, rfl, _, hrg⟩
    · omega
    · obtain ⟨g, cap, w', hr, h2, h3, h4, h5⟩ := run_append_lies (P := P) w t ty base e i z size bytes ht hi hz hsize hby hzs hsz v n xs hown ⟨b, off, none⟩ m cx news hl (fun j u hj => by
        have := hrg j u hj
        rwa [Addr.add_mid]) h1 h0 h63 hbytes hbase w.heap.size rfl
      refine ⟨some ⟨g, 0, none⟩, cap, w', hr, h2, h3, fun k hk => ?_⟩
      simp only [Value.ownBlock, Option.some.injEq] at hk
      subst hk
      exact h4

/-- At a step of a region that draws its order. -/
theorem step_append_row {P : Program} {w : World} {ops : Array Oper} {o : Oper} {a : Act} {K : Act → World → Prop} {Q : Exit → Act → World → Prop} {E : Prop} (hgd : o.guard = none) (s x : Operand) (t : TypeId)
    (ho : o.op = .call { callee := .builtin .append, args := #[s, x], argTypes := #[t, t] })
    (base : Nat) (e : TypeId) (i : TypeInfo) (z : Value) (size bytes : Nat) (ht : P.underlying t = some (.slice e)) (hi : P.info? e = some i) (hz : i.zero = some z)
    (hsize : i.size = size) (hby : i.bytes = bytes) (hzs : z.cells.size = size) (hsz : 0 < size)
    (v : Value) (n : Nat) (xs : List Value) (hs : a.eval s = v) (hown : w.ownsRow base e size v n xs) {R : Nat → Prop} {xv : Value} {m : Nat} {news : List Value} (hxv : a.eval x = xv) (hx : RdS w R size xv m news) (h1 : ∀ u ∈ news, u.oneCell' = true)
    (h63 : n + m ≤ maxLen) (hbytes : (n + m) * bytes ≤ 140737488355328) (hbase : base ≤ w.heap.size)
    (h : ∀ a2 cap w', w'.ownsRow base e size (.slice a2 (n + m) cap) (n + m) (xs ++ news) → w.grownBy w' v.ownBlock → (∀ k, (Value.slice a2 (n + m) cap).ownBlock = some k → v.ownBlock = some k ∨ k = w.heap.size) → K (a.put o.dst (.slice a2 (n + m) cap)) w') :
    if Region.wanted o (yielded ops a.tmps) = true then Oper.wp P o a w K Q else E := by
  have hw : Region.wanted o (yielded ops a.tmps) = true := by simp [Region.wanted, hgd]
  rw [if_pos hw]
  obtain ⟨a2, cap, w', hr, h2, h3, h4⟩ := run_append_row (P := P) w t o.type base e i z size bytes ht hi hz hsize hby hzs hsz v n xs hown hx h1 h63 hbytes hbase
  unfold Oper.wp execOp
  simp only [ho, resolve, invoke, builtin, Sem.run_bind, Sem.run_pure, Result.andThen_ok, List.map_toArray, List.map_cons, List.map_nil, hs, hxv, hr]
  exact h a2 cap w' h2 h3 h4
end Go.Proofs.YtpkhdlnlkeehhaaGreatDoor
/- append(own row, slice...) in a plain region: the slice may be of none. -/
namespace Go.Proofs.YtpkhdlnlkeehhaaGreatDoor
open Go.RowKit

theorem wpList_append_row {P : Program} {ops : Array Oper} {rest : List Oper} {o : Oper} {a : Act} {Q : Exit → Act → World → Prop} {w : World} (hgd : o.guard = none) (s x : Operand) (t : TypeId)
    (ho : o.op = .call { callee := .builtin .append, args := #[s, x], argTypes := #[t, t] })
    (base : Nat) (e : TypeId) (i : TypeInfo) (z : Value) (size bytes : Nat) (ht : P.underlying t = some (.slice e)) (hi : P.info? e = some i) (hz : i.zero = some z)
    (hsize : i.size = size) (hby : i.bytes = bytes) (hzs : z.cells.size = size) (hsz : 0 < size)
    (v : Value) (n : Nat) (xs : List Value) (hs : a.eval s = v) (hown : w.ownsRow base e size v n xs) {R : Nat → Prop} {xv : Value} {m : Nat} {news : List Value} (hxv : a.eval x = xv) (hx : RdS w R size xv m news) (h1 : ∀ u ∈ news, u.oneCell' = true)
    (h63 : n + m ≤ maxLen) (hbytes : (n + m) * bytes ≤ 140737488355328) (hbase : base ≤ w.heap.size)
    (h : ∀ a2 cap w', w'.ownsRow base e size (.slice a2 (n + m) cap) (n + m) (xs ++ news) → w.grownBy w' v.ownBlock → (∀ k, (Value.slice a2 (n + m) cap).ownBlock = some k → v.ownBlock = some k ∨ k = w.heap.size) → wpList P ops Q rest (a.put o.dst (.slice a2 (n + m) cap)) w') :
    wpList P ops Q (o :: rest) a w := by
  refine wpList_plain hgd fun K hK => ?_
  obtain ⟨a2, cap, w', hr, h2, h3, h4⟩ := run_append_row (P := P) w t o.type base e i z size bytes ht hi hz hsize hby hzs hsz v n xs hown hx h1 h63 hbytes hbase
  unfold Oper.wp execOp
  simp only [ho, resolve, invoke, builtin, Sem.run_bind, Sem.run_pure, Result.andThen_ok, List.map_toArray, List.map_cons, List.map_nil, hs, hxv, hr]
  exact hK _ _ (h a2 cap w' h2 h3 h4)

/-- Q, but for an own row. -/
def Off (Q : Nat → Prop) (v : Value) (k : Nat) : Prop := Q k ∧ v.ownBlock ≠ some k
theorem Off.up {Q : Nat → Prop} {v : Value} {W : World} (h : Up Q W) {base n size : Nat} {e : TypeId} {xs : List Value} (ho : W.ownsRow base e size v n xs) : Up (Off Q v) W := fun k hk => ⟨h k hk, fun e => by
  have := (ho.lt k e).2
  omega⟩
theorem FrT.grown {ts : List TypeId} {W Wr W3 : World} {v : Value} (h : FrT ts W Wr) (hg : Wr.grownBy W3 v.ownBlock) (hv : ∀ k, v.ownBlock = some k → W.heap.size ≤ k) : FrT ts W W3 := by
  refine ⟨hg.os.trans h.os, hg.tape.trans h.tape, hg.output.trans h.output, Nat.le_trans h.size hg.size, fun k o hk hn => ?_⟩
  have h1 := h.block k o hk hn
  rw [hg.block k (lt_heap h1) fun e => ?_, h1]
  have := hv k e.symm
  have := lt_heap hk
  omega
/-- Behind an append onto the own row. -/
theorem PI.appended {Q : Nat → Prop} {w0 W W3 : World} {p b base n : Nat} {tk : List Tr.Tk} {dp : Int} {s : Ps.St} {v v3 : Value} {xs : List Value} (h : PI (Off Q v) w0 W p b tk dp s) (ho : W.ownsRow base 3 1 v n xs) (hbase : w0.heap.size ≤ base)
    (hg : W.grownBy W3 v.ownBlock) (hat : ∀ k, v3.ownBlock = some k → v.ownBlock = some k ∨ k = W.heap.size) : PI (Off Q v3) w0 W3 p b tk dp s := by
  have h1 : PI (fun k => Off Q v k ∧ k ≠ W.heap.size) w0 W p b tk dp s := h.imp fun k hk hq => ⟨hq, by omega⟩
  refine (h1.grown ho hbase (fun k hk hq => hq.1.2 hk) hg).imp fun k _ hq => ⟨hq.1.1, fun e => ?_⟩
  rcases hat k e with h2 | h2
  · exact hq.1.2 h2
  · exact hq.2 h2
end Go.Proofs.YtpkhdlnlkeehhaaGreatDoor
/- The document's parser: rows, negation, factor, formula: the walks. -/
namespace Go.Proofs.YtpkhdlnlkeehhaaGreatDoor
open Go.RowKit

theorem wpList_cat {P : Program} {ops : Array Oper} {rest : List Oper} {o : Oper} {a : Act} {Q : Exit → Act → World → Prop} {w : World} (hgd : o.guard = none) (x y : Operand) (t t2 : TypeId)
    (ho : o.op = .binOp .add t x y t2) {l m : List UInt8} (hx : a.eval x = .string ⟨l.toArray⟩) (hy : a.eval y = .string ⟨m.toArray⟩) (hlen : l.length + m.length ≤ 9000000000000000000)
    (h : wpList P ops Q rest (a.put o.dst (.string ⟨(l ++ m).toArray⟩)) w) : wpList P ops Q (o :: rest) a w := by
  refine wpList_plain hgd fun K hK => ?_
  unfold Oper.wp execOp
  simp only [ho, hx, hy]
  have hs : ¬ ((((⟨l.toArray⟩ : ByteArray).size + (⟨m.toArray⟩ : ByteArray).size : Nat) : Int) > IntKind.i64.max) := by
    have e1 : (⟨l.toArray⟩ : ByteArray).size = l.length := by simp [ByteArray.size]
    have e2 : (⟨m.toArray⟩ : ByteArray).size = m.length := by simp [ByteArray.size]
    rw [e1, e2]
    show ¬ ((l.length + m.length : Nat) : Int) > 9223372036854775807
    omega
  have hg : (eqGuard BinOp.add t x y (.string ⟨l.toArray⟩) (.string ⟨m.toArray⟩)).run P w = .ok () w := by simp [eqGuard]
  have hb : (binOp .add t (.string ⟨l.toArray⟩) (.string ⟨m.toArray⟩)).run P w = .ok (.string ⟨(l ++ m).toArray⟩) w := by
    rw [binOp_string_add]
    unfold Op.stringOp
    simp only [if_neg hs, Sem.run_pure, str_add]
  simp only [Sem.run_bind, hg, hb, Result.andThen_ok, Sem.run_pure]
  exact hK _ _ h

/-- What is known of a function of the document's parser's. -/
def QKnows (w0 : World) (p : Nat) (vt : Value) (tk : List Tr.Tk) (dp : Int) (k : FuncId) (args : Array Value) (f : Pr.G) : Prop :=
  ∀ (W : World) (r : Pr.Rs), QI w0 W p vt tk dp r → r.i < tk.length → Calls Tryz.prog k args W (Gives w0 p vt tk dp (f r))
theorem rowGo_more {tk : List Tr.Tk} {part : Pr.G} {ts : List (List UInt8)} {n : Nat} {a : List UInt8} {r : Pr.Rs} (h : Pr.any tk ts r = true) : Pr.rowGo tk part ts (n + 1) a r = Pr.rowGo tk part ts n (Pr.bin a (Pr.leaf tk r).1 (part (Pr.leaf tk r).2).1) (part (Pr.leaf tk r).2).2 := by
  rw [Pr.rowGo, if_pos h]
theorem rowGo_stop {tk : List Tr.Tk} {part : Pr.G} {ts : List (List UInt8)} (n : Nat) {a : List UInt8} {r : Pr.Rs} (h : Pr.any tk ts r = false) : Pr.rowGo tk part ts n a r = (a, r) := by
  cases n with
  | zero => rfl
  | succ n => rw [Pr.rowGo, if_neg (by simp [h])]

section
variable {w0 : World} {p : Nat} {vt : Value} {tk : List Tr.Tk} {dp : Int}

set_option maxRecDepth 100000 in
set_option maxHeartbeats 4000000 in
theorem qor_calls (ho : QOk tk) {n : Int} {f : Pr.G} (hf : Pr.Fit tk f 0) (hk : QKnows w0 p vt tk dp 110 #[.pointer (some ⟨p, 0, none⟩), .int .i64 n] f) :
    QKnows w0 p vt tk dp 95 #[.pointer (some ⟨p, 0, none⟩), .int .i64 n] (Pr.row tk f Ps.sOr) := by
  intro W r h hi
  have HO := Lib.hid ho
  have Q0 := Lib.hid (And.intro h hi)
  have HK := Lib.hid (And.intro hk hf)
  clear ho h hi hf hk
  go_enter Tryz.func95, Tryz.ntmps95
  go_wp2_with (refine wpList_cat rfl _ _ _ _ rfl rfl rfl (by (try simp only [List.length_append, List.length_cons, List.length_nil]); omega) ?_)
  refine (HK.out.1 _ _ Q0.out.1 Q0.out.2).mono ?_
  rintro e W1 ⟨rfl, h⟩
  have hf := HK.out.2 r Q0.out.2
  obtain ⟨⟨x1, r1⟩, hx⟩ : ∃ q, f r = q := ⟨_, rfl⟩
  rw [hx] at h hf ⊢
  have hb := HO.out.fits hf (by decide)
  have Q1 := Lib.hid (And.intro h hb.2)
  have HL1 := Lib.hid hb.1
  have HX1 := Lib.hid hx
  clear h hf hx hb
  dsimp only at Q1 HL1 ⊢
  go_wp2_with (refine wpList_cat rfl _ _ _ _ rfl rfl rfl (by have := HL1.out; (try simp only [List.length_append, List.length_cons, List.length_nil]); omega) ?_)
  have e0 : Pr.row tk f Ps.sOr r = Pr.rowGo tk f Ps.sOr tk.length x1 r1 := by unfold Pr.row; rw [HX1.out]
  go_loopg [5] tk.length (fun k v5 wr => ∃ (m : Nat) (a : List UInt8) (r2 : Pr.Rs), v5 = .string ⟨a.toArray⟩ ∧ k = m ∧ QI w0 wr p vt tk dp r2 ∧ tk.length ≤ m + r2.i ∧ Pr.Fits tk r (a, r2) 0 ∧ Pr.rowGo tk f Ps.sOr m a r2 = Pr.row tk f Ps.sOr r)
  case atStart =>
    have hf := HK.out.2 r Q0.out.2
    rw [HX1.out] at hf
    exact ⟨tk.length, x1, r1, rfl, rfl, Q1.out.1, by omega, hf, e0.symm⟩
  case round =>
    obtain ⟨m, a, r2, rfl, hkm, h2, hm, hft, hgo⟩ := hrel
    have Q2 := Lib.hid (And.intro h2 hft.hi)
    have HM := Lib.hid (And.intro hkm (And.intro hm (And.intro hft hgo)))
    have HL2 : Hid (a.length ≤ 1000001000) := Lib.hid (HO.out.fits hft (by decide)).1
    clear hkm h2 hm hft hgo e0
    by_cases b0 : Pr.is tk [124, 124] r2 = true
    · skip
      have B0 := Lib.hid b0
      have HA : Hid (Pr.any tk Ps.sOr r2 = true) := Lib.hid (by show (Ps.sOr.any fun x => Pr.is tk x r2) = _; simp only [Ps.sOr, List.any_cons, List.any_nil, B0.out, Bool.or_true, Bool.true_or, Bool.or_false, Bool.false_or])
      clear b0
      go_wp2_with (refine wpList_cat rfl _ _ _ _ rfl rfl rfl (by have := HL2.out; (try simp only [List.length_append, List.length_cons, List.length_nil]); omega) ?_)
      have hcall := qis_calls Q2.out.1 Q2.out.2 HO.out [124, 124]
      rw [B0.out] at hcall
      refine hcall.mono ?_
      rintro e W3 ⟨rfl, h⟩
      have Q3 := Lib.hid (And.intro h Q2.out.2)
      clear h hcall
      dsimp only
      go_wp2_with (refine wpList_cat rfl _ _ _ _ rfl rfl rfl (by have := HL2.out; (try simp only [List.length_append, List.length_cons, List.length_nil]); omega) ?_)
      refine (qleaf_calls Q3.out.1 Q3.out.2 HO.out).mono ?_
      rintro e W4 ⟨rfl, h⟩
      have hf := Pr.leaf_fits HO.out.toks Q3.out.2 (Pr.any_kind HA.out)
      obtain ⟨⟨x4, r4⟩, hx⟩ : ∃ q, Pr.leaf tk r2 = q := ⟨_, rfl⟩
      rw [hx] at h hf ⊢
      have hb := HO.out.fits hf (by decide)
      have Q4 := Lib.hid (And.intro h hb.2)
      have HL4 := Lib.hid hb.1
      have HX4 := Lib.hid hx
      clear h hf hx hb
      dsimp only at Q4 HL4 ⊢
      go_wp2_with (refine wpList_cat rfl _ _ _ _ rfl rfl rfl (by have := HL2.out; have := HL4.out; (try simp only [List.length_append, List.length_cons, List.length_nil]); omega) ?_)
      refine (HK.out.1 _ _ Q4.out.1 Q4.out.2).mono ?_
      rintro e W5 ⟨rfl, h⟩
      have hf := HK.out.2 r4 Q4.out.2
      obtain ⟨⟨x5, r5⟩, hx⟩ : ∃ q, f r4 = q := ⟨_, rfl⟩
      rw [hx] at h hf ⊢
      have hb := HO.out.fits hf (by decide)
      have Q5 := Lib.hid (And.intro h hb.2)
      have HL5 := Lib.hid hb.1
      have HX5 := Lib.hid hx
      clear h hf hx hb
      dsimp only at Q5 HL5 ⊢
      go_wp2_with (refine wpList_cat rfl _ _ _ _ rfl rfl rfl (by have := HL2.out; have := HL4.out; have := HL5.out; (try simp only [List.length_append, List.length_cons, List.length_nil]); omega) ?_)
      go_roundg (m - 1)
      case measure => have := HM.out.1; have := HM.out.2.1; have := Q2.out.2; omega
      case rel =>
        have hgo := HM.out.2.2.2
        have hm := HM.out.2.1
        have hi2 := Q2.out.2
        obtain ⟨m2, hm2⟩ : ∃ m2, m = m2 + 1 := ⟨m - 1, by omega⟩
        rw [hm2, rowGo_more HA.out, HX4.out, HX5.out] at hgo
        have hl := Pr.leaf_fits HO.out.toks Q2.out.2 (Pr.any_kind HA.out)
        have hp := HK.out.2 _ hl.hi
        have hl2 : r2.i + 1 ≤ (Pr.leaf tk r2).2.i := by unfold Pr.leaf; rw [if_neg (Pr.any_kind HA.out)]; exact Nat.le_refl _
        rw [HX4.out] at hl hp hl2
        rw [HX5.out] at hp
        refine ⟨m - 1, Pr.bin a x4 x5, r5, by simp [Pr.bin], rfl, Q5.out.1, ?_, Pr.bin_fits HM.out.2.2.1 hl hp, ?_⟩
        · have h1 : r4.i ≤ r5.i := hp.lo
          have h2 : r2.i + 1 ≤ r4.i := hl2
          omega
        · rw [show m - 1 = m2 by omega]
          exact hgo
    · rw [Bool.not_eq_true] at b0
      have B0 := Lib.hid b0
      have HA : Hid (Pr.any tk Ps.sOr r2 = false) := Lib.hid (by show (Ps.sOr.any fun x => Pr.is tk x r2) = _; simp only [Ps.sOr, List.any_cons, List.any_nil, B0.out, Bool.or_true, Bool.true_or, Bool.or_false, Bool.false_or])
      clear b0
      go_wp2_with (refine wpList_cat rfl _ _ _ _ rfl rfl rfl (by have := HL2.out; (try simp only [List.length_append, List.length_cons, List.length_nil]); omega) ?_)
      have hcall := qis_calls Q2.out.1 Q2.out.2 HO.out [124, 124]
      rw [B0.out] at hcall
      refine hcall.mono ?_
      rintro e W3 ⟨rfl, h⟩
      have Q3 := Lib.hid (And.intro h Q2.out.2)
      clear h hcall
      dsimp only
      go_wp2_with (refine wpList_cat rfl _ _ _ _ rfl rfl rfl (by have := HL2.out; (try simp only [List.length_append, List.length_cons, List.length_nil]); omega) ?_)
      go_ret
      have hgo := HM.out.2.2.2
      rw [rowGo_stop _ HA.out] at hgo
      rw [← hgo]
      exact ⟨rfl, Q3.out.1⟩

set_option maxRecDepth 100000 in
set_option maxHeartbeats 4000000 in
theorem qand_calls (ho : QOk tk) {n : Int} {f : Pr.G} (hf : Pr.Fit tk f 0) (hk : QKnows w0 p vt tk dp 126 #[.pointer (some ⟨p, 0, none⟩), .int .i64 n] f) :
    QKnows w0 p vt tk dp 110 #[.pointer (some ⟨p, 0, none⟩), .int .i64 n] (Pr.row tk f Ps.sAnd) := by
  intro W r h hi
  have HO := Lib.hid ho
  have Q0 := Lib.hid (And.intro h hi)
  have HK := Lib.hid (And.intro hk hf)
  clear ho h hi hf hk
  go_enter Tryz.func110, Tryz.ntmps110
  go_wp2_with (refine wpList_cat rfl _ _ _ _ rfl rfl rfl (by (try simp only [List.length_append, List.length_cons, List.length_nil]); omega) ?_)
  refine (HK.out.1 _ _ Q0.out.1 Q0.out.2).mono ?_
  rintro e W1 ⟨rfl, h⟩
  have hf := HK.out.2 r Q0.out.2
  obtain ⟨⟨x1, r1⟩, hx⟩ : ∃ q, f r = q := ⟨_, rfl⟩
  rw [hx] at h hf ⊢
  have hb := HO.out.fits hf (by decide)
  have Q1 := Lib.hid (And.intro h hb.2)
  have HL1 := Lib.hid hb.1
  have HX1 := Lib.hid hx
  clear h hf hx hb
  dsimp only at Q1 HL1 ⊢
  go_wp2_with (refine wpList_cat rfl _ _ _ _ rfl rfl rfl (by have := HL1.out; (try simp only [List.length_append, List.length_cons, List.length_nil]); omega) ?_)
  have e0 : Pr.row tk f Ps.sAnd r = Pr.rowGo tk f Ps.sAnd tk.length x1 r1 := by unfold Pr.row; rw [HX1.out]
  go_loopg [5] tk.length (fun k v5 wr => ∃ (m : Nat) (a : List UInt8) (r2 : Pr.Rs), v5 = .string ⟨a.toArray⟩ ∧ k = m ∧ QI w0 wr p vt tk dp r2 ∧ tk.length ≤ m + r2.i ∧ Pr.Fits tk r (a, r2) 0 ∧ Pr.rowGo tk f Ps.sAnd m a r2 = Pr.row tk f Ps.sAnd r)
  case atStart =>
    have hf := HK.out.2 r Q0.out.2
    rw [HX1.out] at hf
    exact ⟨tk.length, x1, r1, rfl, rfl, Q1.out.1, by omega, hf, e0.symm⟩
  case round =>
    obtain ⟨m, a, r2, rfl, hkm, h2, hm, hft, hgo⟩ := hrel
    have Q2 := Lib.hid (And.intro h2 hft.hi)
    have HM := Lib.hid (And.intro hkm (And.intro hm (And.intro hft hgo)))
    have HL2 : Hid (a.length ≤ 1000001000) := Lib.hid (HO.out.fits hft (by decide)).1
    clear hkm h2 hm hft hgo e0
    by_cases b0 : Pr.is tk [38, 38] r2 = true
    · skip
      have B0 := Lib.hid b0
      have HA : Hid (Pr.any tk Ps.sAnd r2 = true) := Lib.hid (by show (Ps.sAnd.any fun x => Pr.is tk x r2) = _; simp only [Ps.sAnd, List.any_cons, List.any_nil, B0.out, Bool.or_true, Bool.true_or, Bool.or_false, Bool.false_or])
      clear b0
      go_wp2_with (refine wpList_cat rfl _ _ _ _ rfl rfl rfl (by have := HL2.out; (try simp only [List.length_append, List.length_cons, List.length_nil]); omega) ?_)
      have hcall := qis_calls Q2.out.1 Q2.out.2 HO.out [38, 38]
      rw [B0.out] at hcall
      refine hcall.mono ?_
      rintro e W3 ⟨rfl, h⟩
      have Q3 := Lib.hid (And.intro h Q2.out.2)
      clear h hcall
      dsimp only
      go_wp2_with (refine wpList_cat rfl _ _ _ _ rfl rfl rfl (by have := HL2.out; (try simp only [List.length_append, List.length_cons, List.length_nil]); omega) ?_)
      refine (qleaf_calls Q3.out.1 Q3.out.2 HO.out).mono ?_
      rintro e W4 ⟨rfl, h⟩
      have hf := Pr.leaf_fits HO.out.toks Q3.out.2 (Pr.any_kind HA.out)
      obtain ⟨⟨x4, r4⟩, hx⟩ : ∃ q, Pr.leaf tk r2 = q := ⟨_, rfl⟩
      rw [hx] at h hf ⊢
      have hb := HO.out.fits hf (by decide)
      have Q4 := Lib.hid (And.intro h hb.2)
      have HL4 := Lib.hid hb.1
      have HX4 := Lib.hid hx
      clear h hf hx hb
      dsimp only at Q4 HL4 ⊢
      go_wp2_with (refine wpList_cat rfl _ _ _ _ rfl rfl rfl (by have := HL2.out; have := HL4.out; (try simp only [List.length_append, List.length_cons, List.length_nil]); omega) ?_)
      refine (HK.out.1 _ _ Q4.out.1 Q4.out.2).mono ?_
      rintro e W5 ⟨rfl, h⟩
      have hf := HK.out.2 r4 Q4.out.2
      obtain ⟨⟨x5, r5⟩, hx⟩ : ∃ q, f r4 = q := ⟨_, rfl⟩
      rw [hx] at h hf ⊢
      have hb := HO.out.fits hf (by decide)
      have Q5 := Lib.hid (And.intro h hb.2)
      have HL5 := Lib.hid hb.1
      have HX5 := Lib.hid hx
      clear h hf hx hb
      dsimp only at Q5 HL5 ⊢
      go_wp2_with (refine wpList_cat rfl _ _ _ _ rfl rfl rfl (by have := HL2.out; have := HL4.out; have := HL5.out; (try simp only [List.length_append, List.length_cons, List.length_nil]); omega) ?_)
      go_roundg (m - 1)
      case measure => have := HM.out.1; have := HM.out.2.1; have := Q2.out.2; omega
      case rel =>
        have hgo := HM.out.2.2.2
        have hm := HM.out.2.1
        have hi2 := Q2.out.2
        obtain ⟨m2, hm2⟩ : ∃ m2, m = m2 + 1 := ⟨m - 1, by omega⟩
        rw [hm2, rowGo_more HA.out, HX4.out, HX5.out] at hgo
        have hl := Pr.leaf_fits HO.out.toks Q2.out.2 (Pr.any_kind HA.out)
        have hp := HK.out.2 _ hl.hi
        have hl2 : r2.i + 1 ≤ (Pr.leaf tk r2).2.i := by unfold Pr.leaf; rw [if_neg (Pr.any_kind HA.out)]; exact Nat.le_refl _
        rw [HX4.out] at hl hp hl2
        rw [HX5.out] at hp
        refine ⟨m - 1, Pr.bin a x4 x5, r5, by simp [Pr.bin], rfl, Q5.out.1, ?_, Pr.bin_fits HM.out.2.2.1 hl hp, ?_⟩
        · have h1 : r4.i ≤ r5.i := hp.lo
          have h2 : r2.i + 1 ≤ r4.i := hl2
          omega
        · rw [show m - 1 = m2 by omega]
          exact hgo
    · rw [Bool.not_eq_true] at b0
      have B0 := Lib.hid b0
      have HA : Hid (Pr.any tk Ps.sAnd r2 = false) := Lib.hid (by show (Ps.sAnd.any fun x => Pr.is tk x r2) = _; simp only [Ps.sAnd, List.any_cons, List.any_nil, B0.out, Bool.or_true, Bool.true_or, Bool.or_false, Bool.false_or])
      clear b0
      go_wp2_with (refine wpList_cat rfl _ _ _ _ rfl rfl rfl (by have := HL2.out; (try simp only [List.length_append, List.length_cons, List.length_nil]); omega) ?_)
      have hcall := qis_calls Q2.out.1 Q2.out.2 HO.out [38, 38]
      rw [B0.out] at hcall
      refine hcall.mono ?_
      rintro e W3 ⟨rfl, h⟩
      have Q3 := Lib.hid (And.intro h Q2.out.2)
      clear h hcall
      dsimp only
      go_wp2_with (refine wpList_cat rfl _ _ _ _ rfl rfl rfl (by have := HL2.out; (try simp only [List.length_append, List.length_cons, List.length_nil]); omega) ?_)
      go_ret
      have hgo := HM.out.2.2.2
      rw [rowGo_stop _ HA.out] at hgo
      rw [← hgo]
      exact ⟨rfl, Q3.out.1⟩

set_option maxRecDepth 100000 in
set_option maxHeartbeats 4000000 in
theorem qsum_calls (ho : QOk tk) {n : Int} {f : Pr.G} (hf : Pr.Fit tk f 0) (hk : QKnows w0 p vt tk dp 146 #[.pointer (some ⟨p, 0, none⟩), .int .i64 n] f) :
    QKnows w0 p vt tk dp 139 #[.pointer (some ⟨p, 0, none⟩), .int .i64 n] (Pr.row tk f Ps.sSum) := by
  intro W r h hi
  have HO := Lib.hid ho
  have Q0 := Lib.hid (And.intro h hi)
  have HK := Lib.hid (And.intro hk hf)
  clear ho h hi hf hk
  go_enter Tryz.func139, Tryz.ntmps139
  go_wp2_with (refine wpList_cat rfl _ _ _ _ rfl rfl rfl (by (try simp only [List.length_append, List.length_cons, List.length_nil]); omega) ?_)
  refine (HK.out.1 _ _ Q0.out.1 Q0.out.2).mono ?_
  rintro e W1 ⟨rfl, h⟩
  have hf := HK.out.2 r Q0.out.2
  obtain ⟨⟨x1, r1⟩, hx⟩ : ∃ q, f r = q := ⟨_, rfl⟩
  rw [hx] at h hf ⊢
  have hb := HO.out.fits hf (by decide)
  have Q1 := Lib.hid (And.intro h hb.2)
  have HL1 := Lib.hid hb.1
  have HX1 := Lib.hid hx
  clear h hf hx hb
  dsimp only at Q1 HL1 ⊢
  go_wp2_with (refine wpList_cat rfl _ _ _ _ rfl rfl rfl (by have := HL1.out; (try simp only [List.length_append, List.length_cons, List.length_nil]); omega) ?_)
  have e0 : Pr.row tk f Ps.sSum r = Pr.rowGo tk f Ps.sSum tk.length x1 r1 := by unfold Pr.row; rw [HX1.out]
  go_loopg [5] tk.length (fun k v5 wr => ∃ (m : Nat) (a : List UInt8) (r2 : Pr.Rs), v5 = .string ⟨a.toArray⟩ ∧ k = m ∧ QI w0 wr p vt tk dp r2 ∧ tk.length ≤ m + r2.i ∧ Pr.Fits tk r (a, r2) 0 ∧ Pr.rowGo tk f Ps.sSum m a r2 = Pr.row tk f Ps.sSum r)
  case atStart =>
    have hf := HK.out.2 r Q0.out.2
    rw [HX1.out] at hf
    exact ⟨tk.length, x1, r1, rfl, rfl, Q1.out.1, by omega, hf, e0.symm⟩
  case round =>
    obtain ⟨m, a, r2, rfl, hkm, h2, hm, hft, hgo⟩ := hrel
    have Q2 := Lib.hid (And.intro h2 hft.hi)
    have HM := Lib.hid (And.intro hkm (And.intro hm (And.intro hft hgo)))
    have HL2 : Hid (a.length ≤ 1000001000) := Lib.hid (HO.out.fits hft (by decide)).1
    clear hkm h2 hm hft hgo e0
    by_cases b0 : Pr.is tk [43] r2 = true
    · skip
      have B0 := Lib.hid b0
      have HA : Hid (Pr.any tk Ps.sSum r2 = true) := Lib.hid (by show (Ps.sSum.any fun x => Pr.is tk x r2) = _; simp only [Ps.sSum, List.any_cons, List.any_nil, B0.out, Bool.or_true, Bool.true_or, Bool.or_false, Bool.false_or])
      clear b0
      go_wp2_with (refine wpList_cat rfl _ _ _ _ rfl rfl rfl (by have := HL2.out; (try simp only [List.length_append, List.length_cons, List.length_nil]); omega) ?_)
      have hcall := qis_calls Q2.out.1 Q2.out.2 HO.out [43]
      rw [B0.out] at hcall
      refine hcall.mono ?_
      rintro e W3 ⟨rfl, h⟩
      have Q3 := Lib.hid (And.intro h Q2.out.2)
      clear h hcall
      dsimp only
      go_wp2_with (refine wpList_cat rfl _ _ _ _ rfl rfl rfl (by have := HL2.out; (try simp only [List.length_append, List.length_cons, List.length_nil]); omega) ?_)
      refine (qleaf_calls Q3.out.1 Q3.out.2 HO.out).mono ?_
      rintro e W4 ⟨rfl, h⟩
      have hf := Pr.leaf_fits HO.out.toks Q3.out.2 (Pr.any_kind HA.out)
      obtain ⟨⟨x4, r4⟩, hx⟩ : ∃ q, Pr.leaf tk r2 = q := ⟨_, rfl⟩
      rw [hx] at h hf ⊢
      have hb := HO.out.fits hf (by decide)
      have Q4 := Lib.hid (And.intro h hb.2)
      have HL4 := Lib.hid hb.1
      have HX4 := Lib.hid hx
      clear h hf hx hb
      dsimp only at Q4 HL4 ⊢
      go_wp2_with (refine wpList_cat rfl _ _ _ _ rfl rfl rfl (by have := HL2.out; have := HL4.out; (try simp only [List.length_append, List.length_cons, List.length_nil]); omega) ?_)
      refine (HK.out.1 _ _ Q4.out.1 Q4.out.2).mono ?_
      rintro e W5 ⟨rfl, h⟩
      have hf := HK.out.2 r4 Q4.out.2
      obtain ⟨⟨x5, r5⟩, hx⟩ : ∃ q, f r4 = q := ⟨_, rfl⟩
      rw [hx] at h hf ⊢
      have hb := HO.out.fits hf (by decide)
      have Q5 := Lib.hid (And.intro h hb.2)
      have HL5 := Lib.hid hb.1
      have HX5 := Lib.hid hx
      clear h hf hx hb
      dsimp only at Q5 HL5 ⊢
      go_wp2_with (refine wpList_cat rfl _ _ _ _ rfl rfl rfl (by have := HL2.out; have := HL4.out; have := HL5.out; (try simp only [List.length_append, List.length_cons, List.length_nil]); omega) ?_)
      go_roundg (m - 1)
      case measure => have := HM.out.1; have := HM.out.2.1; have := Q2.out.2; omega
      case rel =>
        have hgo := HM.out.2.2.2
        have hm := HM.out.2.1
        have hi2 := Q2.out.2
        obtain ⟨m2, hm2⟩ : ∃ m2, m = m2 + 1 := ⟨m - 1, by omega⟩
        rw [hm2, rowGo_more HA.out, HX4.out, HX5.out] at hgo
        have hl := Pr.leaf_fits HO.out.toks Q2.out.2 (Pr.any_kind HA.out)
        have hp := HK.out.2 _ hl.hi
        have hl2 : r2.i + 1 ≤ (Pr.leaf tk r2).2.i := by unfold Pr.leaf; rw [if_neg (Pr.any_kind HA.out)]; exact Nat.le_refl _
        rw [HX4.out] at hl hp hl2
        rw [HX5.out] at hp
        refine ⟨m - 1, Pr.bin a x4 x5, r5, by simp [Pr.bin], rfl, Q5.out.1, ?_, Pr.bin_fits HM.out.2.2.1 hl hp, ?_⟩
        · have h1 : r4.i ≤ r5.i := hp.lo
          have h2 : r2.i + 1 ≤ r4.i := hl2
          omega
        · rw [show m - 1 = m2 by omega]
          exact hgo
    · rw [Bool.not_eq_true] at b0
      by_cases b1 : Pr.is tk [45] r2 = true
      · skip
        have B0 := Lib.hid b0
        have B1 := Lib.hid b1
        have HA : Hid (Pr.any tk Ps.sSum r2 = true) := Lib.hid (by show (Ps.sSum.any fun x => Pr.is tk x r2) = _; simp only [Ps.sSum, List.any_cons, List.any_nil, B0.out, B1.out, Bool.or_true, Bool.true_or, Bool.or_false, Bool.false_or])
        clear b0 b1
        go_wp2_with (refine wpList_cat rfl _ _ _ _ rfl rfl rfl (by have := HL2.out; (try simp only [List.length_append, List.length_cons, List.length_nil]); omega) ?_)
        have hcall := qis_calls Q2.out.1 Q2.out.2 HO.out [43]
        rw [B0.out] at hcall
        refine hcall.mono ?_
        rintro e W3 ⟨rfl, h⟩
        have Q3 := Lib.hid (And.intro h Q2.out.2)
        clear h hcall
        dsimp only
        go_wp2_with (refine wpList_cat rfl _ _ _ _ rfl rfl rfl (by have := HL2.out; (try simp only [List.length_append, List.length_cons, List.length_nil]); omega) ?_)
        have hcall := qis_calls Q3.out.1 Q3.out.2 HO.out [45]
        rw [B1.out] at hcall
        refine hcall.mono ?_
        rintro e W4 ⟨rfl, h⟩
        have Q4 := Lib.hid (And.intro h Q3.out.2)
        clear h hcall
        dsimp only
        go_wp2_with (refine wpList_cat rfl _ _ _ _ rfl rfl rfl (by have := HL2.out; (try simp only [List.length_append, List.length_cons, List.length_nil]); omega) ?_)
        refine (qleaf_calls Q4.out.1 Q4.out.2 HO.out).mono ?_
        rintro e W5 ⟨rfl, h⟩
        have hf := Pr.leaf_fits HO.out.toks Q4.out.2 (Pr.any_kind HA.out)
        obtain ⟨⟨x5, r5⟩, hx⟩ : ∃ q, Pr.leaf tk r2 = q := ⟨_, rfl⟩
        rw [hx] at h hf ⊢
        have hb := HO.out.fits hf (by decide)
        have Q5 := Lib.hid (And.intro h hb.2)
        have HL5 := Lib.hid hb.1
        have HX5 := Lib.hid hx
        clear h hf hx hb
        dsimp only at Q5 HL5 ⊢
        go_wp2_with (refine wpList_cat rfl _ _ _ _ rfl rfl rfl (by have := HL2.out; have := HL5.out; (try simp only [List.length_append, List.length_cons, List.length_nil]); omega) ?_)
        refine (HK.out.1 _ _ Q5.out.1 Q5.out.2).mono ?_
        rintro e W6 ⟨rfl, h⟩
        have hf := HK.out.2 r5 Q5.out.2
        obtain ⟨⟨x6, r6⟩, hx⟩ : ∃ q, f r5 = q := ⟨_, rfl⟩
        rw [hx] at h hf ⊢
        have hb := HO.out.fits hf (by decide)
        have Q6 := Lib.hid (And.intro h hb.2)
        have HL6 := Lib.hid hb.1
        have HX6 := Lib.hid hx
        clear h hf hx hb
        dsimp only at Q6 HL6 ⊢
        go_wp2_with (refine wpList_cat rfl _ _ _ _ rfl rfl rfl (by have := HL2.out; have := HL5.out; have := HL6.out; (try simp only [List.length_append, List.length_cons, List.length_nil]); omega) ?_)
        go_roundg (m - 1)
        case measure => have := HM.out.1; have := HM.out.2.1; have := Q2.out.2; omega
        case rel =>
          have hgo := HM.out.2.2.2
          have hm := HM.out.2.1
          have hi2 := Q2.out.2
          obtain ⟨m2, hm2⟩ : ∃ m2, m = m2 + 1 := ⟨m - 1, by omega⟩
          rw [hm2, rowGo_more HA.out, HX5.out, HX6.out] at hgo
          have hl := Pr.leaf_fits HO.out.toks Q2.out.2 (Pr.any_kind HA.out)
          have hp := HK.out.2 _ hl.hi
          have hl2 : r2.i + 1 ≤ (Pr.leaf tk r2).2.i := by unfold Pr.leaf; rw [if_neg (Pr.any_kind HA.out)]; exact Nat.le_refl _
          rw [HX5.out] at hl hp hl2
          rw [HX6.out] at hp
          refine ⟨m - 1, Pr.bin a x5 x6, r6, by simp [Pr.bin], rfl, Q6.out.1, ?_, Pr.bin_fits HM.out.2.2.1 hl hp, ?_⟩
          · have h1 : r5.i ≤ r6.i := hp.lo
            have h2 : r2.i + 1 ≤ r5.i := hl2
            omega
          · rw [show m - 1 = m2 by omega]
            exact hgo
      · rw [Bool.not_eq_true] at b1
        have B0 := Lib.hid b0
        have B1 := Lib.hid b1
        have HA : Hid (Pr.any tk Ps.sSum r2 = false) := Lib.hid (by show (Ps.sSum.any fun x => Pr.is tk x r2) = _; simp only [Ps.sSum, List.any_cons, List.any_nil, B0.out, B1.out, Bool.or_true, Bool.true_or, Bool.or_false, Bool.false_or])
        clear b0 b1
        go_wp2_with (refine wpList_cat rfl _ _ _ _ rfl rfl rfl (by have := HL2.out; (try simp only [List.length_append, List.length_cons, List.length_nil]); omega) ?_)
        have hcall := qis_calls Q2.out.1 Q2.out.2 HO.out [43]
        rw [B0.out] at hcall
        refine hcall.mono ?_
        rintro e W3 ⟨rfl, h⟩
        have Q3 := Lib.hid (And.intro h Q2.out.2)
        clear h hcall
        dsimp only
        go_wp2_with (refine wpList_cat rfl _ _ _ _ rfl rfl rfl (by have := HL2.out; (try simp only [List.length_append, List.length_cons, List.length_nil]); omega) ?_)
        have hcall := qis_calls Q3.out.1 Q3.out.2 HO.out [45]
        rw [B1.out] at hcall
        refine hcall.mono ?_
        rintro e W4 ⟨rfl, h⟩
        have Q4 := Lib.hid (And.intro h Q3.out.2)
        clear h hcall
        dsimp only
        go_wp2_with (refine wpList_cat rfl _ _ _ _ rfl rfl rfl (by have := HL2.out; (try simp only [List.length_append, List.length_cons, List.length_nil]); omega) ?_)
        go_ret
        have hgo := HM.out.2.2.2
        rw [rowGo_stop _ HA.out] at hgo
        rw [← hgo]
        exact ⟨rfl, Q4.out.1⟩

set_option maxRecDepth 100000 in
set_option maxHeartbeats 4000000 in
theorem qproduct_calls (ho : QOk tk) {n : Int} {f : Pr.G} (hf : Pr.Fit tk f 0) (hk : QKnows w0 p vt tk dp 148 #[.pointer (some ⟨p, 0, none⟩), .int .i64 n] f) :
    QKnows w0 p vt tk dp 146 #[.pointer (some ⟨p, 0, none⟩), .int .i64 n] (Pr.row tk f Ps.sMul) := by
  intro W r h hi
  have HO := Lib.hid ho
  have Q0 := Lib.hid (And.intro h hi)
  have HK := Lib.hid (And.intro hk hf)
  clear ho h hi hf hk
  go_enter Tryz.func146, Tryz.ntmps146
  go_wp2_with (refine wpList_cat rfl _ _ _ _ rfl rfl rfl (by (try simp only [List.length_append, List.length_cons, List.length_nil]); omega) ?_)
  refine (HK.out.1 _ _ Q0.out.1 Q0.out.2).mono ?_
  rintro e W1 ⟨rfl, h⟩
  have hf := HK.out.2 r Q0.out.2
  obtain ⟨⟨x1, r1⟩, hx⟩ : ∃ q, f r = q := ⟨_, rfl⟩
  rw [hx] at h hf ⊢
  have hb := HO.out.fits hf (by decide)
  have Q1 := Lib.hid (And.intro h hb.2)
  have HL1 := Lib.hid hb.1
  have HX1 := Lib.hid hx
  clear h hf hx hb
  dsimp only at Q1 HL1 ⊢
  go_wp2_with (refine wpList_cat rfl _ _ _ _ rfl rfl rfl (by have := HL1.out; (try simp only [List.length_append, List.length_cons, List.length_nil]); omega) ?_)
  have e0 : Pr.row tk f Ps.sMul r = Pr.rowGo tk f Ps.sMul tk.length x1 r1 := by unfold Pr.row; rw [HX1.out]
  go_loopg [5] tk.length (fun k v5 wr => ∃ (m : Nat) (a : List UInt8) (r2 : Pr.Rs), v5 = .string ⟨a.toArray⟩ ∧ k = m ∧ QI w0 wr p vt tk dp r2 ∧ tk.length ≤ m + r2.i ∧ Pr.Fits tk r (a, r2) 0 ∧ Pr.rowGo tk f Ps.sMul m a r2 = Pr.row tk f Ps.sMul r)
  case atStart =>
    have hf := HK.out.2 r Q0.out.2
    rw [HX1.out] at hf
    exact ⟨tk.length, x1, r1, rfl, rfl, Q1.out.1, by omega, hf, e0.symm⟩
  case round =>
    obtain ⟨m, a, r2, rfl, hkm, h2, hm, hft, hgo⟩ := hrel
    have Q2 := Lib.hid (And.intro h2 hft.hi)
    have HM := Lib.hid (And.intro hkm (And.intro hm (And.intro hft hgo)))
    have HL2 : Hid (a.length ≤ 1000001000) := Lib.hid (HO.out.fits hft (by decide)).1
    clear hkm h2 hm hft hgo e0
    by_cases b0 : Pr.is tk [42] r2 = true
    · skip
      have B0 := Lib.hid b0
      have HA : Hid (Pr.any tk Ps.sMul r2 = true) := Lib.hid (by show (Ps.sMul.any fun x => Pr.is tk x r2) = _; simp only [Ps.sMul, List.any_cons, List.any_nil, B0.out, Bool.or_true, Bool.true_or, Bool.or_false, Bool.false_or])
      clear b0
      go_wp2_with (refine wpList_cat rfl _ _ _ _ rfl rfl rfl (by have := HL2.out; (try simp only [List.length_append, List.length_cons, List.length_nil]); omega) ?_)
      have hcall := qis_calls Q2.out.1 Q2.out.2 HO.out [42]
      rw [B0.out] at hcall
      refine hcall.mono ?_
      rintro e W3 ⟨rfl, h⟩
      have Q3 := Lib.hid (And.intro h Q2.out.2)
      clear h hcall
      dsimp only
      go_wp2_with (refine wpList_cat rfl _ _ _ _ rfl rfl rfl (by have := HL2.out; (try simp only [List.length_append, List.length_cons, List.length_nil]); omega) ?_)
      refine (qleaf_calls Q3.out.1 Q3.out.2 HO.out).mono ?_
      rintro e W4 ⟨rfl, h⟩
      have hf := Pr.leaf_fits HO.out.toks Q3.out.2 (Pr.any_kind HA.out)
      obtain ⟨⟨x4, r4⟩, hx⟩ : ∃ q, Pr.leaf tk r2 = q := ⟨_, rfl⟩
      rw [hx] at h hf ⊢
      have hb := HO.out.fits hf (by decide)
      have Q4 := Lib.hid (And.intro h hb.2)
      have HL4 := Lib.hid hb.1
      have HX4 := Lib.hid hx
      clear h hf hx hb
      dsimp only at Q4 HL4 ⊢
      go_wp2_with (refine wpList_cat rfl _ _ _ _ rfl rfl rfl (by have := HL2.out; have := HL4.out; (try simp only [List.length_append, List.length_cons, List.length_nil]); omega) ?_)
      refine (HK.out.1 _ _ Q4.out.1 Q4.out.2).mono ?_
      rintro e W5 ⟨rfl, h⟩
      have hf := HK.out.2 r4 Q4.out.2
      obtain ⟨⟨x5, r5⟩, hx⟩ : ∃ q, f r4 = q := ⟨_, rfl⟩
      rw [hx] at h hf ⊢
      have hb := HO.out.fits hf (by decide)
      have Q5 := Lib.hid (And.intro h hb.2)
      have HL5 := Lib.hid hb.1
      have HX5 := Lib.hid hx
      clear h hf hx hb
      dsimp only at Q5 HL5 ⊢
      go_wp2_with (refine wpList_cat rfl _ _ _ _ rfl rfl rfl (by have := HL2.out; have := HL4.out; have := HL5.out; (try simp only [List.length_append, List.length_cons, List.length_nil]); omega) ?_)
      go_roundg (m - 1)
      case measure => have := HM.out.1; have := HM.out.2.1; have := Q2.out.2; omega
      case rel =>
        have hgo := HM.out.2.2.2
        have hm := HM.out.2.1
        have hi2 := Q2.out.2
        obtain ⟨m2, hm2⟩ : ∃ m2, m = m2 + 1 := ⟨m - 1, by omega⟩
        rw [hm2, rowGo_more HA.out, HX4.out, HX5.out] at hgo
        have hl := Pr.leaf_fits HO.out.toks Q2.out.2 (Pr.any_kind HA.out)
        have hp := HK.out.2 _ hl.hi
        have hl2 : r2.i + 1 ≤ (Pr.leaf tk r2).2.i := by unfold Pr.leaf; rw [if_neg (Pr.any_kind HA.out)]; exact Nat.le_refl _
        rw [HX4.out] at hl hp hl2
        rw [HX5.out] at hp
        refine ⟨m - 1, Pr.bin a x4 x5, r5, by simp [Pr.bin], rfl, Q5.out.1, ?_, Pr.bin_fits HM.out.2.2.1 hl hp, ?_⟩
        · have h1 : r4.i ≤ r5.i := hp.lo
          have h2 : r2.i + 1 ≤ r4.i := hl2
          omega
        · rw [show m - 1 = m2 by omega]
          exact hgo
    · rw [Bool.not_eq_true] at b0
      by_cases b1 : Pr.is tk [47] r2 = true
      · skip
        have B0 := Lib.hid b0
        have B1 := Lib.hid b1
        have HA : Hid (Pr.any tk Ps.sMul r2 = true) := Lib.hid (by show (Ps.sMul.any fun x => Pr.is tk x r2) = _; simp only [Ps.sMul, List.any_cons, List.any_nil, B0.out, B1.out, Bool.or_true, Bool.true_or, Bool.or_false, Bool.false_or])
        clear b0 b1
        go_wp2_with (refine wpList_cat rfl _ _ _ _ rfl rfl rfl (by have := HL2.out; (try simp only [List.length_append, List.length_cons, List.length_nil]); omega) ?_)
        have hcall := qis_calls Q2.out.1 Q2.out.2 HO.out [42]
        rw [B0.out] at hcall
        refine hcall.mono ?_
        rintro e W3 ⟨rfl, h⟩
        have Q3 := Lib.hid (And.intro h Q2.out.2)
        clear h hcall
        dsimp only
        go_wp2_with (refine wpList_cat rfl _ _ _ _ rfl rfl rfl (by have := HL2.out; (try simp only [List.length_append, List.length_cons, List.length_nil]); omega) ?_)
        have hcall := qis_calls Q3.out.1 Q3.out.2 HO.out [47]
        rw [B1.out] at hcall
        refine hcall.mono ?_
        rintro e W4 ⟨rfl, h⟩
        have Q4 := Lib.hid (And.intro h Q3.out.2)
        clear h hcall
        dsimp only
        go_wp2_with (refine wpList_cat rfl _ _ _ _ rfl rfl rfl (by have := HL2.out; (try simp only [List.length_append, List.length_cons, List.length_nil]); omega) ?_)
        refine (qleaf_calls Q4.out.1 Q4.out.2 HO.out).mono ?_
        rintro e W5 ⟨rfl, h⟩
        have hf := Pr.leaf_fits HO.out.toks Q4.out.2 (Pr.any_kind HA.out)
        obtain ⟨⟨x5, r5⟩, hx⟩ : ∃ q, Pr.leaf tk r2 = q := ⟨_, rfl⟩
        rw [hx] at h hf ⊢
        have hb := HO.out.fits hf (by decide)
        have Q5 := Lib.hid (And.intro h hb.2)
        have HL5 := Lib.hid hb.1
        have HX5 := Lib.hid hx
        clear h hf hx hb
        dsimp only at Q5 HL5 ⊢
        go_wp2_with (refine wpList_cat rfl _ _ _ _ rfl rfl rfl (by have := HL2.out; have := HL5.out; (try simp only [List.length_append, List.length_cons, List.length_nil]); omega) ?_)
        refine (HK.out.1 _ _ Q5.out.1 Q5.out.2).mono ?_
        rintro e W6 ⟨rfl, h⟩
        have hf := HK.out.2 r5 Q5.out.2
        obtain ⟨⟨x6, r6⟩, hx⟩ : ∃ q, f r5 = q := ⟨_, rfl⟩
        rw [hx] at h hf ⊢
        have hb := HO.out.fits hf (by decide)
        have Q6 := Lib.hid (And.intro h hb.2)
        have HL6 := Lib.hid hb.1
        have HX6 := Lib.hid hx
        clear h hf hx hb
        dsimp only at Q6 HL6 ⊢
        go_wp2_with (refine wpList_cat rfl _ _ _ _ rfl rfl rfl (by have := HL2.out; have := HL5.out; have := HL6.out; (try simp only [List.length_append, List.length_cons, List.length_nil]); omega) ?_)
        go_roundg (m - 1)
        case measure => have := HM.out.1; have := HM.out.2.1; have := Q2.out.2; omega
        case rel =>
          have hgo := HM.out.2.2.2
          have hm := HM.out.2.1
          have hi2 := Q2.out.2
          obtain ⟨m2, hm2⟩ : ∃ m2, m = m2 + 1 := ⟨m - 1, by omega⟩
          rw [hm2, rowGo_more HA.out, HX5.out, HX6.out] at hgo
          have hl := Pr.leaf_fits HO.out.toks Q2.out.2 (Pr.any_kind HA.out)
          have hp := HK.out.2 _ hl.hi
          have hl2 : r2.i + 1 ≤ (Pr.leaf tk r2).2.i := by unfold Pr.leaf; rw [if_neg (Pr.any_kind HA.out)]; exact Nat.le_refl _
          rw [HX5.out] at hl hp hl2
          rw [HX6.out] at hp
          refine ⟨m - 1, Pr.bin a x5 x6, r6, by simp [Pr.bin], rfl, Q6.out.1, ?_, Pr.bin_fits HM.out.2.2.1 hl hp, ?_⟩
          · have h1 : r5.i ≤ r6.i := hp.lo
            have h2 : r2.i + 1 ≤ r5.i := hl2
            omega
          · rw [show m - 1 = m2 by omega]
            exact hgo
      · rw [Bool.not_eq_true] at b1
        by_cases b2 : Pr.is tk [37] r2 = true
        · skip
          have B0 := Lib.hid b0
          have B1 := Lib.hid b1
          have B2 := Lib.hid b2
          have HA : Hid (Pr.any tk Ps.sMul r2 = true) := Lib.hid (by show (Ps.sMul.any fun x => Pr.is tk x r2) = _; simp only [Ps.sMul, List.any_cons, List.any_nil, B0.out, B1.out, B2.out, Bool.or_true, Bool.true_or, Bool.or_false, Bool.false_or])
          clear b0 b1 b2
          go_wp2_with (refine wpList_cat rfl _ _ _ _ rfl rfl rfl (by have := HL2.out; (try simp only [List.length_append, List.length_cons, List.length_nil]); omega) ?_)
          have hcall := qis_calls Q2.out.1 Q2.out.2 HO.out [42]
          rw [B0.out] at hcall
          refine hcall.mono ?_
          rintro e W3 ⟨rfl, h⟩
          have Q3 := Lib.hid (And.intro h Q2.out.2)
          clear h hcall
          dsimp only
          go_wp2_with (refine wpList_cat rfl _ _ _ _ rfl rfl rfl (by have := HL2.out; (try simp only [List.length_append, List.length_cons, List.length_nil]); omega) ?_)
          have hcall := qis_calls Q3.out.1 Q3.out.2 HO.out [47]
          rw [B1.out] at hcall
          refine hcall.mono ?_
          rintro e W4 ⟨rfl, h⟩
          have Q4 := Lib.hid (And.intro h Q3.out.2)
          clear h hcall
          dsimp only
          go_wp2_with (refine wpList_cat rfl _ _ _ _ rfl rfl rfl (by have := HL2.out; (try simp only [List.length_append, List.length_cons, List.length_nil]); omega) ?_)
          have hcall := qis_calls Q4.out.1 Q4.out.2 HO.out [37]
          rw [B2.out] at hcall
          refine hcall.mono ?_
          rintro e W5 ⟨rfl, h⟩
          have Q5 := Lib.hid (And.intro h Q4.out.2)
          clear h hcall
          dsimp only
          go_wp2_with (refine wpList_cat rfl _ _ _ _ rfl rfl rfl (by have := HL2.out; (try simp only [List.length_append, List.length_cons, List.length_nil]); omega) ?_)
          refine (qleaf_calls Q5.out.1 Q5.out.2 HO.out).mono ?_
          rintro e W6 ⟨rfl, h⟩
          have hf := Pr.leaf_fits HO.out.toks Q5.out.2 (Pr.any_kind HA.out)
          obtain ⟨⟨x6, r6⟩, hx⟩ : ∃ q, Pr.leaf tk r2 = q := ⟨_, rfl⟩
          rw [hx] at h hf ⊢
          have hb := HO.out.fits hf (by decide)
          have Q6 := Lib.hid (And.intro h hb.2)
          have HL6 := Lib.hid hb.1
          have HX6 := Lib.hid hx
          clear h hf hx hb
          dsimp only at Q6 HL6 ⊢
          go_wp2_with (refine wpList_cat rfl _ _ _ _ rfl rfl rfl (by have := HL2.out; have := HL6.out; (try simp only [List.length_append, List.length_cons, List.length_nil]); omega) ?_)
          refine (HK.out.1 _ _ Q6.out.1 Q6.out.2).mono ?_
          rintro e W7 ⟨rfl, h⟩
          have hf := HK.out.2 r6 Q6.out.2
          obtain ⟨⟨x7, r7⟩, hx⟩ : ∃ q, f r6 = q := ⟨_, rfl⟩
          rw [hx] at h hf ⊢
          have hb := HO.out.fits hf (by decide)
          have Q7 := Lib.hid (And.intro h hb.2)
          have HL7 := Lib.hid hb.1
          have HX7 := Lib.hid hx
          clear h hf hx hb
          dsimp only at Q7 HL7 ⊢
          go_wp2_with (refine wpList_cat rfl _ _ _ _ rfl rfl rfl (by have := HL2.out; have := HL6.out; have := HL7.out; (try simp only [List.length_append, List.length_cons, List.length_nil]); omega) ?_)
          go_roundg (m - 1)
          case measure => have := HM.out.1; have := HM.out.2.1; have := Q2.out.2; omega
          case rel =>
            have hgo := HM.out.2.2.2
            have hm := HM.out.2.1
            have hi2 := Q2.out.2
            obtain ⟨m2, hm2⟩ : ∃ m2, m = m2 + 1 := ⟨m - 1, by omega⟩
            rw [hm2, rowGo_more HA.out, HX6.out, HX7.out] at hgo
            have hl := Pr.leaf_fits HO.out.toks Q2.out.2 (Pr.any_kind HA.out)
            have hp := HK.out.2 _ hl.hi
            have hl2 : r2.i + 1 ≤ (Pr.leaf tk r2).2.i := by unfold Pr.leaf; rw [if_neg (Pr.any_kind HA.out)]; exact Nat.le_refl _
            rw [HX6.out] at hl hp hl2
            rw [HX7.out] at hp
            refine ⟨m - 1, Pr.bin a x6 x7, r7, by simp [Pr.bin], rfl, Q7.out.1, ?_, Pr.bin_fits HM.out.2.2.1 hl hp, ?_⟩
            · have h1 : r6.i ≤ r7.i := hp.lo
              have h2 : r2.i + 1 ≤ r6.i := hl2
              omega
            · rw [show m - 1 = m2 by omega]
              exact hgo
        · rw [Bool.not_eq_true] at b2
          have B0 := Lib.hid b0
          have B1 := Lib.hid b1
          have B2 := Lib.hid b2
          have HA : Hid (Pr.any tk Ps.sMul r2 = false) := Lib.hid (by show (Ps.sMul.any fun x => Pr.is tk x r2) = _; simp only [Ps.sMul, List.any_cons, List.any_nil, B0.out, B1.out, B2.out, Bool.or_true, Bool.true_or, Bool.or_false, Bool.false_or])
          clear b0 b1 b2
          go_wp2_with (refine wpList_cat rfl _ _ _ _ rfl rfl rfl (by have := HL2.out; (try simp only [List.length_append, List.length_cons, List.length_nil]); omega) ?_)
          have hcall := qis_calls Q2.out.1 Q2.out.2 HO.out [42]
          rw [B0.out] at hcall
          refine hcall.mono ?_
          rintro e W3 ⟨rfl, h⟩
          have Q3 := Lib.hid (And.intro h Q2.out.2)
          clear h hcall
          dsimp only
          go_wp2_with (refine wpList_cat rfl _ _ _ _ rfl rfl rfl (by have := HL2.out; (try simp only [List.length_append, List.length_cons, List.length_nil]); omega) ?_)
          have hcall := qis_calls Q3.out.1 Q3.out.2 HO.out [47]
          rw [B1.out] at hcall
          refine hcall.mono ?_
          rintro e W4 ⟨rfl, h⟩
          have Q4 := Lib.hid (And.intro h Q3.out.2)
          clear h hcall
          dsimp only
          go_wp2_with (refine wpList_cat rfl _ _ _ _ rfl rfl rfl (by have := HL2.out; (try simp only [List.length_append, List.length_cons, List.length_nil]); omega) ?_)
          have hcall := qis_calls Q4.out.1 Q4.out.2 HO.out [37]
          rw [B2.out] at hcall
          refine hcall.mono ?_
          rintro e W5 ⟨rfl, h⟩
          have Q5 := Lib.hid (And.intro h Q4.out.2)
          clear h hcall
          dsimp only
          go_wp2_with (refine wpList_cat rfl _ _ _ _ rfl rfl rfl (by have := HL2.out; (try simp only [List.length_append, List.length_cons, List.length_nil]); omega) ?_)
          go_ret
          have hgo := HM.out.2.2.2
          rw [rowGo_stop _ HA.out] at hgo
          rw [← hgo]
          exact ⟨rfl, Q5.out.1⟩
end
end Go.Proofs.YtpkhdlnlkeehhaaGreatDoor
