/- Contracts and plain laws, in one text. Plain laws of trees: sizes, leaves, what Right says of the nodes. No program in sight. | Plain laws of a stack of places: what tree.leaves goes through. No program in sight. | Laws of the walk, inside a fence: a row loaded whole; append, and where it lies. | What tree.leaves keeps in memory: its stack in a box, its answer, its marks. | tree.leaves: the tokens' places of all leaves beneath a node. | Plain laws behind tree.Right. No program in sight. | tree.Right: is a tree right? | tree.check: may something be told of a node? | Plain laws of a node's dump. No program in sight. | tree.dump, tree -/
import Derived.Test.YtlejecaanllghaaGreatDoorPlmM1
import Derived.Test.YtlejecaanllghaaGreatDoorPlmM2
import Derived.Deep.MidRow
import Derived.Deep.AppendLies
import Derived.Deep.RegionHeld3
/- Plain laws of trees: sizes, leaves, what Right says of the nodes. No program in sight. -/
namespace Go.Proofs.YtlejecaanllghaaGreatDoor.Tr

/-- How many nodes are gone through beneath a place (with so much fuel); the leaves' tokens from left to right. -/
def sz (ns : List Nd) : Nat → Nat → Nat
  | 0, _ => 0
  | f + 1, i => match ns[i]? with
    | none => 0
    | some n => 1 + (n.kids.map fun k => sz ns f k.toNat).sum
def lv (ns : List Nd) : Nat → Nat → List Int
  | 0, _ => []
  | f + 1, i => match ns[i]? with
    | none => []
    | some n => if n.kind = 19 then [n.tok] else n.kids.flatMap fun k => lv ns f k.toNat

/-- All kids lie ahead of their node; a leaf has none. -/
def Low (ns : List Nd) : Prop := ∀ (i : Nat) (n : Nd), ns[i]? = some n → (∀ k ∈ n.kids, 0 ≤ k ∧ k < (i : Int)) ∧ (n.kind = 19 → n.kids = [])

theorem sz_fuel {ns : List Nd} (h : Low ns) : ∀ (f g i : Nat), i < f → i < g → sz ns f i = sz ns g i
  | 0, _, _, h1, _ => absurd h1 (by omega)
  | _, 0, _, _, h1 => absurd h1 (by omega)
  | f + 1, g + 1, i, h1, h2 => by
    unfold sz
    cases hn : ns[i]? with
    | none => rfl
    | some n =>
      simp only
      congr 2
      apply List.map_congr_left
      intro k hk
      have := (h i n hn).1 k hk
      exact sz_fuel h f g k.toNat (by omega) (by omega)
theorem lv_fuel {ns : List Nd} (h : Low ns) : ∀ (f g i : Nat), i < f → i < g → lv ns f i = lv ns g i
  | 0, _, _, h1, _ => absurd h1 (by omega)
  | _, 0, _, _, h1 => absurd h1 (by omega)
  | f + 1, g + 1, i, h1, h2 => by
    unfold lv
    cases hn : ns[i]? with
    | none => rfl
    | some n =>
      simp only
      split
      · rfl
      · rw [List.flatMap_def, List.flatMap_def]
        congr 1
        apply List.map_congr_left
        intro k hk
        have := (h i n hn).1 k hk
        exact lv_fuel h f g k.toNat (by omega) (by omega)

/-- The size and the leaves of a place. -/
def size (ns : List Nd) (i : Nat) : Nat := sz ns (i + 1) i
def leafs (ns : List Nd) (i : Nat) : List Int := lv ns (i + 1) i
theorem size_node {ns : List Nd} (h : Low ns) {i : Nat} {n : Nd} (hn : ns[i]? = some n) : size ns i = 1 + (n.kids.map fun k => size ns k.toNat).sum := by
  unfold size
  conv => lhs; unfold sz
  rw [hn]
  simp only
  congr 2
  apply List.map_congr_left
  intro k hk
  have := (h i n hn).1 k hk
  exact sz_fuel h i (k.toNat + 1) k.toNat (by omega) (by omega)
theorem leafs_leaf {ns : List Nd} {i : Nat} {n : Nd} (hn : ns[i]? = some n) (hk : n.kind = 19) : leafs ns i = [n.tok] := by
  unfold leafs lv
  rw [hn]
  simp only [if_pos hk]
theorem leafs_node {ns : List Nd} (h : Low ns) {i : Nat} {n : Nd} (hn : ns[i]? = some n) (hk : n.kind ≠ 19) : leafs ns i = n.kids.flatMap fun k => leafs ns k.toNat := by
  unfold leafs
  conv => lhs; unfold lv
  rw [hn]
  simp only [if_neg hk]
  rw [List.flatMap_def, List.flatMap_def]
  congr 1
  apply List.map_congr_left
  intro k hk
  have := (h i n hn).1 k hk
  exact lv_fuel h i (k.toNat + 1) k.toNat (by omega) (by omega)
theorem size_pos {ns : List Nd} {i : Nat} (h : i < ns.length) : 0 < size ns i := by
  unfold size sz
  rw [List.getElem?_eq_getElem h]
  simp only
  omega

/-- Kids are marked, each once. -/
def marks : List Bool → List Int → Option (List Bool)
  | kid, [] => some kid
  | kid, k :: ks => if kid.getD k.toNat false then none else marks (kid.set k.toNat true) ks
/-- The nodes from a place on: each of the right form, no kid twice. -/
def rightGo (t : T) : Nat → List Nd → List Bool → Option (List Bool)
  | _, [], kid => some kid
  | i, n :: l, kid => if formed t i n then (match marks kid n.kids with | none => none | some kid' => rightGo t (i + 1) l kid') else none
def right (t : T) : Bool :=
  match rightGo t 0 t.nodes (List.replicate t.nodes.length false) with
  | none => false
  | some kid => !kid.isEmpty && !((kid.take (kid.length - 1)).contains false) && (leafs t.nodes (t.nodes.length - 1) == (List.range t.toks.length).map fun i : Nat => (i : Int))

theorem formed_low {t : T} {i : Nat} {n : Nd} (h : formed t i n = true) : (∀ k ∈ n.kids, 0 ≤ k ∧ k < (i : Int)) ∧ (n.kind = 19 → n.kids = []) := by
  unfold formed at h
  split at h
  · cases h
  · split at h
    · rename_i h1
      simp only [Bool.and_eq_true, List.isEmpty_iff] at h
      exact ⟨fun k hk => (by rw [h.1.1] at hk; cases hk), fun _ => h.1.1⟩
    · rename_i h1
      refine ⟨fun k hk => ?_, fun h2 => absurd h2 h1⟩
      simp only [Bool.and_eq_true, Bool.not_eq_true', List.any_eq_false] at h
      have := h.2 k hk
      simp only [Bool.or_eq_true, decide_eq_true_eq, not_or] at this
      omega

/-- What the places ahead of one, that are no kids yet, weigh. -/
def open_ (ns : List Nd) (kid : List Bool) (i : Nat) : Nat := ((List.range i).map fun j => if kid.getD j false then 0 else size ns j).sum
theorem open_succ (ns : List Nd) (kid : List Bool) (i : Nat) : open_ ns kid (i + 1) = open_ ns kid i + (if kid.getD i false then 0 else size ns i) := by
  unfold open_
  rw [List.range_succ, List.map_append, List.sum_append]
  simp
theorem open_set {ns : List Nd} {kid : List Bool} {k : Nat} (hk : kid.getD k false = false) (hl : k < kid.length) : ∀ i, k < i → open_ ns (kid.set k true) i + size ns k = open_ ns kid i
  | 0, h => absurd h (by omega)
  | i + 1, h => by
    rw [open_succ, open_succ]
    by_cases he : k = i
    · subst he
      have e1 : (kid.set k true).getD k false = true := by simp [List.getD, hl]
      have e2 : open_ ns (kid.set k true) k = open_ ns kid k := by
        unfold open_
        congr 1
        apply List.map_congr_left
        intro j hj
        have : j < k := List.mem_range.1 hj
        have e3 : (kid.set k true).getD j false = kid.getD j false := by simp only [List.getD]; rw [List.getElem?_set_ne (by omega)]
        rw [e3]
      rw [e1, e2, hk]
      simp
    · have e3 : (kid.set k true).getD i false = kid.getD i false := by simp only [List.getD]; rw [List.getElem?_set_ne he]
      have := open_set (ns := ns) hk hl i (by omega)
      rw [e3]
      omega
theorem marks_open {ns : List Nd} {i : Nat} : ∀ {ks : List Int} {kid kid' : List Bool}, marks kid ks = some kid' → (∀ k ∈ ks, 0 ≤ k ∧ k < (i : Int)) → i ≤ kid.length → (∀ j, i ≤ j → kid.getD j false = false) →
    open_ ns kid' i + (ks.map fun k => size ns k.toNat).sum = open_ ns kid i ∧ kid'.length = kid.length ∧ (∀ j, i ≤ j → kid'.getD j false = false)
  | [], kid, kid', h, _, _, hz => by
    simp only [marks, Option.some.injEq] at h
    subst h
    exact ⟨by simp, rfl, hz⟩
  | k :: ks, kid, kid', h, hk, hi, hz => by
    unfold marks at h
    split at h
    · cases h
    · rename_i h1
      have hk0 := hk k (by simp)
      have h2 : kid.getD k.toNat false = false := by simpa using h1
      have ih := marks_open (ns := ns) h (fun x hx => hk x (by simp [hx])) (by simpa using hi) (fun j hj => by
        simp only [List.getD]
        rw [List.getElem?_set_ne (by omega)]
        exact hz j hj)
      have h3 := open_set (ns := ns) h2 (by omega) i (by omega)
      refine ⟨?_, by rw [ih.2.1]; simp, ih.2.2⟩
      rw [List.map_cons, List.sum_cons]
      omega

/-- All nodes ahead of a place are of the right form. -/
def FormedTo (t : T) (i : Nat) : Prop := ∀ (j : Nat) (n : Nd), j < i → t.nodes[j]? = some n → formed t j n = true
theorem rightGo_formed {t : T} : ∀ {l : List Nd} {i : Nat} {kid kid' : List Bool}, rightGo t i l kid = some kid' → t.nodes.drop i = l → FormedTo t i → FormedTo t t.nodes.length
  | [], i, kid, kid', _, hl, hf => by
    intro j n hj hn
    have : t.nodes.length ≤ i := List.drop_eq_nil_iff.1 hl
    exact hf j n (by omega) hn
  | n :: l, i, kid, kid', h, hl, hf => by
    have hlt : i < t.nodes.length := by
      rcases Nat.lt_or_ge i t.nodes.length with h1 | h1
      · exact h1
      · rw [List.drop_eq_nil_of_le h1] at hl; cases hl
    have hl2 := List.drop_eq_getElem_cons hlt
    rw [hl] at hl2
    injection hl2 with e1 e2
    unfold rightGo at h
    split at h
    · rename_i hfm
      split at h
      · cases h
      · rename_i kid1 hm
        refine rightGo_formed h e2.symm fun j m hj hm2 => ?_
        rcases Nat.lt_or_ge j i with h1 | h1
        · exact hf j m h1 hm2
        · have : j = i := by omega
          subst this
          rw [List.getElem?_eq_getElem hlt, ← e1, Option.some.injEq] at hm2
          rw [← hm2]
          exact hfm
    · cases h
theorem FormedTo.low {t : T} (h : FormedTo t t.nodes.length) : Low t.nodes := fun i n hn => formed_low (h i n (by
  rcases Nat.lt_or_ge i t.nodes.length with h1 | h1
  · exact h1
  · rw [List.getElem?_eq_none h1] at hn; cases hn) hn)
/-- Each place weighs at most as much as there are nodes up to it. -/
theorem rightGo_size {t : T} (hlow : Low t.nodes) : ∀ {l : List Nd} {i : Nat} {kid kid' : List Bool}, rightGo t i l kid = some kid' → t.nodes.drop i = l → kid.length = t.nodes.length → (∀ j, i ≤ j → kid.getD j false = false) → open_ t.nodes kid i = i →
    (∀ j, j < i → size t.nodes j ≤ j + 1) → i ≤ t.nodes.length → (∀ j, j < t.nodes.length → size t.nodes j ≤ j + 1) ∧ kid'.length = t.nodes.length ∧ open_ t.nodes kid' t.nodes.length = t.nodes.length ∧ (∀ j, t.nodes.length ≤ j → kid'.getD j false = false) ∧ (0 < t.nodes.length → i < t.nodes.length → kid'.getD (t.nodes.length - 1) false = false)
  | [], i, kid, kid', h, hl, hkl, hz, ho, hs, hi => by
    have : t.nodes.length ≤ i := List.drop_eq_nil_iff.1 hl
    have hi2 : i = t.nodes.length := by omega
    subst hi2
    simp only [rightGo, Option.some.injEq] at h
    subst h
    exact ⟨hs, hkl, ho, hz, fun _ h => absurd h (by omega)⟩
  | n :: l, i, kid, kid', h, hl, hkl, hz, ho, hs, hi => by
    have hlt : i < t.nodes.length := by
      rcases Nat.lt_or_ge i t.nodes.length with h1 | h1
      · exact h1
      · rw [List.drop_eq_nil_of_le h1] at hl; cases hl
    have hl2 := List.drop_eq_getElem_cons hlt
    rw [hl] at hl2
    injection hl2 with e1 e2
    have hn : t.nodes[i]? = some n := by rw [List.getElem?_eq_getElem hlt, ← e1]
    unfold rightGo at h
    split at h
    · split at h
      · cases h
      · rename_i kid1 hm
        have h1 := marks_open (ns := t.nodes) hm (hlow i n hn).1 (by omega) hz
        have h2 := size_node hlow hn
        have h3 := open_succ t.nodes kid1 i
        rw [h1.2.2 i (Nat.le_refl _)] at h3
        simp only [Bool.false_eq_true, if_false] at h3
        have h4 : open_ t.nodes kid1 (i + 1) = i + 1 := by omega
        have h5 : size t.nodes i ≤ i + 1 := by omega
        have ih := rightGo_size hlow h e2.symm (by rw [h1.2.1]; exact hkl) (fun j hj => h1.2.2 j (by omega)) h4 (fun j hj => by
          rcases Nat.lt_or_ge j i with h6 | h6
          · exact hs j h6
          · have : j = i := by omega
            rw [this]; exact h5) hlt
        refine ⟨ih.1, ih.2.1, ih.2.2.1, ih.2.2.2.1, fun h0 _ => ?_⟩
        rcases Nat.lt_or_ge (i + 1) t.nodes.length with h6 | h6
        · exact ih.2.2.2.2 h0 h6
        · have e3 : l = [] := by rw [e2]; exact List.drop_eq_nil_of_le h6
          subst e3
          simp only [rightGo, Option.some.injEq] at h
          subst h
          have e4 : t.nodes.length - 1 = i := by omega
          rw [e4]
          exact h1.2.2 i (Nat.le_refl _)
    · cases h
end Go.Proofs.YtlejecaanllghaaGreatDoor.Tr
/- Plain laws of a stack of places: what tree.leaves goes through. No program in sight. -/
namespace Go.Proofs.YtlejecaanllghaaGreatDoor.Tr

/-- What is still to come of a stack of places (the last one first), and how many places it weighs. -/
def stackLv (ns : List Nd) (st : List Int) : List Int := st.reverse.flatMap fun k => leafs ns k.toNat
def stackSz (ns : List Nd) (st : List Int) : Nat := (st.map fun k => size ns k.toNat).sum
def InR (ns : List Nd) (st : List Int) : Prop := ∀ k ∈ st, 0 ≤ k ∧ k < (ns.length : Int)

theorem stackLv_snoc (ns : List Nd) (st : List Int) (i : Int) : stackLv ns (st ++ [i]) = leafs ns i.toNat ++ stackLv ns st := by simp [stackLv]
theorem stackSz_snoc (ns : List Nd) (st : List Int) (i : Int) : stackSz ns (st ++ [i]) = stackSz ns st + size ns i.toNat := by simp [stackSz]
theorem stackLv_kids (ns : List Nd) (st ks : List Int) : stackLv ns (st ++ ks.reverse) = (ks.flatMap fun k => leafs ns k.toNat) ++ stackLv ns st := by simp [stackLv]
theorem stackSz_kids (ns : List Nd) (st ks : List Int) : stackSz ns (st ++ ks.reverse) = stackSz ns st + (ks.map fun k => size ns k.toNat).sum := by
  simp [stackSz, List.map_reverse, List.sum_reverse]
theorem InR.len {ns : List Nd} : ∀ {st : List Int}, InR ns st → st.length ≤ stackSz ns st
  | [], _ => by simp [stackSz]
  | k :: st, h => by
    have h1 := InR.len (st := st) fun x hx => h x (by simp [hx])
    have h2 := h k (by simp)
    have h3 := size_pos (ns := ns) (i := k.toNat) (by omega)
    simp only [stackSz, List.map_cons, List.sum_cons, List.length_cons] at h1 ⊢
    omega
theorem InR.left {ns : List Nd} {st l : List Int} (h : InR ns (st ++ l)) : InR ns st := fun k hk => h k (by simp [hk])
theorem InR.kids {ns : List Nd} (hl : Low ns) {st : List Int} (h : InR ns st) {i : Nat} {n : Nd} (hn : ns[i]? = some n) : InR ns (st ++ n.kids.reverse) := by
  have hlt : i < ns.length := by
    rcases Nat.lt_or_ge i ns.length with h1 | h1
    · exact h1
    · rw [List.getElem?_eq_none h1] at hn; cases hn
  intro k hk
  simp only [List.mem_append, List.mem_reverse] at hk
  rcases hk with hk | hk
  · exact h k hk
  · have := (hl i n hn).1 k hk
    omega
/-- The top is a leaf. -/
theorem stack_leaf {ns : List Nd} (hl : Low ns) {st : List Int} {i : Nat} {n : Nd} (hn : ns[i]? = some n) (hk : n.kind = 19) :
    stackLv ns (st ++ [(i : Int)]) = n.tok :: stackLv ns st ∧ stackSz ns (st ++ [(i : Int)]) = stackSz ns st + 1 := by
  rw [stackLv_snoc, stackSz_snoc]
  simp only [Int.toNat_natCast]
  rw [leafs_leaf hn hk, size_node hl hn, (hl i n hn).2 hk]
  exact ⟨rfl, rfl⟩
/-- .. is another node. -/
theorem stack_node {ns : List Nd} (hl : Low ns) {st : List Int} {i : Nat} {n : Nd} (hn : ns[i]? = some n) (hk : n.kind ≠ 19) :
    stackLv ns (st ++ [(i : Int)]) = stackLv ns (st ++ n.kids.reverse) ∧ stackSz ns (st ++ [(i : Int)]) = stackSz ns (st ++ n.kids.reverse) + 1 := by
  rw [stackLv_snoc, stackSz_snoc, stackLv_kids, stackSz_kids]
  simp only [Int.toNat_natCast]
  rw [leafs_node hl hn hk, size_node hl hn]
  exact ⟨rfl, by omega⟩
end Go.Proofs.YtlejecaanllghaaGreatDoor.Tr
/- Laws of the walk, inside a fence: a row loaded whole; append, and where it lies. -/
namespace Go.Proofs.YtlejecaanllghaaGreatDoor
open Go.RowKit Go.Shelf

theorem wpListIn_load_mid {F : Fence} {n : Nat} {P : Program} {ops : Array Oper} {rest : List Oper} {o : Oper} {a : Act} {w : World} {Q : Exit → Act → World → Prop} (hgd : o.guard = none) (ty : TypeId) (x : Operand) (ho : o.op = .load ty x)
    (b off : Nat) (hx : a.eval x = .pointer (some ⟨b, off, none⟩)) (cs : List Value) (d : TypeDesc) (hc : w.rangeAt b off cs)
    (hu : P.underlying ty = some d) (hd : d.isRow = true) (hi : (P.info? ty).map (·.size) = some cs.length)
    (h : wpListIn F n P ops Q rest (a.put o.dst (.agg cs.toArray)) w) : wpListIn F n P ops Q (o :: rest) a w := by
  refine wpListIn_plain hgd fun K hK => ?_
  unfold Oper.wpIn
  refine ⟨by simp [Oper.about, ho], ?_⟩
  rw [Oper.semAt_plain F _ _ (by rw [ho]; intro c hc'; cases hc')]
  unfold execOp
  simp only [ho, hx, Instr.loadAt, Instr.sureAddr, Sem.run_bind, Sem.run_pure, Result.andThen_ok, run_loadVar_mid w b off ty cs d hc hu hd hi]
  exact hK _ _ h

theorem wpListIn_append_lies {F : Fence} {nF : Nat} {P : Program} (w : World) {ops : Array Oper} {rest : List Oper} {o : Oper} {a : Act} {Q : Exit → Act → World → Prop} (hgd : o.guard = none) (s x : Operand) (t : TypeId)
    (ho : o.op = .call { callee := .builtin .append, args := #[s, x], argTypes := #[t, t] })
    (base : Nat) (e : TypeId) (i : TypeInfo) (z : Value) (size bytes : Nat) (ht : P.underlying t = some (.slice e)) (hi : P.info? e = some i) (hz : i.zero = some z)
    (hsize : i.size = size) (hby : i.bytes = bytes) (hzs : z.cells.size = size) (hsz : 0 < size)
    (v : Value) (n : Nat) (xs : List Value) (hs : a.eval s = v) (hown : w.ownsRow base e size v n xs)
    (ad : Addr) (m c : Nat) (news : List Value) (hx : a.eval x = .slice (some ad) m c) (hl : news.length = m * size) (hnews : ∀ j u, news[j]? = some u → w.cell? (ad.add j) = some u) (h1 : ∀ u ∈ news, u.oneCell' = true)
    (hm : 0 < m) (h63 : n + m ≤ maxLen) (hbytes : (n + m) * bytes ≤ 140737488355328) (hbase : base ≤ w.heap.size) (H : Nat) (hH : w.heap.size = H)
    (h : ∀ g cap w', w'.ownsRow base e size (.slice (some ⟨g, 0, none⟩) (n + m) cap) (n + m) (xs ++ news) → w.grownBy w' v.ownBlock → (v.ownBlock = some g ∨ g = H) → g < w'.heap.size → wpListIn F nF P ops Q rest (a.put o.dst (.slice (some ⟨g, 0, none⟩) (n + m) cap)) w') : wpListIn F nF P ops Q (o :: rest) a w := by
  refine wpListIn_plain hgd fun K hK => ?_
  obtain ⟨g, cap, w', hr, h2, h3, h4, h5⟩ := run_append_lies (P := P) w t o.type base e i z size bytes ht hi hz hsize hby hzs hsz v n xs hown ad m c news hl hnews h1 hm h63 hbytes hbase H hH
  unfold Oper.wpIn
  refine ⟨by simp [Oper.about, ho, resolve, Target.leads, Sem.run_pure], ?_⟩
  rw [Oper.semAt_plain F _ _ (by rw [ho]; intro c hc'; cases hc')]
  simp [execOp, ho, resolve, invoke, builtin, hs, hx, hr, Result.andThen]
  exact hK _ _ (h g cap w' h2 h3 h4 h5)
end Go.Proofs.YtlejecaanllghaaGreatDoor
/- What tree.leaves keeps in memory: its stack in a box, its answer, its marks. -/
namespace Go.Proofs.YtlejecaanllghaaGreatDoor
open Go.RowKit Go.Shelf

structure LvMem (w : World) (vt vn : Value) (ob : Nat) (ds : List Nat) (st acc : List Int) (v5 : Value) (g c : Nat) (W : World) : Prop where
  box : Boxed W ob 56 (.slice (some ⟨g, 0, none⟩) st.length c)
  own : W.ownsRow w.heap.size 3 1 (.slice (some ⟨g, 0, none⟩) st.length c) st.length (intCells st)
  out : W.ownsRow w.heap.size 3 1 v5 acc.length (intCells acc)
  ne : v5.ownBlock ≠ some g
  tbox : W.heap[w.heap.size]? = some (.cells #[vt, vn] 30 (0, 0))
  obl : w.heap.size < ob
  below : Below w.heap.size w W
  nd : ds.Nodup
  mks : ∀ D ∈ ds, w.heap.size ≤ D ∧ W.heap[D]? = some (.deferred (some []))

theorem boxed_of {W : World} {B : Nat} {t : TypeId} {v : Value} (h : W.heap[B]? = some (.cells #[v] t (0, 0))) : Boxed W B t v := h

variable {w : World} {vt vn : Value} {ob : Nat} {ds : List Nat} {st acc : List Int} {v5 : Value} {g c : Nat} {W : World}

/-- It abides the turn of a new block that is no cells. -/
theorem LvMem.turned (h : LvMem w vt vn ob ds st acc v5 g c W) {W' : World} {row : Option Nat} (hg : W.grownBy W' row) (hr : ∀ r, row = some r → (∀ D ∈ ds, D < r) ∧ w.heap.size ≤ r ∧ ∃ o : Obj, W.heap[r]? = some o ∧ o.isCells = false) : LvMem w vt vn ob ds st acc v5 g c W' := by
  have hc : ∀ {k : Nat} {cs : Array Value} {T : TypeId} {fr : Nat × Nat}, W.heap[k]? = some (.cells cs T fr) → W'.heap[k]? = W.heap[k]? := by
    intro k cs T fr hk
    refine hg.block k (lt_heap hk) fun e => ?_
    obtain ⟨_, _, o, ho, hn⟩ := hr k e.symm
    rw [hk] at ho
    cases ho
    cases hn
  have ho : ∀ {v : Value} {n : Nat} {xs : List Value}, W.ownsRow w.heap.size 3 1 v n xs → W'.ownsRow w.heap.size 3 1 v n xs := by
    intro v n xs hv
    refine ownsRow_same hv fun k hk => ?_
    obtain ⟨cur, hcur⟩ := ownsRow_cells hv hk
    exact hc hcur
  refine ⟨(hc h.box).trans h.box, ho h.own, ho h.out, h.ne, (hc h.tbox).trans h.tbox, h.obl, h.below.grown hg h.below.size (fun k e => (hr k e).2.1), h.nd, fun D hD => ⟨(h.mks D hD).1, ?_⟩⟩
  rw [hg.block D (lt_heap (h.mks D hD).2) fun e => by have := (hr D e.symm).1 D hD; omega]
  exact (h.mks D hD).2
theorem LvMem.alloc (h : LvMem w vt vn ob ds st acc v5 g c W) (o : Obj) : LvMem w vt vn ob ds st acc v5 g c (W.alloc o) := h.turned (World.grownBy_alloc W o none) (fun r e => by cases e)

/-- The row of ints is no box of a slice. -/
theorem LvMem.apart (h : LvMem w vt vn ob ds st acc v5 g c W) : g ≠ ob ∧ g ≠ w.heap.size ∧ v5.ownBlock ≠ some ob ∧ v5.ownBlock ≠ some w.heap.size ∧ (∀ D ∈ ds, D ≠ ob ∧ D ≠ g ∧ v5.ownBlock ≠ some D) := by
  obtain ⟨cur, hg⟩ := ownsRow_cells h.own (k := g) rfl
  have hb := h.box
  unfold Boxed at hb
  refine ⟨?_, ?_, ?_, ?_, fun D hD => ⟨?_, ?_, ?_⟩⟩
  · rintro rfl
    rw [hb] at hg
    simp at hg
  · rintro rfl
    rw [h.tbox] at hg
    simp at hg
  · intro e
    obtain ⟨c5, h5⟩ := ownsRow_cells h.out e
    rw [hb] at h5
    simp at h5
  · intro e
    obtain ⟨c5, h5⟩ := ownsRow_cells h.out e
    rw [h.tbox] at h5
    simp at h5
  · rintro rfl
    rw [(h.mks _ hD).2] at hb
    cases hb
  · rintro rfl
    rw [(h.mks _ hD).2] at hg
    cases hg
  · intro e
    obtain ⟨c5, h5⟩ := ownsRow_cells h.out e
    rw [(h.mks _ hD).2] at h5
    cases h5

theorem setCell_ne {W : World} {b j k : Nat} (v : Value) (h : k ≠ b) : (W.setCell ⟨b, j, none⟩ v).heap[k]? = W.heap[k]? := Below.heap_setCell _ _ _ _ h
theorem ownsRow_pop {w : World} {base : Nat} {e : TypeId} {g n c : Nat} {xs : List Value} {x : Value} (h : w.ownsRow base e 1 (.slice (some ⟨g, 0, none⟩) (n + 1) c) (n + 1) (xs ++ [x])) : w.ownsRow base e 1 (.slice (some ⟨g, 0, none⟩) n c) n xs := by
  obtain ⟨h1, h2⟩ := h
  have hl : xs.length = n := by simpa using h1
  rcases h2 with ⟨h2, _⟩ | ⟨k, cap, cur, hv, hb, hh, hn, hm, hs, ht⟩
  · cases h2
  · injection hv with hv1 hv2 hv3
    injection hv1 with hv1
    subst hv3
    refine ⟨by simpa using hl, Or.inr ⟨k, c, cur, by rw [hv1], hb, hh, by omega, hm, hs, ?_⟩⟩
    have h3 : (cur.toList.take ((n + 1) * 1)).take n = xs := by rw [ht, List.take_append_of_le_length (by omega), List.take_of_length_le (by omega)]
    rw [List.take_take] at h3
    rw [← h3]
    congr 1
    omega

/-- The last place is taken off. -/
theorem LvMem.pop {i : Int} {m : Nat} (hm : (st ++ [i]).length = m + 1) (h : LvMem w vt vn ob ds (st ++ [i]) acc v5 g c W) : LvMem w vt vn ob ds st acc v5 g c (W.setCell ⟨ob, 0, none⟩ (.slice (some ⟨g, 0, none⟩) m c)) := by
  have hml : st.length = m := by simpa using hm
  have ha := h.apart
  subst hml
  have hobl := h.obl
  have ho := h.own
  simp only [intCells, List.map_append, List.map_cons, List.map_nil, List.length_append, List.length_cons, List.length_nil, Nat.zero_add] at ho
  refine ⟨h.box.set _, ownsRow_same (ownsRow_pop ho) fun k hk => setCell_ne _ ?_, ownsRow_same h.out fun k hk => setCell_ne _ ?_, h.ne, ?_, h.obl, h.below.setCell (by simp only; omega) _, h.nd, fun D hD => ⟨(h.mks D hD).1, ?_⟩⟩
  · injection hk with hk
    subst hk
    exact ha.1
  · intro e
    rw [e] at hk
    exact ha.2.2.1 hk
  · rw [setCell_ne _ (by omega)]
    exact h.tbox
  · rw [setCell_ne _ (ha.2.2.2.2 D hD).1]
    exact (h.mks D hD).2

/-- A place is put on. -/
theorem LvMem.push (h : LvMem w vt vn ob ds st acc v5 g c W) {o : Obj} {x : Int} {g' cap : Nat} {w1 : World} (hown : w1.ownsRow w.heap.size 3 1 (.slice (some ⟨g', 0, none⟩) (st.length + 1) cap) (st.length + 1) (intCells st ++ [.int .i64 x]))
    (hgrow : (W.alloc o).grownBy w1 (some g)) (hat : some g = some g' ∨ g' = (W.alloc o).heap.size) :
    Boxed w1 ob 56 (.slice (some ⟨g, 0, none⟩) st.length c) ∧ LvMem w vt vn ob ds (st ++ [x]) acc v5 g' cap (w1.setCell ⟨ob, 0, none⟩ (.slice (some ⟨g', 0, none⟩) (st.length + 1) cap)) ∧
    KeepsOthers W (w1.setCell ⟨ob, 0, none⟩ (.slice (some ⟨g', 0, none⟩) (st.length + 1) cap)) ∧ (∀ k, k < W.heap.size → k ≠ g → k ≠ ob → (w1.setCell ⟨ob, 0, none⟩ (.slice (some ⟨g', 0, none⟩) (st.length + 1) cap)).heap[k]? = W.heap[k]?) := by
  have ha := h.apart
  have hA := h.alloc o
  have hobl := h.obl
  have hs : (W.alloc o).heap.size = W.heap.size + 1 := (size_alloc1 W o).symm
  have hb1 : Boxed w1 ob 56 (.slice (some ⟨g, 0, none⟩) st.length c) := hA.box.kept hgrow fun e => by injection e with e; exact ha.1 e.symm
  have hmove : ∀ k, k < W.heap.size → k ≠ g → k ≠ ob → (w1.setCell ⟨ob, 0, none⟩ (.slice (some ⟨g', 0, none⟩) (st.length + 1) cap)).heap[k]? = W.heap[k]? := by
    intro k hk h1 h2
    rw [setCell_ne _ h2, hgrow.block k (by omega) (fun e => by injection e with e; exact h1 e), Below.heap_alloc _ _ _ hk]
  have hg'ob : g' ≠ ob := by
    rcases hat with e | e
    · injection e with e
      rw [← e]
      exact ha.1
    · have := h.box.lt
      omega
  refine ⟨hb1, ⟨by simpa using hb1.set _, ownsRow_same (by simpa [intCells] using hown) fun k hk => setCell_ne _ ?_, ownsRow_same h.out fun k hk => hmove k (h.out.lt k hk).2 ?_ ?_, ?_, ?_, h.obl, ?_, h.nd, fun D hD => ⟨(h.mks D hD).1, ?_⟩⟩, ?_, hmove⟩
  · injection hk with hk
    subst hk
    exact hg'ob
  · intro e
    rw [e] at hk
    exact h.ne hk
  · intro e
    rw [e] at hk
    exact ha.2.2.1 hk
  · rcases hat with e | e
    · injection e with e
      rw [← e]
      exact h.ne
    · intro e2
      have := (h.out.lt g' e2).2
      omega
  · rw [hmove _ (lt_heap h.tbox) (fun e => ha.2.1 e.symm) (by omega)]
    exact h.tbox
  · refine (hA.below.grown hgrow hA.below.size fun k e => ?_).setCell (by simp only; omega) _
    injection e with e
    rw [← e]
    exact (h.own.lt g rfl).1
  · rw [hmove D (lt_heap (h.mks D hD).2) (ha.2.2.2.2 D hD).2.1 (ha.2.2.2.2 D hD).1]
    exact (h.mks D hD).2
  · refine ((KeepsOthers.alloc W o).trans (KeepsOthers.of_grownBy hgrow fun j oo ej hj => ?_)).trans (KeepsOthers.setCell _ _ _)
    injection ej with ej
    obtain ⟨cur, hcur⟩ := ownsRow_cells hA.own (k := g) rfl
    rw [← ej, hcur] at hj
    cases hj
    rfl

/-- A leaf's token is put onto the answer. -/
theorem LvMem.outp (h : LvMem w vt vn ob ds st acc v5 g c W) {o : Obj} {x : Int} {g' cap : Nat} {w1 : World} (hown : w1.ownsRow w.heap.size 3 1 (.slice (some ⟨g', 0, none⟩) (acc.length + 1) cap) (acc.length + 1) (intCells acc ++ [.int .i64 x]))
    (hgrow : (W.alloc o).grownBy w1 v5.ownBlock) (hat : v5.ownBlock = some g' ∨ g' = (W.alloc o).heap.size) :
    LvMem w vt vn ob ds st (acc ++ [x]) (.slice (some ⟨g', 0, none⟩) (acc.length + 1) cap) g c w1 := by
  have ha := h.apart
  have hA := h.alloc o
  have hobl := h.obl
  have hs : (W.alloc o).heap.size = W.heap.size + 1 := (size_alloc1 W o).symm
  have hmove : ∀ k, k < W.heap.size → v5.ownBlock ≠ some k → w1.heap[k]? = W.heap[k]? := by
    intro k hk h1
    rw [hgrow.block k (by omega) (fun e => h1 e.symm), Below.heap_alloc _ _ _ hk]
  refine ⟨(hmove ob h.box.lt ha.2.2.1).trans h.box, ownsRow_same h.own fun k hk => hmove k (h.own.lt k hk).2 ?_, by simpa [intCells] using hown, ?_, ?_, h.obl, ?_, h.nd, fun D hD => ⟨(h.mks D hD).1, ?_⟩⟩
  · intro e
    injection hk with hk
    rw [← hk] at e
    exact h.ne e
  · intro e
    injection e with e
    subst e
    rcases hat with e | e
    · exact h.ne e
    · have := (h.own.lt g' rfl).2
      omega
  · rw [hmove _ (lt_heap h.tbox) ha.2.2.2.1]
    exact h.tbox
  · exact hA.below.grown hgrow hA.below.size fun k e => (h.out.lt k e).1
  · rw [hmove D (lt_heap (h.mks D hD).2) (ha.2.2.2.2 D hD).2.2]
    exact (h.mks D hD).2
/-- A new mark. -/
theorem LvMem.mark (h : LvMem w vt vn ob ds st acc v5 g c W) {D : Nat} (hn : ∀ E ∈ ds, E < D) (hw : w.heap.size ≤ D) (hD : W.heap[D]? = some (.deferred (some []))) : LvMem w vt vn ob (D :: ds) st acc v5 g c W := by
  refine ⟨h.box, h.own, h.out, h.ne, h.tbox, h.obl, h.below, List.nodup_cons.2 ⟨fun hm => Nat.lt_irrefl _ (hn D hm), h.nd⟩, fun E hE => ?_⟩
  rcases List.mem_cons.1 hE with rfl | hE
  · exact ⟨hw, hD⟩
  · exact h.mks E hE
end Go.Proofs.YtlejecaanllghaaGreatDoor
/- tree.leaves: the tokens' places of all leaves beneath a node. -/
namespace Go.Proofs.YtlejecaanllghaaGreatDoor
open Go.RowKit Go.Shelf
attribute [local go_sem] Oper.semAt_some

theorem new_at (w : World) (cs : Array Value) (T : TypeId) {r : Nat} (h : r = w.heap.size) : (w.alloc (.cells cs T)).heap[r]? = some (.cells cs T (0, 0)) := by
  subst h
  exact World.alloc_heap_new _ _
theorem new_size (W : World) (p : Addr) (v : Value) (o : Obj) : W.heap.size + 1 = ((W.setCell p v).alloc o).heap.size := by
  rw [← size_alloc1]
  simp [World.setCell]
theorem lv_last (st : List Int) : st = [] ∨ ∃ st0 i, st = st0 ++ [i] := by
  rcases List.eq_nil_or_concat st with h | ⟨l, i, h⟩
  · exact .inl h
  · exact .inr ⟨l, i, by rw [h, List.concat_eq_append]⟩
theorem backUpto_snd (zs : List Int) : (backUpto zs zs.length).map (·.2) = zs.reverse := by
  apply List.ext_getElem?
  intro i
  by_cases h : i < zs.length
  · have h2 : zs.length - 1 - i < zs.length := by omega
    rw [List.getElem?_reverse h]
    simp [backUpto, h, h2]
  · rw [List.getElem?_eq_none (by simp [backUpto]; omega), List.getElem?_eq_none (by simp; omega)]

theorem backward_in (F : Fence) (n : Nat) (h : F.fn 216) (hro : F.round = none) (v : Value) (h1 : v.oneCell' = true) (w : World) :
    CallsIn F n Tryz.prog 216 #[v] w fun e w' => e = .returned (.func (.func 242) #[] #[.pointer (some ⟨w.heap.size, 0, none⟩)]) ∧ w.alloc (.cells #[v] 56) = w' := by
  refine callsIn_of_wp Tryz.func216 rfl h ?_ hro
  simp only [Tryz.ntmps216, List.size_toArray, List.length_cons, List.length_nil, Nat.reduceAdd, Nat.reduceSub, Array.replicate_succ, Array.replicate_zero, List.push_toArray, List.append_toArray, List.nil_append, List.cons_append]
  gi_wp2
  go_ret
  exact ⟨rfl, rfl⟩

theorem back_stops (F : Fence) (n : Nat) (h8 : F.fn 242) (hro : F.round = none) (hn : 1 ≤ n) (Bs : Nat) (P : Nat → Prop) (v : Value) (zs : List Int) (hreach : zs.length ≤ 1073741824) (w w0 : World)
    (hrd : RdW w P 1 v zs.length (intCells zs)) (hP : ∀ k, P k → k < w.heap.size) (hb0 : Below w.heap.size w w0) (hbox : Boxed w0 Bs 56 v) :
    SeqStopsK F n Tryz.prog 242 #[.pointer (some ⟨Bs, 0, none⟩)] (fun x : Int × Int => #[.int .i64 x.1, .int .i64 x.2]) (Keeps fun k => P k ∨ k = Bs) (fun ys => ys = backUpto zs zs.length) (fun pre => ∃ k, k ≤ zs.length ∧ pre = backUpto zs k) zs.length w0 := by
  intro l J Jx W hW _ _ hY h0
  have hbW : W.cell? ⟨Bs, 0, none⟩ = some v := (hW.cell (p := ⟨Bs, 0, none⟩) hbox.lt).trans hbox.cell
  obtain ⟨hl, a, c, rfl, _, hd⟩ := hrd
  rcases hd with ⟨_, h00⟩ | ⟨b, off, rfl, hpb, hrg⟩
  · have hz : zs = [] := List.eq_nil_of_length_eq_zero h00
    subst hz
    refine (back1_nil_in F n h8 hro l Bs J W a c hbW h0).mono ?_
    rintro e W' ⟨hv, hJ⟩
    exact ⟨hv, .inl ⟨_, rfl, hJ⟩⟩
  · refine back1_in F n h8 hro hn l Bs b off c (fun k => P k ∨ k = Bs) zs hreach (fun h => .inl (hpb.resolve_left (by omega))) J Jx hY W (.inr rfl) hbW (fun j hj => ?_) h0
    have hpb' := hpb.resolve_left (by omega)
    have h1 := hrg j (.int .i64 (zs[j]?.getD 0)) (by simp [intCells, List.getElem?_eq_getElem hj])
    have hlt := hP b hpb'
    rw [← h1]
    refine World.cell?_of_block (a := ⟨b, off + j, none⟩) ?_
    show W.heap[b]? = w.heap[b]?
    rw [hW.block b (Nat.lt_of_lt_of_le hlt hb0.size), hb0.block b hlt]

def LvRel (w : World) (vt vn : Value) (ns : List Tr.Nd) (root : Nat) (k : Nat) (ds : List Nat) (v5 : Value) (W : World) : Prop :=
  ∃ st acc g c, k = Tr.stackSz ns st ∧ Tr.InR ns st ∧ acc ++ Tr.stackLv ns st = Tr.leafs ns root ∧ acc.length + k ≤ 1073741823 ∧ LvMem w vt vn (w.heap.size + 1 + 1) ds st acc v5 g c W

theorem lv_start (w : World) (vt vn : Value) (ns : List Tr.Nd) (root : Nat) (hroot : root < ns.length) (hsz : Tr.size ns root ≤ 1073741823) :
    LvRel w vt vn ns root (Tr.size ns root) [] (.slice none 0 0) (((w.alloc (.cells #[vt, vn] 30)).alloc (.cells #[.int .i64 (root : Int)] 3)).alloc (.cells #[.slice (some ⟨w.heap.size + 1, 0, none⟩) 1 1] 56)) := by
  have s1 : (w.alloc (.cells #[vt, vn] 30)).heap.size = w.heap.size + 1 := (size_alloc1 _ _).symm
  have s2 : ((w.alloc (.cells #[vt, vn] 30)).alloc (.cells #[.int .i64 (root : Int)] 3)).heap.size = w.heap.size + 1 + 1 := by rw [← size_alloc1, s1]
  refine ⟨[(root : Int)], [], w.heap.size + 1, 1, by simp [Tr.stackSz], by intro k hk; simp at hk; omega, by simp [Tr.stackLv], by simpa using hsz, ?_⟩
  refine ⟨?_, ?_, World.ownsRow_nil _ _ _ _, by simp [Value.ownBlock], ?_, by omega, ?_, List.nodup_nil, by simp⟩
  · unfold Boxed
    rw [← s2]
    exact World.alloc_heap_new _ _
  · refine ⟨rfl, Or.inr ⟨w.heap.size + 1, 1, #[.int .i64 (root : Int)], rfl, by omega, ?_, Nat.le_refl _, by decide, rfl, rfl⟩⟩
    rw [Below.heap_alloc _ _ _ (by omega), ← s1]
    exact World.alloc_heap_new _ _
  · rw [Below.heap_alloc _ _ _ (by omega), Below.heap_alloc _ _ _ (by omega)]
    exact World.alloc_heap_new _ _
  · exact (((Below.refl _ _).alloc (Nat.le_refl _) _).alloc (by omega) _).alloc (by omega) _

def LvAct (w : World) (vt vn : Value) (ns : List Tr.Nd) (root : Nat) (k : Nat) (a : Act) (W : World) : Prop :=
  ∃ (ds : List Nat) (v5 u7 u8 u13 u14 u15 u16 u17 u18 u19 u20 u21 u22 u23 u24 u25 u26 u27 u28 u29 u30 u31 u32 u33 u34 u35 u36 u37 u38 u39 u40 u41 u42 : Value), LvRel w vt vn ns root k ds v5 W ∧ a = { tmps := #[.agg #[vt, vn], .int .i64 (root : Int), .pointer (some ⟨w.heap.size, 0, none⟩), undef, .slice none 0 0, v5, .pointer (some ⟨w.heap.size + 1 + 1, 0, none⟩), u7, u8, undef, undef, .int .i64 (root : Int), .slice (some ⟨w.heap.size + 1, 0, none⟩) 1 1, u13, u14, u15, u16, u17, u18, u19, u20, u21, u22, u23, u24, u25, u26, u27, u28, u29, u30, u31, u32, u33, u34, u35, u36, u37, u38, u39, u40, u41, u42, undef, undef, undef, undef, undef, undef, undef], defers := markDs ds }

set_option maxRecDepth 100000 in
set_option maxHeartbeats 2000000 in
theorem leaves_calls {w : World} {P : Nat → Prop} {vt vn : Value} {t : Tr.T} (h : RdT w P vt vn t) (hP : ∀ k, P k → k < w.heap.size) (hlow : Tr.Low t.nodes) (root : Nat) (hroot : root < t.nodes.length) (hn : t.nodes.length ≤ 1073741824)
    (hsz : Tr.size t.nodes root ≤ 1073741823) :
    Calls Tryz.prog 170 #[.agg #[vt, vn], .int .i64 root] w fun e w' => ∃ v, e = .returned v ∧ w'.ownsRow w.heap.size 3 1 v (Tr.leafs t.nodes root).length (intCells (Tr.leafs t.nodes root)) ∧ Below w.heap.size w w' := by
  refine (callsIn_wide (n := 5)).1 ?_
  refine callsIn_of_wp_marks Tryz.func170 rfl trivial ?_ rfl
  simp only [Tryz.ntmps170, List.size_toArray, List.length_cons, List.length_nil, Nat.reduceAdd, Nat.reduceSub, Array.replicate_succ, Array.replicate_zero, List.push_toArray, List.append_toArray, List.nil_append, List.cons_append]
  gi_wp2_with fail
  refine wpIn_loop_ghost_k (fun k a W => LvAct w vt vn t.nodes root k a W) (Tr.size t.nodes root) ?_ ?_
  · exact ⟨[], _, _, _, _, _, _, _, _, _, _, _, _, _, _, _, _, _, _, _, _, _, _, _, _, _, _, _, _, _, _, _, _, _, lv_start w vt vn t.nodes root hroot hsz, rfl⟩
  · rintro k a W ⟨ds, v5, u7, u8, u13, u14, u15, u16, u17, u18, u19, u20, u21, u22, u23, u24, u25, u26, u27, u28, u29, u30, u31, u32, u33, u34, u35, u36, u37, u38, u39, u40, u41, u42, ⟨st, acc, g, c, hk, hin, hlv, hroom, hm⟩, rfl⟩ J K hJ hK
    rcases lv_last st with rfl | ⟨st0, i, rfl⟩
    · have c6 := hm.box.cell
      simp only [List.length_nil] at c6
      have HM := Lib.hid (And.intro hm hlv)
      clear hm hlv hk hin hroom hJ hK
      gi_wp2_with fail
      obtain ⟨hm, hlv⟩ := HM.out
      refine leaves_marks ds W hm.nd (fun D hD => (hm.mks D hD).2) fun w' h1 h2 h3 h4 h5 => ⟨_, results_tmp rfl _ _ _, v5, rfl, ?_, ?_⟩
      · have e : acc = Tr.leafs t.nodes root := by simpa [Tr.stackLv] using hlv
        rw [← e]
        refine ownsRow_same hm.out fun k hk => h5 k fun hD => (hm.apart.2.2.2.2 k hD).2.2 hk
      · refine hm.below.trans ⟨h1, h2, h3, Nat.le_of_eq h4.symm, fun k hk => h5 k fun hD => ?_⟩
        have := (hm.mks k hD).1
        omega
    · have hi := hin i (by simp)
      obtain ⟨j, rfl⟩ : ∃ j : Nat, i = j := ⟨i.toNat, by omega⟩
      obtain ⟨x, hx⟩ : ∃ x, t.nodes[j]? = some x := ⟨_, List.getElem?_eq_getElem (by omega)⟩
      have hlen := hin.len
      have hm1 := hm.pop (m := st0.length) (by simp)
      have hrd1 := h.2.keep (Keeps.of hm1.below hP)
      obtain ⟨b, off, cn, kv, rfl, hPb, hrg, hkv⟩ := hrd1.node hx
      have c6 := hm.box.cell
      simp only [List.length_append, List.length_cons, List.length_nil, Nat.zero_add] at c6
      have cg : W.cell? ⟨g, st0.length, none⟩ = some (.int .i64 (j : Int)) := by
        have := hm.own.cells (g := g) rfl st0.length (.int .i64 (j : Int)) (by simp [intCells])
        rwa [Addr.add_mid, Nat.zero_add] at this
      have ct := cell_of_heap hm.tbox 1 rfl
      have f6 := hm.box.frozen
      have hmc : st0.length < c := by
        rcases hm.own.2 with ⟨hq, _⟩ | ⟨_, cap, _, hv, _, _, hle, _⟩
        · cases hq
        · injection hv with _ _ hc
          subst hc
          simp at hle
          omega
      obtain ⟨kind, tok, kids⟩ := x
      simp only at hrg hkv
      obtain ⟨ka, kc, rfl⟩ := hkv.form
      obtain ⟨i0, hi0, hz0, hz1, hz2⟩ := info_split info_int
      have Hi := Lib.hid hi0
      have Hz0 := Lib.hid hz0
      have Hz1 := Lib.hid hz1
      have Hz2 := Lib.hid hz2
      have HG := Lib.hid hrg
      have hmc' : (st0.length : Int) < (c : Int) := by omega
      have hjn : (j : Int) < (t.nodes.length : Int) := hi.2
      have hsl : (st0.length : Int) ≤ 1073741823 := by
        have : st0.length ≤ (st0 ++ [(j : Int)]).length := by simp
        omega
      have hn' : (t.nodes.length : Int) ≤ 1073741824 := by omega
      have hwW : w.heap.size ≤ W.heap.size := hm.below.size
      have HH := Lib.hid (And.intro h (And.intro hP (And.intro hin (And.intro hlv (And.intro hm1 (And.intro hroom (And.intro hlow (And.intro hx (And.intro hk (And.intro hkv (And.intro hJ (And.intro hK (And.intro hlen hPb)))))))))))))
      clear hi0 hz0 hz1 hz2 hrg h hP hin hlv hm1 hroom hlow hx hk hkv hJ hK hlen hPb hroot hsz hrd1 hi hm hmc hn
      by_cases hk19 : kind = 19
      · subst hk19
        gi_wp2_with (first
          | (refine wpListIn_load_mid rfl 175 _ rfl b (off + j * 3) rfl _ _ HG.out Tryz.underlying175 rfl rfl ?_)
          | (gi_at_builtin; refine wpListIn_append_lies _ rfl (.tmp 35) (.tmp 38) 56 rfl w.heap.size 3 i0 (.int .i64 0) 1 8 Tryz.underlying56 Hi.out Hz0.out Hz1.out Hz2.out rfl (by decide) v5 acc.length (intCells acc) rfl ((HH.out.2.2.2.2.1.alloc _).alloc _).out ⟨_, 0, none⟩ 1 1 [.int .i64 tok] rfl rfl (World.news_of_block (new_at _ _ _ (new_size _ _ _ _))) (by simp [Value.oneCell']) (by decide) (by have := HH.out.2.2.2.2.2.1; unfold maxLen; omega) (by have := HH.out.2.2.2.2.2.1; omega) ((HH.out.2.2.2.2.1.alloc _).alloc _).below.size _ rfl ?_))
        intro g1 cap w1 hown hgrow hat hlt1
        have HW := Lib.hid (And.intro hown (And.intro hgrow (And.intro hat hlt1)))
        clear hown hgrow hat hlt1
        gi_wp2_with fail
        obtain ⟨h, hP, hin, hlv, hm1, hroom, hlow, hx, hk, hkv, hJ, hK, hlen, hPb⟩ := HH.out
        obtain ⟨hown, hgrow, hat, hlt1⟩ := HW.out
        have hs := Tr.stack_leaf (st := st0) hlow hx rfl
        have hm2 := (hm1.alloc (.cells #[.int .i64 19, .int .i64 tok, .slice ka kids.length kc] 175)).outp hown hgrow (hat.imp_right fun e => by rw [e, ← size_alloc1, ← size_alloc1]; simp [World.setCell])
        refine hK _ _ (Handed.intro (Tr.stackSz t.nodes st0) ?_ (hJ _ _ _ ?_))
        · rw [hk, hs.2]
          omega
        refine ⟨ds, _, _, _, _, _, _, _, _, _, _, _, _, _, _, _, _, _, _, _, _, _, _, _, _, _, _, _, _, _, _, _, _, _, ⟨st0, acc ++ [tok], g, c, rfl, hin.left, ?_, ?_, hm2⟩, rfl⟩
        · rw [← hlv, hs.1]
          simp
        · rw [hs.2] at hk
          simp
          omega
      · have hk19' : (kind == 19) = false := by simp [hk19]
        have HK19 := Lib.hid hk19
        clear hk19
        gi_wp2_with (first
          | (refine wpListIn_load_mid rfl 175 _ rfl b (off + j * 3) rfl _ _ HG.out Tryz.underlying175 rfl rfl ?_)
          | (refine ⟨trivial, ?_⟩; gi_at_call 216; refine (backward_in Fence.wide _ trivial rfl (.slice ka kids.length kc) rfl _).mono ?_; rintro e w' ⟨rfl, rfl⟩))
        obtain ⟨V, hV⟩ : ∃ V, (W.setCell ⟨w.heap.size + 1 + 1, 0, none⟩ (.slice (some ⟨g, 0, none⟩) st0.length c)).alloc (.cells #[.int .i64 kind, .int .i64 tok, .slice ka kids.length kc] 175) = V := ⟨_, rfl⟩
        rw [hV]
        have hVs : V.heap.size = W.heap.size + 1 := by rw [← hV, ← size_alloc1]; simp [World.setCell]
        have hVm : LvMem w vt (.slice (some ⟨b, off, none⟩) t.nodes.length cn) (w.heap.size + 1 + 1) ds st0 acc v5 g c V := by rw [← hV]; exact HH.out.2.2.2.2.1.alloc _
        have hVk : RdW V P 1 (.slice ka kids.length kc) kids.length (intCells kids) := by
          rw [← hV]
          exact HH.out.2.2.2.2.2.2.2.2.2.1.keep (Keeps.of ((Below.refl _ _).alloc (Nat.le_refl _) _) fun k hk => Nat.lt_of_lt_of_le (HH.out.2.1 k hk) HH.out.2.2.2.2.1.below.size)
        obtain ⟨h, hP, hin, hlv, hm1, hroom, hlow, hx, hk, hkv, hJ, hK, hlen, hPb⟩ := HH.out
        have hs := Tr.stack_node (st := st0) hlow hx HK19.out
        simp only at hs
        have hin2 := (Tr.InR.left (l := [(j : Int)]) hin).kids hlow hx
        have hl2 := hin2.len
        simp only [List.length_append, List.length_reverse] at hl2
        rw [hs.2] at hk
        have hob := hm1.box.lt
        rw [show (W.setCell ⟨w.heap.size + 1 + 1, 0, none⟩ (.slice (some ⟨g, 0, none⟩) st0.length c)).heap.size = W.heap.size from by simp [World.setCell]] at hob
        have hkl : kids.length ≤ 1073741823 := by omega
        have hbB : Below V.heap.size V (V.alloc (.cells #[.slice ka kids.length kc] 56)) := (Below.refl _ _).alloc (Nat.le_refl _) _
        have hbx : Boxed (V.alloc (.cells #[.slice ka kids.length kc] 56)) (W.heap.size + 1) 56 (.slice ka kids.length kc) := by rw [← hVs]; exact Boxed.new _ _ _
        have hVB := size_alloc1 V (.cells #[.slice ka kids.length kc] 56)
        refine wpIn_rangeFunc_ownG rfl (by decide) (gf := 242) (lb := #[.pointer (some ⟨W.heap.size + 1, 0, none⟩)]) rfl trivial (enters_of Tryz.func242 (by kernel_rfl) rfl)
          (back_stops Fence.wide (5 - 1) trivial rfl (by decide) (W.heap.size + 1) P (.slice ka kids.length kc) kids (by omega) V _ hVk (fun k hk => Nat.lt_of_lt_of_le (hP k hk) hVm.below.size) hbB hbx)
          Keeps.trans (fun W0 l o o' hl ho _ _ k hk => ?keep) (Below.refl _ _) (by intro _; rfl)
          (fun pre W2 => (∃ g c, LvMem w vt (.slice (some ⟨b, off, none⟩) t.nodes.length cn) (w.heap.size + 1 + 1) ds (st0 ++ pre.map (·.2)) acc v5 g c W2) ∧ Boxed W2 (W.heap.size + 1) 56 (.slice ka kids.length kc))
          (fun _ _ _ => False) ?own (fun _ _ _ _ _ hs _ _ => hs) ⟨⟨g, c, by simpa using hVm.alloc _⟩, hbx⟩ ?act ?assign ?body ?done ?stop
        case assign =>
          intro l x W2 K2 hK2
          gi_wp2
          exact hK2
        case keep =>
          refine putObj_ne ?_
          rcases hk with hk | rfl
          · have := hP k hk
            omega
          · omega
        case own =>
          rintro pre W2 W3 row ⟨⟨g2, c2, hm2⟩, hbx2⟩ hg hr
          refine ⟨⟨g2, c2, hm2.turned hg fun r e => ⟨fun D hD => ?_, ?_, (hr r e).2⟩⟩, (hg.block _ hbx2.lt fun e => ?_).trans hbx2⟩
          · have h1 := (hr r e).1
            have h2 := lt_heap (hm1.mks D hD).2
            rw [show (W.setCell ⟨w.heap.size + 1 + 1, 0, none⟩ (.slice (some ⟨g, 0, none⟩) st0.length c)).heap.size = W.heap.size from by simp [World.setCell]] at h2
            omega
          · have h1 := (hr r e).1
            omega
          · obtain ⟨_, o, ho, hn⟩ := hr _ e.symm
            rw [show W2.heap[W.heap.size + 1]? = _ from hbx2] at ho
            cases ho
            cases hn
        case stop =>
          rintro D c0 pre W2 _ _ hf
          exact hf.elim
        case done =>
          rintro D ys W2 hD rfl ⟨⟨g2, c2, hm2⟩, hbx2⟩ hDW
          rw [backUpto_snd] at hm2
          refine hK _ _ (Handed.intro (Tr.stackSz t.nodes (st0 ++ kids.reverse)) (by omega) (hJ _ _ _ ?_))
          refine ⟨D :: ds, _, _, _, _, _, _, _, _, _, _, _, _, _, _, _, _, _, _, _, _, _, _, _, _, _, _, _, _, _, _, _, _, _, ⟨st0 ++ kids.reverse, acc, g2, c2, rfl, hin2, ?_, by omega, hm2.mark ?_ ?_ hDW⟩, rfl⟩
          · rw [← hlv, hs.1]
          · intro E hE
            have h2 := lt_heap (hm1.mks E hE).2
            rw [show (W.setCell ⟨w.heap.size + 1 + 1, 0, none⟩ (.slice (some ⟨g, 0, none⟩) st0.length c)).heap.size = W.heap.size from by simp [World.setCell]] at h2
            omega
          · omega
        case body =>
          rintro l pre x W2 ⟨⟨g2, c2, hm2⟩, hbx2⟩ hlt
          obtain ⟨s2, hs2⟩ : ∃ s2, st0 ++ pre.map (·.2) = s2 := ⟨_, rfl⟩
          have hs2l : s2.length ≤ 1073741823 := by rw [← hs2]; simp; omega
          have hnext : st0 ++ (pre ++ [x]).map (·.2) = s2 ++ [x.2] := by rw [← hs2]; simp
          rw [hs2] at hm2
          have c62 := hm2.box.cell
          have f62 := hm2.box.frozen
          have HM2 := Lib.hid (And.intro hm2 (And.intro hbx2 (And.intro hs2l hnext)))
          have HP := Lib.hid (And.intro hP (And.intro hob (And.intro hVs hbB)))
          clear hs2 hm2 hbx2 hs2l hnext hV hVs hVm hVk h hP hin hlv hm1 hroom hlow hx hk hkv hJ hK hlen hPb hs hin2 hl2 hob hkl hbB hbx hVB hlt c6 cg ct f6 HG HH HK19 hk19'
          gi_wp2_with (gi_at_builtin; refine wpListIn_append_lies _ rfl (.tmp 45) (.tmp 47) 56 rfl w.heap.size 3 i0 (.int .i64 0) 1 8 Tryz.underlying56 Hi.out Hz0.out Hz1.out Hz2.out rfl (by decide) (.slice (some ⟨g2, 0, none⟩) s2.length c2) s2.length (intCells s2) rfl (HM2.out.1.own.alloc _) ⟨_, 0, none⟩ 1 1 [.int .i64 x.2] rfl rfl (World.news_of_block (new_at _ _ _ rfl)) (by simp [Value.oneCell']) (by decide) (by have := HM2.out.2.2.1; unfold maxLen; omega) (by have := HM2.out.2.2.1; omega) (HM2.out.1.alloc _).below.size _ rfl ?_; intro g3 cap w3 hown hgrow hat hlt3; have hpu := HM2.out.1.push hown hgrow (hat.imp id fun e => by rw [e, ← size_alloc1]); have c63 := hpu.1.cell; have f63 := hpu.1.frozen; have HPU := Lib.hid hpu.2; clear hpu hown hgrow hat hlt3)
          obtain ⟨hm2, hbx2, _, hnext⟩ := HM2.out
          obtain ⟨hP, hob, _, _⟩ := HP.out
          obtain ⟨hm3, hko, hmv⟩ := HPU.out
          have hg2 := (hm2.own.lt g2 rfl).1
          have hws := hm2.below.size
          have hmb := hmv _ hbx2.lt (fun e => hbx2.not_row (by decide) hm2.own (by rw [e]; rfl)) (by omega)
          refine ⟨hko.from _, fun k hk => ?_, ⟨g3, cap, by rw [hnext]; exact hm3⟩, hmb.trans hbx2⟩
          rcases hk with hk | rfl
          · have := hP k hk
            exact hmv k (by omega) (by omega) (by omega)
          · exact hmb
end Go.Proofs.YtlejecaanllghaaGreatDoor
/- Plain laws behind tree.Right. No program in sight. -/
namespace Go.Proofs.YtlejecaanllghaaGreatDoor.Tr

theorem right_none {t : T} (h : rightGo t 0 t.nodes (List.replicate t.nodes.length false) = none) : right t = false := by
  unfold right
  rw [h]
theorem right_some {t : T} {kid : List Bool} (h : rightGo t 0 t.nodes (List.replicate t.nodes.length false) = some kid) :
    right t = (!kid.isEmpty && !((kid.take (kid.length - 1)).contains false) && (leafs t.nodes (t.nodes.length - 1) == (List.range t.toks.length).map fun i : Nat => (i : Int))) := by
  unfold right
  rw [h]
theorem get_lt {α : Type} {l : List α} {j : Nat} {x : α} (h : l[j]? = some x) : j < l.length := by
  rcases Nat.lt_or_ge j l.length with h1 | h1
  · exact h1
  · rw [List.getElem?_eq_none h1] at h; cases h
theorem drop_get {α : Type} {l : List α} {j : Nat} {x : α} (h : l[j]? = some x) : l.drop j = x :: l.drop (j + 1) := by
  have hlt := get_lt h
  rw [List.getElem?_eq_getElem hlt, Option.some.injEq] at h
  rw [List.drop_eq_getElem_cons hlt, h]
theorem rightGo_bad {t : T} {j : Nat} {n : Nd} (h : t.nodes[j]? = some n) (kid : List Bool) (hf : formed t j n = false) : rightGo t j (t.nodes.drop j) kid = none := by
  rw [drop_get h]
  simp [rightGo, hf]
theorem rightGo_twice {t : T} {j : Nat} {n : Nd} (h : t.nodes[j]? = some n) (kid : List Bool) (hm : marks kid n.kids = none) : rightGo t j (t.nodes.drop j) kid = none := by
  rw [drop_get h]
  simp [rightGo, hm]
theorem rightGo_step {t : T} {j : Nat} {n : Nd} (h : t.nodes[j]? = some n) {kid kid' : List Bool} (hf : formed t j n = true) (hm : marks kid n.kids = some kid') : rightGo t j (t.nodes.drop j) kid = rightGo t (j + 1) (t.nodes.drop (j + 1)) kid' := by
  rw [drop_get h]
  simp [rightGo, hf, hm]
theorem marks_bad {kid : List Bool} {ks : List Int} {j : Nat} {k : Int} (h : ks[j]? = some k) (hb : kid.getD k.toNat false = true) : marks kid (ks.drop j) = none := by
  rw [drop_get h]
  simp only [marks, hb, if_true]
theorem marks_step {kid : List Bool} {ks : List Int} {j : Nat} {k : Int} (h : ks[j]? = some k) (hb : kid.getD k.toNat false = false) : marks kid (ks.drop j) = marks (kid.set k.toNat true) (ks.drop (j + 1)) := by
  rw [drop_get h]
  simp only [marks, hb]
  rfl
theorem formed_kid {t : T} {j : Nat} {n : Nd} (hf : formed t j n = true) {i : Nat} {k : Int} (h : n.kids[i]? = some k) : 0 ≤ k ∧ k < (j : Int) := (formed_low hf).1 k (List.mem_of_getElem? h)

theorem lv_len (ns : List Nd) : ∀ (f i : Nat), (lv ns f i).length ≤ sz ns f i
  | 0, _ => by simp [lv]
  | f + 1, i => by
    unfold lv sz
    cases hn : ns[i]? with
    | none => simp
    | some n =>
      simp only
      split
      · simp
      · have h : ∀ ks : List Int, (ks.flatMap fun k => lv ns f k.toNat).length ≤ (ks.map fun k => sz ns f k.toNat).sum := by
          intro ks
          induction ks with
          | nil => simp
          | cons k ks ih =>
            have := lv_len ns f k.toNat
            simp only [List.flatMap_cons, List.length_append, List.map_cons, List.sum_cons]
            omega
        have := h n.kids
        omega
theorem leafs_len (ns : List Nd) (i : Nat) : (leafs ns i).length ≤ size ns i := lv_len ns (i + 1) i
/-- What Right's last loop says. -/
theorem range_ne {l : List Int} {m j : Nat} {x : Int} (h : l[j]? = some x) (hx : (j : Int) ≠ x) : (l == (List.range m).map fun i : Nat => (i : Int)) = false := by
  rw [beq_eq_false_iff_ne]
  rintro rfl
  have hlt := get_lt h
  simp at hlt
  rw [List.getElem?_map, List.getElem?_range hlt] at h
  simp at h
  exact hx h
theorem range_eq {l : List Int} {m : Nat} (h : ∀ j, j < l.length → l[j]? = some (j : Int)) : (l == (List.range m).map fun i : Nat => (i : Int)) = decide ((l.length : Int) = (m : Int)) := by
  have e : l = (List.range l.length).map fun i : Nat => (i : Int) := by
    apply List.ext_getElem?
    intro i
    by_cases hi : i < l.length
    · rw [h i hi, List.getElem?_map, List.getElem?_range hi]
      rfl
    · rw [List.getElem?_eq_none (by omega), List.getElem?_eq_none (by simp; omega)]
  by_cases hm : l.length = m
  · subst hm
    rw [← e]
    simp
  · rw [decide_eq_false (by omega), beq_eq_false_iff_ne]
    rintro rfl
    simp at hm

/-- What a tree whose nodes are of the right form is good for. -/
theorem right_facts {t : T} {kid : List Bool} (h : rightGo t 0 t.nodes (List.replicate t.nodes.length false) = some kid) :
    Low t.nodes ∧ (∀ j, j < t.nodes.length → size t.nodes j ≤ j + 1) ∧ kid.length = t.nodes.length := by
  have hf := rightGo_formed h (by simp) (fun j n hj => absurd hj (by omega))
  have hl := hf.low
  have hz : ∀ j, (List.replicate t.nodes.length false).getD j false = false := fun j => by
    simp only [List.getD, List.getElem?_replicate]
    split <;> rfl
  have hs := rightGo_size hl h (by simp) (by simp) (fun j _ => hz j) (by simp [open_]) (fun j hj => absurd hj (by omega)) (Nat.zero_le _)
  exact ⟨hl, hs.1, hs.2.1⟩
end Go.Proofs.YtlejecaanllghaaGreatDoor.Tr
/- tree.Right: is a tree right? -/
namespace Go.Proofs.YtlejecaanllghaaGreatDoor
open Go.RowKit

theorem run_make_rowN {P : Program} (t e : TypeId) (i : TypeInfo) (z : Value) (ht : P.underlying t = some (.slice e)) (hi : P.info? e = some i) (hz : i.zero = some z)
    (kl kc : IntKind) (n c : Nat) (hnc : n ≤ c) (hbytes : i.bytes * c ≤ 281474976710656) (h63 : c ≤ 9223372036854775807) (w : World) :
    (Instr.makeSlice t (.int kl (n : Int)) (.int kc (c : Int))).run P w = .ok (.slice (some ⟨w.heap.size, 0, none⟩) n c) (w.alloc (.cells (madeCells z.cells (c * i.size)) e)) := by
  have hb : (i.bytes : Int) * (c : Int) ≤ 281474976710656 := by
    have h : ((i.bytes * c : Nat) : Int) ≤ 281474976710656 := by omega
    rwa [Int.natCast_mul] at h
  have hr := run_make (P := P) w t e i z ht hi hz kl kc n c (by omega) (by omega) hb (by omega)
  simp only [Int.toNat_natCast] at hr
  exact hr
theorem info_bool : (Tryz.prog.info? 4).map (fun i => (i.zero, i.size, i.bytes)) = some (some (.bool false), 1, 1) := by kernel_rfl
theorem made_bools (n : Nat) : madeCells (Value.bool false).cells (n * 1) = (boolCells (List.replicate n false)).toArray := by
  apply Array.ext
  · simp [madeCells, boolCells]
  · intro j h1 h2
    simp [madeCells, boolCells, Value.cells, Nat.mod_one]
theorem make_bools (n : Nat) (hn : n ≤ 1073741824) (w : World) : (Instr.makeSlice 238 (.int .i64 (n : Int)) (.int .i64 (n : Int))).run Tryz.prog w = .ok (.slice (some ⟨w.heap.size, 0, none⟩) n n) (w.alloc (.cells (boolCells (List.replicate n false)).toArray 4)) := by
  obtain ⟨i0, hi, hz0, hz1, hz2⟩ := info_split info_bool
  have h := run_make_rowN (P := Tryz.prog) 238 4 i0 (.bool false) Tryz.underlying238 hi hz0 .i64 .i64 n n (Nat.le_refl _) (by rw [hz2]; omega) (by omega) w
  rw [hz1, made_bools] at h
  exact h

def RtRel (w : World) (vt vn : Value) (t : Tr.T) (nl : Nat) (k : Nat) (v18 : Value) (wr : World) : Prop :=
  ∃ (j : Nat) (kid : List Bool), v18 = .int .i64 j ∧ k = nl - j ∧ j ≤ nl ∧ kid.length = nl ∧ wr.heap[w.heap.size + 1]? = some (.cells (boolCells kid).toArray 4 (0, 0)) ∧ wr.heap[w.heap.size]? = some (.cells #[vt, vn] 30 (0, 0)) ∧
    Below w.heap.size w wr ∧ Tr.rightGo t j (t.nodes.drop j) kid = Tr.rightGo t 0 t.nodes (List.replicate t.nodes.length false)
def RtIn (w : World) (vt vn : Value) (nl : Nat) (kid0 : List Bool) (kids : List Int) (k : Nat) (v31 : Value) (wr : World) : Prop :=
  ∃ (j : Nat) (kid : List Bool), v31 = .int .i64 j ∧ k = kids.length - j ∧ j ≤ kids.length ∧ kid.length = nl ∧ wr.heap[w.heap.size + 1]? = some (.cells (boolCells kid).toArray 4 (0, 0)) ∧ wr.heap[w.heap.size]? = some (.cells #[vt, vn] 30 (0, 0)) ∧
    Below w.heap.size w wr ∧ Tr.marks kid (kids.drop j) = Tr.marks kid0 kids

theorem rt_start (w : World) (vt vn : Value) (t : Tr.T) (nl : Nat) (hnl : t.nodes.length = nl) :
    RtRel w vt vn t nl nl (.int .i64 0) ((w.alloc (.cells #[vt, vn] 30)).alloc (.cells (boolCells (List.replicate nl false)).toArray 4)) := by
  refine ⟨0, List.replicate nl false, rfl, rfl, Nat.zero_le _, by simp, ?_, ?_, ((Below.refl _ _).alloc (Nat.le_refl _) _).alloc (by rw [← size_alloc1]; omega) _, ?_⟩
  · exact new_at _ _ _ (size_alloc1 _ _)
  · rw [Below.heap_alloc _ _ _ (by rw [← size_alloc1]; omega)]
    exact new_at _ _ _ rfl
  · rw [hnl]
    rfl

theorem root_succ (w : World) (vt : Value) (a : Option Addr) (n c : Nat) (hn : n + 1 ≤ 1073741824) :
    Calls Tryz.prog 44 #[.agg #[vt, .slice a (n + 1) c]] w fun e w' => e = .returned (.int .i64 (n : Int)) ∧ w.alloc (.cells #[vt, .slice a (n + 1) c] 30) = w' := by
  refine (root_len w vt a (n + 1) c hn).mono ?_
  rintro e w' ⟨rfl, rfl⟩
  refine ⟨?_, rfl⟩
  rw [show ((n + 1 : Nat) : Int) - 1 = (n : Int) by omega]
theorem rt_contains {w : World} {g m : Nat} {kid : List Bool} (h : w.heap[g]? = some (.cells (boolCells kid).toArray 4 (0, 0))) (hm : m ≤ kid.length) (hn : m ≤ 1073741824) {c : Nat} (hc : m ≤ c := by omega) :
    Calls Tryz.prog 169 #[.slice (some ⟨g, 0, none⟩) m c, .bool false] w fun e w' => e = .returned (.bool ((kid.take m).contains false)) ∧ w = w' := by
  have hl : (kid.take m).length = m := by simp; omega
  refine contains_bool (P := fun _ => True) (v := .slice (some ⟨g, 0, none⟩) m c) (l := kid.take m) ⟨by simp [boolCells], some ⟨g, 0, none⟩, c, by rw [hl], by omega, Or.inr ⟨g, 0, rfl, Or.inr trivial, ?_⟩⟩ (by omega)
  intro j v hj
  rw [Nat.zero_add]
  refine cell_of_heap h j ?_
  have hjm : j < m := by
    have := Tr.get_lt hj
    simp only [boolCells, List.length_map] at this
    omega
  rw [← hj]
  simp [boolCells, hjm]
theorem rt_after {w V w2 : World} {cs cs2 : Array Value} {T T2 : TypeId} (hV : Below w.heap.size w V) (ht : V.heap[w.heap.size]? = some (.cells cs T (0, 0))) (hb : Below (V.alloc (.cells cs2 T2)).drew.heap.size (V.alloc (.cells cs2 T2)).drew w2) :
    Below w.heap.size w w2 ∧ w2.heap[w.heap.size]? = some (.cells cs T (0, 0)) := by
  have hlt := lt_heap ht
  have h2 : Below (V.alloc (.cells cs2 T2)).heap.size (V.alloc (.cells cs2 T2)).drew w2 := hb
  have h3 : Below w.heap.size (V.alloc (.cells cs2 T2)).drew w2 := h2.mono (by rw [← size_alloc1]; omega)
  refine ⟨((hV.alloc hV.size _).drew).trans h3, ?_⟩
  rw [h2.block _ (by rw [← size_alloc1]; omega)]
  show (V.alloc _).heap[w.heap.size]? = _
  rw [Below.heap_alloc _ _ _ hlt]
  exact ht
theorem rt_leaf {w : World} {B n c : Nat} {a : Option Addr} {l : List Int} (h : w.ownsRow B 3 1 (.slice a n c) n (intCells l)) {i : Nat} {x : Int} (hx : l[i]? = some x) : ∃ g, a = some ⟨g, 0, none⟩ ∧ w.cell? ⟨g, i, none⟩ = some (.int .i64 x) := by
  have hlt := Tr.get_lt hx
  have hl := h.1
  simp only [intCells, List.length_map] at hl
  obtain ⟨g, cap, he, _, _⟩ := h.form (by omega)
  simp only [Value.slice.injEq] at he
  obtain ⟨rfl, _, _⟩ := he
  refine ⟨g, rfl, ?_⟩
  have h2 := h.cells (g := g) rfl i (.int .i64 x) (by simp [intCells, hx])
  rwa [Addr.add_mid, Nat.zero_add] at h2
theorem bools_set (l : List Bool) (y : Nat) (v : Bool) : (boolCells (l.set y v)).toArray = (boolCells l).toArray.setIfInBounds y (.bool v) := by
  simp [boolCells, List.map_set]
/-- A kid, read in a later world. -/
theorem rt_kid {w wr w3 : World} {P : Nat → Prop} {vn : Value} {ns : List Tr.Nd} (_h : RdN w P vn ns) {j : Nat} {n : Tr.Nd} (_hn : ns[j]? = some n) {ka : Option Addr} {kc : Nat} (hkv : RdW wr P 1 (.slice ka n.kids.length kc) n.kids.length (intCells n.kids)) (hP : ∀ k, P k → k < w.heap.size) (hb : Below w.heap.size w wr)
    (hkp : Keeps P w w3) {i : Nat} {x : Int} (hx : n.kids[i]? = some x) : ∃ b o, ka = some ⟨b, o, none⟩ ∧ w3.cell? ⟨b, o + i, none⟩ = some (.int .i64 x) := by
  have hlt := Tr.get_lt hx
  have hkp2 : Keeps P wr w3 := fun k hk => (hkp k hk).trans (hb.block k (hP k hk)).symm
  obtain ⟨_, a, c, he, _, hd⟩ := hkv.keep hkp2
  simp only [Value.slice.injEq] at he
  obtain ⟨rfl, _, _⟩ := he
  rcases hd with ⟨_, h0⟩ | ⟨b, o, rfl, _, hr⟩
  · omega
  · exact ⟨b, o, rfl, hr i _ (by simp [intCells, hx])⟩
theorem rt_inner {w wr w2 : World} {x y z : Value} {T T1 T2 : TypeId} {cs tb : Array Value} (hg : wr.heap[w.heap.size + 1]? = some (.cells cs T1 (0, 0))) (ht : wr.heap[w.heap.size]? = some (.cells tb T2 (0, 0))) (hb : Below w.heap.size w wr)
    (hb2 : Below (wr.alloc (.cells #[x, y, z] T)).heap.size (wr.alloc (.cells #[x, y, z] T)) w2) : w2.heap[w.heap.size + 1]? = some (.cells cs T1 (0, 0)) ∧ w2.heap[w.heap.size]? = some (.cells tb T2 (0, 0)) ∧ Below w.heap.size w w2 := by
  have h : Below wr.heap.size wr w2 := ((Below.refl wr.heap.size wr).alloc (Nat.le_refl _) _).trans (hb2.mono (by rw [← size_alloc1]; omega))
  exact ⟨(h.block _ (lt_heap hg)).trans hg, (h.block _ (lt_heap ht)).trans ht, hb.trans (h.mono hb.size)⟩

set_option maxRecDepth 100000 in
set_option maxHeartbeats 2000000 in
theorem right_calls {w : World} {P : Nat → Prop} {vt vn : Value} {t : Tr.T} (h : RdT w P vt vn t) (hP : ∀ k, P k → k < w.heap.size) (hn : t.nodes.length ≤ 1073741823) (ht : t.toks.length ≤ 1073741824) (hkids : ∀ n ∈ t.nodes, n.kids.length ≤ 1073741823) :
    Calls Tryz.prog 129 #[.agg #[vt, vn]] w fun e w' => e = .returned (.bool (Tr.right t)) ∧ Below w.heap.size w w' := by
  obtain ⟨at_, ct, rfl⟩ := h.1.form
  obtain ⟨an, cn, rfl⟩ : ∃ a c, vn = .slice a t.nodes.length c := by
    obtain ⟨kvs, _, h2, _⟩ := h.2
    exact h2.form
  have HH := Lib.hid (And.intro h (And.intro hP (And.intro ht hkids)))
  obtain ⟨nl, hnl⟩ : ∃ nl, t.nodes.length = nl := ⟨_, rfl⟩
  rw [hnl] at HH hn ⊢
  have hn' : (nl : Int) ≤ 1073741823 := by omega
  have hmk := make_bools nl (by omega)
  have HNL := Lib.hid hnl
  have ht' : (t.toks.length : Int) ≤ 1073741824 := by omega
  clear h hP ht hkids hnl
  go_enter Tryz.func129, Tryz.ntmps129
  go_wp2_with fail
  go_loopg [18] nl (fun k v18 wr => RtRel w (.slice at_ t.toks.length ct) (.slice an nl cn) t nl k v18 wr)
  case atStart => exact rt_start _ _ _ _ _ HNL.out
  case round =>
    clear hmk
    obtain ⟨j, kid, rfl, hk, hj, hkl, hg, htb, hb, hgo⟩ := hrel
    have HR := Lib.hid (And.intro hk (And.intro hkl (And.intro hg (And.intro htb (And.intro hb hgo)))))
    by_cases hlt : j < nl
    · have hlt' : (j : Int) < (nl : Int) := by omega
      obtain ⟨n, hnj⟩ : ∃ n, t.nodes[j]? = some n := ⟨_, List.getElem?_eq_getElem (by rw [HNL.out]; exact hlt)⟩
      obtain ⟨b, off, c', kv, he, hbB, hrg, hkv⟩ := (HH.out.1.2.keep (Keeps.of hb HH.out.2.1)).node hnj
      obtain ⟨rfl, rfl⟩ : an = some ⟨b, off, none⟩ ∧ cn = c' := by
        simp only [Value.slice.injEq] at he
        exact ⟨he.1, he.2.2⟩
      have t0 := cell_of_heap htb 0 rfl
      have t1 := cell_of_heap htb 1 rfl
      have l0 := cell_lt t0
      obtain ⟨ka, kc, rfl⟩ := hkv.form
      have hnk := HH.out.2.2.2 n (List.mem_of_getElem? hnj)
      have hba : Below wr.heap.size wr (wr.alloc (.cells #[.int .i64 n.kind, .int .i64 n.tok, .slice ka n.kids.length kc] 175)) := (Below.refl _ _).alloc (Nat.le_refl _) _
      have HF := Lib.hid (formed_calls (at_ := at_) (ct := ct) (vn := .slice (some ⟨b, off, none⟩) nl cn) (t := t) (hkv.keep (Keeps.of hba fun k hk => Nat.lt_of_lt_of_le (HH.out.2.1 k hk) hb.size)) (fun k hk => Nat.lt_of_lt_of_le (Nat.lt_of_lt_of_le (HH.out.2.1 k hk) hb.size) hba.size) (by omega) HH.out.2.2.1 j)
      have HG := Lib.hid hrg
      have HN := Lib.hid hnj
      have HKR : Hid (∀ (w3 : World), Keeps P w w3 → ∀ (i : Nat) (x : Int), n.kids[i]? = some x → ∃ b o, ka = some ⟨b, o, none⟩ ∧ w3.cell? ⟨b, o + i, none⟩ = some (.int .i64 x)) := fun w3 hkp i x hx => rt_kid HH.out.1.2 hnj hkv HH.out.2.1 hb hkp hx
      clear hk hkl hg htb hb hgo hrg hkv hnj hba hnk he
      cases hf : Tr.formed t j n
      · have HF2 := Lib.hid (hf ▸ HF.out)
        have HFF := Lib.hid hf
        clear HF hf
        go_wp2_with (first
          | (refine wpList_load_mid rfl 175 _ rfl b (off + j * 3) rfl _ _ HG.out Tryz.underlying175 rfl rfl ?_)
          | (go_at_call 168; refine HF2.out.mono ?_; rintro e w2 ⟨rfl, hb2⟩; have HB2 := Lib.hid hb2; clear hb2))
        go_ret
        refine ⟨?_, HR.out.2.2.2.2.1.trans (((Below.refl w.heap.size wr).alloc HR.out.2.2.2.2.1.size _).trans (HB2.out.mono (Nat.le_trans HR.out.2.2.2.2.1.size ((Below.refl wr.heap.size wr).alloc (Nat.le_refl _) _).size)))⟩
        rw [Tr.right_none (by rw [← HR.out.2.2.2.2.2, Tr.rightGo_bad HN.out kid HFF.out])]
        rfl
      · have HF2 := Lib.hid (hf ▸ HF.out)
        have HFF := Lib.hid hf
        clear HF hf
        go_wp2_with (first
          | (refine wpList_load_mid rfl 175 _ rfl b (off + j * 3) rfl _ _ HG.out Tryz.underlying175 rfl rfl ?_)
          | (go_at_call 168; refine HF2.out.mono ?_; rintro e w2 ⟨rfl, hb2⟩; have e2 := cell_of_heap (done_node hb2) 2 rfl; have HB2 := Lib.hid hb2; clear hb2))
        have HI := Lib.hid (rt_inner (x := .int .i64 n.kind) (y := .int .i64 n.tok) (z := .slice ka n.kids.length kc) HR.out.2.2.1 HR.out.2.2.2.1 HR.out.2.2.2.2.1 HB2.out)
        have hnk := HH.out.2.2.2 n (List.mem_of_getElem? HN.out)
        have hnk' : (n.kids.length : Int) ≤ 1073741823 := by omega
        clear t0 t1 l0 e2 HG
        generalize wr = w0 at *
        go_loopg [31] n.kids.length (fun k v31 wr => RtIn w (.slice at_ t.toks.length ct) (.slice (some ⟨b, off, none⟩) nl cn) nl kid n.kids k v31 wr)
        case atStart => exact ⟨0, kid, rfl, rfl, Nat.zero_le _, HR.out.2.1, HI.out.1, HI.out.2.1, HI.out.2.2, rfl⟩
        case round =>
          obtain ⟨i, kid2, rfl, hk, hi, hkl, hg, htb, hb, hmk⟩ := hrel
          have HS := Lib.hid (And.intro hk (And.intro hkl (And.intro hg (And.intro htb (And.intro hb hmk)))))
          by_cases hlti : i < n.kids.length
          · have hlti' : (i : Int) < (n.kids.length : Int) := by omega
            obtain ⟨x, hx⟩ : ∃ x, n.kids[i]? = some x := ⟨_, List.getElem?_eq_getElem hlti⟩
            have hxk := Tr.formed_kid HFF.out hx
            obtain ⟨y, rfl⟩ : ∃ y : Nat, x = y := ⟨x.toNat, by omega⟩
            have hyn : y < nl := by omega
            have hyn' : (y : Int) < (nl : Int) := by omega
            obtain ⟨v, hv⟩ : ∃ v, kid2[y]? = some v := ⟨_, List.getElem?_eq_getElem (by omega)⟩
            obtain ⟨bk, ok, rfl, hkr⟩ := HKR.out wr (Keeps.of hb HH.out.2.1) i _ hx
            have cy := cell_of_heap hg y (u := .bool v) (by simp [boolCells, hv])
            have fy := frozen_of_heap hg y
            have HX := Lib.hid (And.intro hx hv)
            clear hk hkl hg htb hb hmk hx hxk hv hyn
            cases v
            · go_wp2
              go_roundg (n.kids.length - (i + 1))
              case measure => have := HS.out.1; omega
              case rel =>
                obtain ⟨_, hkl, hg, htb, hb, hmk⟩ := HS.out
                refine ⟨i + 1, kid2.set y true, by go_num, rfl, by omega, by simpa using hkl, ?_, ?_, hb.setCell (by simp only; omega) _, ?_⟩
                · rw [bools_set]
                  exact setCell_row hg _
                · rw [setCell_ne _ (by omega)]
                  exact htb
                · rw [← hmk, Tr.marks_step HX.out.1 (by simp [HX.out.2])]
                  rfl
            · go_wp2
              go_ret
              refine ⟨?_, HS.out.2.2.2.2.1⟩
              rw [Tr.right_none (by rw [← HR.out.2.2.2.2.2]; exact Tr.rightGo_twice HN.out kid (by rw [← HS.out.2.2.2.2.2]; exact Tr.marks_bad HX.out.1 (by simp [HX.out.2])))]
              rfl
          · obtain rfl : i = n.kids.length := by omega
            go_wp2
            go_roundg (nl - (j + 1))
            case measure => have := HR.out.1; omega
            case rel =>
              obtain ⟨_, hkl, hg, htb, hb, hmk⟩ := HS.out
              refine ⟨j + 1, kid2, by go_num, rfl, by omega, hkl, hg, htb, hb, ?_⟩
              rw [List.drop_length] at hmk
              rw [← HR.out.2.2.2.2.2, Tr.rightGo_step HN.out HFF.out hmk.symm]
    · obtain rfl : j = nl := by omega
      have hall : Tr.rightGo t 0 t.nodes (List.replicate t.nodes.length false) = some kid := by
        rw [← hgo, ← HNL.out, List.drop_length]
        rfl
      have hfa := Tr.right_facts hall
      have hri := Tr.right_some hall
      have t0 := cell_of_heap htb 0 rfl
      have t1 := cell_of_heap htb 1 rfl
      have l0 := cell_lt t0
      have l1 := lt_heap hg
      have HA := Lib.hid (And.intro hfa hri)
      clear hk hg htb hb hgo hall hfa hri
      cases j with
      | zero =>
        go_wp2
        go_ret
        refine ⟨?_, HR.out.2.2.2.2.1⟩
        rw [HA.out.2]
        obtain rfl : kid = [] := List.eq_nil_of_length_eq_zero hkl
        rfl
      | succ m =>
        clear hkl
        have hm' : (m : Int) ≤ 1073741823 := by omega
        have HL : Hid (∀ W : World, Below w.heap.size w W → Calls Tryz.prog 170 #[.agg #[.slice at_ t.toks.length ct, .slice an (m + 1) cn], .int .i64 (m : Int)] W fun e w' => ∃ v, e = .returned v ∧ w'.ownsRow W.heap.size 3 1 v (Tr.leafs t.nodes m).length (intCells (Tr.leafs t.nodes m)) ∧ Below W.heap.size W w') :=
          fun W hW => leaves_calls (HH.out.1.keep (Keeps.of hW HH.out.2.1)) (fun k hk => Nat.lt_of_lt_of_le (HH.out.2.1 k hk) hW.size) HA.out.1.1 m (by rw [HNL.out]; omega) (by rw [HNL.out]; omega) (by have := HA.out.1.2.1 m (by rw [HNL.out]; omega); omega)
        have HC : Hid (∀ W : World, W.heap[w.heap.size + 1]? = some (.cells (boolCells kid).toArray 4 (0, 0)) → Calls Tryz.prog 169 #[.slice (some ⟨w.heap.size + 1, 0, none⟩) m (m + 1), .bool false] W fun e w' => e = .returned (.bool ((kid.take m).contains false)) ∧ W = w') :=
          fun W hW => rt_contains hW (by have := HR.out.2.1; omega) (by omega)
        have HG : Hid (wr.heap[w.heap.size + 1]? = some (.cells (boolCells kid).toArray 4 (0, 0))) := HR.out.2.2.1
        have h10 : ((m : Int) + 1 == 0) = false := by rw [beq_eq_false_iff_ne]; omega
        cases hc : (kid.take m).contains false
        · rw [hc] at HC
          have HCC := Lib.hid hc
          clear hc
          go_wp2_with (go_at_call 44; refine (root_succ _ _ _ _ _ (by omega)).mono ?_; rintro e w2 ⟨rfl, rfl⟩)
          refine (HC.out _ (by rw [Below.heap_alloc _ _ _ (lt_heap HG.out)]; exact HG.out)).mono ?_
          rintro e w2 ⟨rfl, rfl⟩
          dsimp only
          go_wp2_with fail
          have hVb : Below w.heap.size w (wr.alloc (.cells #[.slice at_ t.toks.length ct, .slice an (m + 1) cn] 30)) := HR.out.2.2.2.2.1.alloc HR.out.2.2.2.2.1.size _
          have hVt : (wr.alloc (.cells #[.slice at_ t.toks.length ct, .slice an (m + 1) cn] 30)).heap[w.heap.size]? = some (.cells #[.slice at_ t.toks.length ct, .slice an (m + 1) cn] 30 (0, 0)) := by rw [Below.heap_alloc _ _ _ l0]; exact HR.out.2.2.2.1
          clear t0 t1 l0 l1
          generalize wr.alloc (.cells #[.slice at_ t.toks.length ct, .slice an (m + 1) cn] 30) = V at *
          have t0 := cell_of_heap hVt 0 rfl
          have t1 := cell_of_heap hVt 1 rfl
          have l0 := cell_lt t0
          have HVB := Lib.hid (And.intro hVb hVt)
          clear hVb hVt
          go_region_held3 (fun w' => w'.cell? ⟨w.heap.size, 0, none⟩ = some (.slice at_ t.toks.length ct) ∧ w'.cell? ⟨w.heap.size, 1, none⟩ = some (.slice an (m + 1) cn)) (first | exact ⟨t0, t1⟩ | exact ⟨e20, e21⟩ | go_keep)
            ((first
              | (go_at_call 44; refine (root_succ _ _ _ _ _ (by omega)).mono ?_; rintro e w2 ⟨rfl, rfl⟩)
              | (go_at_call 170; refine (HL.out _ (HVB.out.1.alloc HVB.out.1.size _).drew).mono ?_; rintro e w2 ⟨v2, rfl, ho2, hb2⟩; obtain ⟨a2, c2, rfl⟩ := ownsRow_form ho2; have hb3 := rt_after HVB.out.1 HVB.out.2 hb2; have e20 := cell_of_heap hb3.2 0 rfl; have e21 := cell_of_heap hb3.2 1 rfl; have HO2 := Lib.hid ho2; have HB3 := Lib.hid hb3; clear ho2 hb2 hb3)))
          have HRI : Hid (Tr.right t = (Tr.leafs t.nodes m == (List.range t.toks.length).map fun i : Nat => (i : Int))) := by
            have hq := HA.out.2
            have hk2 := HR.out.2.1
            rw [HNL.out, hk2, show m + 1 - 1 = m from rfl, HCC.out] at hq
            have he : kid.isEmpty = false := by
              cases hkk : kid with
              | nil => rw [hkk] at hk2; simp at hk2
              | cons _ _ => rfl
            rw [he] at hq
            refine Lib.hid ?_
            simpa using hq
          have hlf : (Tr.leafs t.nodes m).length ≤ 1073741823 := by have h1 := Tr.leafs_len t.nodes m; have h2 := HA.out.1.2.1 m (by rw [HNL.out]; omega); omega
          obtain ⟨lf, hlfe⟩ : ∃ lf, Tr.leafs t.nodes m = lf := ⟨_, rfl⟩
          rw [hlfe] at HO2 HRI hlf ⊢
          have hlf' : (lf.length : Int) ≤ 1073741823 := by omega
          clear hlfe HL HC t0 t1
          generalize wr = w0 at *
          go_wp2_with fail
          go_loopg [60] lf.length (fun k v60 wr => ∃ i : Nat, v60 = .int .i64 i ∧ k = lf.length - i ∧ i ≤ lf.length ∧ wr = w2 ∧ ∀ j, j < i → lf[j]? = some (j : Int))
          case atStart => exact ⟨0, rfl, rfl, Nat.zero_le _, rfl, fun j hj => absurd hj (by omega)⟩
          case round =>
            obtain ⟨i, rfl, hk, hi, rfl, hall⟩ := hrel
            have HS := Lib.hid (And.intro hk hall)
            clear hk hall
            by_cases hlt : i < lf.length
            · have hlt' : (i : Int) < (lf.length : Int) := by omega
              obtain ⟨x, hx⟩ : ∃ x, lf[i]? = some x := ⟨_, List.getElem?_eq_getElem hlt⟩
              obtain ⟨g2, rfl, hcx⟩ := rt_leaf HO2.out hx
              have HX := Lib.hid hx
              clear hx
              by_cases hxi : (i : Int) = x
              · subst hxi
                go_wp2_with fail
                refine Handed.intro (lf.length - (i + 1)) ?_ ?_
                · have := HS.out.1; omega
                go_step
                repeat apply Exists.intro
                refine ⟨?_, rfl⟩
                refine ⟨i + 1, by go_num, rfl, by omega, rfl, fun j hj => ?_⟩
                rcases Nat.lt_or_ge j i with h1 | h1
                · exact HS.out.2 j h1
                · rw [show j = i by omega]
                  exact HX.out
              · have hxi' : ((i : Int) != x) = true := by simp [hxi]
                have HXI := Lib.hid hxi
                clear hxi
                go_wp2_with fail
                go_ret
                refine ⟨?_, HB3.out.1⟩
                rw [HRI.out, Tr.range_ne HX.out HXI.out]
                rfl
            · obtain rfl : i = lf.length := by omega
              go_wp2_with fail
              go_ret
              refine ⟨?_, HB3.out.1⟩
              rw [HRI.out, Tr.range_eq HS.out.2]
              rfl
        · rw [hc] at HC
          have HCC := Lib.hid hc
          clear hc
          go_wp2_with (go_at_call 44; refine (root_succ _ _ _ _ _ (by omega)).mono ?_; rintro e w2 ⟨rfl, rfl⟩)
          refine (HC.out _ (by rw [Below.heap_alloc _ _ _ (lt_heap HG.out)]; exact HG.out)).mono ?_
          rintro e w2 ⟨rfl, rfl⟩
          dsimp only
          go_wp2_with fail
          go_ret
          refine ⟨?_, HR.out.2.2.2.2.1.alloc HR.out.2.2.2.2.1.size _⟩
          rw [HA.out.2, HR.out.2.1, show m + 1 - 1 = m from rfl, HCC.out]
          simp
end Go.Proofs.YtlejecaanllghaaGreatDoor
/- tree.check: may something be told of a node? -/
namespace Go.Proofs.YtlejecaanllghaaGreatDoor
open Go.RowKit

def Tr.check (t : Tr.T) (n : Int) : Int := if Tr.right t = false then 10 else if n < 0 ∨ (t.nodes.length : Int) ≤ n then 12 else 0

theorem chk_box {w w2 : World} {cs : Array Value} {T : TypeId} (hb : Below (w.alloc (.cells cs T)).heap.size (w.alloc (.cells cs T)) w2) : w2.heap[w.heap.size]? = some (.cells cs T (0, 0)) := done_node hb
set_option maxRecDepth 100000 in
theorem check_node_calls {w : World} {P : Nat → Prop} {vt vn : Value} {t : Tr.T} (h : RdT w P vt vn t) (hP : ∀ k, P k → k < w.heap.size) (hn : t.nodes.length ≤ 1073741823) (ht : t.toks.length ≤ 1073741824) (hkids : ∀ n ∈ t.nodes, n.kids.length ≤ 1073741823) (n : Int) :
    Calls Tryz.prog 87 #[.agg #[vt, vn], .int .i64 n] w fun e w' => e = .returned (.int .i64 (Tr.check t n)) ∧ Below w.heap.size w w' := by
  have hb1 : Below w.heap.size w (w.alloc (.cells #[vt, vn] 30)) := (Below.refl _ _).alloc (Nat.le_refl _) _
  have HR := Lib.hid (right_calls (h.keep (Keeps.of hb1 hP)) (fun k hk => Nat.lt_of_lt_of_le (hP k hk) hb1.size) hn ht hkids)
  obtain ⟨at_, ct, rfl⟩ := h.1.form
  obtain ⟨an, cn, rfl⟩ : ∃ a c, vn = .slice a t.nodes.length c := by
    obtain ⟨kvs, _, h2, _⟩ := h.2
    exact h2.form
  have HB := Lib.hid hb1
  have hn' : (t.nodes.length : Int) ≤ 1073741823 := by omega
  clear h hP hb1 hn ht hkids
  unfold Tr.check
  cases hr : Tr.right t
  · rw [hr] at HR
    rw [if_pos rfl]
    clear hr
    go_enter Tryz.func87, Tryz.ntmps87
    go_wp2_with (go_at_call 129; refine HR.out.mono ?_; rintro e w2 ⟨rfl, hb2⟩; have HB2 := Lib.hid hb2; clear hb2)
    go_ret
    exact ⟨rfl, HB.out.trans (HB2.out.mono HB.out.size)⟩
  · rw [hr] at HR
    rw [if_neg (by simp)]
    clear hr
    by_cases h1 : n < 0
    · rw [if_pos (Or.inl h1)]
      go_enter Tryz.func87, Tryz.ntmps87
      go_wp2_with (go_at_call 129; refine HR.out.mono ?_; rintro e w2 ⟨rfl, hb2⟩; have hbx := chk_box hb2; have c1 := cell_of_heap hbx 1 rfl; have HB2 := Lib.hid hb2; clear hb2 hbx)
      go_ret
      exact ⟨rfl, HB.out.trans (HB2.out.mono HB.out.size)⟩
    · by_cases h2 : (t.nodes.length : Int) ≤ n
      · rw [if_pos (Or.inr h2)]
        have h1' : 0 ≤ n := by omega
        go_enter Tryz.func87, Tryz.ntmps87
        go_wp2_with (go_at_call 129; refine HR.out.mono ?_; rintro e w2 ⟨rfl, hb2⟩; have hbx := chk_box hb2; have c1 := cell_of_heap hbx 1 rfl; have HB2 := Lib.hid hb2; clear hb2 hbx)
        go_ret
        exact ⟨rfl, HB.out.trans (HB2.out.mono HB.out.size)⟩
      · rw [if_neg (by omega)]
        have h1' : 0 ≤ n := by omega
        have h2' : n < (t.nodes.length : Int) := by omega
        go_enter Tryz.func87, Tryz.ntmps87
        go_wp2_with (go_at_call 129; refine HR.out.mono ?_; rintro e w2 ⟨rfl, hb2⟩; have hbx := chk_box hb2; have c1 := cell_of_heap hbx 1 rfl; have HB2 := Lib.hid hb2; clear hb2 hbx)
        go_ret
        exact ⟨rfl, HB.out.trans (HB2.out.mono HB.out.size)⟩
end Go.Proofs.YtlejecaanllghaaGreatDoor
/- Plain laws of a node's dump. No program in sight. -/
namespace Go.Proofs.YtlejecaanllghaaGreatDoor.Tr

/-- A node's dump, with so much fuel. -/
def dp (t : T) : Nat → Nat → List UInt8
  | 0, _ => []
  | f + 1, i => match t.nodes[i]? with
    | none => []
    | some n => if n.kind = 19 then (match t.toks[n.tok.toNat]? with | none => [] | some k => (if k.kind = 5 then [36] else []) ++ k.text)
      else [40] ++ Lib.decDigits n.kind.toNat ++ (n.kids.flatMap fun k => [32] ++ dp t f k.toNat) ++ [41]
def dump (t : T) (i : Nat) : List UInt8 := dp t (i + 1) i

theorem dp_fuel {t : T} (h : Low t.nodes) : ∀ (f g i : Nat), i < f → i < g → dp t f i = dp t g i
  | 0, _, _, h1, _ => absurd h1 (by omega)
  | _, 0, _, _, h1 => absurd h1 (by omega)
  | f + 1, g + 1, i, h1, h2 => by
    unfold dp
    cases hn : t.nodes[i]? with
    | none => rfl
    | some n =>
      simp only
      split
      · rfl
      · rw [List.flatMap_def, List.flatMap_def]
        congr 3
        apply List.map_congr_left
        intro k hk
        have := (h i n hn).1 k hk
        rw [dp_fuel h f g k.toNat (by omega) (by omega)]
theorem dump_leaf {t : T} {i : Nat} {n : Nd} {k : Tk} (hn : t.nodes[i]? = some n) (hk : n.kind = 19) (ht : t.toks[n.tok.toNat]? = some k) : dump t i = (if k.kind = 5 then [36] else []) ++ k.text := by
  unfold dump dp
  rw [hn]
  simp only [if_pos hk, ht]
theorem dump_node {t : T} (h : Low t.nodes) {i : Nat} {n : Nd} (hn : t.nodes[i]? = some n) (hk : n.kind ≠ 19) : dump t i = [40] ++ Lib.decDigits n.kind.toNat ++ (n.kids.flatMap fun k => [32] ++ dump t k.toNat) ++ [41] := by
  unfold dump
  conv => lhs; unfold dp
  rw [hn]
  simp only [if_neg hk]
  rw [List.flatMap_def, List.flatMap_def]
  congr 3
  apply List.map_congr_left
  intro k hk
  have := (h i n hn).1 k hk
  rw [dp_fuel h i (k.toNat + 1) k.toNat (by omega) (by omega)]
/-- What stands ahead of the loop's place. -/
def dumpTo (t : T) (n : Nd) (j : Nat) : List UInt8 := [40] ++ Lib.decDigits n.kind.toNat ++ ((n.kids.take j).flatMap fun k => [32] ++ dump t k.toNat)
theorem dumpTo_succ (t : T) {n : Nd} {j : Nat} {k : Int} (h : n.kids[j]? = some k) : dumpTo t n (j + 1) = dumpTo t n j ++ [32] ++ dump t k.toNat := by
  unfold dumpTo
  rw [List.take_add_one, h]
  simp
theorem dumpTo_le (t : T) (n : Nd) (j : Nat) : (dumpTo t n j).length ≤ (dumpTo t n n.kids.length).length := by
  unfold dumpTo
  rw [List.take_length]
  have e : (n.kids.flatMap fun k => [32] ++ dump t k.toNat) = ((n.kids.take j).flatMap fun k => [32] ++ dump t k.toNat) ++ ((n.kids.drop j).flatMap fun k => [32] ++ dump t k.toNat) := by
    rw [← List.flatMap_append, List.take_append_drop]
  rw [e]
  simp only [List.length_append]
  omega
theorem dump_to (t : T) (h : Low t.nodes) {i : Nat} {n : Nd} (hn : t.nodes[i]? = some n) (hk : n.kind ≠ 19) : dump t i = dumpTo t n n.kids.length ++ [41] := by
  rw [dump_node h hn hk]
  unfold dumpTo
  rw [List.take_length]

theorem decDigits_len (k : Nat) (h : k < 100) : (Lib.decDigits k).length ≤ 2 := by
  by_cases h1 : k < 10
  · rw [Lib.decDigits_one h1]
    simp
  · rw [Lib.decDigits_two h1 h]
    simp
theorem formed_kind {t : T} {i : Nat} {n : Nd} (h : formed t i n = true) : 1 ≤ n.kind ∧ n.kind ≤ 19 ∧ (n.kind = 19 → 0 ≤ n.tok ∧ n.tok < (t.toks.length : Int)) := by
  unfold formed at h
  split at h
  · cases h
  · rename_i h1
    refine ⟨by omega, by omega, fun h2 => ?_⟩
    rw [if_pos h2] at h
    simp only [Bool.and_eq_true, decide_eq_true_eq] at h
    exact ⟨h.1.2, h.2⟩
/-- A dump is no longer than its nodes allow. -/
theorem dump_len {t : T} {L : Nat} (hL : ∀ k ∈ t.toks, k.text.length ≤ L) (hf : FormedTo t t.nodes.length) (i : Nat) : i < t.nodes.length → (dump t i).length + 1 ≤ (L + 6) * size t.nodes i := by
  induction i using Nat.strongRecOn with
  | ind i ih =>
    intro hi
    have hl := hf.low
    obtain ⟨n, hn⟩ : ∃ n, t.nodes[i]? = some n := ⟨_, List.getElem?_eq_getElem hi⟩
    have hfn := formed_kind (hf i n hi hn)
    rw [size_node hl hn, Nat.mul_add, Nat.mul_one]
    by_cases hk : n.kind = 19
    · have h2 := hfn.2.2 hk
      obtain ⟨k, hkk⟩ : ∃ k, t.toks[n.tok.toNat]? = some k := ⟨_, List.getElem?_eq_getElem (by omega)⟩
      have h3 := hL k (List.mem_of_getElem? hkk)
      rw [dump_leaf hn hk hkk]
      simp only [List.length_append]
      split <;> simp <;> omega
    · have h2 := decDigits_len n.kind.toNat (by omega)
      have h : ∀ ks : List Int, (∀ k ∈ ks, 0 ≤ k ∧ k < (i : Int)) → (ks.flatMap fun k => [32] ++ dump t k.toNat).length ≤ (L + 6) * (ks.map fun k => size t.nodes k.toNat).sum := by
        intro ks hks
        induction ks with
        | nil => simp
        | cons k ks ihk =>
          have h3 := hks k (by simp)
          have h4 := ih k.toNat (by omega) (by omega)
          have h5 := ihk fun x hx => hks x (by simp [hx])
          simp only [List.flatMap_cons, List.length_append, List.length_cons, List.length_nil, List.map_cons, List.sum_cons, Nat.mul_add] at h5 ⊢
          omega
      have h6 := h n.kids (hl i n hn).1
      rw [dump_node hl hn hk]
      simp only [List.length_append, List.length_cons, List.length_nil] at h6 ⊢
      omega
end Go.Proofs.YtlejecaanllghaaGreatDoor.Tr
/- tree.dump, tree.Dump. -/
namespace Go.Proofs.YtlejecaanllghaaGreatDoor
open Go.RowKit

def IsB (w : World) (B b : Nat) (l : List UInt8) : Prop := Lib.IsBuilder 115 5 B b (Lib.byteCells l) w
theorem wl_calls {w : World} {B b : Nat} {pre : List UInt8} (h : IsB w B b pre) (l : List UInt8) (hl : pre.length + l.length ≤ 1073741824) (hB : B ≤ w.heap.size) :
    Calls Tryz.prog 58 #[.pointer (some ⟨b, 0, none⟩), .string ⟨l.toArray⟩] w fun e w' => (∃ n, e = .returned (.tuple #[.int .i64 n, .nilIface])) ∧ IsB w' B b (pre ++ l) ∧ Below B w w' ∧ NB b w w' := by
  have hs : (⟨l.toArray⟩ : ByteArray).size = l.length := by simp [ByteArray.size]
  refine (wstr_nb B b (Lib.byteCells pre) ⟨l.toArray⟩ w h (by rw [Lib.byteCells_length, hs]; omega) hB).mono ?_
  rintro e w' ⟨rfl, h1, h2, h3⟩
  refine ⟨⟨_, rfl⟩, ?_, h2, h3⟩
  unfold IsB
  rw [Lib.byteCells_append]
  exact h1
theorem IsB.lt {w : World} {B b : Nat} {l : List UInt8} (h : IsB w B b l) : b < w.heap.size ∧ B ≤ b := by
  rcases h with ⟨h1, v, h2, _⟩ | ⟨h1, v, h2, _⟩
  · exact ⟨lt_heap2 h2, h1⟩
  · exact ⟨lt_heap2 h2, h1⟩
theorem IsB.below {w w' : World} {B b : Nat} {l : List UInt8} (h : IsB w B b l) (hb : Below w.heap.size w w') : IsB w' B b l := isBuilder_below h hb

theorem NB.cells {b k : Nat} {x y : World} (h : NB b x y) {cs : Array Value} {T : TypeId} {fr : Nat × Nat} (hk : x.heap[k]? = some (.cells cs T fr)) (hne : k ≠ b) (hT : T ≠ 5) : y.heap[k]? = some (.cells cs T fr) :=
  h.block k _ hk hne fun cs2 fr2 e => by injection e with _ e2 _; exact hT e2
def DumpSays (w : World) (B b : Nat) (l : List UInt8) (e : Ending) (w' : World) : Prop := e = .returned (.tuple #[]) ∧ IsB w' B b l ∧ Below B w w' ∧ NB b w w'

set_option maxRecDepth 100000 in
set_option maxHeartbeats 2000000 in
theorem dump_leaf_calls {w : World} {P : Nat → Prop} {vt vn : Value} {t : Tr.T} {B b : Nat} {pre : List UInt8} (h : RdT w P vt vn t) (hP : ∀ k, P k → k < B) (hf : Tr.FormedTo t t.nodes.length) (hn : t.nodes.length ≤ 1073741823) (ht : t.toks.length ≤ 1073741823)
    {i : Nat} {n : Tr.Nd} (hi : t.nodes[i]? = some n) (hk : n.kind = 19) (hB : B ≤ w.heap.size) (hbu : IsB w B b pre) (hl : pre.length + (Tr.dump t i).length ≤ 1073741824) :
    Calls Tryz.prog 88 #[.agg #[vt, vn], .pointer (some ⟨b, 0, none⟩), .int .i64 (i : Int)] w (DumpSays w B b (pre ++ Tr.dump t i)) := by
  have hil := Tr.get_lt hi
  have hkt := (Tr.formed_kind (hf i n hil hi)).2.2 hk
  obtain ⟨tk, htk⟩ : ∃ tk, t.toks[n.tok.toNat]? = some tk := ⟨_, List.getElem?_eq_getElem (by omega)⟩
  rw [Tr.dump_leaf hi hk htk] at hl ⊢
  obtain ⟨kind, tok, kids⟩ := n
  simp only at hk hkt htk
  subst hk
  obtain ⟨q, rfl⟩ : ∃ q : Nat, tok = q := ⟨tok.toNat, by omega⟩
  simp only [Int.toNat_natCast] at htk
  obtain ⟨gn, on, cn, kv, rfl, hgn, hrn, hkv⟩ := h.2.node hi
  obtain ⟨gt, ot, ct, rfl, hgt, hrt⟩ := h.1.tok htk
  have hil' : (i : Int) < (t.nodes.length : Int) := by omega
  have hn' : (t.nodes.length : Int) ≤ 1073741823 := by omega
  have ht' : (t.toks.length : Int) ≤ 1073741823 := by omega
  have hqt : (q : Int) < (t.toks.length : Int) := hkt.2
  obtain ⟨ka, kc, rfl⟩ := hkv.form
  obtain ⟨kd, ld, tx, ps⟩ := tk
  have hgn2 := hP _ hgn
  have hgt2 := hP _ hgt
  have HRN : Hid (∀ w2 : World, Below B w w2 → w2.rangeAt gn (on + i * 3) [.int .i64 19, .int .i64 (q : Int), .slice ka kids.length kc]) := fun w2 h2 => rangeAt_same hrn (h2.block _ hgn2)
  have HRT : Hid (∀ w2 : World, Below B w w2 → w2.rangeAt gt (ot + q * 4) [.int .i64 kd, .string ⟨ld.toArray⟩, .string ⟨tx.toArray⟩, .int .i64 ps]) := fun w2 h2 => rangeAt_same hrt (h2.block _ hgt2)
  have HB := Lib.hid hbu
  have HL := Lib.hid hl
  have HBB : Hid (∀ o1 o2 o3 : Obj, Below B w (((w.alloc o1).alloc o2).alloc o3)) := fun o1 o2 o3 => (((Below.refl _ _).alloc hB _).alloc (by rw [← size_alloc1]; omega) _).alloc (by rw [← size_alloc1, ← size_alloc1]; omega) _
  have HBW := Lib.hid hB
  clear hbu hl hrn hrt hkv h hf hi hil hkt htk hP hgn2 hgt2 hgn hgt
  by_cases hk5 : kd = 5
  · subst hk5
    go_enter Tryz.func88, Tryz.ntmps88
    go_wp2_with (first
      | (refine wpList_load_mid rfl 175 _ rfl gn (on + i * 3) rfl _ _ (HRN.out _ ((Below.refl _ _).alloc HBW.out _)) Tryz.underlying175 rfl rfl ?_)
      | (refine wpList_load_mid rfl 169 _ rfl gt (ot + q * 4) rfl _ _ (HRT.out _ (((Below.refl _ _).alloc HBW.out _).alloc (by rw [← size_alloc1]; have := HBW.out; omega) _)) Tryz.underlying169 rfl rfl ?_))
    obtain ⟨W, hW⟩ : ∃ W, ((w.alloc (.cells #[.slice (some ⟨gt, ot, none⟩) t.toks.length ct, .slice (some ⟨gn, on, none⟩) t.nodes.length cn] 30)).alloc (.cells #[.int .i64 19, .int .i64 (q : Int), .slice ka kids.length kc] 175)).alloc (.cells #[.int .i64 5, .string ⟨ld.toArray⟩, .string ⟨tx.toArray⟩, .int .i64 ps] 169) = W := ⟨_, rfl⟩
    have hWB : Below B w W := by rw [← hW]; exact HBB.out _ _ _
    have hWb : Below w.heap.size w W := by rw [← hW]; exact (((Below.refl _ _).alloc (Nat.le_refl _) _).alloc (by rw [← size_alloc1]; omega) _).alloc (by rw [← size_alloc1, ← size_alloc1]; omega) _
    have hWt : W.heap[w.heap.size + 1 + 1]? = some (.cells #[.int .i64 5, .string ⟨ld.toArray⟩, .string ⟨tx.toArray⟩, .int .i64 ps] 169 (0, 0)) := by rw [← hW]; exact new_at _ _ _ (by rw [← size_alloc1, ← size_alloc1])
    have HW := Lib.hid (And.intro hWB (And.intro hWt (And.intro (HB.out.below hWb) hWb)))
    rw [hW]
    clear hW hWB hWb hWt
    refine (wl_calls HW.out.2.2.1 [36] (by have := HL.out; simp at this ⊢; omega) (Nat.le_trans HBW.out HW.out.2.2.2.size)).mono ?_
    rintro e w1 ⟨⟨n1, rfl⟩, hi1, hb1, hn1⟩
    have ht1 := hn1.cells HW.out.2.1 (by have := HB.out.lt; omega) (by decide)
    have d2 := cell_of_heap ht1 2 rfl
    have H1 := Lib.hid (And.intro hi1 (And.intro hb1 hn1))
    clear hi1 hb1 hn1 ht1
    dsimp only
    go_wp2_with fail
    refine (wl_calls H1.out.1 tx (by have := HL.out; simp at this ⊢; omega) (Nat.le_trans (Nat.le_trans HBW.out HW.out.2.2.2.size) H1.out.2.1.size)).mono ?_
    rintro e w2 ⟨⟨n2, rfl⟩, hi2, hb2, hn2⟩
    have H2 := Lib.hid (And.intro hi2 (And.intro hb2 hn2))
    clear hi2 hb2 hn2 d2
    dsimp only
    go_wp2_with fail
    refine bodyPost_ret (results_none rfl _ _ _) rfl ?_
    refine ⟨rfl, by simpa using H2.out.1, (HW.out.1.trans H1.out.2.1).trans H2.out.2.1, ((NB.of HW.out.2.2.2).trans H1.out.2.2).trans H2.out.2.2⟩
  · have hk5' : (kd == 5) = false := by rw [beq_eq_false_iff_ne]; exact hk5
    have HK5 := Lib.hid hk5
    clear hk5
    go_enter Tryz.func88, Tryz.ntmps88
    go_wp2_with (first
      | (refine wpList_load_mid rfl 175 _ rfl gn (on + i * 3) rfl _ _ (HRN.out _ ((Below.refl _ _).alloc HBW.out _)) Tryz.underlying175 rfl rfl ?_)
      | (refine wpList_load_mid rfl 169 _ rfl gt (ot + q * 4) rfl _ _ (HRT.out _ (((Below.refl _ _).alloc HBW.out _).alloc (by rw [← size_alloc1]; have := HBW.out; omega) _)) Tryz.underlying169 rfl rfl ?_))
    obtain ⟨W, hW⟩ : ∃ W, ((w.alloc (.cells #[.slice (some ⟨gt, ot, none⟩) t.toks.length ct, .slice (some ⟨gn, on, none⟩) t.nodes.length cn] 30)).alloc (.cells #[.int .i64 19, .int .i64 (q : Int), .slice ka kids.length kc] 175)).alloc (.cells #[.int .i64 kd, .string ⟨ld.toArray⟩, .string ⟨tx.toArray⟩, .int .i64 ps] 169) = W := ⟨_, rfl⟩
    have hWB : Below B w W := by rw [← hW]; exact HBB.out _ _ _
    have hWb : Below w.heap.size w W := by rw [← hW]; exact (((Below.refl _ _).alloc (Nat.le_refl _) _).alloc (by rw [← size_alloc1]; omega) _).alloc (by rw [← size_alloc1, ← size_alloc1]; omega) _
    have hWt : W.heap[w.heap.size + 1 + 1]? = some (.cells #[.int .i64 kd, .string ⟨ld.toArray⟩, .string ⟨tx.toArray⟩, .int .i64 ps] 169 (0, 0)) := by rw [← hW]; exact new_at _ _ _ (by rw [← size_alloc1, ← size_alloc1])
    have HW := Lib.hid (And.intro hWB (And.intro hWt (And.intro (HB.out.below hWb) hWb)))
    rw [hW]
    clear hW hWB hWb hWt
    refine (wl_calls HW.out.2.2.1 tx (by have := HL.out; rw [if_neg HK5.out] at this; simp at this ⊢; omega) (Nat.le_trans HBW.out HW.out.2.2.2.size)).mono ?_
    rintro e w2 ⟨⟨n2, rfl⟩, hi2, hb2, hn2⟩
    have H2 := Lib.hid (And.intro hi2 (And.intro hb2 hn2))
    clear hi2 hb2 hn2
    dsimp only
    go_wp2_with fail
    refine bodyPost_ret (results_none rfl _ _ _) rfl ?_
    refine ⟨rfl, by simpa using H2.out.1, HW.out.1.trans H2.out.2.1, (NB.of HW.out.2.2.2).trans H2.out.2.2⟩

/-- What the loop over a node's kids keeps. -/
def DpRel (w : World) (vt vn : Value) (t : Tr.T) (n : Tr.Nd) (B b : Nat) (pre : List UInt8) (k : Nat) (v42 : Value) (wr : World) : Prop :=
  ∃ j : Nat, v42 = .int .i64 j ∧ k = n.kids.length - j ∧ j ≤ n.kids.length ∧ IsB wr B b (pre ++ Tr.dumpTo t n j) ∧ Below B w wr ∧ NB b w wr ∧ wr.heap[w.heap.size]? = some (.cells #[vt, vn] 30 (0, 0))

set_option maxRecDepth 100000 in
set_option maxHeartbeats 2000000 in
theorem dump_calls {P : Nat → Prop} {vt vn : Value} {t : Tr.T} {B b : Nat} (hP : ∀ k, P k → k < B) (hf : Tr.FormedTo t t.nodes.length) (hn : t.nodes.length ≤ 1073741823) (ht : t.toks.length ≤ 1073741823) (hkids : ∀ n ∈ t.nodes, n.kids.length ≤ 1073741823) (i : Nat) :
    ∀ (w : World) (pre : List UInt8), i < t.nodes.length → RdT w P vt vn t → B ≤ w.heap.size → IsB w B b pre → pre.length + (Tr.dump t i).length ≤ 1073741824 →
    Calls Tryz.prog 88 #[.agg #[vt, vn], .pointer (some ⟨b, 0, none⟩), .int .i64 (i : Int)] w (DumpSays w B b (pre ++ Tr.dump t i)) := by
  induction i using Nat.strongRecOn with
  | ind i ih =>
  intro w pre hil h hB hbu hl
  obtain ⟨n, hi⟩ : ∃ n, t.nodes[i]? = some n := ⟨_, List.getElem?_eq_getElem hil⟩
  by_cases hk : n.kind = 19
  · exact dump_leaf_calls h hP hf hn ht hi hk hB hbu hl
  · have hlow := hf.low
    have hkd := Tr.formed_kind (hf i n hil hi)
    have hkl := hkids n (List.mem_of_getElem? hi)
    rw [Tr.dump_to t hlow hi hk] at hl ⊢
    have hlw := hlow i n hi
    obtain ⟨gn, on, cn, kv, rfl, hgn, hrn, hkv⟩ := h.2.node hi
    obtain ⟨at_, ct, rfl⟩ := h.1.form
    obtain ⟨ka, kc, rfl⟩ := hkv.form
    obtain ⟨kd, hkde⟩ : ∃ kd : Nat, n.kind = kd := ⟨n.kind.toNat, by omega⟩
    have hkd19 : ((kd : Int) == 19) = false := by rw [beq_eq_false_iff_ne]; omega
    have hil' : (i : Int) < (t.nodes.length : Int) := by omega
    have hn' : (t.nodes.length : Int) ≤ 1073741823 := by omega
    have hkl' : (n.kids.length : Int) ≤ 1073741823 := by omega
    have hgn2 := hP _ hgn
    rw [hkde] at hrn
    have HRN : Hid (∀ w2 : World, Below B w w2 → w2.rangeAt gn (on + i * 3) [.int .i64 (kd : Int), .int .i64 n.tok, .slice ka n.kids.length kc]) := fun w2 h2 => rangeAt_same hrn (h2.block _ hgn2)
    obtain ⟨dg, hdg⟩ : ∃ dg, Lib.decDigits kd = dg := ⟨_, rfl⟩
    have hdl : dg.length ≤ 2 := by rw [← hdg]; exact Tr.decDigits_len kd (by omega)
    have hdl' : (dg.length : Int) ≤ 2 := by omega
    have HIT : Hid (∀ W : World, Calls Tryz.prog 130 #[.int .i64 (kd : Int)] W fun e w' => e = .returned (.string ⟨dg.toArray⟩) ∧ w' = W) := by
      rw [← hdg]
      exact fun W => Tryz.strconv_Itoa_small kd (by omega) W
    have HTO : Hid (Tr.dumpTo t n 0 = [40] ++ dg) := by
      refine Lib.hid ?_
      unfold Tr.dumpTo
      rw [hkde, ← hdg]
      simp
    have HKD := Lib.hid (And.intro hkde hkd)
    have HKV := Lib.hid (And.intro h (And.intro hkv (And.intro hP hlw)))
    have HB := Lib.hid hbu
    have HL := Lib.hid hl
    have HBW := Lib.hid hB
    have HIH := Lib.hid ih
    have HT := Lib.hid (And.intro hi hlow)
    clear hbu hl hrn hkv h hf hi hil hP hgn2 hgn hkde hkd hk ih hlow hlw hkids hdg
    go_enter Tryz.func88, Tryz.ntmps88
    go_wp2_with (first
      | (refine wpList_load_mid rfl 175 _ rfl gn (on + i * 3) rfl _ _ (HRN.out _ ((Below.refl _ _).alloc HBW.out _)) Tryz.underlying175 rfl rfl ?_)
      | (go_at_call 130; refine (HIT.out _).mono ?_; rintro e w' ⟨rfl, rfl⟩))
    obtain ⟨W, hW⟩ : ∃ W, (w.alloc (.cells #[.slice at_ t.toks.length ct, .slice (some ⟨gn, on, none⟩) t.nodes.length cn] 30)).alloc (.cells #[.int .i64 (kd : Int), .int .i64 n.tok, .slice ka n.kids.length kc] 175) = W := ⟨_, rfl⟩
    have hWb : Below w.heap.size w W := by rw [← hW]; exact ((Below.refl _ _).alloc (Nat.le_refl _) _).alloc (by rw [← size_alloc1]; omega) _
    have hWt : W.heap[w.heap.size]? = some (.cells #[.slice at_ t.toks.length ct, .slice (some ⟨gn, on, none⟩) t.nodes.length cn] 30 (0, 0)) := by rw [← hW, Below.heap_alloc _ _ _ (by rw [← size_alloc1]; omega)]; exact new_at _ _ _ rfl
    have hWx : W.heap[w.heap.size + 1]? = some (.cells #[.int .i64 (kd : Int), .int .i64 n.tok, .slice ka n.kids.length kc] 175 (0, 0)) := by rw [← hW]; exact new_at _ _ _ (by rw [← size_alloc1])
    have HW := Lib.hid (And.intro hWb (And.intro hWt (And.intro hWx (And.intro (HB.out.below hWb) (hWb.mono HBW.out)))))
    rw [hW]
    clear hW hWb hWt hWx
    rw [show (⟨#[40]⟩ : ByteArray) = ⟨[40].toArray⟩ from rfl, str_add]
    refine (wl_calls HW.out.2.2.2.1 ([40] ++ dg) ?_ (Nat.le_trans HBW.out HW.out.2.2.2.2.size)).mono ?_
    · have h1 := HL.out
      have h2 := Tr.dumpTo_le t n 0
      rw [HTO.out] at h2
      simp only [List.length_append] at h1 h2 ⊢
      omega
    rintro e w1 ⟨⟨n1, rfl⟩, hi1, hb1, hn1⟩
    have ht1 := hn1.cells HW.out.2.1 (by have := HB.out.lt; omega) (by decide)
    have hx1 := hn1.cells HW.out.2.2.1 (by have := HB.out.lt; omega) (by decide)
    have d2 := cell_of_heap hx1 2 rfl
    have H1 := Lib.hid (And.intro hi1 (And.intro hb1 (And.intro hn1 ht1)))
    clear hi1 hb1 hn1 ht1 hx1
    dsimp only
    go_wp2_with fail
    go_loopg [42] n.kids.length (fun k v42 wr => DpRel w (.slice at_ t.toks.length ct) (.slice (some ⟨gn, on, none⟩) t.nodes.length cn) t n B b pre k v42 wr)
    case atStart =>
      refine ⟨0, rfl, rfl, Nat.zero_le _, ?_, HW.out.2.2.2.2.trans H1.out.2.1, (NB.of HW.out.1).trans H1.out.2.2.1, H1.out.2.2.2⟩
      rw [HTO.out]
      exact H1.out.1
    case round =>
      obtain ⟨j, rfl, hk, hj, hi2, hb2, hn2, ht2⟩ := hrel
      have HR := Lib.hid (And.intro hk (And.intro hi2 (And.intro hb2 (And.intro hn2 ht2))))
      clear hk hi2 hb2 hn2 ht2 d2
      by_cases hlt : j < n.kids.length
      · have hlt' : (j : Int) < (n.kids.length : Int) := by omega
        obtain ⟨x, hx⟩ : ∃ x, n.kids[j]? = some x := ⟨_, List.getElem?_eq_getElem hlt⟩
        have hxi := HKV.out.2.2.2.1 x (List.mem_of_getElem? hx)
        obtain ⟨y, rfl⟩ : ∃ y : Nat, x = y := ⟨x.toNat, by omega⟩
        obtain ⟨bk, ok, rfl, hcell⟩ := rt_kid HKV.out.1.2 HT.out.1 HKV.out.2.1 (fun k hk => Nat.lt_of_lt_of_le (HKV.out.2.2.1 k hk) HBW.out) (Below.refl _ _) (Keeps.of HR.out.2.2.1 HKV.out.2.2.1) hx
        have HX := Lib.hid (And.intro hx hxi)
        have HLJ : Hid (pre.length + (Tr.dumpTo t n j).length + 1 + (Tr.dump t y).length ≤ 1073741824) := by
          refine Lib.hid ?_
          have h1 := HL.out
          have h2 := Tr.dumpTo_le t n (j + 1)
          rw [Tr.dumpTo_succ t hx] at h2
          simp only [List.length_append, List.length_cons, List.length_nil, Int.toNat_natCast] at h1 h2
          omega
        clear hx hxi
        go_wp2_with fail
        refine (wl_calls HR.out.2.1 [32] (by have := HLJ.out; simp only [List.length_append, List.length_cons, List.length_nil]; omega) (Nat.le_trans HBW.out HR.out.2.2.1.size)).mono ?_
        rintro e w3 ⟨⟨n3, rfl⟩, hi3, hb3, hn3⟩
        have ht3 := hn3.cells HR.out.2.2.2.2 (by have := HB.out.lt; omega) (by decide)
        have q0 := cell_of_heap ht3 0 rfl
        have q1 := cell_of_heap ht3 1 rfl
        have H3 := Lib.hid (And.intro hi3 (And.intro hb3 (And.intro hn3 ht3)))
        clear hi3 hb3 hn3 ht3
        dsimp only
        go_wp2_with fail
        refine (HIH.out y (by have := HX.out.2; omega) w3 _ (by have := HX.out.2; omega) (HKV.out.1.keep (Keeps.of (HR.out.2.2.1.trans H3.out.2.1) HKV.out.2.2.1)) (Nat.le_trans HBW.out (HR.out.2.2.1.trans H3.out.2.1).size) H3.out.1 (by have := HLJ.out; simp only [List.length_append, List.length_cons, List.length_nil]; omega)).mono ?_
        rintro e w4 ⟨rfl, hi4, hb4, hn4⟩
        have ht4 := hn4.cells H3.out.2.2.2 (by have := HB.out.lt; omega) (by decide)
        have H4 := Lib.hid (And.intro hi4 (And.intro hb4 (And.intro hn4 ht4)))
        clear hi4 hb4 hn4 ht4 q0 q1 hcell
        dsimp only
        go_wp2_with fail
        refine Handed.intro (n.kids.length - (j + 1)) ?_ ?_
        · have := HR.out.1; omega
        go_step
        repeat apply Exists.intro
        refine ⟨?_, rfl⟩
        refine ⟨j + 1, by go_num, rfl, by omega, ?_, (HR.out.2.2.1.trans H3.out.2.1).trans H4.out.2.1, (HR.out.2.2.2.1.trans H3.out.2.2.1).trans H4.out.2.2.1, H4.out.2.2.2⟩
        have := H4.out.1
        rw [Tr.dumpTo_succ t HX.out.1]
        simpa using this
      · obtain rfl : j = n.kids.length := by omega
        go_wp2_with fail
        refine (wl_calls HR.out.2.1 [41] (by have := HL.out; simp only [List.length_append] at this ⊢; omega) (Nat.le_trans HBW.out HR.out.2.2.1.size)).mono ?_
        rintro e w3 ⟨⟨n3, rfl⟩, hi3, hb3, hn3⟩
        have H3 := Lib.hid (And.intro hi3 (And.intro hb3 hn3))
        clear hi3 hb3 hn3
        dsimp only
        go_wp2_with fail
        refine bodyPost_ret (results_none rfl _ _ _) rfl ?_
        exact ⟨rfl, by simpa using H3.out.1, HR.out.2.2.1.trans H3.out.2.1, HR.out.2.2.2.1.trans H3.out.2.2⟩
end Go.Proofs.YtlejecaanllghaaGreatDoor
