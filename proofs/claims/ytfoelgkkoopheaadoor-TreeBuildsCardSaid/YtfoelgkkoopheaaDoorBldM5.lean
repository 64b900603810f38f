/- Contracts and plain laws, in one text. Plain laws of a right tree: each node's leaves stand one behind another. No program in sight. | tree.Text. | tree.Text: the walk. | Plain laws of the flat tree: one node over all leaves. No program in sight. | TreeFlat: the walk. | TreeBuilds: what its loop keeps in memory: the builder, the nodes that are wanted, the tokens. | TreeBuilds: the walk. | TreeBuilds: for every text, every list of operations and of kinds the law returns true, and the lists read as they did. Condition: the listed package-level variables are laid as the program's text lays them (the card ties them). -/
import Derived.Test.YtfoelgkkoopheaaDoorBldM3
import Derived.Test.YtfoelgkkoopheaaDoorBldM4
import Derived.Laws.StructEq
import Derived.Deep.QuietTactic
import Derived.BigQuiet
import Derived.ChangeMaps5
/- Plain laws of a right tree: each node's leaves stand one behind another. No program in sight. -/
namespace Go.Proofs.YtfoelgkkoopheaaDoor.Tr

theorem marks_mem : ∀ {ks : List Int} {kid kid' : List Bool}, marks kid ks = some kid' → (∀ k ∈ ks, 0 ≤ k) → ∀ i, kid'.getD i false = true → kid.getD i false = true ∨ (i : Int) ∈ ks
  | [], kid, kid', h, _, i, hi => by
    simp only [marks, Option.some.injEq] at h
    subst h
    exact Or.inl hi
  | k :: ks, kid, kid', h, hk, i, hi => by
    unfold marks at h
    split at h
    · cases h
    · rcases marks_mem h (fun x hx => hk x (by simp [hx])) i hi with h1 | h1
      · by_cases he : i = k.toNat
        · have := hk k (by simp)
          right
          rw [show (i : Int) = k by omega]
          simp
        · left
          simp only [List.getD] at h1 ⊢
          rwa [List.getElem?_set_ne (by omega)] at h1
      · exact Or.inr (List.mem_cons_of_mem _ h1)
theorem rightGo_mem {t : T} : ∀ {l : List Nd} {i : Nat} {kid kid' : List Bool}, rightGo t i l kid = some kid' → t.nodes.drop i = l → ∀ j, kid'.getD j false = true → kid.getD j false = true ∨ ∃ (m : Nat) (n : Nd), t.nodes[m]? = some n ∧ (j : Int) ∈ n.kids
  | [], i, kid, kid', h, _, j, hj => by
    simp only [rightGo, Option.some.injEq] at h
    subst h
    exact Or.inl hj
  | n :: l, i, kid, kid', h, hl, j, hj => by
    have hlt : i < t.nodes.length := by
      rcases Nat.lt_or_ge i t.nodes.length with h1 | h1
      · exact h1
      · rw [List.drop_eq_nil_of_le h1] at hl; cases hl
    have hl2 := List.drop_eq_getElem_cons hlt
    rw [hl] at hl2
    injection hl2 with e1 e2
    have hn : t.nodes[i]? = some n := by rw [List.getElem?_eq_getElem hlt, ← e1]
    unfold rightGo at h
    split at h
    · rename_i hfm
      split at h
      · cases h
      · rename_i kid1 hm
        rcases rightGo_mem h e2.symm j hj with h1 | h1
        · rcases marks_mem hm (fun k hk => ((formed_low hfm).1 k hk).1) j h1 with h2 | h2
          · exact Or.inl h2
          · exact Or.inr ⟨i, n, hn, h2⟩
        · exact Or.inr h1
    · cases h

/-- In a right tree each place but the last is a kid of a later one; the root's leaves are all tokens. -/
theorem right_all {t : T} (h : right t = true) : Low t.nodes ∧ 0 < t.nodes.length ∧ leafs t.nodes (t.nodes.length - 1) = (List.range t.toks.length).map (fun i : Nat => (i : Int)) ∧
    ∀ j, j + 1 < t.nodes.length → ∃ (m : Nat) (n : Nd), j < m ∧ t.nodes[m]? = some n ∧ (j : Int) ∈ n.kids := by
  cases hg : rightGo t 0 t.nodes (List.replicate t.nodes.length false) with
  | none => rw [right_none hg] at h; cases h
  | some kid =>
    have hf := right_facts hg
    rw [right_some hg] at h
    simp only [Bool.and_eq_true, Bool.not_eq_true', beq_iff_eq] at h
    obtain ⟨⟨h1, h2⟩, h3⟩ := h
    have hk0 : 0 < kid.length := by
      cases kid with
      | nil => simp at h1
      | cons _ _ => simp
    refine ⟨hf.1, by omega, h3, fun j hj => ?_⟩
    have hkj : kid.getD j false = true := by
      have hjk : j < kid.length := by omega
      cases hv : kid[j] with
      | true => simp [List.getD, List.getElem?_eq_getElem hjk, hv]
      | false =>
        have : (kid.take (kid.length - 1)).contains false = true := by
          rw [List.contains_iff_mem]
          refine List.mem_of_getElem? (i := j) ?_
          rw [List.getElem?_take, if_pos (by omega), List.getElem?_eq_getElem hjk, hv]
        rw [h2] at this
        cases this
    rcases rightGo_mem hg (by simp) j hkj with h4 | ⟨m, n, hn, hm⟩
    · simp [List.getD, List.getElem?_replicate] at h4
      split at h4 <;> simp at h4
    · have := (hf.1 m n hn).1 _ hm
      exact ⟨m, n, by omega, hn, hm⟩
theorem infix_flatMap {α β : Type} {f : α → List β} {x : α} : ∀ {l : List α}, x ∈ l → f x <:+: l.flatMap f
  | [], h => by cases h
  | y :: l, h => by
    rw [List.flatMap_cons]
    rcases List.mem_cons.1 h with rfl | h
    · exact ⟨[], l.flatMap f, by simp⟩
    · exact (infix_flatMap h).trans ⟨f y, [], by simp⟩
theorem leafs_infix {t : T} (h : right t = true) : ∀ (d i : Nat), t.nodes.length - 1 - i = d → i < t.nodes.length → leafs t.nodes i <:+: leafs t.nodes (t.nodes.length - 1) := by
  obtain ⟨hlow, h0, _, hkid⟩ := right_all h
  intro d
  induction d using Nat.strongRecOn with
  | ind d ih =>
    intro i hd hi
    by_cases he : i = t.nodes.length - 1
    · rw [he]
      exact List.infix_refl _
    · obtain ⟨m, n, hm, hn, hk⟩ := hkid i (by omega)
      have hml := get_lt hn
      have h1 : n.kind ≠ 19 := by
        intro e
        rw [(hlow m n hn).2 e] at hk
        cases hk
      have h2 := leafs_node hlow hn h1
      have h3 : leafs t.nodes i <:+: leafs t.nodes m := by
        rw [h2]
        have := infix_flatMap (f := fun k : Int => leafs t.nodes k.toNat) hk
        simpa using this
      exact h3.trans (ih (t.nodes.length - 1 - m) (by omega) m rfl hml)
/-- A node's leaves: from one place to another. -/
theorem leafs_run {t : T} (h : right t = true) {i : Nat} (hi : i < t.nodes.length) : ∃ a, leafs t.nodes i = (List.range (leafs t.nodes i).length).map (fun j : Nat => ((a + j : Nat) : Int)) ∧ a + (leafs t.nodes i).length ≤ t.toks.length := by
  obtain ⟨x, y, hxy⟩ := leafs_infix h _ i rfl hi
  rw [(right_all h).2.2.1] at hxy
  have hlen := congrArg List.length hxy
  simp only [List.length_append, List.length_map, List.length_range] at hlen
  refine ⟨x.length, ?_, by omega⟩
  apply List.ext_getElem?
  intro j
  by_cases hj : j < (leafs t.nodes i).length
  · have h1 : (x ++ leafs t.nodes i ++ y)[x.length + j]? = (leafs t.nodes i)[j]? := by
      rw [List.append_assoc, List.getElem?_append_right (by omega), Nat.add_sub_cancel_left, List.getElem?_append_left hj]
    rw [← h1, hxy, List.getElem?_map, List.getElem?_map, List.getElem?_range (by omega), List.getElem?_range hj]
    rfl
  · rw [List.getElem?_eq_none (by omega), List.getElem?_eq_none (by simp; omega)]
end Go.Proofs.YtfoelgkkoopheaaDoor.Tr
/- tree.Text. -/
namespace Go.Proofs.YtfoelgkkoopheaaDoor
open Go.RowKit

/-- The first token's lead is struck. -/
def clearLead : List Tr.Tk → List Tr.Tk
  | [] => []
  | k :: l => ⟨k.kind, [], k.text, k.pos⟩ :: l
/-- A node's text, off the places of its leaves. -/
def textAt (toks : List Tr.Tk) (l : List Int) : List UInt8 :=
  match l with
  | [] => []
  | a :: r => wholeOf (clearLead ((toks.drop a.toNat).take (r.length + 1)))
def TextOut (t : Tr.T) (n : Int) : List UInt8 := if Tr.check t n = 0 then textAt t.toks (Tr.leafs t.nodes n.toNat) else []

theorem RdS.sub {w : World} {P : Nat → Prop} {b off n c : Nat} {toks : List Tr.Tk} (h : RdS w P 4 (.slice (some ⟨b, off, none⟩) n c) n (tksCells toks)) {a k : Nat} (hn : n = toks.length) (hk : a + k ≤ n) : RdS w P 4 (.slice (some ⟨b, off + a * 4, none⟩) k (c - a)) k (tksCells ((toks.drop a).take k)) := by
  subst hn
  obtain ⟨_, x, c', he, hc, hd⟩ := h
  simp only [Value.slice.injEq, true_and] at he
  obtain ⟨rfl, rfl⟩ := he
  have hlen : ((toks.drop a).take k).length = k := by simp; omega
  refine ⟨by rw [tksCells, flatMap_len (f := tkCells) (s := 4) (fun _ => rfl), hlen], _, _, rfl, by omega, Or.inr ⟨b, off + a * 4, rfl, ?_, ?_⟩⟩
  · rcases hd with ⟨h, _⟩ | ⟨b', o', e, h5, _⟩
    · cases h
    · injection e with e
      injection e with e1 e2
      subst e1
      exact h5.imp (fun h => by omega) id
  · rcases hd with ⟨h, _⟩ | ⟨b', o', e, _, hr⟩
    · cases h
    · injection e with e
      injection e with e1 e2
      subst e1 e2
      refine rangeAt_flat (f := tkCells) (s := 4) (fun _ => rfl) fun i x hx => ?_
      have hik := Tr.get_lt hx
      rw [hlen] at hik
      rw [List.getElem?_take, if_pos hik, List.getElem?_drop] at hx
      have := rangeAt_piece (f := tkCells) (s := 4) (fun _ => rfl) hr hx
      rw [show off + a * 4 + i * 4 = off + (a + i) * 4 by omega]
      exact this
theorem clear_cells {w : World} {B n c g : Nat} {k : Tr.Tk} {r : List Tr.Tk} (h : w.ownsRow B 34 4 (.slice (some ⟨g, 0, none⟩) n c) n (tksCells (k :: r))) :
    RdS (w.setCell ⟨g, 1, none⟩ (.string ⟨#[]⟩)) (fun b => b = g) 4 (.slice (some ⟨g, 0, none⟩) n c) n (tksCells (clearLead (k :: r))) ∧ (∃ u, w.cell? ⟨g, 1, none⟩ = some u) ∧ w.frozen? ⟨g, 1, none⟩ = false := by
  have hl := h.1
  have hcells := fun j u hj => h.cells (g := g) rfl j u hj
  have hf : ∃ cur, w.heap[g]? = some (.cells cur 34 (0, 0)) := ownsRow_cells h rfl
  obtain ⟨cur, hcur⟩ := hf
  have hnc : n ≤ c := by
    rcases h.2 with ⟨h1, _⟩ | ⟨g', cap, _, he, _, _, hle, _⟩
    · cases h1
    · simp only [Value.slice.injEq] at he
      omega
  have h1 := hcells 1 (.string ⟨k.lead.toArray⟩) (by simp [tksCells, tkCells])
  rw [Addr.add_mid] at h1
  refine ⟨⟨?_, _, _, rfl, hnc, Or.inr ⟨g, 0, rfl, Or.inr rfl, ?_⟩⟩, ⟨_, h1⟩, frozen_of_heap hcur 1⟩
  · rw [← hl]
    simp [tksCells, tkCells, clearLead]
  · intro j u hj
    rw [Nat.zero_add]
    by_cases hj1 : j = 1
    · subst hj1
      simp [tksCells, tkCells, clearLead] at hj
      rw [← hj]
      exact World.cell?_setCell_same' _ _ _ (by rw [h1]; rfl)
    · have hj2 : (tksCells (k :: r))[j]? = some u := by
        rw [← hj]
        match j, hj1 with
        | 0, _ => simp [tksCells, tkCells, clearLead]
        | j + 2, _ => simp [tksCells, tkCells, clearLead]
      have h2 := hcells j u hj2
      rw [Addr.add_mid, Nat.zero_add] at h2
      rw [World.cell?_setCell_other _ _ _ _ (by intro e; injection e with _ e _; exact hj1 e.symm)]
      exact h2
theorem whole_clear_len (l : List Tr.Tk) : (wholeOf (clearLead l)).length ≤ (wholeOf l).length := by
  cases l with
  | nil => simp [clearLead]
  | cons k l => simp [clearLead, wholeOf]
theorem whole_part_len (l : List Tr.Tk) (a k : Nat) : (wholeOf ((l.drop a).take k)).length ≤ (wholeOf l).length := by
  have h1 : wholeOf l = wholeOf (l.take a) ++ (wholeOf ((l.drop a).take k) ++ wholeOf ((l.drop a).drop k)) := by
    unfold wholeOf
    rw [← List.flatMap_append, List.take_append_drop, ← List.flatMap_append, List.take_append_drop]
  rw [h1]
  simp only [List.length_append]
  omega
end Go.Proofs.YtfoelgkkoopheaaDoor
/- tree.Text: the walk. -/
namespace Go.Proofs.YtfoelgkkoopheaaDoor
open Go.RowKit

theorem rt_leaf_any {w : World} {B n c : Nat} {a : Option Addr} {l : List Int} (h : w.ownsRow B 3 1 (.slice a n c) n (intCells l)) {i : Nat} {x : Int} (hx : l[i]? = some x) (hn : 0 < n) : ∃ g, a = some ⟨g, 0, none⟩ ∧ w.cell? ⟨g, i, none⟩ = some (.int .i64 x) := by
  obtain ⟨g, cap, he, _, _⟩ := h.form hn
  simp only [Value.slice.injEq] at he
  obtain ⟨rfl, _, _⟩ := he
  refine ⟨g, rfl, ?_⟩
  have h2 := h.cells (g := g) rfl i (.int .i64 x) (by simp [intCells, hx])
  rwa [Addr.add_mid, Nat.zero_add] at h2
set_option maxRecDepth 100000 in
set_option maxHeartbeats 2000000 in
theorem text_calls {w : World} {P : Nat → Prop} {vt vn : Value} {t : Tr.T} (h : RdT w P vt vn t) (hP : ∀ k, P k → k < w.heap.size) (hn : t.nodes.length ≤ 1073741823) (ht : t.toks.length ≤ 1073741823) (hkids : ∀ n ∈ t.nodes, n.kids.length ≤ 1073741823) (n : Int)
    (hl : (wholeOf t.toks).length ≤ 1073741824) :
    Calls Tryd.prog 17 #[.agg #[vt, vn], .int .i64 n] w fun e w' => e = .returned (.tuple #[.string ⟨(TextOut t n).toArray⟩, .int .i64 (Tr.check t n)]) ∧ Below w.heap.size w w' := by
  have hb1 : Below w.heap.size w (w.alloc (.cells #[vt, vn] 41)) := (Below.refl _ _).alloc (Nat.le_refl _) _
  have HC := Lib.hid (check_node_calls (h.keep (Keeps.of hb1 hP)) (fun k hk => Nat.lt_of_lt_of_le (hP k hk) hb1.size) hn (by omega) hkids n)
  obtain ⟨at_, ct, rfl⟩ := h.1.form
  obtain ⟨an, cn, rfl⟩ : ∃ a c, vn = .slice a t.nodes.length c := by
    obtain ⟨kvs, _, h2, _⟩ := h.2
    exact h2.form
  have HB := Lib.hid hb1
  have HH := Lib.hid (And.intro h (And.intro hP (And.intro hn (And.intro ht (And.intro hkids hl)))))
  unfold TextOut
  clear h hP hb1 hn ht hkids hl
  by_cases hc : Tr.check t n = 0
  · rw [if_pos hc]
    rw [hc] at HC ⊢
    obtain ⟨hr, h0, h1⟩ := check_zero hc
    obtain ⟨i, rfl⟩ : ∃ i : Nat, n = i := ⟨n.toNat, by omega⟩
    rw [Int.toNat_natCast]
    have hil : i < t.nodes.length := by omega
    obtain ⟨a, hrun, hroom⟩ := Tr.leafs_run hr hil
    have hfa := Tr.right_all hr
    have hsz : Tr.size t.nodes i ≤ 1073741823 := by
      cases hg : Tr.rightGo t 0 t.nodes (List.replicate t.nodes.length false) with
      | none => rw [Tr.right_none hg] at hr; cases hr
      | some kid => have := (Tr.right_facts hg).2.1 i hil; have := HH.out.2.2.1; omega
    have HLV : Hid (∀ W : World, Below w.heap.size w W → Calls Tryd.prog 35 #[.agg #[.slice at_ t.toks.length ct, .slice an t.nodes.length cn], .int .i64 (i : Int)] W fun e w' => ∃ v, e = .returned v ∧ w'.ownsRow W.heap.size 3 1 v (Tr.leafs t.nodes i).length (intCells (Tr.leafs t.nodes i)) ∧ Below W.heap.size W w') :=
      fun W hW => leaves_calls (HH.out.1.keep (Keeps.of hW HH.out.2.1)) (fun k hk => Nat.lt_of_lt_of_le (HH.out.2.1 k hk) hW.size) hfa.1 i hil (by have := HH.out.2.2.1; omega) hsz
    obtain ⟨l, hle⟩ : ∃ l, Tr.leafs t.nodes i = l := ⟨_, rfl⟩
    rw [hle] at HLV hrun hroom ⊢
    clear hc hr h0 h1 hil hfa hsz hle
    go_enter Tryd.func17, Tryd.ntmps17
    go_wp2_with fail
    refine HC.out.mono ?_
    rintro e w2 ⟨rfl, hb2⟩
    have hbx := chk_box hb2
    have c0 := cell_of_heap hbx 0 rfl
    have c1 := cell_of_heap hbx 1 rfl
    have l0 := cell_lt c0
    have hw2 : Below w.heap.size w w2 := HB.out.trans (hb2.mono HB.out.size)
    have HW := Lib.hid (And.intro hw2 hbx)
    have HRN := Lib.hid hrun
    clear hb2 hbx hw2 hrun
    dsimp only
    go_wp2_with fail
    refine (HLV.out w2 HW.out.1).mono ?_
    rintro e w3 ⟨v3, rfl, ho3, hb3⟩
    obtain ⟨a3, c3, rfl⟩ := ownsRow_form ho3
    have hbx3 := anc_box HW.out.2 hb3
    have HW3 := Lib.hid (And.intro (HW.out.1.trans (hb3.mono HW.out.1.size)) (And.intro hbx3 ho3))
    clear c0 c1 l0 hb3 hbx3 ho3
    have c0 := cell_of_heap HW3.out.2.1 0 rfl
    have l0 := cell_lt c0
    cases l with
    | nil =>
      dsimp only
      go_wp2_with fail
      go_ret2
      exact ⟨rfl, HW3.out.1⟩
    | cons x r =>
      obtain ⟨m, hm⟩ : ∃ m, r.length = m := ⟨_, rfl⟩
      have hxl : (x :: r).length = m + 1 := by simp [hm]
      have HXL := Lib.hid hxl
      rw [hxl] at HW3 hroom ⊢
      have hx0 : x = (a : Int) := by
        have := congrArg (fun z => z[0]?) HRN.out
        rw [hxl] at this
        simpa using this
      subst hx0
      have hym : ((a : Int) :: r)[m]? = some ((a + m : Nat) : Int) := by
        have := congrArg (fun z => z[m]?) HRN.out
        rw [hxl] at this
        simpa using this
      obtain ⟨g3, rfl, hc0⟩ := rt_leaf_any HW3.out.2.2 (i := 0) (x := (a : Int)) rfl (by omega)
      obtain ⟨g3', hg3, hcm⟩ := rt_leaf_any HW3.out.2.2 hym (by omega)
      obtain rfl : g3' = g3 := by injection hg3 with e; injection e with e; exact e.symm
      have hroom' : (a : Int) + (m : Int) + 1 ≤ (t.toks.length : Int) := by omega
      have htl : (t.toks.length : Int) ≤ 1073741823 := by have := HH.out.2.2.2.1; omega
      have HYM := Lib.hid (And.intro hym hm)
      obtain ⟨k0, hk0⟩ : ∃ k0, t.toks[a]? = some k0 := ⟨_, List.getElem?_eq_getElem (by omega)⟩
      obtain ⟨bt, ot, ct', het, hPt, _⟩ := HH.out.1.1.tok hk0
      obtain ⟨rfl, rfl⟩ : at_ = some ⟨bt, ot, none⟩ ∧ ct = ct' := by
        simp only [Value.slice.injEq] at het
        exact ⟨het.1, het.2.2⟩
      have htc : (t.toks.length : Int) ≤ (ct : Int) := by
        obtain ⟨_, _, _, he, hc, _⟩ := HH.out.1.1
        simp only [Value.slice.injEq] at he
        omega
      have HK := Lib.hid (And.intro hk0 hPt)
      have lg := cell_lt hc0
      have w1 : IntKind.i64.wrap ((m : Int) + 1 - 1) = (m : Int) := by rw [show (m : Int) + 1 - 1 = (m : Int) by omega]; exact IntWalk.i64_in _ (by omega)
      have w2' : IntKind.i64.wrap (m : Int) = (m : Int) := IntWalk.i64_in _ (by omega)
      have w3' : IntKind.i64.wrap ((a : Int) + (m : Int) + 1) = (a : Int) + (m : Int) + 1 := IntWalk.i64_in _ (by omega)
      have w4' : (0 : Int) ≤ (m : Int) := by omega
      have w5' : (m : Int) < (m : Int) + 1 := by omega
      have w6' : (0 : Int) < (m : Int) + 1 := by omega
      have w7' : (0 : Int) ≤ (a : Int) := by omega
      have w8' : (a : Int) ≤ (a : Int) + (m : Int) + 1 := by omega
      have w9' : (a : Int) + (m : Int) + 1 ≤ (ct : Int) := by omega
      have w10' : ¬ ct = a := by omega
      have w11' : ((a : Int) + (m : Int) + 1).toNat - a = m + 1 := by omega
      have hsub : RdS w3 P 4 (.slice (some ⟨bt, ot + a * 4, none⟩) (m + 1) (ct - a)) (m + 1) (tksCells ((t.toks.drop a).take (m + 1))) := RdS.sub (HH.out.1.1.keep (Keeps.of HW3.out.1 HH.out.2.1)) rfl (by omega)
      have HCL := Lib.hid (clone_tok (w := w3.drew) (hsub.keep fun _ _ => rfl) (by omega) (tks_one _))
      clear hsub
      clear hxl hg3 hym hm het hk0 hPt hroom
      dsimp only
      go_wp2_with fail
      go_region_held3 (fun w' => w'.cell? ⟨w.heap.size, 0, none⟩ = some (.slice (some ⟨bt, ot, none⟩) t.toks.length ct) ∧ w'.cell? ⟨g3', 0, none⟩ = some (.int .i64 (a : Int)) ∧ w'.cell? ⟨g3', m, none⟩ = some (.int .i64 ((a + m : Nat) : Int))) (first | exact ⟨c0, hc0, hcm⟩ | exact ⟨e0, e1, e2⟩ | go_keep)
        ((first
          | (go_at_call 28; refine HCL.out.mono ?_; rintro e w4 ⟨v4, rfl, ho4, hb4⟩; obtain ⟨g4, c4, rfl, _, _⟩ := ho4.form (Nat.succ_pos m); have e0 := (hb4.cell (p := ⟨w.heap.size, 0, none⟩) l0).trans c0; have e1 := (hb4.cell (p := ⟨g3', 0, none⟩) lg).trans hc0; have e2 := (hb4.cell (p := ⟨g3', m, none⟩) lg).trans hcm; have HO4 := Lib.hid ho4; have HB4 := Lib.hid hb4; clear ho4 hb4)))
      obtain ⟨rest, hrest⟩ : ∃ rest, (t.toks.drop a).take (m + 1) = k0 :: rest := by
        rw [Tr.drop_get HK.out.1]
        exact ⟨_, rfl⟩
      have hlen2 : (clearLead (k0 :: rest)).length = m + 1 := by
        have := congrArg List.length hrest
        simp only [List.length_take, List.length_drop, List.length_cons] at this
        simp only [clearLead, List.length_cons]
        omega
      have ho4 := HO4.out
      rw [hrest] at ho4
      obtain ⟨hrd, ⟨u, hu⟩, hfz⟩ := clear_cells ho4
      have hg4 := (ho4.lt g4 rfl).2
      have hwl := whole_clear_len (k0 :: rest)
      have hwp := whole_part_len t.toks a (m + 1)
      rw [hrest] at hwp
      have HTX : Hid (textAt t.toks ((a : Int) :: r) = wholeOf (clearLead (k0 :: rest))) := by
        refine Lib.hid ?_
        unfold textAt
        simp only
        rw [HYM.out.2, Int.toNat_natCast, hrest]
      have HWH : Hid (Calls Tryd.prog 33 #[.slice (some ⟨g4, 0, none⟩) (m + 1) c4] (w4.setCell ⟨g4, 1, none⟩ (.string ⟨#[]⟩)) fun e w' => e = .returned (.string ⟨(wholeOf (clearLead (k0 :: rest))).toArray⟩) ∧ Below (w4.setCell ⟨g4, 1, none⟩ (.string ⟨#[]⟩)).heap.size (w4.setCell ⟨g4, 1, none⟩ (.string ⟨#[]⟩)) w') := by
        refine Lib.hid ?_
        have h := whole_calls (w := w4.setCell ⟨g4, 1, none⟩ (.string ⟨#[]⟩)) (P := fun b => b = g4) (v := .slice (some ⟨g4, 0, none⟩) (m + 1) c4) (toks := clearLead (k0 :: rest)) (by rw [hlen2]; exact hrd) (fun k hk => by subst hk; simpa [World.setCell] using hg4) (by rw [hlen2]; omega) (by have := HH.out.2.2.2.2.2; omega)
        exact h
      have hs4 : (w4.setCell ⟨g4, 1, none⟩ (.string ⟨#[]⟩)).heap.size = w4.heap.size := by simp [World.setCell]
      have hbe : Below w.heap.size w (w4.setCell ⟨g4, 1, none⟩ (.string ⟨#[]⟩)) := by
        have h1 : Below w3.heap.size w3.drew w4 := HB4.out
        refine ((HW3.out.1.drew).trans (h1.mono HW3.out.1.size)).setCell ?_ _
        have h2 := (ho4.lt g4 rfl).1
        have h3 := HW3.out.1.size
        have h4 : w3.drew.heap.size = w3.heap.size := rfl
        simp only
        omega
      have HE := Lib.hid (And.intro hbe hs4)
      clear hrd hwl hwp hrest ho4 hlen2 hbe hs4 e0 e1 e2 c0 hc0 hcm w1 w2' w3' w10' w11'
      go_wp2_with fail
      refine HWH.out.mono ?_
      rintro e w5 ⟨rfl, hb5⟩
      have HB5 := Lib.hid hb5
      clear hb5
      dsimp only
      go_wp2_with fail
      go_ret2
      exact ⟨by rw [HTX.out]; rfl, HE.out.1.trans (HB5.out.mono HE.out.1.size)⟩
  · rw [if_neg hc]
    have hc' : (Tr.check t n != 0) = true := by simp [hc]
    generalize Tr.check t n = c at *
    clear hc
    go_enter Tryd.func17, Tryd.ntmps17
    go_wp2_with fail
    refine HC.out.mono ?_
    rintro e w2 ⟨rfl, hb2⟩
    have HB2 := Lib.hid hb2
    clear hb2
    dsimp only
    go_wp2_with fail
    go_ret2
    exact ⟨rfl, HB.out.trans (HB2.out.mono HB.out.size)⟩
end Go.Proofs.YtfoelgkkoopheaaDoor
/- Plain laws of the flat tree: one node over all leaves. No program in sight. -/
namespace Go.Proofs.YtfoelgkkoopheaaDoor.Tr

def leavesOf (m : Nat) : List Nd := (List.range m).map fun i : Nat => ⟨19, (i : Int), []⟩
def kidsOf (m : Nat) : List Int := (List.range m).map fun i : Nat => (i : Int)
def flatT (toks : List Tk) (kind : Int) : T := ⟨toks, leavesOf toks.length ++ [⟨kind, -1, kidsOf toks.length⟩]⟩
theorem leavesOf_succ (m : Nat) : leavesOf (m + 1) = leavesOf m ++ [⟨19, (m : Int), []⟩] := by simp [leavesOf, List.range_succ]
theorem kidsOf_succ (m : Nat) : kidsOf (m + 1) = kidsOf m ++ [(m : Int)] := by simp [kidsOf, List.range_succ]
theorem leavesOf_length (m : Nat) : (leavesOf m).length = m := by simp [leavesOf]
theorem kidsOf_length (m : Nat) : (kidsOf m).length = m := by simp [kidsOf]

theorem marks_run : ∀ (k j n : Nat), j + k ≤ n → marks (List.replicate j true ++ List.replicate (n - j) false) ((List.range' j k).map fun i : Nat => (i : Int)) = some (List.replicate (j + k) true ++ List.replicate (n - (j + k)) false)
  | 0, j, n, _ => by simp [marks]
  | k + 1, j, n, h => by
    rw [List.range'_succ, List.map_cons]
    unfold marks
    have hl : (List.replicate j true).length = j := by simp
    have h1 : (List.replicate j true ++ List.replicate (n - j) false).getD (j : Int).toNat false = false := by
      rw [Int.toNat_natCast]
      simp only [List.getD]
      rw [List.getElem?_append_right (by omega), hl, Nat.sub_self, List.getElem?_replicate]
      split <;> rfl
    have h2 : (List.replicate j true ++ List.replicate (n - j) false).set (j : Int).toNat true = List.replicate (j + 1) true ++ List.replicate (n - (j + 1)) false := by
      rw [Int.toNat_natCast, List.set_append_right _ _ (by omega), hl, Nat.sub_self, show n - j = (n - (j + 1)) + 1 by omega, List.replicate_succ, List.set_cons_zero, List.replicate_succ', List.append_assoc]
      rfl
    rw [h1, h2]
    have ih := marks_run k (j + 1) n (by omega)
    rw [show j + 1 + k = j + (k + 1) by omega] at ih
    exact ih
theorem kidsOf_range' (m : Nat) : kidsOf m = (List.range' 0 m).map fun i : Nat => (i : Int) := by rw [kidsOf, List.range_eq_range']
theorem rightGo_leaves {t : T} : ∀ (k i : Nat) (l : List Nd) (kid : List Bool), i + k ≤ t.toks.length → rightGo t i (((List.range' i k).map fun j : Nat => (⟨19, (j : Int), []⟩ : Nd)) ++ l) kid = rightGo t (i + k) l kid
  | 0, i, l, kid, _ => by simp
  | k + 1, i, l, kid, h => by
    rw [List.range'_succ, List.map_cons, List.cons_append]
    unfold rightGo
    have hf : formed t i ⟨19, (i : Int), []⟩ = true := by
      unfold formed
      simp
      omega
    rw [if_pos hf]
    simp only [marks]
    rw [rightGo_leaves k (i + 1) l kid (by omega), show i + 1 + k = i + (k + 1) by omega]
    cases l <;> simp [rightGo]
theorem leavesOf_range' (m : Nat) : leavesOf m = (List.range' 0 m).map fun j : Nat => (⟨19, (j : Int), []⟩ : Nd) := by rw [leavesOf, List.range_eq_range']
theorem flat_rightGo (toks : List Tk) (kind : Int) (h1 : 1 ≤ kind) (h2 : kind ≤ 18) :
    rightGo (flatT toks kind) 0 (flatT toks kind).nodes (List.replicate (flatT toks kind).nodes.length false) = some (List.replicate toks.length true ++ [false]) := by
  have hn : (flatT toks kind).nodes = leavesOf toks.length ++ [⟨kind, -1, kidsOf toks.length⟩] := rfl
  have hnl : (flatT toks kind).nodes.length = toks.length + 1 := by rw [hn]; simp [leavesOf_length]
  rw [hnl, hn, leavesOf_range', rightGo_leaves toks.length 0 _ _ (by rw [Nat.zero_add]; exact Nat.le_refl _), Nat.zero_add]
  unfold rightGo
  have hf : formed (flatT toks kind) toks.length ⟨kind, -1, kidsOf toks.length⟩ = true := by
    unfold formed
    rw [if_neg (by simp only; omega), if_neg (by simp only; omega)]
    simp only [Bool.and_eq_true, decide_eq_true_eq, Bool.not_eq_true', List.any_eq_false, Bool.or_eq_true, not_or]
    refine ⟨trivial, fun k hk => ?_⟩
    simp only [kidsOf, List.mem_map, List.mem_range] at hk
    obtain ⟨j, hj, rfl⟩ := hk
    omega
  rw [if_pos hf]
  have hm := marks_run toks.length 0 (toks.length + 1) (by omega)
  simp only [List.replicate_zero, List.nil_append, Nat.sub_zero, Nat.zero_add, Nat.add_sub_cancel_left] at hm
  rw [← kidsOf_range'] at hm
  simp only [hm, rightGo]
  rfl
theorem flat_low (toks : List Tk) (kind : Int) (h1 : 1 ≤ kind) (h2 : kind ≤ 18) : Low (flatT toks kind).nodes := (right_facts (flat_rightGo toks kind h1 h2)).1
theorem leavesOf_get {m i : Nat} (h : i < m) : (leavesOf m)[i]? = some ⟨19, (i : Int), []⟩ := by
  simp [leavesOf, h]
theorem flat_leafs (toks : List Tk) (kind : Int) (h1 : 1 ≤ kind) (h2 : kind ≤ 18) : leafs (flatT toks kind).nodes toks.length = kidsOf toks.length := by
  have hn : (flatT toks kind).nodes[toks.length]? = some ⟨kind, -1, kidsOf toks.length⟩ := by
    show (leavesOf toks.length ++ [_])[toks.length]? = _
    rw [List.getElem?_append_right (by rw [leavesOf_length]; exact Nat.le_refl _), leavesOf_length, Nat.sub_self]
    rfl
  rw [leafs_node (flat_low toks kind h1 h2) hn (by simp only; omega)]
  simp only
  have h : ∀ l : List Int, (∀ k ∈ l, 0 ≤ k ∧ k < (toks.length : Int)) → (l.flatMap fun k => leafs (flatT toks kind).nodes k.toNat) = l := by
    intro l hl
    induction l with
    | nil => rfl
    | cons k l ih =>
      have hk := hl k (by simp)
      have hg : (flatT toks kind).nodes[k.toNat]? = some ⟨19, ((k.toNat : Nat) : Int), []⟩ := by
        show (leavesOf toks.length ++ [_])[k.toNat]? = _
        rw [List.getElem?_append_left (by rw [leavesOf_length]; omega), leavesOf_get (by omega)]
      rw [List.flatMap_cons, ih fun x hx => hl x (by simp [hx]), leafs_leaf hg rfl]
      simp only [List.cons_append, List.nil_append]
      rw [show ((k.toNat : Nat) : Int) = k by omega]
  refine h _ fun k hk => ?_
  simp only [kidsOf, List.mem_map, List.mem_range] at hk
  obtain ⟨j, hj, rfl⟩ := hk
  omega
theorem flat_right (toks : List Tk) (kind : Int) (h1 : 1 ≤ kind) (h2 : kind ≤ 18) : right (flatT toks kind) = true := by
  rw [right_some (flat_rightGo toks kind h1 h2)]
  have hl : (flatT toks kind).nodes.length - 1 = toks.length := by simp [flatT, leavesOf_length]
  rw [hl, flat_leafs toks kind h1 h2]
  have e1 : (List.replicate toks.length true ++ [false]).isEmpty = false := by simp
  have e2 : (List.replicate toks.length true ++ [false]).length - 1 = toks.length := by simp
  have e3 : ((List.replicate toks.length true ++ [false]).take toks.length).contains false = false := by
    rw [List.take_append_of_le_length (by simp), List.take_of_length_le (by simp), List.contains_eq_mem, decide_eq_false_iff_not]
    intro h
    have := (List.mem_replicate.1 h).2
    cases this
  rw [e1, e2, e3]
  show (true && true && (kidsOf toks.length == (List.range toks.length).map fun i : Nat => (i : Int))) = true
  simp [kidsOf]
end Go.Proofs.YtfoelgkkoopheaaDoor.Tr
/- TreeFlat: the walk. -/
namespace Go.Proofs.YtfoelgkkoopheaaDoor
open Go.RowKit

/-- A builder stands where its own blocks stand, and what it reads. -/
theorem BuildI.keepT {w w' : World} {B b : Nat} {vt vn : Value} {t : Tr.T} {used : Nat} (h : BuildI w B b vt vn t used) (hs : w.heap.size ≤ w'.heap.size) (hb : w'.heap[b]? = w.heap[b]?) (hv : ∀ k, vn.ownBlock = some k → w'.heap[k]? = w.heap[k]?)
    (ht : ∀ (k : Nat) (cs : Array Value), w.heap[k]? = some (.cells cs 34 (0, 0)) → w'.heap[k]? = w.heap[k]?) (hi : (∀ (k : Nat) (cs : Array Value), w.heap[k]? = some (.cells cs 3 (0, 0)) → w'.heap[k]? = w.heap[k]?) ∨ ∀ n ∈ t.nodes, n.kids = []) : BuildI w' B b vt vn t used := by
  have hkt : Keeps (BPt 34 w B b vn) w w' := fun k hk => by
    obtain ⟨cs, hc⟩ := hk.2
    exact ht k cs hc
  have hbpt : ∀ T k, w'.heap[k]? = w.heap[k]? → BPt T w B b vn k → BPt T w' B b vn k := fun T k he hk => ⟨hk.1.size hs, hk.2.imp fun cs hc => he.trans hc⟩
  obtain ⟨kvs, hk1, hk2, hk3⟩ := h.nodes
  refine ⟨by rw [hb]; exact h.cell, h.base, h.ne, (h.toks.keep hkt).imp fun k hk => hbpt _ k (hkt k hk) hk, kvs, hk1, ownsRow_same hk2 hv, fun i n kv hin hkv => ?_⟩
  rcases hi with hi | hi
  · have hki : Keeps (BPt 3 w B b vn) w w' := fun k hk => by
      obtain ⟨cs, hc⟩ := hk.2
      exact hi k cs hc
    exact ((hk3 i n kv hin hkv).keep hki).imp fun k hk => hbpt _ k (hki k hk) hk
  · have h0 := hi n (List.mem_of_getElem? hin)
    obtain ⟨q1, a, c, q2, q3, q4⟩ := hk3 i n kv hin hkv
    rw [h0] at q1 q2 q3 q4 ⊢
    refine ⟨rfl, a, c, q2, q3, q4.imp_right ?_⟩
    rintro ⟨b', o', e, _, _⟩
    exact ⟨b', o', e, Or.inl rfl, rangeAt_nil _ _ _⟩
theorem Anc.grownInt {w W W' : World} {b base n : Nat} {t : Tr.T} {used : Nat} {v : Value} {xs : List Value} (h : Anc w W b t used) (hk : ∀ n ∈ t.nodes, n.kids = []) (ho : W.ownsRow base 3 1 v n xs) (hbase : w.heap.size ≤ base) (hg : W.grownBy W' v.ownBlock) : Anc w W' b t used := by
  obtain ⟨B, vt, vn, h1, h2, h3⟩ := h
  have hne : ∀ (k : Nat) (cs : Array Value) (T : TypeId), W.heap[k]? = some (.cells cs T (0, 0)) → T ≠ 3 → W'.heap[k]? = W.heap[k]? := by
    intro k cs T hkk hT
    refine hg.block k (lt_heap hkk) fun e => ?_
    obtain ⟨cur, hc⟩ := ownsRow_cells ho e.symm
    rw [hkk] at hc
    simp only [Option.some.injEq, Obj.cells.injEq] at hc
    exact hT hc.2.1
  obtain ⟨kvs, _, hk2, _⟩ := h2.nodes
  refine ⟨B, vt, vn, h1, h2.keepT hg.size (hne b _ _ h2.cell (by decide)) (fun k hk => ?_) (fun k cs hc => hne k cs _ hc (by decide)) (Or.inr hk), h3.grown hg h3.size fun k e => Nat.le_trans hbase (ho.lt k e).1⟩
  obtain ⟨cur, hc⟩ := ownsRow_cells hk2 hk
  exact hne k cur _ hc (by decide)

def FlRel (w : World) (b g : Nat) (o : Obj) (toks : List Tr.Tk) (k : Nat) (v8 v37 : Value) (wr : World) : Prop :=
  ∃ (j : Nat) (a : Option Addr) (c : Nat), v37 = .int .i64 j ∧ v8 = .slice a j c ∧ k = toks.length - j ∧ j ≤ toks.length ∧ wr.ownsRow w.heap.size 3 1 (.slice a j c) j (intCells (Tr.kidsOf j)) ∧ Anc w wr b ⟨toks, Tr.leavesOf j⟩ j ∧ wr.heap[g]? = some o

theorem Anc.row {w W W' : World} {b base n : Nat} {t : Tr.T} {used : Nat} {v : Value} {xs : List Value} (h : Anc w W b t used) (ho : W.ownsRow base 3 1 v n xs) (hn : NBt 38 b W W') : W'.ownsRow base 3 1 v n xs := by
  refine ownsRow_same ho fun k hk => ?_
  obtain ⟨cur, hc⟩ := ownsRow_cells ho hk
  rw [hc, hn.cells hc ?_ (by decide)]
  rintro rfl
  obtain ⟨B, vt, vn, h1, h2, h3⟩ := h
  have := h2.cell
  rw [hc] at this
  simp at this
theorem fl_step {w W W' : World} {b base n g : Nat} {t : Tr.T} {used : Nat} {v : Value} {xs : List Value} {cur : Array Value} (h : Anc w W b t used) (hk : ∀ n ∈ t.nodes, n.kids = []) (ho : W.ownsRow base 3 1 v n xs) (hbase : w.heap.size ≤ base) (hg : W.heap[g]? = some (.cells cur 34 (0, 0))) {tmp : Obj} (hgrow : (W.alloc tmp).grownBy W' v.ownBlock) :
    Anc w W' b t used ∧ W'.heap[g]? = some (.cells cur 34 (0, 0)) := by
  refine ⟨(h.alloc tmp).grownInt hk (ho.alloc _) hbase hgrow, ?_⟩
  have hlt := lt_heap hg
  rw [hgrow.block g (by rw [← size_alloc1]; omega) fun e => ?_, Below.heap_alloc _ _ _ hlt]
  · exact hg
  · obtain ⟨c, hc⟩ := ownsRow_cells ho e.symm
    rw [hg] at hc
    simp at hc
theorem leaves_nil (m : Nat) : ∀ n ∈ Tr.leavesOf m, n.kids = [] := by
  intro n hn
  simp only [Tr.leavesOf, List.mem_map] at hn
  obtain ⟨i, _, rfl⟩ := hn
  rfl

theorem kids_ok (m : Nat) : (Tr.kidsOf m).any (badKid m) = false := by
  rw [List.any_eq_false]
  intro k hk
  simp only [Tr.kidsOf, List.mem_map, List.mem_range] at hk
  obtain ⟨j, hj, rfl⟩ := hk
  simp only [badKid, Bool.or_eq_true, decide_eq_true_eq, not_or]
  omega
theorem flat_text {toks : List Tr.Tk} {kind : Int} (h1 : 1 ≤ kind) (h2 : kind ≤ 18) (hp : 0 < toks.length) : Tr.check (Tr.flatT toks kind) (toks.length : Int) = 0 ∧ TextOut (Tr.flatT toks kind) (toks.length : Int) = wholeOf (clearLead toks) := by
  have hr := Tr.flat_right toks kind h1 h2
  have hl : (Tr.flatT toks kind).nodes.length = toks.length + 1 := by simp [Tr.flatT, Tr.leavesOf_length]
  have hc : Tr.check (Tr.flatT toks kind) (toks.length : Int) = 0 := by
    unfold Tr.check
    rw [hr, if_neg (by simp), if_neg (by rw [hl]; omega)]
  refine ⟨hc, ?_⟩
  unfold TextOut
  rw [if_pos hc, Int.toNat_natCast, Tr.flat_leafs toks kind h1 h2]
  obtain ⟨m, hm⟩ : ∃ m, toks.length = m + 1 := ⟨toks.length - 1, by omega⟩
  have e : Tr.kidsOf toks.length = (0 : Int) :: (Tr.kidsOf toks.length).tail := by
    rw [hm, Tr.kidsOf_range', List.range'_succ]
    rfl
  have e2 : (Tr.kidsOf toks.length).tail.length + 1 = toks.length := by
    rw [List.length_tail, Tr.kidsOf_length]
    omega
  unfold textAt
  rw [e]
  simp only
  rw [e2]
  show wholeOf (clearLead ((toks.drop 0).take toks.length)) = _
  rw [List.drop_zero, List.take_length]
set_option maxRecDepth 100000 in
set_option maxHeartbeats 4000000 in
theorem flat_calls (l : List UInt8) (kind : Int) (w : World) (hll : l.length ≤ 500) (hk1 : 1 ≤ kind) (hk2 : kind ≤ 18) :
    Calls Tryd.prog 5 #[.string ⟨l.toArray⟩, .int .i64 kind] w fun e w' => e = .returned (.bool true) ∧ Below w.heap.size w w' := by
  have hll' : (l.length : Int) ≤ 500 := by omega
  have HKB := Lib.hid (And.intro hk1 hk2)
  have hd1 : decide (500 < (l.length : Int)) = false := decide_eq_false (by omega)
  have hd2 : decide (kind < 1) = false := decide_eq_false (by omega)
  have hd3 : decide (18 < kind) = false := decide_eq_false (by omega)
  go_enter Tryd.func5, Tryd.ntmps5
  go_wp2_with fail
  refine (anchor_calls _).mono ?_
  rintro e w1 ⟨rfl, hb1⟩
  have HB1 := Lib.hid hb1
  clear hb1
  dsimp only
  go_wp2_with fail
  refine (lex_calls l (by omega) w1).mono ?_
  rintro e w2 ⟨v, rfl, ho2, hb2⟩
  rw [toks_cells] at ho2
  obtain ⟨a2, c2, rfl⟩ := ownsRow_form ho2
  have HB2 := Lib.hid (HB1.out.trans (hb2.mono HB1.out.size))
  have HO2 := Lib.hid (And.intro ho2 hb2.size)
  clear ho2 hb2
  obtain ⟨err, herr⟩ : ∃ err, (Lx.lex l).2.1 = err := ⟨_, rfl⟩
  obtain ⟨pos, hpos⟩ : ∃ pos, (Lx.lex l).2.2 = pos := ⟨_, rfl⟩
  obtain ⟨ts, hts⟩ : ∃ ts, (Lx.lex l).1 = ts := ⟨_, rfl⟩
  have HLX := Lib.hid (Lx.lex_whole (l := l))
  rw [herr, hpos, hts]
  rw [hts] at HO2
  rw [herr, hts] at HLX
  clear herr hpos hts
  by_cases he : err = 0
  · subst he
    obtain ⟨hw, hpos1, hlen⟩ := HLX.out rfl
    dsimp only
    go_wp2_with fail
    clear hd1 hd2 hd3
    obtain ⟨g2, c2', hsl, _, hg2⟩ := HO2.out.1.form (by simpa using hpos1)
    obtain ⟨rfl, rfl⟩ : a2 = some ⟨g2, 0, none⟩ ∧ c2 = c2' := by
      simp only [Value.slice.injEq] at hsl
      exact ⟨hsl.1, hsl.2.2⟩
    obtain ⟨toks, htoks⟩ : ∃ toks, ts.map toTk = toks := ⟨_, rfl⟩
    have htl : ts.length = toks.length := by rw [← htoks]; simp
    have hwt : wholeOf toks = l := by rw [← htoks, whole_toTk]; exact hw
    rw [htoks] at HO2
    rw [htl] at hpos1 hlen HO2 ⊢
    have htl' : (toks.length : Int) ≤ 501 := by omega
    obtain ⟨cur2, hcur2⟩ := ownsRow_cells HO2.out.1 (k := g2) rfl
    have HWT := Lib.hid (And.intro hwt (And.intro hpos1 hlen))
    have HC1 : Hid (∀ (k0 : Tr.Tk) (rest : List Tr.Tk), toks = k0 :: rest → cur2[1]? = some (.string ⟨k0.lead.toArray⟩)) := fun k0 rest e => by
      have h := HO2.out.1.cells (g := g2) rfl 1 (.string ⟨k0.lead.toArray⟩) (by rw [e]; simp [tksCells, tkCells])
      rw [Addr.add_mid, Nat.zero_add] at h
      simpa [World.cell?, hcur2] using h
    have hf1 : Below w2.heap.size w2 (w2.alloc (.cells #[.int .i64 0, .int .i64 (pos : Int)] 27)) := (Below.refl _ _).alloc (Nat.le_refl _) _
    have hcur3 := anc_box hcur2 hf1
    refine (anc_new (w := w) (l := toks) ((RdS.own HO2.out.1).keep (Keeps.of hf1 fun k hk => hk.2.2)) (by omega) (HB2.out.trans (hf1.mono HB2.out.size))).mono ?_
    rintro e w3 ⟨b, rfl, hA3, hbl, hb3⟩
    have hgb : g2 ≠ b := by have := hf1.size; omega
    have HA3 := Lib.hid (And.intro hA3 (And.intro hgb (anc_box hcur3 hb3)))
    clear hw htoks htl hwt hlen hcur2 hcur3 hf1 hsl hA3 hb3 hbl hgb hll hk1 hk2
    dsimp only
    go_wp2_with fail
    go_loopg [8, 37] toks.length (fun k v8 v37 wr => FlRel w b g2 (.cells cur2 34 (0, 0)) toks k v8 v37 wr)
    case atStart => exact ⟨0, none, 0, rfl, rfl, rfl, Nat.zero_le _, World.ownsRow_nil _ _ _ _, HA3.out.1, HA3.out.2.2⟩
    case round =>
      obtain ⟨j, a, c, rfl, rfl, hk, hj, ho, hA, hgo⟩ := hrel
      have HR := Lib.hid (And.intro hk (And.intro ho (And.intro hA hgo)))
      clear hk ho hA hgo
      by_cases hlt : j < toks.length
      · have hlt' : (j : Int) < (toks.length : Int) := by omega
        have hlf := anc_leaf HR.out.2.2.1 (by rw [Tr.leavesOf_length]; omega) (by simp only; omega) (by simp only; omega)
        simp only [Tr.leavesOf_length] at hlf
        rw [← Tr.leavesOf_succ] at hlf
        have HLF := Lib.hid hlf
        obtain ⟨i0, hi0, hz0, hz1, hz2⟩ := info_split info_int
        have Hi := Lib.hid hi0
        have Hz0 := Lib.hid hz0
        have Hz1 := Lib.hid hz1
        have Hz2 := Lib.hid hz2
        clear hlf hi0 hz0 hz1 hz2
        go_wp2_with fail
        refine HLF.out.mono ?_
        rintro e w4 ⟨rfl, hA4, hn4⟩
        have ho4 := HR.out.2.2.1.row HR.out.2.1 hn4
        have hg4 := hn4.cells HR.out.2.2.2 HA3.out.2.1 (by decide)
        have H4 := Lib.hid (And.intro hA4 (And.intro ho4 hg4))
        clear hA4 hn4 ho4 hg4
        dsimp only
        go_wp2_with (at_builtin; refine wpList_append_one2 rfl _ _ 22 rfl w.heap.size 3 3 i0 (.int .i64 0) 1 8 Tryd.underlying22 Hi.out Hz0.out Hz1.out Hz2.out rfl (by decide) _ j (intCells (Tr.kidsOf j)) rfl H4.out.2.1 _ 1 [(.int .i64 j)] rfl rfl rfl (by simp [Value.oneCell']) (by omega) (by decide) H4.out.1.below.size ?_)
        intro v5 w5 hown5 hg5
        obtain ⟨a5, c5, rfl⟩ := ownsRow_form hown5
        have hs5 := fl_step H4.out.1 (leaves_nil _) H4.out.2.1 (Nat.le_refl _) H4.out.2.2 hg5
        have H5 := Lib.hid (And.intro hown5 hs5)
        clear hown5 hg5 hs5
        go_wp2_with fail
        refine Handed.intro (toks.length - (j + 1)) ?_ ?_
        · have := HR.out.1; omega
        go_step
        repeat apply Exists.intro
        refine ⟨?_, rfl⟩
        refine ⟨j + 1, a5, c5, by go_num, rfl, rfl, by omega, ?_, H5.out.2.1, H5.out.2.2⟩
        have := H5.out.1
        rw [Tr.kidsOf_succ]
        simpa [intCells] using this
      · obtain rfl : j = toks.length := by omega
        have hnd := anc_node (l := Tr.kidsOf toks.length) HR.out.2.2.1 (by rw [Tr.leavesOf_length]; omega) (P := fun k => k < wr.heap.size) (v := .slice a toks.length c) (by
          rw [Tr.kidsOf_length]
          exact (RdS.own HR.out.2.1).imp fun k hk => hk.2.2) (fun k hk => hk) (by rw [Tr.kidsOf_length]; omega) kind (by simp only [Tr.leavesOf_length]; exact kids_ok _)
        simp only [Tr.leavesOf_length] at hnd
        have HND : Hid (Calls Tryd.prog 12 #[.pointer (some ⟨b, 0, none⟩), .int .i64 kind, .slice a toks.length c] wr fun e w' => e = .returned (.int .i64 toks.length) ∧ Anc w w' b (Tr.flatT toks kind) toks.length ∧ NBt 38 b wr w') := hnd
        have hnl : (Tr.flatT toks kind).nodes.length = toks.length + 1 := by simp [Tr.flatT, Tr.leavesOf_length]
        have HNL := Lib.hid hnl
        clear hnd hnl
        go_wp2_with fail
        refine HND.out.mono ?_
        rintro e w6 ⟨rfl, hA6, hn6⟩
        have hg6 := hn6.cells HR.out.2.2.2 HA3.out.2.1 (by decide)
        have H6 := Lib.hid (And.intro hA6 hg6)
        clear hA6 hn6 hg6
        dsimp only
        go_wp2_with fail
        refine (anc_done H6.out.1 (by rw [HNL.out]; omega) (by show toks.length ≤ _; omega) (fun n hn => ?_)).mono ?_
        · simp only [Tr.flatT, List.mem_append, List.mem_singleton] at hn
          rcases hn with hn | rfl
          · rw [leaves_nil _ n hn]
            simp
          · simp only [Tr.kidsOf_length]
            omega
        rintro e w7 ⟨vt, vn, rfl, hT7, hb7⟩
        obtain ⟨at_, ct, rfl⟩ : ∃ a c, vt = .slice a toks.length c := hT7.1.form
        obtain ⟨an, cn, rfl⟩ : ∃ a c, vn = .slice a (toks.length + 1) c := by
          obtain ⟨kvs, _, h2, _⟩ := hT7.2
          rw [HNL.out] at h2
          exact h2.form
        have hkids7 : ∀ n ∈ (Tr.flatT toks kind).nodes, n.kids.length ≤ 1073741823 := by
          intro n hn
          simp only [Tr.flatT, List.mem_append, List.mem_singleton] at hn
          rcases hn with hn | rfl
          · rw [leaves_nil _ n hn]
            simp
          · simp only [Tr.kidsOf_length]
            omega
        have HT7 := Lib.hid (And.intro hT7 hkids7)
        have H7 := Lib.hid (And.intro (H6.out.1.past hb7) (anc_box H6.out.2 hb7))
        clear hT7 hb7 hkids7
        dsimp only
        go_wp2_with fail
        have hv1 : Below w7.heap.size w7 (w7.alloc (.cells #[.slice at_ toks.length ct, .slice an (toks.length + 1) cn] 41)) := (Below.refl _ _).alloc (Nat.le_refl _) _
        have hvt : (w7.alloc (.cells #[.slice at_ toks.length ct, .slice an (toks.length + 1) cn] 41)).heap[w7.heap.size]? = some (.cells #[.slice at_ toks.length ct, .slice an (toks.length + 1) cn] 41 (0, 0)) := new_at _ _ _ rfl
        have hva := H7.out.1.past hv1
        have hvg := anc_box H7.out.2 hv1
        generalize w7.alloc (.cells #[.slice at_ toks.length ct, .slice an (toks.length + 1) cn] 41) = V at *
        obtain ⟨hwt, _, hlen⟩ := HWT.out
        obtain ⟨k1, k2⟩ := HKB.out
        obtain ⟨k0, rest, hk0⟩ : ∃ k0 rest, toks = k0 :: rest := by
          cases toks with
          | nil => simp at hpos1
          | cons k r => exact ⟨k, r, rfl⟩
        have hnl := HNL.out
        have hft := flat_text (kind := kind) k1 k2 hpos1
        have hc1 := HC1.out k0 rest hk0
        obtain ⟨tx, htx⟩ : ∃ tx, wholeOf (clearLead toks) = tx := ⟨_, rfl⟩
        rw [htx] at hft
        have hcat : k0.lead ++ tx = l := by
          rw [← htx, ← hwt, hk0]
          simp [wholeOf, clearLead]
        have hcl : k0.lead.length + tx.length ≤ 500 := by rw [← List.length_append, hcat]; omega
        have hcat' : (⟨k0.lead.toArray⟩ : ByteArray) ++ ⟨tx.toArray⟩ = ⟨l.toArray⟩ := by rw [str_add, hcat]
        obtain ⟨kd0, ld0, tx0, ps0⟩ := k0
        simp only at hc1 hcat' hcl
        have HCAT := Lib.hid hcat'
        have hcl' : (ld0.length : Int) + (tx.length : Int) ≤ 500 := by omega
        have HRt : Hid (∀ W : World, Calls Tryd.prog 18 #[.agg #[.slice at_ toks.length ct, .slice an (toks.length + 1) cn]] W fun e w' => e = .returned (.int .i64 (toks.length : Int)) ∧ W.alloc (.cells #[.slice at_ toks.length ct, .slice an (toks.length + 1) cn] 41) = w') := fun W => root_succ W _ _ toks.length _ (by omega)
        have HTe : Hid (∀ W : World, Below w7.heap.size w7 W → Calls Tryd.prog 17 #[.agg #[.slice at_ toks.length ct, .slice an (toks.length + 1) cn], .int .i64 (toks.length : Int)] W fun e w' => e = .returned (.tuple #[.string ⟨tx.toArray⟩, .int .i64 0]) ∧ Below W.heap.size W w') := by
          intro W hW
          have h := text_calls (HT7.out.1.keep (Keeps.of hW fun k hk => hk.2)) (fun k hk => Nat.lt_of_lt_of_le hk.2 hW.size) (by rw [hnl]; omega) (by show toks.length ≤ _; omega) HT7.out.2 (toks.length : Int) (by show (wholeOf toks).length ≤ _; rw [hwt]; omega)
          rw [hft.1, hft.2] at h
          exact h
        have HRi : Hid (∀ W : World, Below w7.heap.size w7 W → Calls Tryd.prog 19 #[.agg #[.slice at_ toks.length ct, .slice an (toks.length + 1) cn]] W fun e w' => e = .returned (.bool true) ∧ Below W.heap.size W w') := by
          intro W hW
          have h := right_calls (HT7.out.1.keep (Keeps.of hW fun k hk => hk.2)) (fun k hk => Nat.lt_of_lt_of_le hk.2 hW.size) (by rw [hnl]; omega) (by show toks.length ≤ _; omega) HT7.out.2
          rw [Tr.flat_right toks kind k1 k2] at h
          exact h
        have HSh : Hid (∀ W : World, Below w7.heap.size w7 W → Calls Tryd.prog 14 #[.agg #[.slice at_ toks.length ct, .slice an (toks.length + 1) cn]] W fun e w' => e = .returned (.string ⟨l.toArray⟩) ∧ Below W.heap.size W w') := by
          intro W hW
          have h := show_calls (toks := toks) (vn := .slice an (toks.length + 1) cn) (HT7.out.1.1.keep (Keeps.of hW fun k hk => hk.2)) (fun k hk => Nat.lt_of_lt_of_le hk.2 hW.size) (by omega) (by rw [hwt]; omega)
          rw [hwt] at h
          exact h
        have t0 := cell_of_heap hvt 0 rfl
        have t1 := cell_of_heap hvt 1 rfl
        have l0 := cell_lt t0
        have HV := Lib.hid (And.intro hv1 (And.intro hvt (And.intro hva (And.intro hvg hc1))))
        clear hv1 hvt hva hvg hc1 hwt hlen k1 k2 hk0 hnl hft htx hcat hcat'
        go_region_held3 (fun w' => w'.cell? ⟨w7.heap.size, 0, none⟩ = some (.slice at_ toks.length ct) ∧ w'.cell? ⟨w7.heap.size, 1, none⟩ = some (.slice an (toks.length + 1) cn)) (first | exact ⟨t0, t1⟩ | exact ⟨e20, e21⟩ | go_keep)
          ((first
            | (go_at_call 18; refine (HRt.out _).mono ?_; rintro e w2 ⟨rfl, rfl⟩)
            | (go_at_call 17; refine (HTe.out _ (HV.out.1.alloc HV.out.1.size _).drew).mono ?_; rintro e w8 ⟨rfl, hb8⟩; have hb9 := anc_after HV.out.1 HV.out.2.1 hb8; have e20 := cell_of_heap hb9.2 0 rfl; have e21 := cell_of_heap hb9.2 1 rfl; have HB9 := Lib.hid (And.intro hb9 hb8); clear hb8 hb9)))
        clear t0 t1 l0
        go_wp2_with fail
        refine (HRi.out _ HB9.out.1.1).mono ?_
        rintro e w9 ⟨rfl, hb9⟩
        have hbx := anc_box HB9.out.1.2 hb9
        have e30 := cell_of_heap hbx 0 rfl
        have e31 := cell_of_heap hbx 1 rfl
        have HB10 := Lib.hid (And.intro hb9 hbx)
        clear hb9 hbx e20 e21
        dsimp only
        go_wp2_with fail
        refine (HSh.out _ (HB9.out.1.1.trans (HB10.out.1.mono HB9.out.1.1.size))).mono ?_
        rintro e w10 ⟨rfl, hb10⟩
        have HB11 := Lib.hid hb10
        have hA := ((((HV.out.2.2.1.alloc (.cells #[.slice at_ toks.length ct, .slice an (toks.length + 1) cn] 41)).past (Below.refl _ _).drew).past HB9.out.2).past HB10.out.1).past hb10
        have hbV : Below V.heap.size V (V.alloc (.cells #[.slice at_ toks.length ct, .slice an (toks.length + 1) cn] 41)).drew := ((Below.refl _ _).alloc (Nat.le_refl _) _).drew
        have hg := anc_box (anc_box (anc_box (anc_box HV.out.2.2.2.1 hbV) HB9.out.2) HB10.out.1) hb10
        have hgc := cell_of_heap hg 1 HV.out.2.2.2.2
        have HA11 := Lib.hid hA
        have hcat' := HCAT.out
        clear hb10 e30 e31 hA hbV hg
        dsimp only
        go_wp2_with fail
        refine (anc_leaf_end HA11.out (by rw [HNL.out]; omega) (by show toks.length ≤ _; omega)).mono ?_
        rintro e w11 ⟨rfl, hA12, _⟩
        have HA12 := Lib.hid hA12
        clear hA12 hgc
        dsimp only
        go_wp2_with fail
        go_ret
        exact ⟨by simp, HA12.out.below⟩
  · have he' : ((err : Int) != 0) = true := by simp [he]
    have HE := Lib.hid he
    clear he
    dsimp only
    go_wp2_with fail
    go_ret
    exact ⟨rfl, HB2.out.alloc HB2.out.size _⟩

set_option maxRecDepth 100000 in
/-- .. where the text is too long, or the kind is none of a node's. -/
theorem flat_out (l : List UInt8) (kind : Int) (w : World) (h : 500 < l.length ∨ kind < 1 ∨ 18 < kind) :
    Calls Tryd.prog 5 #[.string ⟨l.toArray⟩, .int .i64 kind] w fun e w' => e = .returned (.bool true) ∧ Below w.heap.size w w' := by
  by_cases h1 : 500 < l.length
  · have hd1 : decide (500 < (l.length : Int)) = true := decide_eq_true (by omega)
    clear h h1
    go_enter Tryd.func5, Tryd.ntmps5
    go_wp2_with fail
    refine (anchor_calls _).mono ?_
    rintro e w1 ⟨rfl, hb1⟩
    have HB1 := Lib.hid hb1
    clear hb1
    dsimp only
    go_wp2_with fail
    go_ret
    exact ⟨rfl, HB1.out⟩
  · have hd1 : decide (500 < (l.length : Int)) = false := decide_eq_false (by omega)
    by_cases h2 : kind < 1
    · have hd2 : decide (kind < 1) = true := decide_eq_true h2
      clear h h1 h2
      go_enter Tryd.func5, Tryd.ntmps5
      go_wp2_with fail
      refine (anchor_calls _).mono ?_
      rintro e w1 ⟨rfl, hb1⟩
      have HB1 := Lib.hid hb1
      clear hb1
      dsimp only
      go_wp2_with fail
      go_ret
      exact ⟨rfl, HB1.out⟩
    · have hd2 : decide (kind < 1) = false := decide_eq_false h2
      have hd3 : decide (18 < kind) = true := decide_eq_true (by omega)
      clear h h1 h2
      go_enter Tryd.func5, Tryd.ntmps5
      go_wp2_with fail
      refine (anchor_calls _).mono ?_
      rintro e w1 ⟨rfl, hb1⟩
      have HB1 := Lib.hid hb1
      clear hb1
      dsimp only
      go_wp2_with fail
      go_ret
      exact ⟨rfl, HB1.out⟩
theorem flat_any (l : List UInt8) (kind : Int) (w : World) : Calls Tryd.prog 5 #[.string ⟨l.toArray⟩, .int .i64 kind] w fun e w' => e = .returned (.bool true) ∧ Below w.heap.size w w' := by
  by_cases h : l.length ≤ 500 ∧ 1 ≤ kind ∧ kind ≤ 18
  · exact flat_calls l kind w h.1 h.2.1 h.2.2
  · exact flat_out l kind w (by omega)
end Go.Proofs.YtfoelgkkoopheaaDoor
/- TreeBuilds: what its loop keeps in memory: the builder, the nodes that are wanted, the tokens. -/
namespace Go.Proofs.YtfoelgkkoopheaaDoor
open Go.RowKit

/-- A block of cells of one type. -/
def TyB (T : TypeId) (W : World) (k : Nat) : Prop := ∃ cs, W.heap[k]? = some (.cells cs T (0, 0))
/-- The nodes that are wanted: in a row of the law's own. -/
def WantI (w W : World) (vw : Value) (ns : List Tr.Nd) : Prop :=
  ∃ kvs : List Value, kvs.length = ns.length ∧ W.ownsRow w.heap.size 38 3 vw ns.length ((ns.zip kvs).flatMap ndCells) ∧ ∀ (i : Nat) (n : Tr.Nd) (kv : Value), ns[i]? = some n → kvs[i]? = some kv → RdS W (TyB 3 W) 1 kv n.kids.length (intCells n.kids)
theorem WantI.same {w W W' : World} {vw : Value} {ns : List Tr.Nd} (h : WantI w W vw ns) (hv : ∀ k, vw.ownBlock = some k → W'.heap[k]? = W.heap[k]?) (hi : ∀ (k : Nat) (cs : Array Value), W.heap[k]? = some (.cells cs 3 (0, 0)) → W'.heap[k]? = W.heap[k]?) : WantI w W' vw ns := by
  obtain ⟨kvs, h1, h2, h3⟩ := h
  have hk : Keeps (TyB 3 W) W W' := fun k ⟨cs, hc⟩ => hi k cs hc
  exact ⟨kvs, h1, ownsRow_same h2 hv, fun i n kv hn hkv => ((h3 i n kv hn hkv).keep hk).imp fun k ⟨cs, hc⟩ => ⟨cs, (hi k cs hc).trans hc⟩⟩
theorem WantI.below {w W W' : World} {vw : Value} {ns : List Tr.Nd} (h : WantI w W vw ns) (hb : Below W.heap.size W W') : WantI w W' vw ns := by
  obtain ⟨kvs, h1, h2, h3⟩ := id h
  exact h.same (fun k hk => hb.block k (h2.lt k hk).2) fun k cs hc => hb.block k (lt_heap hc)
theorem WantI.form {w W : World} {vw : Value} {ns : List Tr.Nd} (h : WantI w W vw ns) : ∃ a c, vw = .slice a ns.length c := by
  obtain ⟨kvs, _, h2, _⟩ := h
  exact ownsRow_form h2

/-- All that the loop keeps. -/
structure TbI (w : World) (B b g : Nat) (o : Obj) (vt vn vw : Value) (t : Tr.T) (used : Nat) (ns : List Tr.Nd) (W : World) : Prop where
  hB : w.heap.size ≤ B
  bi : BuildI W B b vt vn t used
  be : Below w.heap.size w W
  tok : W.heap[g]? = some o
  gb : g ≠ b
  want : WantI w W vw ns
  apart : ∀ k, vw.ownBlock = some k → vn.ownBlock ≠ some k

theorem TbI.below {w W W' : World} {B b g : Nat} {o : Obj} {vt vn vw : Value} {t : Tr.T} {used : Nat} {ns : List Tr.Nd} (h : TbI w B b g o vt vn vw t used ns W) (hb : Below W.heap.size W W') : TbI w B b g o vt vn vw t used ns W' :=
  ⟨h.hB, h.bi.keep hb.size fun k hk _ => hb.block k hk, h.be.trans (hb.mono h.be.size), anc_box h.tok hb, h.gb, h.want.below hb, h.apart⟩

/-- A step of the builder: its own block and its nodes' row may have been turned. -/
theorem TbI.step {w W W' : World} {B b g : Nat} {cur : Array Value} {vt vn vn' vw : Value} {t t' : Tr.T} {used used' : Nat} {ns : List Tr.Nd} (h : TbI w B b g (.cells cur 34 (0, 0)) vt vn vw t used ns W) (hb : BuildI W' B b vt vn' t' used') (hg : Grew W W' b vn vn') :
    TbI w B b g (.cells cur 34 (0, 0)) vt vn' vw t' used' ns W' ∧ NBt 38 b W W' := by
  have hn := hg.nbt h.bi
  obtain ⟨kvs, h1, h2, h3⟩ := id h.want
  have hbt := h.bi.cell
  refine ⟨⟨h.hB, hb, h.be.trans ((hg.low h.bi).mono h.hB), hn.cells h.tok h.gb (by decide), h.gb, h.want.same (fun k hk => ?_) fun k cs hc => ?_, fun k hk e => ?_⟩, hn⟩
  · refine hg.1.block k (h2.lt k hk).2 ?_
    rintro (e | e)
    · obtain ⟨c, hc⟩ := ownsRow_cells h2 hk
      rw [e, hbt] at hc
      simp at hc
    · exact h.apart k hk e
  · rw [hc]
    refine hn.cells hc ?_ (by decide)
    rintro rfl
    rw [hbt] at hc
    simp at hc
  · rcases hg.2 k e with e1 | e1
    · exact h.apart k hk e1
    · have := (h2.lt k hk).2
      omega

/-- .. whatever the builder's two slices are. -/
def TbX (w : World) (b g : Nat) (o : Obj) (vw : Value) (t : Tr.T) (used : Nat) (ns : List Tr.Nd) (W : World) : Prop := ∃ B vt vn, TbI w B b g o vt vn vw t used ns W
theorem TbX.below {w W W' : World} {b g : Nat} {o : Obj} {vw : Value} {t : Tr.T} {used : Nat} {ns : List Tr.Nd} (h : TbX w b g o vw t used ns W) (hb : Below W.heap.size W W') : TbX w b g o vw t used ns W' := by
  obtain ⟨B, vt, vn, h⟩ := h
  exact ⟨B, vt, vn, h.below hb⟩
theorem TbX.be {w W : World} {b g : Nat} {o : Obj} {vw : Value} {t : Tr.T} {used : Nat} {ns : List Tr.Nd} (h : TbX w b g o vw t used ns W) : Below w.heap.size w W := by
  obtain ⟨B, vt, vn, h⟩ := h
  exact h.be
theorem TbX.tok {w W : World} {b g : Nat} {o : Obj} {vw : Value} {t : Tr.T} {used : Nat} {ns : List Tr.Nd} (h : TbX w b g o vw t used ns W) : W.heap[g]? = some o := by
  obtain ⟨B, vt, vn, h⟩ := h
  exact h.tok
theorem TbX.want {w W : World} {b g : Nat} {o : Obj} {vw : Value} {t : Tr.T} {used : Nat} {ns : List Tr.Nd} (h : TbX w b g o vw t used ns W) : WantI w W vw ns := by
  obtain ⟨B, vt, vn, h⟩ := h
  exact h.want
/-- At the start. -/
theorem tx_start {w W : World} {b g : Nat} {o : Obj} {l : List Tr.Tk} (h : Anc w W b ⟨l, []⟩ 0) (ht : W.heap[g]? = some o) (hg : g ≠ b) : TbX w b g o (.slice none 0 0) ⟨l, []⟩ 0 [] W := by
  obtain ⟨B, vt, vn, h1, h2, h3⟩ := h
  exact ⟨B, vt, vn, h1, h2, h3, ht, hg, ⟨[], rfl, World.ownsRow_nil _ _ _ _, fun i n kv hi => by simp at hi⟩, fun k hk => by cases hk⟩
theorem tx_peek {w W : World} {b g : Nat} {o : Obj} {vw : Value} {t : Tr.T} {used : Nat} {ns : List Tr.Nd} (h : TbX w b g o vw t used ns W) (ht : t.toks.length ≤ 1073741824) (hu : used ≤ t.toks.length) {k : Tr.Tk} (hk : t.toks[min used (t.toks.length - 1)]? = some k) :
    Calls Tryd.prog 10 #[.pointer (some ⟨b, 0, none⟩)] W fun e w' => e = .returned (.agg #[.int .i64 k.kind, .string ⟨k.lead.toArray⟩, .string ⟨k.text.toArray⟩, .int .i64 k.pos]) ∧ TbX w b g o vw t used ns w' := by
  obtain ⟨B, vt, vn, h⟩ := h
  refine (peek_calls h.bi ht hu hk).mono ?_
  rintro e w' ⟨rfl, hb⟩
  exact ⟨rfl, B, vt, vn, h.below hb⟩
theorem tx_leaf {w W : World} {b g : Nat} {cur : Array Value} {vw : Value} {t : Tr.T} {used : Nat} {ns : List Tr.Nd} (h : TbX w b g (.cells cur 34 (0, 0)) vw t used ns W) (hn : t.nodes.length ≤ 1073741823) (ht : t.toks.length ≤ 1073741824) (hu : used < t.toks.length) :
    Calls Tryd.prog 11 #[.pointer (some ⟨b, 0, none⟩)] W fun e w' => e = .returned (.int .i64 t.nodes.length) ∧ TbX w b g (.cells cur 34 (0, 0)) vw ⟨t.toks, t.nodes ++ [⟨19, used, []⟩]⟩ (used + 1) ns w' := by
  obtain ⟨B, vt, vn, h⟩ := h
  refine (leaf_calls h.bi hn ht (by omega)).mono ?_
  intro e w' hs
  unfold LeafSays at hs
  rw [if_neg (by omega)] at hs
  obtain ⟨vn', rfl, q1, q2⟩ := hs
  exact ⟨rfl, B, vt, vn', (h.step q1 q2).1⟩
theorem tx_leaf_end {w W : World} {b g : Nat} {cur : Array Value} {vw : Value} {t : Tr.T} {ns : List Tr.Nd} (h : TbX w b g (.cells cur 34 (0, 0)) vw t t.toks.length ns W) (hn : t.nodes.length ≤ 1073741823) (ht : t.toks.length ≤ 1073741824) :
    Calls Tryd.prog 11 #[.pointer (some ⟨b, 0, none⟩)] W fun e w' => e = .returned (.int .i64 (-1)) ∧ TbX w b g (.cells cur 34 (0, 0)) vw t t.toks.length ns w' := by
  obtain ⟨B, vt, vn, h⟩ := h
  refine (leaf_calls h.bi hn ht (Nat.le_refl _)).mono ?_
  intro e w' hs
  unfold LeafSays at hs
  rw [if_pos rfl] at hs
  obtain ⟨rfl, q1, q2⟩ := hs
  exact ⟨rfl, B, vt, vn, (h.step q1 q2).1⟩
theorem tx_kids {w W W' : World} {B b g : Nat} {o : Obj} {vt vn vw : Value} {t : Tr.T} {used : Nat} {ns : List Tr.Nd} (h : TbI w B b g o vt vn vw t used ns W) (hn : NBt 38 b W W') {v : Value} {l : List Int} (hk : RdS W (TyB 3 W) 1 v l.length (intCells l)) : RdS W' (TyB 3 W') 1 v l.length (intCells l) := by
  have hne : ∀ k, TyB 3 W k → W'.heap[k]? = W.heap[k]? := by
    rintro k ⟨cs, hc⟩
    rw [hc]
    refine hn.cells hc ?_ (by decide)
    rintro rfl
    rw [h.bi.cell] at hc
    simp at hc
  exact (hk.keep hne).imp fun k hk => hk.imp fun cs hc => (hne k ⟨cs, hc⟩).trans hc
theorem tx_node {w W : World} {b g : Nat} {cur : Array Value} {vw : Value} {t : Tr.T} {used : Nat} {ns : List Tr.Nd} (h : TbX w b g (.cells cur 34 (0, 0)) vw t used ns W) (hn : t.nodes.length ≤ 1073741823) {v : Value} {l : List Int} (hk : RdS W (TyB 3 W) 1 v l.length (intCells l)) (hl : l.length ≤ 1073741824) (kind : Int) (hok : l.any (badKid t.nodes.length) = false) :
    Calls Tryd.prog 12 #[.pointer (some ⟨b, 0, none⟩), .int .i64 kind, v] W fun e w' => e = .returned (.int .i64 t.nodes.length) ∧ TbX w b g (.cells cur 34 (0, 0)) vw ⟨t.toks, t.nodes ++ [⟨kind, -1, l⟩]⟩ used ns w' ∧ RdS w' (TyB 3 w') 1 v l.length (intCells l) := by
  obtain ⟨B, vt, vn, h⟩ := h
  refine (node_calls h.bi hn hk (fun k ⟨cs, hc⟩ => lt_heap hc) hl kind).mono ?_
  intro e w' hs
  unfold NodeSays at hs
  rw [if_neg (by simp [hok])] at hs
  obtain ⟨vn', rfl, q1, q2⟩ := hs
  have hst := h.step q1 q2
  exact ⟨rfl, ⟨B, vt, vn', hst.1⟩, tx_kids h hst.2 hk⟩
theorem tx_node_bad {w W : World} {b g : Nat} {cur : Array Value} {vw : Value} {t : Tr.T} {used : Nat} {ns : List Tr.Nd} (h : TbX w b g (.cells cur 34 (0, 0)) vw t used ns W) (hn : t.nodes.length ≤ 1073741823) {v : Value} {l : List Int} (hk : RdS W (TyB 3 W) 1 v l.length (intCells l)) (hl : l.length ≤ 1073741824) (kind : Int) (hok : l.any (badKid t.nodes.length) = true) :
    Calls Tryd.prog 12 #[.pointer (some ⟨b, 0, none⟩), .int .i64 kind, v] W fun e w' => e = .returned (.int .i64 (-1)) ∧ TbX w b g (.cells cur 34 (0, 0)) vw t used ns w' := by
  obtain ⟨B, vt, vn, h⟩ := h
  refine (node_calls h.bi hn hk (fun k ⟨cs, hc⟩ => lt_heap hc) hl kind).mono ?_
  intro e w' hs
  unfold NodeSays at hs
  rw [if_pos hok] at hs
  obtain ⟨rfl, q1, q2⟩ := hs
  exact ⟨rfl, B, vt, vn, (h.step q1 q2).1⟩
theorem tx_done {w W : World} {b g : Nat} {o : Obj} {vw : Value} {t : Tr.T} {used : Nat} {ns : List Tr.Nd} (h : TbX w b g o vw t used ns W) (hn : t.nodes.length ≤ 1073741823) (ht : t.toks.length ≤ 1073741824) (hkids : ∀ n ∈ t.nodes, n.kids.length ≤ 1073741824) :
    Calls Tryd.prog 13 #[.pointer (some ⟨b, 0, none⟩)] W fun e w' => ∃ vt' vn', e = .returned (.agg #[vt', vn']) ∧ RdT w' (fun k => k < w'.heap.size) vt' vn' t ∧ TbX w b g o vw t used ns w' := by
  obtain ⟨B, vt, vn, h⟩ := h
  refine (done_calls h.bi hn ht hkids).mono ?_
  rintro e w' ⟨vt', vn', rfl, h1, h2⟩
  exact ⟨vt', vn', rfl, ⟨h1.1.imp fun k hk => hk.2, h1.2.imp fun k hk => hk.2⟩, B, vt, vn, h.below h2⟩

/-- One node more is wanted. -/
theorem tb_push {w W V W' : World} {B b g : Nat} {cur : Array Value} {vt vn vw : Value} {t : Tr.T} {ns : List Tr.Nd} {n : Tr.Nd} {used : Nat} (h : TbI w B b g (.cells cur 34 (0, 0)) vt vn vw t used ns W)
    {kvs : List Value} (h1 : kvs.length = ns.length) (h2 : W.ownsRow w.heap.size 38 3 vw ns.length ((ns.zip kvs).flatMap ndCells))
    (h3 : ∀ (i : Nat) (n : Tr.Nd) (kv : Value), ns[i]? = some n → kvs[i]? = some kv → RdS W (TyB 3 W) 1 kv n.kids.length (intCells n.kids)) {kv : Value} (hk : RdS W (TyB 3 W) 1 kv n.kids.length (intCells n.kids)) (hV : Below W.heap.size W V)
    {g' cap : Nat} (hown : W'.ownsRow w.heap.size 38 3 (.slice (some ⟨g', 0, none⟩) (ns.length + 1) cap) (ns.length + 1) ((ns.zip kvs).flatMap ndCells ++ [.int .i64 n.kind, .int .i64 n.tok, kv])) (hgrow : V.grownBy W' vw.ownBlock) (hat : vw.ownBlock = some g' ∨ g' = V.heap.size) :
    TbI w B b g (.cells cur 34 (0, 0)) vt vn (.slice (some ⟨g', 0, none⟩) (ns.length + 1) cap) t used (ns ++ [n]) W' := by
  obtain ⟨hB, hbi, hbe, htok, hgb, _, hap⟩ := h
  have hs := hV.size
  have hmove : ∀ k, k < W.heap.size → vw.ownBlock ≠ some k → W'.heap[k]? = W.heap[k]? := fun k hk hn => by
    rw [hgrow.block k (by omega) (fun e => hn e.symm), hV.block k hk]
  have hty : ∀ (k : Nat) (cs : Array Value) (T : TypeId), W.heap[k]? = some (.cells cs T (0, 0)) → T ≠ 38 → W'.heap[k]? = W.heap[k]? := fun k cs T hc hT => by
    refine hmove k (lt_heap hc) fun e => ?_
    obtain ⟨c, hc'⟩ := ownsRow_cells h2 e
    rw [hc] at hc'
    simp only [Option.some.injEq, Obj.cells.injEq] at hc'
    exact hT hc'.2.1
  have hki : Keeps (TyB 3 W) W W' := fun k ⟨cs, hc⟩ => hty k cs _ hc (by decide)
  obtain ⟨bkvs, _, hb2, _⟩ := hbi.nodes
  refine ⟨hB, hbi.keepT (Nat.le_trans hs hgrow.size) (hty b _ _ hbi.cell (by decide)) (fun k hk => hmove k (hb2.lt k hk).2 fun e => hap k e hk) (fun k cs hc => hty k cs _ hc (by decide)) (Or.inl fun k cs hc => hty k cs _ hc (by decide)), (hbe.trans (hV.mono hbe.size)).grown hgrow (Nat.le_trans hbe.size hs) (fun k e => (h2.lt k e).1),
    (hty g _ _ htok (by decide)).trans htok, hgb, ⟨kvs ++ [kv], by simp [h1], ?_, fun i m kv' hi hkv => ?_⟩, fun k hk => ?_⟩
  · have hz : (ns ++ [n]).zip (kvs ++ [kv]) = ns.zip kvs ++ [(n, kv)] := by rw [List.zip_append h1.symm]; rfl
    simp only [hz, List.flatMap_append, List.length_append, List.length_cons, List.length_nil]
    simpa [ndCells] using hown
  · have himp : ∀ {kv : Value} {l : List Int}, RdS W (TyB 3 W) 1 kv l.length (intCells l) → RdS W' (TyB 3 W') 1 kv l.length (intCells l) := fun h => (h.keep hki).imp fun k ⟨cs, hc⟩ => ⟨cs, (hty k cs _ hc (by decide)).trans hc⟩
    rcases Nat.lt_or_ge i ns.length with hlt | hge
    · rw [List.getElem?_append_left hlt] at hi
      rw [List.getElem?_append_left (by omega)] at hkv
      exact himp (h3 i m kv' hi hkv)
    · have h0 : i = ns.length := by
        have := Tr.get_lt hi
        simp only [List.length_append, List.length_cons, List.length_nil] at this
        omega
      subst h0
      rw [List.getElem?_append_right (Nat.le_refl _)] at hi
      rw [List.getElem?_append_right (by omega)] at hkv
      simp only [Nat.sub_self, List.getElem?_cons_zero, Option.some.injEq, h1] at hi hkv
      subst hi hkv
      exact himp hk
  · simp only [Value.ownBlock, Option.some.injEq] at hk
    subst hk
    intro e
    rcases hat with h | h
    · exact hap _ h e
    · have := (hb2.lt _ e).2
      omega
theorem tx_push {w W V W' : World} {b g : Nat} {cur : Array Value} {vw : Value} {t : Tr.T} {ns : List Tr.Nd} {n : Tr.Nd} {used : Nat} (h : TbX w b g (.cells cur 34 (0, 0)) vw t used ns W)
    {kvs : List Value} (h1 : kvs.length = ns.length) (h2 : W.ownsRow w.heap.size 38 3 vw ns.length ((ns.zip kvs).flatMap ndCells))
    (h3 : ∀ (i : Nat) (n : Tr.Nd) (kv : Value), ns[i]? = some n → kvs[i]? = some kv → RdS W (TyB 3 W) 1 kv n.kids.length (intCells n.kids)) {kv : Value} (hk : RdS W (TyB 3 W) 1 kv n.kids.length (intCells n.kids)) (hV : Below W.heap.size W V)
    {g' cap : Nat} (hown : W'.ownsRow w.heap.size 38 3 (.slice (some ⟨g', 0, none⟩) (ns.length + 1) cap) (ns.length + 1) ((ns.zip kvs).flatMap ndCells ++ [.int .i64 n.kind, .int .i64 n.tok, kv])) (hgrow : V.grownBy W' vw.ownBlock) (hat : vw.ownBlock = some g' ∨ g' = V.heap.size) :
    TbX w b g (.cells cur 34 (0, 0)) (.slice (some ⟨g', 0, none⟩) (ns.length + 1) cap) t used (ns ++ [n]) W' := by
  obtain ⟨B, vt, vn, h⟩ := h
  exact ⟨B, vt, vn, tb_push h h1 h2 h3 hk hV hown hgrow hat⟩
end Go.Proofs.YtfoelgkkoopheaaDoor
/- TreeBuilds: the walk. -/
namespace Go.Proofs.YtfoelgkkoopheaaDoor
open Go.RowKit

/-- A node of the law's: a leaf, or one of two kids. -/
def NsOk (ns : List Tr.Nd) : Prop := ∀ n ∈ ns, n.kids = [] ∨ ∃ x y, n.kids = [x, y]
theorem NsOk.push {ns : List Tr.Nd} (h : NsOk ns) {n : Tr.Nd} (hn : n.kids = [] ∨ ∃ x y, n.kids = [x, y]) : NsOk (ns ++ [n]) := by
  intro m hm
  simp only [List.mem_append, List.mem_singleton] at hm
  rcases hm with hm | rfl
  · exact h m hm
  · exact hn
theorem NsOk.le {ns : List Tr.Nd} (h : NsOk ns) : ∀ n ∈ ns, n.kids.length ≤ 1073741823 := by
  intro n hn
  rcases h n hn with e | ⟨x, y, e⟩ <;> rw [e] <;> simp

def TbRel (w : World) (b g : Nat) (o : Obj) (toks : List Tr.Tk) (m k : Nat) (v10 v11 v50 : Value) (wr : World) : Prop :=
  ∃ (j used : Nat) (a : Option Addr) (c : Nat) (ns : List Tr.Nd), v50 = .int .i64 j ∧ v11 = .int .i64 used ∧ v10 = .slice a ns.length c ∧ k = m - j ∧ j ≤ m ∧ used ≤ toks.length ∧ ns.length ≤ j ∧ NsOk ns ∧ TbX w b g o (.slice a ns.length c) ⟨toks, ns⟩ used ns wr

theorem below_drewN {B : Nat} {w w' : World} (h : Below B w w') (n : Nat) : Below B w (w'.drewN n) := ⟨h.os, h.tape, h.output, h.size, h.block⟩
/-- One int of a slice that came in. -/
theorem rdw_int {w : World} {P : Nat → Prop} {v : Value} {l : List Int} (h : RdW w P 1 v l.length (intCells l)) {i : Nat} {x : Int} (hi : l[i]? = some x) : ∃ b off c, v = .slice (some ⟨b, off, none⟩) l.length c ∧ P b ∧ w.cell? ⟨b, off + i, none⟩ = some (.int .i64 x) := by
  have hlt := Tr.get_lt hi
  obtain ⟨h1, a, c, rfl, hc, h3⟩ := h
  rcases h3 with ⟨h3, _⟩ | ⟨b, off, rfl, h4, h5⟩
  · omega
  · refine ⟨b, off, c, rfl, h4.resolve_left (by omega), h5 i _ ?_⟩
    simp only [intCells, List.getElem?_map, hi, Option.map_some]

set_option maxRecDepth 100000 in
set_option maxHeartbeats 4000000 in
theorem builds_calls {w : World} {va vb : Value} {ops kinds : List Int} (l : List UInt8) (hop : RdW w (fun k => k < w.heap.size) 1 va ops.length (intCells ops)) (hki : RdW w (fun k => k < w.heap.size) 1 vb kinds.length (intCells kinds)) (hll : l.length ≤ 200) (hol : ops.length ≤ 40) (hkl : kinds.length ≤ 40) :
    Calls Tryd.prog 3 #[.string ⟨l.toArray⟩, va, vb] w fun e w' => e = .returned (.bool true) ∧ Below w.heap.size w w' := by
  obtain ⟨ao, co, rfl⟩ := hop.form
  obtain ⟨ak, ck, rfl⟩ := hki.form
  have HOP := Lib.hid hop
  have HKI := Lib.hid hki
  clear hop hki
  have hll' : (l.length : Int) ≤ 200 := by omega
  have hol' : (ops.length : Int) ≤ 40 := by omega
  have hkl' : (kinds.length : Int) ≤ 40 := by omega
  have hd1 : decide (200 < (l.length : Int)) = false := decide_eq_false (by omega)
  have hd2 : decide (40 < (ops.length : Int)) = false := decide_eq_false (by omega)
  have hd3 : decide (40 < (kinds.length : Int)) = false := decide_eq_false (by omega)
  go_enter Tryd.func3, Tryd.ntmps3
  go_wp2_with fail
  refine (anchor_calls _).mono ?_
  rintro e w1 ⟨rfl, hb1⟩
  have HB1 := Lib.hid hb1
  clear hb1
  dsimp only
  go_wp2_with fail
  refine (lex_calls l (by omega) w1).mono ?_
  rintro e w2 ⟨v, rfl, ho2, hb2⟩
  rw [toks_cells] at ho2
  obtain ⟨a2, c2, rfl⟩ := ownsRow_form ho2
  have HB2 := Lib.hid (HB1.out.trans (hb2.mono HB1.out.size))
  have HO2 := Lib.hid (And.intro ho2 hb2.size)
  clear ho2 hb2
  obtain ⟨err, herr⟩ : ∃ err, (Lx.lex l).2.1 = err := ⟨_, rfl⟩
  obtain ⟨pos, hpos⟩ : ∃ pos, (Lx.lex l).2.2 = pos := ⟨_, rfl⟩
  obtain ⟨ts, hts⟩ : ∃ ts, (Lx.lex l).1 = ts := ⟨_, rfl⟩
  have HLX := Lib.hid (Lx.lex_whole (l := l))
  rw [herr, hpos, hts]
  rw [hts] at HO2
  rw [herr, hts] at HLX
  clear herr hpos hts
  by_cases he : err = 0
  · subst he
    obtain ⟨hw, hpos1, hlen⟩ := HLX.out rfl
    dsimp only
    go_wp2_with fail
    clear hd1 hd2 hd3
    obtain ⟨g2, c2', hsl, hcap2, hg2⟩ := HO2.out.1.form (by simpa using hpos1)
    obtain ⟨rfl, rfl⟩ : a2 = some ⟨g2, 0, none⟩ ∧ c2 = c2' := by
      simp only [Value.slice.injEq] at hsl
      exact ⟨hsl.1, hsl.2.2⟩
    obtain ⟨toks, htoks⟩ : ∃ toks, ts.map toTk = toks := ⟨_, rfl⟩
    have htl : ts.length = toks.length := by rw [← htoks]; simp
    have hwt : wholeOf toks = l := by rw [← htoks, whole_toTk]; exact hw
    rw [htoks] at HO2
    rw [htl] at hpos1 hlen HO2 ⊢
    have htl' : (toks.length : Int) ≤ 201 := by omega
    have htp' : 0 < (toks.length : Int) := by omega
    obtain ⟨cur2, hcur2⟩ := ownsRow_cells HO2.out.1 (k := g2) rfl
    have HWT := Lib.hid (And.intro hwt (And.intro hpos1 hlen))
    have hrd := RdS.own HO2.out.1
    have HRD := Lib.hid hrd
    have hf1 : Below w2.heap.size w2 (w2.alloc (.cells #[.int .i64 0, .int .i64 (pos : Int)] 27)) := (Below.refl _ _).alloc (Nat.le_refl _) _
    have hcur3 := anc_box hcur2 hf1
    refine (anc_new (w := w) (l := toks) (hrd.keep (Keeps.of hf1 fun k hk => hk.2.2)) (by omega) (HB2.out.trans (hf1.mono HB2.out.size))).mono ?_
    rintro e w3 ⟨b, rfl, hA3, hbl, hb3⟩
    have hgb : g2 ≠ b := by have := hf1.size; omega
    have hcur4 := anc_box hcur3 hb3
    have HA3 := Lib.hid (tx_start hA3 hcur4 hgb)
    have HCU := Lib.hid hcur2
    clear hw htoks htl hwt hlen hcur2 hcur3 hcur4 hf1 hsl hA3 hb3 hbl hgb hrd hll hol hkl hcap2
    dsimp only
    go_wp2_with fail
    go_loopg [10, 11, 50] ops.length (fun k v10 v11 v50 wr => TbRel w b g2 (.cells cur2 34 (0, 0)) toks ops.length k v10 v11 v50 wr)
    case atStart => exact ⟨0, 0, none, 0, [], rfl, rfl, rfl, rfl, Nat.zero_le _, Nat.zero_le _, Nat.zero_le _, fun n hn => by simp at hn, HA3.out⟩
    case round =>
      obtain ⟨j, used, a, c, ns, rfl, rfl, rfl, hk, hj, hu, hnj, hok, hX⟩ := hrel
      have HR := Lib.hid (And.intro hk (And.intro hok hX))
      clear hk hok hX
      by_cases hlt : j < ops.length
      · have hlt' : (j : Int) < (ops.length : Int) := by omega
        have hu' : (used : Int) ≤ (toks.length : Int) := by omega
        obtain ⟨k, hk⟩ : ∃ k, toks[min used (toks.length - 1)]? = some k := ⟨_, List.getElem?_eq_getElem (by have := HWT.out.2.1; omega)⟩
        obtain ⟨ox, hox⟩ : ∃ x, ops[j]? = some x := ⟨_, List.getElem?_eq_getElem hlt⟩
        obtain ⟨b0, off0, c0, he0, hb0, hcell0⟩ := rdw_int (HOP.out.keep (Keeps.of HR.out.2.2.be fun k hk => hk)) hox
        obtain ⟨rfl, rfl⟩ : ao = some ⟨b0, off0, none⟩ ∧ co = c0 := by
          simp only [Value.slice.injEq] at he0
          exact ⟨he0.1, he0.2.2⟩
        have HPK := Lib.hid (tx_peek HR.out.2.2 (by show toks.length ≤ _; omega) hu hk)
        clear he0
        go_wp2_with fail
        refine HPK.out.mono ?_
        rintro e w4 ⟨rfl, hX4⟩
        dsimp only
        go_wp2_with fail
        obtain ⟨q, o2, cq, heq, hq, hrg⟩ := HRD.out.tok hk
        obtain ⟨rfl, rfl⟩ : g2 = q ∧ 0 = o2 := by
          simp only [Value.slice.injEq, Option.some.injEq, Addr.mk.injEq] at heq
          exact ⟨heq.1.1, heq.1.2.1⟩
        obtain ⟨kk, kl, kt, kp⟩ := k
        dsimp only at *
        obtain ⟨V4, hV4⟩ : ∃ V, w4.alloc (.cells #[.int .i64 kk, .string ⟨kl.toArray⟩, .string ⟨kt.toArray⟩, .int .i64 kp] 34) = V := ⟨_, rfl⟩
        have hX5 : TbX w b g2 (.cells cur2 34 (0, 0)) (.slice a ns.length c) ⟨toks, ns⟩ used ns V4 := by
          rw [← hV4]; exact hX4.below ((Below.refl _ _).alloc (Nat.le_refl _) _)
        have hnew : V4.heap[w4.heap.size]? = some (.cells #[.int .i64 kk, .string ⟨kl.toArray⟩, .string ⟨kt.toArray⟩, .int .i64 kp] 34 (0, 0)) := by rw [← hV4]; exact heap_alloc_new _ _
        have hrV := rangeAt_same hrg (w' := V4) (hX5.tok.trans HCU.out.symm)
        have e : (min (used : Int) ((toks.length : Int) - 1)).toNat = min used (toks.length - 1) := by omega
        rw [← e, Nat.zero_add] at hrV
        have q0 : V4.cell? ⟨g2, (min (used : Int) ((toks.length : Int) - 1)).toNat * 4, none⟩ = some (.int .i64 kk) := hrV 0 _ rfl
        have q1 : V4.cell? ⟨g2, (min (used : Int) ((toks.length : Int) - 1)).toNat * 4 + 1, none⟩ = some (.string ⟨kl.toArray⟩) := hrV 1 _ rfl
        have q2 : V4.cell? ⟨g2, (min (used : Int) ((toks.length : Int) - 1)).toNat * 4 + 2, none⟩ = some (.string ⟨kt.toArray⟩) := hrV 2 _ rfl
        have q3 : V4.cell? ⟨g2, (min (used : Int) ((toks.length : Int) - 1)).toNat * 4 + 3, none⟩ = some (.int .i64 kp) := hrV 3 _ rfl
        have n0 := cell_of_heap hnew 0 rfl
        have n1 := cell_of_heap hnew 1 rfl
        have n2 := cell_of_heap hnew 2 rfl
        have n3 := cell_of_heap hnew 3 rfl
        have HX5 := Lib.hid hX5
        rw [hV4]
        clear hX4 hX5 hnew hrV hrg hq hk hV4 heq hcell0 HPK e
        go_region
        have hnj' : (ns.length : Int) ≤ 40 := by omega
        by_cases hB : ¬ ox < 0 ∧ j < kinds.length
        · obtain ⟨hB1, hB2⟩ := hB
          obtain ⟨kx, hkx⟩ : ∃ x, kinds[j]? = some x := ⟨_, List.getElem?_eq_getElem hB2⟩
          obtain ⟨b1, off1, c1, he1, hb1, hcell1⟩ := rdw_int (HKI.out.keep (Keeps.of HX5.out.be fun k hk => hk)) hkx
          obtain ⟨rfl, rfl⟩ : ak = some ⟨b1, off1, none⟩ ∧ ck = c1 := by
            simp only [Value.slice.injEq] at he1
            exact ⟨he1.1, he1.2.2⟩
          have hl1 := cell_lt hcell1
          have hA1 : decide (ox < 0) = false := decide_eq_false hB1
          have hA2 : decide (kinds.length ≤ j) = false := decide_eq_false (by omega)
          have hA3 : (j : Int) < (kinds.length : Int) := by omega
          have hk5 : RdS (V4.alloc (.cells #[.int .i64 ox, .int .i64 ((ns.length : Int) - 1)] 3)).drew (TyB 3 (V4.alloc (.cells #[.int .i64 ox, .int .i64 ((ns.length : Int) - 1)] 3)).drew) 1 (.slice (some ⟨V4.heap.size, 0, none⟩) 2 2) [ox, (ns.length : Int) - 1].length (intCells [ox, (ns.length : Int) - 1]) :=
            (rds_new V4 [ox, (ns.length : Int) - 1] rfl).imp fun k hk => by subst hk; exact ⟨_, heap_alloc_new _ _⟩
          have HK5 := Lib.hid hk5
          have HX6 := Lib.hid (HX5.out.below (W' := (V4.alloc (.cells #[.int .i64 ox, .int .i64 ((ns.length : Int) - 1)] 3)).drew) ((Below.refl _ _).alloc (Nat.le_refl _) _).drew)
          have HKX := Lib.hid hkx
          clear q0 q1 q2 q3 n0 n1 n2 n3 hk5 he1 hb1 hkx
          by_cases hC : (ns.length : Int) ≤ ox
          · have hC1 : decide ((ns.length : Int) ≤ ox) = true := decide_eq_true hC
            have HND := Lib.hid (tx_node_bad HX6.out (by show ns.length ≤ _; omega) HK5.out (by simp) kx (by simp [badKid]; omega))
            go_wp2_with fail
            refine HND.out.mono ?_
            rintro e w6 ⟨rfl, hX7⟩
            have HX7 := Lib.hid hX7
            clear hX7
            dsimp only
            go_wp2_with fail
            refine Handed.intro (ops.length - (j + 1)) ?_ ?_
            · have := HR.out.1; omega
            go_step
            repeat apply Exists.intro
            refine ⟨?_, rfl⟩
            exact ⟨j + 1, used, a, c, ns, by go_num, rfl, rfl, rfl, by omega, hu, by omega, HR.out.2.1, HX7.out⟩
          · have hC1 : decide ((ns.length : Int) ≤ ox) = false := decide_eq_false hC
            have hC2 : ((ns.length : Int) == 0) = false := by
              rw [beq_eq_false_iff_ne]; omega
            have HND := Lib.hid (tx_node HX6.out (by show ns.length ≤ _; omega) HK5.out (by simp) kx (by simp [badKid]; omega))
            obtain ⟨i0, hi0, hz0, hz1, hz2⟩ := info_split info_node
            have Hi := Lib.hid hi0
            have Hz0 := Lib.hid hz0
            have Hz1 := Lib.hid hz1
            have Hz2 := Lib.hid hz2
            clear hi0 hz0 hz1 hz2
            go_wp2_with fail
            refine HND.out.mono ?_
            rintro e w6 ⟨rfl, hX7, hk7⟩
            obtain ⟨kvs, k1, k2, k3⟩ := hX7.want
            have HX7 := Lib.hid hX7
            have HK7 := Lib.hid (And.intro k1 (And.intro k2 (And.intro k3 hk7)))
            have HV7 : Hid (∀ o, Below w6.heap.size w6 (w6.alloc o)) := fun o => (Below.refl _ _).alloc (Nat.le_refl _) _
            obtain ⟨b2, off2, c2', he2, hb2, hcell2⟩ := rdw_int (HKI.out.keep (Keeps.of hX7.be fun k hk => hk)) HKX.out
            obtain ⟨rfl, rfl, rfl⟩ : b2 = b1 ∧ off2 = off1 ∧ c2' = ck := by
              simp only [Value.slice.injEq, Option.some.injEq, Addr.mk.injEq] at he2
              exact ⟨he2.1.1.symm, he2.1.2.1.symm, he2.2.2.symm⟩
            clear hX7 k1 k2 k3 hk7 he2 hb2 hcell1 hl1
            dsimp only
            go_wp2_with (at_builtin; refine wpList_append_lies _ rfl _ _ 32 rfl w.heap.size 38 i0 (.agg #[.int .i64 0, .int .i64 0, .slice none 0 0]) 3 40 Tryd.underlying32 Hi.out Hz0.out Hz1.out Hz2.out rfl (by decide) (.slice a ns.length c) ns.length ((ns.zip kvs).flatMap ndCells) rfl (HK7.out.2.1.alloc _) ⟨w6.heap.size, 0, none⟩ 1 1 [.int .i64 kx, .int .i64 (-1), .slice (some ⟨V4.heap.size, 0, none⟩) 2 2] rfl rfl (World.news_of_block (heap_alloc_new _ _)) (by simp [Value.oneCell']) (by decide) (by unfold maxLen; omega) (by omega) (Nat.le_trans HX7.out.be.size (HV7.out _).size) _ rfl ?_)
            intro g cap w7 hown hgrow hat hlt7
            have hp := tx_push (n := ⟨kx, -1, [ox, (ns.length : Int) - 1]⟩) HX7.out HK7.out.1 HK7.out.2.1 HK7.out.2.2.1 HK7.out.2.2.2 (HV7.out _) hown hgrow (hat.imp_right fun e => e.trans (size_alloc1 _ _))
            have HP := Lib.hid hp
            clear hp hown hgrow hat hlt7
            go_wp2_with fail
            refine Handed.intro (ops.length - (j + 1)) ?_ ?_
            · have := HR.out.1; omega
            go_step
            repeat apply Exists.intro
            refine ⟨?_, rfl⟩
            refine ⟨j + 1, used, some ⟨g, 0, none⟩, cap, ns ++ [⟨kx, -1, [ox, (ns.length : Int) - 1]⟩], by go_num, rfl, by simp, rfl, by omega, hu, by simp; omega, HR.out.2.1.push (Or.inr ⟨_, _, rfl⟩), ?_⟩
            rw [List.length_append]
            exact HP.out
        · clear q0 q1 q2 q3 n0 n1 n2 n3
          by_cases hul : used = toks.length
          · subst hul
            have hul1 : ((toks.length : Int) == (toks.length : Int)) = true := by simp
            have hul2 : decide ((toks.length : Int) < (toks.length : Int)) = false := decide_eq_false (by omega)
            have HLF := Lib.hid (tx_leaf_end (HX5.out.below (Below.refl _ _).drew) (by show ns.length ≤ _; omega) (by show toks.length ≤ _; omega))
            by_cases hA : ox < 0
            case neg =>
              have hA1 : decide (ox < 0) = false := decide_eq_false hA
              have hA2 : decide (kinds.length ≤ j) = true := decide_eq_true (by have : ¬ j < kinds.length := fun h => hB ⟨hA, h⟩; omega)
              clear hB hA
              go_wp2_with fail
              refine HLF.out.mono ?_
              rintro e w6 ⟨rfl, hX6⟩
              have HX6 := Lib.hid hX6
              clear hX6
              dsimp only
              go_wp2_with fail
              refine Handed.intro (ops.length - (j + 1)) ?_ ?_
              · have := HR.out.1; omega
              go_step
              repeat apply Exists.intro
              refine ⟨?_, rfl⟩
              exact ⟨j + 1, toks.length, a, c, ns, by go_num, rfl, rfl, rfl, by omega, hu, by omega, HR.out.2.1, HX6.out⟩
            case pos =>
              have hA1 : decide (ox < 0) = true := decide_eq_true hA
              clear hB hA
              go_wp2_with fail
              refine HLF.out.mono ?_
              rintro e w6 ⟨rfl, hX6⟩
              have HX6 := Lib.hid hX6
              clear hX6
              dsimp only
              go_wp2_with fail
              refine Handed.intro (ops.length - (j + 1)) ?_ ?_
              · have := HR.out.1; omega
              go_step
              repeat apply Exists.intro
              refine ⟨?_, rfl⟩
              exact ⟨j + 1, toks.length, a, c, ns, by go_num, rfl, rfl, rfl, by omega, hu, by omega, HR.out.2.1, HX6.out⟩
          · have hul0 : used < toks.length := by omega
            have hul1 : ((used : Int) == (toks.length : Int)) = false := by simp; omega
            have hul2 : decide (used < toks.length) = true := decide_eq_true hul0
            have HLF := Lib.hid (tx_leaf (HX5.out.below (Below.refl _ _).drew) (by show ns.length ≤ _; omega) (by show toks.length ≤ _; omega) hul0)
            obtain ⟨i0, hi0, hz0, hz1, hz2⟩ := info_split info_node
            have Hi := Lib.hid hi0
            have Hz0 := Lib.hid hz0
            have Hz1 := Lib.hid hz1
            have Hz2 := Lib.hid hz2
            clear hi0 hz0 hz1 hz2 hul
            by_cases hA : ox < 0
            case neg =>
              have hA1 : decide (ox < 0) = false := decide_eq_false hA
              have hA2 : decide (kinds.length ≤ j) = true := decide_eq_true (by have : ¬ j < kinds.length := fun h => hB ⟨hA, h⟩; omega)
              clear hB hA
              go_wp2_with fail
              refine HLF.out.mono ?_
              rintro e w6 ⟨rfl, hX6⟩
              obtain ⟨kvs, k1, k2, k3⟩ := hX6.want
              have HX6 := Lib.hid hX6
              have HK6 := Lib.hid (And.intro k1 (And.intro k2 k3))
              have HV6 : Hid (∀ o, Below w6.heap.size w6 (w6.alloc o)) := fun o => (Below.refl _ _).alloc (Nat.le_refl _) _
              clear hX6 k1 k2 k3
              dsimp only
              go_wp2_with (at_builtin; refine wpList_append_lies _ rfl _ _ 32 rfl w.heap.size 38 i0 (.agg #[.int .i64 0, .int .i64 0, .slice none 0 0]) 3 40 Tryd.underlying32 Hi.out Hz0.out Hz1.out Hz2.out rfl (by decide) (.slice a ns.length c) ns.length ((ns.zip kvs).flatMap ndCells) rfl (HK6.out.2.1.alloc _) ⟨w6.heap.size, 0, none⟩ 1 1 [.int .i64 19, .int .i64 used, .slice none 0 0] rfl rfl (World.news_of_block (heap_alloc_new _ _)) (by simp [Value.oneCell']) (by decide) (by unfold maxLen; omega) (by omega) (Nat.le_trans HX6.out.be.size (HV6.out _).size) _ rfl ?_)
              intro g cap w7 hown hgrow hat hlt7
              have hp := tx_push (n := ⟨19, used, []⟩) HX6.out HK6.out.1 HK6.out.2.1 HK6.out.2.2 (RdS.nil _ _ _) (HV6.out _) hown hgrow (hat.imp_right fun e => e.trans (size_alloc1 _ _))
              have HP := Lib.hid hp
              clear hp hown hgrow hat hlt7
              go_wp2_with fail
              refine Handed.intro (ops.length - (j + 1)) ?_ ?_
              · have := HR.out.1; omega
              go_step
              repeat apply Exists.intro
              refine ⟨?_, rfl⟩
              refine ⟨j + 1, used + 1, some ⟨g, 0, none⟩, cap, ns ++ [⟨19, used, []⟩], by go_num, by go_num, by simp, rfl, by omega, hul0, by simp; omega, HR.out.2.1.push (Or.inl rfl), ?_⟩
              rw [List.length_append]
              exact HP.out
            case pos =>
              have hA1 : decide (ox < 0) = true := decide_eq_true hA
              clear hB hA
              go_wp2_with fail
              refine HLF.out.mono ?_
              rintro e w6 ⟨rfl, hX6⟩
              obtain ⟨kvs, k1, k2, k3⟩ := hX6.want
              have HX6 := Lib.hid hX6
              have HK6 := Lib.hid (And.intro k1 (And.intro k2 k3))
              have HV6 : Hid (∀ o, Below w6.heap.size w6 (w6.alloc o)) := fun o => (Below.refl _ _).alloc (Nat.le_refl _) _
              clear hX6 k1 k2 k3
              dsimp only
              go_wp2_with (at_builtin; refine wpList_append_lies _ rfl _ _ 32 rfl w.heap.size 38 i0 (.agg #[.int .i64 0, .int .i64 0, .slice none 0 0]) 3 40 Tryd.underlying32 Hi.out Hz0.out Hz1.out Hz2.out rfl (by decide) (.slice a ns.length c) ns.length ((ns.zip kvs).flatMap ndCells) rfl (HK6.out.2.1.alloc _) ⟨w6.heap.size, 0, none⟩ 1 1 [.int .i64 19, .int .i64 used, .slice none 0 0] rfl rfl (World.news_of_block (heap_alloc_new _ _)) (by simp [Value.oneCell']) (by decide) (by unfold maxLen; omega) (by omega) (Nat.le_trans HX6.out.be.size (HV6.out _).size) _ rfl ?_)
              intro g cap w7 hown hgrow hat hlt7
              have hp := tx_push (n := ⟨19, used, []⟩) HX6.out HK6.out.1 HK6.out.2.1 HK6.out.2.2 (RdS.nil _ _ _) (HV6.out _) hown hgrow (hat.imp_right fun e => e.trans (size_alloc1 _ _))
              have HP := Lib.hid hp
              clear hp hown hgrow hat hlt7
              go_wp2_with fail
              refine Handed.intro (ops.length - (j + 1)) ?_ ?_
              · have := HR.out.1; omega
              go_step
              repeat apply Exists.intro
              refine ⟨?_, rfl⟩
              refine ⟨j + 1, used + 1, some ⟨g, 0, none⟩, cap, ns ++ [⟨19, used, []⟩], by go_num, by go_num, by simp, rfl, by omega, hul0, by simp; omega, HR.out.2.1.push (Or.inl rfl), ?_⟩
              rw [List.length_append]
              exact HP.out
      · obtain rfl : j = ops.length := by omega
        have hkle := HR.out.2.1.le
        go_wp2_with fail
        refine (tx_done HR.out.2.2 (by show ns.length ≤ _; omega) (by show toks.length ≤ _; omega) (fun n hn => Nat.le_succ_of_le (hkle n hn))).mono ?_
        rintro e w5 ⟨vt, vn, rfl, hT5, hX5⟩
        obtain ⟨at_, ct, rfl⟩ : ∃ a c, vt = .slice a toks.length c := hT5.1.form
        obtain ⟨an, cn, rfl⟩ : ∃ a c, vn = .slice a ns.length c := by
          obtain ⟨kvs, _, h2, _⟩ := hT5.2
          exact h2.form
        have HT5 := Lib.hid hT5
        have HX5 := Lib.hid hX5
        have hnl' : (ns.length : Int) ≤ 40 := by omega
        have hnl2 : ((ns.length : Int) != (ns.length : Int)) = false := by simp
        clear hT5 hX5 hkle
        dsimp only
        go_wp2_with fail
        obtain ⟨V, hV⟩ : ∃ V, w5.alloc (.cells #[.slice at_ toks.length ct, .slice an ns.length cn] 41) = V := ⟨_, rfl⟩
        have hv1 : Below w5.heap.size w5 V := by rw [← hV]; exact (Below.refl _ _).alloc (Nat.le_refl _) _
        have hvt : V.heap[w5.heap.size]? = some (.cells #[.slice at_ toks.length ct, .slice an ns.length cn] 41 (0, 0)) := by rw [← hV]; exact new_at _ _ _ rfl
        have hsh := show_calls (w := V) (toks := toks) (vn := .slice an ns.length cn) (HT5.out.1.keep (Keeps.of hv1 fun k hk => hk)) (fun k hk => Nat.lt_of_lt_of_le hk hv1.size) (by omega) (by rw [HWT.out.1]; omega)
        rw [HWT.out.1] at hsh
        have t0 := cell_of_heap hvt 0 rfl
        have t1 := cell_of_heap hvt 1 rfl
        have HV := Lib.hid (And.intro hv1 hvt)
        have HSH := Lib.hid hsh
        rw [hV]
        clear hv1 hvt hV hsh
        go_wp2_with fail
        refine HSH.out.mono ?_
        rintro e w6 ⟨rfl, hb6⟩
        have hb5 : Below w5.heap.size w5 w6 := HV.out.1.trans (hb6.mono HV.out.1.size)
        have hX6 := HX5.out.below hb5
        have hT6 := (HT5.out.2.keep (Keeps.of hb5 fun k hk => hk)).imp fun k hk => Nat.lt_of_lt_of_le hk hb5.size
        have hx6 := anc_box HV.out.2 hb6
        have hwd : RdNs w6 (fun k => k < w6.heap.size) (.slice a ns.length c) ns := by
          obtain ⟨kvs, k1, k2, k3⟩ := hX6.want
          exact ⟨kvs, k1, (RdS.own k2).imp fun k hk => hk.2.2, fun i n kv hi hkv => (k3 i n kv hi hkv).imp fun k hk => by obtain ⟨cs, hc⟩ := hk; exact lt_heap hc⟩
        have H6 := Lib.hid (And.intro hX6.be (And.intro hT6 (And.intro hx6 hwd)))
        clear t0 t1 hb6 hb5 hX6 hT6 hx6 hwd
        dsimp only
        go_wp2_with fail
        go_loopg [158] ns.length (fun k v158 wr => ∃ i : Nat, v158 = .int .i64 i ∧ k = ns.length - i ∧ i ≤ ns.length ∧ Below w6.heap.size w6 wr)
        case atStart => exact ⟨0, rfl, rfl, Nat.zero_le _, Below.refl _ _⟩
        case round =>
          obtain ⟨i, rfl, hk, hi, hb⟩ := hrel
          have HB := Lib.hid (And.intro hk hb)
          clear hk hb
          by_cases hlt : i < ns.length
          · have hlt' : (i : Int) < (ns.length : Int) := by omega
            obtain ⟨n, hn⟩ : ∃ n, ns[i]? = some n := ⟨_, List.getElem?_eq_getElem hlt⟩
            obtain ⟨gw, ow, cw, kv1, he1, hgw, hrg1, hkv1⟩ := (H6.out.2.2.2.keep (Keeps.of HB.out.2 fun k hk => hk)).node hn
            obtain ⟨rfl, rfl⟩ : a = some ⟨gw, ow, none⟩ ∧ c = cw := by
              simp only [Value.slice.injEq] at he1
              exact ⟨he1.1, he1.2.2⟩
            obtain ⟨gn, on_, cn', kv2, he2, hgn, hrg2, hkv2⟩ := (H6.out.2.1.keep (Keeps.of HB.out.2 fun k hk => hk)).node hn
            obtain ⟨rfl, rfl⟩ : an = some ⟨gn, on_, none⟩ ∧ cn = cn' := by
              simp only [Value.slice.injEq] at he2
              exact ⟨he2.1, he2.2.2⟩
            obtain ⟨ka, kc, rfl⟩ := hkv1.form
            obtain ⟨ka', kc', rfl⟩ := hkv2.form
            obtain ⟨nk, nt, nks⟩ := n
            simp only at hrg1 hrg2 hkv1 hkv2
            have hx := anc_box H6.out.2.2.1 HB.out.2
            have c1 := cell_of_heap hx 1 rfl
            have l1 := cell_lt c1
            have HG1 := Lib.hid hrg1
            have HG2 : Hid (∀ o, (wr.alloc o).rangeAt gn (on_ + i * 3) [.int .i64 nk, .int .i64 nt, .slice ka' nks.length kc']) := fun o => rangeAt_same hrg2 (Below.heap_alloc _ _ _ (Nat.lt_of_lt_of_le hgn HB.out.2.size))
            have hok := HR.out.2.1 _ (List.mem_of_getElem? hn)
            simp only at hok
            clear hrg1 hrg2 he1 he2 hgw hgn hx hn
            go_wp2_with (first
              | (refine wpList_load_mid rfl 38 _ rfl gw (ow + i * 3) rfl _ _ HG1.out Tryd.underlying38 rfl rfl ?_)
              | (refine wpList_load_mid rfl 38 _ rfl gn (on_ + i * 3) rfl _ _ (HG2.out _) Tryd.underlying38 rfl rfl ?_))
            obtain ⟨X, hX⟩ : ∃ X, (wr.alloc (.cells #[.int .i64 nk, .int .i64 nt, .slice ka nks.length kc] 38)).alloc (.cells #[.int .i64 nk, .int .i64 nt, .slice ka' nks.length kc'] 38) = X := ⟨_, rfl⟩
            have hbX : Below wr.heap.size wr X := by rw [← hX]; exact ((Below.refl _ _).alloc (Nat.le_refl _) _).alloc (by rw [← size_alloc1]; omega) _
            have hx1 : X.heap[wr.heap.size]? = some (.cells #[.int .i64 nk, .int .i64 nt, .slice ka nks.length kc] 38 (0, 0)) := by
              rw [← hX, Below.heap_alloc _ _ _ (by rw [← size_alloc1]; omega)]
              exact heap_alloc_new _ _
            have hx2 : X.heap[wr.heap.size + 1]? = some (.cells #[.int .i64 nk, .int .i64 nt, .slice ka' nks.length kc'] 38 (0, 0)) := by
              rw [← hX]
              exact new_at _ _ _ (by rw [← size_alloc1])
            have p0 := cell_of_heap hx1 0 rfl
            have p1 := cell_of_heap hx1 1 rfl
            have p2 := cell_of_heap hx1 2 rfl
            have r0 := cell_of_heap hx2 0 rfl
            have r1 := cell_of_heap hx2 1 rfl
            have r2 := cell_of_heap hx2 2 rfl
            have hkX1 := (hkv1.weak).keep (Keeps.of hbX fun k hk => Nat.lt_of_lt_of_le hk HB.out.2.size)
            have hkX2 := hkv2.keep (Keeps.of hbX fun k hk => Nat.lt_of_lt_of_le hk HB.out.2.size)
            have HBX := Lib.hid hbX
            rw [hX]
            clear hx1 hx2 hbX hX hkv1 hkv2 c1 l1
            rcases hok with e0 | ⟨x, y, e0⟩
            · subst e0
              clear hkX1 hkX2
              simp only [List.length_nil] at p2 r2 ⊢
              go_quiet (fail)
              go_wp2_with fail
              go_roundg (ns.length - (i + 1))
              case measure => have := HB.out.1; omega
              case rel => exact ⟨i + 1, by go_num, rfl, by omega, HB.out.2.trans ((below_drewN HBX.out _).mono HB.out.2.size)⟩
            · subst e0
              obtain ⟨_, a1, c1, e1, _, h1⟩ := hkX1
              obtain ⟨_, a2, c2', e2, _, h2⟩ := hkX2
              obtain ⟨rfl, rfl⟩ : ka = a1 ∧ kc = c1 := by
                simp only [Value.slice.injEq] at e1
                exact ⟨e1.1, e1.2.2⟩
              obtain ⟨rfl, rfl⟩ : ka' = a2 ∧ kc' = c2' := by
                simp only [Value.slice.injEq] at e2
                exact ⟨e2.1, e2.2.2⟩
              rcases h1 with ⟨h1, _⟩ | ⟨bk1, ok1, rfl, _, h1⟩
              · cases h1
              rcases h2 with ⟨h2, _⟩ | ⟨bk2, ok2, rfl, _, h2⟩
              · cases h2
              have s0 : X.cell? ⟨bk1, ok1, none⟩ = some (.int .i64 x) := h1 0 _ rfl
              have s1 : X.cell? ⟨bk1, ok1 + 1, none⟩ = some (.int .i64 y) := h1 1 _ rfl
              have s2 : X.cell? ⟨bk2, ok2, none⟩ = some (.int .i64 x) := h2 0 _ rfl
              have s3 : X.cell? ⟨bk2, ok2 + 1, none⟩ = some (.int .i64 y) := h2 1 _ rfl
              clear h1 h2 e1 e2
              simp only [List.length_cons, List.length_nil] at p2 r2 ⊢
              go_quiet (fail)
              go_wp2_with fail
              go_roundg (ns.length - (i + 1))
              case measure => have := HB.out.1; omega
              case rel => exact ⟨i + 1, by go_num, rfl, by omega, HB.out.2.trans ((below_drewN HBX.out _).mono HB.out.2.size)⟩
          · obtain rfl : i = ns.length := by omega
            go_wp2_with fail
            go_ret
            exact ⟨rfl, H6.out.1.trans (HB.out.2.mono H6.out.1.size)⟩
  · have he' : ((err : Int) != 0) = true := by simp [he]
    have HE := Lib.hid he
    clear he
    dsimp only
    go_wp2_with fail
    go_ret
    exact ⟨rfl, HB2.out.alloc HB2.out.size _⟩
end Go.Proofs.YtfoelgkkoopheaaDoor
/- TreeBuilds: for every text, every list of operations and of kinds the law returns true, and the lists read as they did. Condition: the listed package-level variables are laid as the program's text lays them (the card ties them). -/
namespace Go.Proofs.YtfoelgkkoopheaaDoor
open Go.ChangeShapes Go.WideShapes Go.ChangeAt Go.RowKit Go.Deep

set_option maxRecDepth 100000 in
/-- .. where the text is too long, or a list is. -/
theorem builds_out {w : World} {va vb : Value} {ops kinds : List Int} (l : List UInt8) (hop : RdW w (fun k => k < w.heap.size) 1 va ops.length (intCells ops)) (hki : RdW w (fun k => k < w.heap.size) 1 vb kinds.length (intCells kinds)) (h : 200 < l.length ∨ 40 < ops.length ∨ 40 < kinds.length) :
    Calls Tryd.prog 3 #[.string ⟨l.toArray⟩, va, vb] w fun e w' => e = .returned (.bool true) ∧ Below w.heap.size w w' := by
  obtain ⟨ao, co, rfl⟩ := hop.form
  obtain ⟨ak, ck, rfl⟩ := hki.form
  clear hop hki
  generalize ops.length = no at *
  generalize kinds.length = nk at *
  by_cases h1 : 200 < l.length
  · have hd1 : decide (200 < (l.length : Int)) = true := decide_eq_true (by omega)
    clear h h1
    go_enter Tryd.func3, Tryd.ntmps3
    go_wp2_with fail
    refine (anchor_calls _).mono ?_
    rintro e w1 ⟨rfl, hb1⟩
    have HB1 := Lib.hid hb1
    clear hb1
    dsimp only
    go_wp2_with fail
    go_ret
    exact ⟨rfl, HB1.out⟩
  · have hd1 : decide (200 < (l.length : Int)) = false := decide_eq_false (by omega)
    by_cases h2 : 40 < no
    · have hd2 : decide (40 < (no : Int)) = true := decide_eq_true (by omega)
      clear h h1 h2
      go_enter Tryd.func3, Tryd.ntmps3
      go_wp2_with fail
      refine (anchor_calls _).mono ?_
      rintro e w1 ⟨rfl, hb1⟩
      have HB1 := Lib.hid hb1
      clear hb1
      dsimp only
      go_wp2_with fail
      go_ret
      exact ⟨rfl, HB1.out⟩
    · have hd2 : decide (40 < (no : Int)) = false := decide_eq_false (by omega)
      have hd3 : decide (40 < (nk : Int)) = true := decide_eq_true (by omega)
      clear h h1 h2
      go_enter Tryd.func3, Tryd.ntmps3
      go_wp2_with fail
      refine (anchor_calls _).mono ?_
      rintro e w1 ⟨rfl, hb1⟩
      have HB1 := Lib.hid hb1
      clear hb1
      dsimp only
      go_wp2_with fail
      go_ret
      exact ⟨rfl, HB1.out⟩
theorem builds_any {w : World} {va vb : Value} {ops kinds : List Int} (l : List UInt8) (hop : RdW w (fun k => k < w.heap.size) 1 va ops.length (intCells ops)) (hki : RdW w (fun k => k < w.heap.size) 1 vb kinds.length (intCells kinds)) :
    Calls Tryd.prog 3 #[.string ⟨l.toArray⟩, va, vb] w fun e w' => e = .returned (.bool true) ∧ Below w.heap.size w w' := by
  by_cases h : l.length ≤ 200 ∧ ops.length ≤ 40 ∧ kinds.length ≤ 40
  · exact builds_calls l hop hki h.1 h.2.1 h.2.2
  · exact builds_out l hop hki (by omega)

theorem trodAll_three' {H : Type} {enc : TypeId × Value → H} {P : Program} {w : World} {base : Nat} {spare : Nat → Bool} {held : Bool} {t0 t1 t2 : TypeId} {args : Array Value} {ds : List (DataW H)} {ps : List MemPlace} (h : DataW.TrodAll enc P w base spare held (#[t0, t1, t2] : Array TypeId).toList args.toList ds ps) :
    ∃ v0 v1 v2 d0 d1 d2 p0 p1 p2, DataW.Trod enc P w base spare held t0 v0 d0 p0 ∧ DataW.Trod enc P w base spare held t1 v1 d1 p1 ∧ DataW.Trod enc P w base spare held t2 v2 d2 p2 ∧ args = #[v0, v1, v2] ∧ ds = [d0, d1, d2] ∧ ps = p0 ++ p1 ++ p2 := by
  obtain ⟨v, v', v'', d, d', d'', p, p', p'', h1, h2, h3, h4, h5, h6⟩ := trodAll_three h
  exact ⟨v, v', v'', d, d', d'', p, p', p'', h4, h5, h6, h1, h2, h3⟩
set_option maxRecDepth 100000 in
theorem open_row {H : Type} {enc : TypeId × Value → H} {w : World} {held : Bool} {r : Reach} {b0 : Nat} {v : Value} {d : DataW H} {p : List MemPlace} (hv : Value.okWide Tryd.prog w r b0 22 v) (h : DataW.Trod enc Tryd.prog w 0 (fun _ => true) held 22 v d p) :
    ∃ l : List Int, RdW w (fun k => k < w.heap.size) 1 v l.length (intCells l) := by
  obtain ⟨fuel, hf⟩ := h
  have hc : v.cells.toList = [v] := by
    unfold Value.okWide at hv
    obtain ⟨u, hu⟩ : ∃ u, Tryd.prog.underlying 22 = u := ⟨_, rfl⟩
    rw [hu] at hv
    obtain rfl : some (.slice 3) = u := Tryd.underlying22.symm.trans hu
    cases v <;> first | rfl | exact False.elim hv
  rw [hc] at hf
  exact open_kids hf

set_option maxRecDepth 100000 in
theorem builds_law {H : Type} {enc : TypeId × Value → H} (W : World) (args : Array Value) (ds : List (DataW H)) :
    LawWalk enc Tryd.prog 3 Tryd.f3 W args ds := by
  intro base hval p hA hlt
  have hA' : DataW.TrodAll enc Tryd.prog W 0 (fun _ => true) true Tryd.f3.params.toList args.toList ds p := hA
  rw [Tryd.params3] at hA' hval
  obtain ⟨v0, v1, v2, d0, d1, d2, p0, p1, p2, h0, h1, h2, hargs, hds, hp⟩ := trodAll_three' hA'
  have k0 := hval 0 9 v0 rfl (by rw [hargs]; rfl)
  have k1 := hval 1 22 v1 rfl (by rw [hargs]; rfl)
  have k2 := hval 2 22 v2 rfl (by rw [hargs]; rfl)
  obtain ⟨s, rfl, _, _⟩ := Go.ChangeMaps.open_string Tryd.underlying9 k0 h0
  obtain ⟨ops, hops⟩ := open_row k1 h1
  obtain ⟨kinds, hkinds⟩ := open_row k2 h2
  rw [hargs]
  exact builds_any s.data.toList hops hkinds

set_option maxRecDepth 100000 in
theorem builds_lifted (os : Os) (started : os.Started) (H : Type) (enc : TypeId × Value → H) :
    ReturnsInHanded {} Tryd.checked os 3 .any (fun w args => (Rows.treeBuildsSpec.pre enc Tryd.prog Tryd.f3 Rows.treeBuildsRow.domain false w args ∧ laidMetH Tryd.prog theLaid w) ∧ sizedMet enc Tryd.prog Tryd.f3 (OpenSpec.ofChange Rows.treeBuildsSpec) false w args)
      (Rows.treeBuildsSpec.post enc Tryd.prog Tryd.f3 false true false false) := by
  refine returnsInHanded_of_change_and (C := Tryd.checked) (X := fun w _ => laidMetH Tryd.prog theLaid w) (fun _ _ _ hh h => h.of_heap hh) own started (by kernel_rfl) Tryd.func3
    (ChangeSpec.witness_shaped (enc := enc) (C := Tryd.checked) (os := os) (X := fun w _ => laidMetH Tryd.prog theLaid w) false (World.laidAll Tryd.prog os theLaid) #[.string ⟨#[]⟩, .slice none 0 0, .slice none 0 0] 8 (World.laidAll_os _ _ _)
      (World.shaped_of_ZipB (by kernel_rfl) (by kernel_rfl)) (by kernel_rfl) (by kernel_rfl) (by kernel_rfl) (by rw [laid_plain]; exact laid_met os _)) ?_
  intro W base args ds gs before hval hW _ _ _ _
  have hA := hW
  obtain ⟨p, q, hA, _⟩ := hA
  have hA' : DataW.TrodAll enc Tryd.prog W 0 (fun _ => true) true Tryd.f3.params.toList args.toList ds p := hA
  rw [Tryd.params3] at hA'
  obtain ⟨v0, v1, v2, d0, d1, d2, p0, p1, p2, h0, h1, h2, hargs, hds, hp⟩ := trodAll_three' hA'
  subst hds
  exact law_contract (s := Rows.treeBuildsSpec) laidOut (by kernel_rfl) rfl Tryd.underlying4 rfl ⟨rfl, rfl, rfl⟩ hval hW (builds_law W _ _)

theorem builds_row : Rows.TreeBuildsSaid :=
  OpenClaim.holds_of_wide 3 Tryd.f3 rfl rfl rfl rfl rfl rfl rfl ⟨rfl, rfl, rfl, rfl, rfl⟩ rfl rfl rfl rfl rfl (by kernel_rfl) Tryd.func3 (by kernel_rfl)
    (of_decide_eq_true (by kernel_rfl)) (by unfold Func.isWrapper; first | (rw [if_pos (by decide +kernel)]; kernel_rfl) | (rw [if_neg (by decide +kernel)]; exact ⟨rfl, rfl⟩))
    (fun os started H enc _ => builds_lifted os started H enc)
theorem tree_builds : Rows.TreeBuildsCardSaid :=
  Claim7.holds_tied_plain_at .later [] [.data, .data, .data, .data, .pinned] true (true, "4e97a17132743d3a96b764d1e85d85c7fa0fbe0e54f8e82b5b480c8ba7bd7756") false builds_row (fun _ h => by cases h) (by kernel_rfl) (fun _ h => by cases h) treeBuilds_row_tie rfl ⟨rfl, rfl⟩ (by kernel_rfl) rfl
    (fun f fn hf hfn => by
      obtain rfl : f = 3 := Option.some.inj ((show Tryd.prog.funcNamed "touchstone/touchstonelaw06.TreeBuilds" = some 3 by kernel_rfl).symm.trans hf) |>.symm
      obtain rfl : fn = Tryd.f3 := (Option.some.inj (Tryd.func3.symm.trans hfn)).symm
      exact ⟨by kernel_rfl, fun j t ht => by
        rw [Tryd.params3] at ht
        have hm : t ∈ [9, 22, 22] := by simpa using Array.mem_of_getElem? ht
        have hall : ([9, 22, 22].all fun u => !Tryd.prog.wantsStandIn u) = true := by kernel_rfl
        exact (show Tryd.prog.wantsStandIn t = false by simpa using List.all_eq_true.1 hall t hm)⟩)
    (by kernel_rfl)
#print axioms tree_builds
end Go.Proofs.YtfoelgkkoopheaaDoor
