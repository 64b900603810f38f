/- Contracts and plain laws, in one text. Plain laws of a right tree: each node's leaves stand one behind another. No program in sight. | tree.Text. | tree.Text: the walk. | Plain: the document's forms, and that its Right is the program's. No program in sight. | append(own row, slice...): the slice may be of none. | The document's Leaves: the walk. | Plain laws of the flat tree: one node over all leaves. No program in sight. | TreeFlat: the walk. | TreeBuilds: what its loop keeps in memory: the builder, the nodes that are wanted, the tokens. -/
import Derived.Test.YtfoelgkkoopheaaDoorRigM3
import Derived.Test.YtfoelgkkoopheaaDoorRigM4
import Derived.Test.YtfoelgkkoopheaaDoorRigM1
import Derived.Deep.Upon
import Derived.Deep.AppendLies
/- Plain laws of a right tree: each node's leaves stand one behind another. No program in sight. -/
namespace Go.Proofs.YtfoelgkkoopheaaDoor.Tr

theorem marks_mem : ∀ {ks : List Int} {kid kid' : List Bool}, marks kid ks = some kid' → (∀ k ∈ ks, 0 ≤ k) → ∀ i, kid'.getD i false = true → kid.getD i false = true ∨ (i : Int) ∈ ks
  | [], kid, kid', h, _, i, hi => by
    simp only [marks, Option.some.injEq] at h
    subst h
    exact Or.inl hi
  | k :: ks, kid, kid', h, hk, i, hi => by
    unfold marks at h
    split at h
    · cases h
    · rcases marks_mem h (fun x hx => hk x (by simp [hx])) i hi with h1 | h1
      · by_cases he : i = k.toNat
        · have := hk k (by simp)
          right
          rw [show (i : Int) = k by omega]
          simp
        · left
          simp only [List.getD] at h1 ⊢
          rwa [List.getElem?_set_ne (by omega)] at h1
      · exact Or.inr (List.mem_cons_of_mem _ h1)
theorem rightGo_mem {t : T} : ∀ {l : List Nd} {i : Nat} {kid kid' : List Bool}, rightGo t i l kid = some kid' → t.nodes.drop i = l → ∀ j, kid'.getD j false = true → kid.getD j false = true ∨ ∃ (m : Nat) (n : Nd), t.nodes[m]? = some n ∧ (j : Int) ∈ n.kids
  | [], i, kid, kid', h, _, j, hj => by
    simp only [rightGo, Option.some.injEq] at h
    subst h
    exact Or.inl hj
  | n :: l, i, kid, kid', h, hl, j, hj => by
    have hlt : i < t.nodes.length := by
      rcases Nat.lt_or_ge i t.nodes.length with h1 | h1
      · exact h1
      · rw [List.drop_eq_nil_of_le h1] at hl; cases hl
    have hl2 := List.drop_eq_getElem_cons hlt
    rw [hl] at hl2
    injection hl2 with e1 e2
    have hn : t.nodes[i]? = some n := by rw [List.getElem?_eq_getElem hlt, ← e1]
    unfold rightGo at h
    split at h
    · rename_i hfm
      split at h
      · cases h
      · rename_i kid1 hm
        rcases rightGo_mem h e2.symm j hj with h1 | h1
        · rcases marks_mem hm (fun k hk => ((formed_low hfm).1 k hk).1) j h1 with h2 | h2
          · exact Or.inl h2
          · exact Or.inr ⟨i, n, hn, h2⟩
        · exact Or.inr h1
    · cases h

/-- In a right tree each place but the last is a kid of a later one; the root's leaves are all tokens. -/
theorem right_all {t : T} (h : right t = true) : Low t.nodes ∧ 0 < t.nodes.length ∧ leafs t.nodes (t.nodes.length - 1) = (List.range t.toks.length).map (fun i : Nat => (i : Int)) ∧
    ∀ j, j + 1 < t.nodes.length → ∃ (m : Nat) (n : Nd), j < m ∧ t.nodes[m]? = some n ∧ (j : Int) ∈ n.kids := by
  cases hg : rightGo t 0 t.nodes (List.replicate t.nodes.length false) with
  | none => rw [right_none hg] at h; cases h
  | some kid =>
    have hf := right_facts hg
    rw [right_some hg] at h
    simp only [Bool.and_eq_true, Bool.not_eq_true', beq_iff_eq] at h
    obtain ⟨⟨h1, h2⟩, h3⟩ := h
    have hk0 : 0 < kid.length := by
      cases kid with
      | nil => simp at h1
      | cons _ _ => simp
    refine ⟨hf.1, by omega, h3, fun j hj => ?_⟩
    have hkj : kid.getD j false = true := by
      have hjk : j < kid.length := by omega
      cases hv : kid[j] with
      | true => simp [List.getD, List.getElem?_eq_getElem hjk, hv]
      | false =>
        have : (kid.take (kid.length - 1)).contains false = true := by
          rw [List.contains_iff_mem]
          refine List.mem_of_getElem? (i := j) ?_
          rw [List.getElem?_take, if_pos (by omega), List.getElem?_eq_getElem hjk, hv]
        rw [h2] at this
        cases this
    rcases rightGo_mem hg (by simp) j hkj with h4 | ⟨m, n, hn, hm⟩
    · simp [List.getD, List.getElem?_replicate] at h4
      split at h4 <;> simp at h4
    · have := (hf.1 m n hn).1 _ hm
      exact ⟨m, n, by omega, hn, hm⟩
theorem infix_flatMap {α β : Type} {f : α → List β} {x : α} : ∀ {l : List α}, x ∈ l → f x <:+: l.flatMap f
  | [], h => by cases h
  | y :: l, h => by
    rw [List.flatMap_cons]
    rcases List.mem_cons.1 h with rfl | h
    · exact ⟨[], l.flatMap f, by simp⟩
    · exact (infix_flatMap h).trans ⟨f y, [], by simp⟩
theorem leafs_infix {t : T} (h : right t = true) : ∀ (d i : Nat), t.nodes.length - 1 - i = d → i < t.nodes.length → leafs t.nodes i <:+: leafs t.nodes (t.nodes.length - 1) := by
  obtain ⟨hlow, h0, _, hkid⟩ := right_all h
  intro d
  induction d using Nat.strongRecOn with
  | ind d ih =>
    intro i hd hi
    by_cases he : i = t.nodes.length - 1
    · rw [he]
      exact List.infix_refl _
    · obtain ⟨m, n, hm, hn, hk⟩ := hkid i (by omega)
      have hml := get_lt hn
      have h1 : n.kind ≠ 19 := by
        intro e
        rw [(hlow m n hn).2 e] at hk
        cases hk
      have h2 := leafs_node hlow hn h1
      have h3 : leafs t.nodes i <:+: leafs t.nodes m := by
        rw [h2]
        have := infix_flatMap (f := fun k : Int => leafs t.nodes k.toNat) hk
        simpa using this
      exact h3.trans (ih (t.nodes.length - 1 - m) (by omega) m rfl hml)
/-- A node's leaves: from one place to another. -/
theorem leafs_run {t : T} (h : right t = true) {i : Nat} (hi : i < t.nodes.length) : ∃ a, leafs t.nodes i = (List.range (leafs t.nodes i).length).map (fun j : Nat => ((a + j : Nat) : Int)) ∧ a + (leafs t.nodes i).length ≤ t.toks.length := by
  obtain ⟨x, y, hxy⟩ := leafs_infix h _ i rfl hi
  rw [(right_all h).2.2.1] at hxy
  have hlen := congrArg List.length hxy
  simp only [List.length_append, List.length_map, List.length_range] at hlen
  refine ⟨x.length, ?_, by omega⟩
  apply List.ext_getElem?
  intro j
  by_cases hj : j < (leafs t.nodes i).length
  · have h1 : (x ++ leafs t.nodes i ++ y)[x.length + j]? = (leafs t.nodes i)[j]? := by
      rw [List.append_assoc, List.getElem?_append_right (by omega), Nat.add_sub_cancel_left, List.getElem?_append_left hj]
    rw [← h1, hxy, List.getElem?_map, List.getElem?_map, List.getElem?_range (by omega), List.getElem?_range hj]
    rfl
  · rw [List.getElem?_eq_none (by omega), List.getElem?_eq_none (by simp; omega)]
end Go.Proofs.YtfoelgkkoopheaaDoor.Tr
/- tree.Text. -/
namespace Go.Proofs.YtfoelgkkoopheaaDoor
open Go.RowKit

/-- The first token's lead is struck. -/
def clearLead : List Tr.Tk → List Tr.Tk
  | [] => []
  | k :: l => ⟨k.kind, [], k.text, k.pos⟩ :: l
/-- A node's text, off the places of its leaves. -/
def textAt (toks : List Tr.Tk) (l : List Int) : List UInt8 :=
  match l with
  | [] => []
  | a :: r => wholeOf (clearLead ((toks.drop a.toNat).take (r.length + 1)))
def TextOut (t : Tr.T) (n : Int) : List UInt8 := if Tr.check t n = 0 then textAt t.toks (Tr.leafs t.nodes n.toNat) else []

theorem RdS.sub {w : World} {P : Nat → Prop} {b off n c : Nat} {toks : List Tr.Tk} (h : RdS w P 4 (.slice (some ⟨b, off, none⟩) n c) n (tksCells toks)) {a k : Nat} (hn : n = toks.length) (hk : a + k ≤ n) : RdS w P 4 (.slice (some ⟨b, off + a * 4, none⟩) k (c - a)) k (tksCells ((toks.drop a).take k)) := by
  subst hn
  obtain ⟨_, x, c', he, hc, hd⟩ := h
  simp only [Value.slice.injEq, true_and] at he
  obtain ⟨rfl, rfl⟩ := he
  have hlen : ((toks.drop a).take k).length = k := by simp; omega
  refine ⟨by rw [tksCells, flatMap_len (f := tkCells) (s := 4) (fun _ => rfl), hlen], _, _, rfl, by omega, Or.inr ⟨b, off + a * 4, rfl, ?_, ?_⟩⟩
  · rcases hd with ⟨h, _⟩ | ⟨b', o', e, h5, _⟩
    · cases h
    · injection e with e
      injection e with e1 e2
      subst e1
      exact h5.imp (fun h => by omega) id
  · rcases hd with ⟨h, _⟩ | ⟨b', o', e, _, hr⟩
    · cases h
    · injection e with e
      injection e with e1 e2
      subst e1 e2
      refine rangeAt_flat (f := tkCells) (s := 4) (fun _ => rfl) fun i x hx => ?_
      have hik := Tr.get_lt hx
      rw [hlen] at hik
      rw [List.getElem?_take, if_pos hik, List.getElem?_drop] at hx
      have := rangeAt_piece (f := tkCells) (s := 4) (fun _ => rfl) hr hx
      rw [show off + a * 4 + i * 4 = off + (a + i) * 4 by omega]
      exact this
theorem clear_cells {w : World} {B n c g : Nat} {k : Tr.Tk} {r : List Tr.Tk} (h : w.ownsRow B 34 4 (.slice (some ⟨g, 0, none⟩) n c) n (tksCells (k :: r))) :
    RdS (w.setCell ⟨g, 1, none⟩ (.string ⟨#[]⟩)) (fun b => b = g) 4 (.slice (some ⟨g, 0, none⟩) n c) n (tksCells (clearLead (k :: r))) ∧ (∃ u, w.cell? ⟨g, 1, none⟩ = some u) ∧ w.frozen? ⟨g, 1, none⟩ = false := by
  have hl := h.1
  have hcells := fun j u hj => h.cells (g := g) rfl j u hj
  have hf : ∃ cur, w.heap[g]? = some (.cells cur 34 (0, 0)) := ownsRow_cells h rfl
  obtain ⟨cur, hcur⟩ := hf
  have hnc : n ≤ c := by
    rcases h.2 with ⟨h1, _⟩ | ⟨g', cap, _, he, _, _, hle, _⟩
    · cases h1
    · simp only [Value.slice.injEq] at he
      omega
  have h1 := hcells 1 (.string ⟨k.lead.toArray⟩) (by simp [tksCells, tkCells])
  rw [Addr.add_mid] at h1
  refine ⟨⟨?_, _, _, rfl, hnc, Or.inr ⟨g, 0, rfl, Or.inr rfl, ?_⟩⟩, ⟨_, h1⟩, frozen_of_heap hcur 1⟩
  · rw [← hl]
    simp [tksCells, tkCells, clearLead]
  · intro j u hj
    rw [Nat.zero_add]
    by_cases hj1 : j = 1
    · subst hj1
      simp [tksCells, tkCells, clearLead] at hj
      rw [← hj]
      exact World.cell?_setCell_same' _ _ _ (by rw [h1]; rfl)
    · have hj2 : (tksCells (k :: r))[j]? = some u := by
        rw [← hj]
        match j, hj1 with
        | 0, _ => simp [tksCells, tkCells, clearLead]
        | j + 2, _ => simp [tksCells, tkCells, clearLead]
      have h2 := hcells j u hj2
      rw [Addr.add_mid, Nat.zero_add] at h2
      rw [World.cell?_setCell_other _ _ _ _ (by intro e; injection e with _ e _; exact hj1 e.symm)]
      exact h2
theorem whole_clear_len (l : List Tr.Tk) : (wholeOf (clearLead l)).length ≤ (wholeOf l).length := by
  cases l with
  | nil => simp [clearLead]
  | cons k l => simp [clearLead, wholeOf]
theorem whole_part_len (l : List Tr.Tk) (a k : Nat) : (wholeOf ((l.drop a).take k)).length ≤ (wholeOf l).length := by
  have h1 : wholeOf l = wholeOf (l.take a) ++ (wholeOf ((l.drop a).take k) ++ wholeOf ((l.drop a).drop k)) := by
    unfold wholeOf
    rw [← List.flatMap_append, List.take_append_drop, ← List.flatMap_append, List.take_append_drop]
  rw [h1]
  simp only [List.length_append]
  omega
end Go.Proofs.YtfoelgkkoopheaaDoor
/- tree.Text: the walk. -/
namespace Go.Proofs.YtfoelgkkoopheaaDoor
open Go.RowKit

theorem rt_leaf_any {w : World} {B n c : Nat} {a : Option Addr} {l : List Int} (h : w.ownsRow B 3 1 (.slice a n c) n (intCells l)) {i : Nat} {x : Int} (hx : l[i]? = some x) (hn : 0 < n) : ∃ g, a = some ⟨g, 0, none⟩ ∧ w.cell? ⟨g, i, none⟩ = some (.int .i64 x) := by
  obtain ⟨g, cap, he, _, _⟩ := h.form hn
  simp only [Value.slice.injEq] at he
  obtain ⟨rfl, _, _⟩ := he
  refine ⟨g, rfl, ?_⟩
  have h2 := h.cells (g := g) rfl i (.int .i64 x) (by simp [intCells, hx])
  rwa [Addr.add_mid, Nat.zero_add] at h2
set_option maxRecDepth 100000 in
set_option maxHeartbeats 2000000 in
theorem text_calls {w : World} {P : Nat → Prop} {vt vn : Value} {t : Tr.T} (h : RdT w P vt vn t) (hP : ∀ k, P k → k < w.heap.size) (hn : t.nodes.length ≤ 1073741823) (ht : t.toks.length ≤ 1073741823) (hkids : ∀ n ∈ t.nodes, n.kids.length ≤ 1073741823) (n : Int)
    (hl : (wholeOf t.toks).length ≤ 1073741824) :
    Calls Tryd.prog 17 #[.agg #[vt, vn], .int .i64 n] w fun e w' => e = .returned (.tuple #[.string ⟨(TextOut t n).toArray⟩, .int .i64 (Tr.check t n)]) ∧ Below w.heap.size w w' := by
  have hb1 : Below w.heap.size w (w.alloc (.cells #[vt, vn] 41)) := (Below.refl _ _).alloc (Nat.le_refl _) _
  have HC := Lib.hid (check_node_calls (h.keep (Keeps.of hb1 hP)) (fun k hk => Nat.lt_of_lt_of_le (hP k hk) hb1.size) hn (by omega) hkids n)
  obtain ⟨at_, ct, rfl⟩ := h.1.form
  obtain ⟨an, cn, rfl⟩ : ∃ a c, vn = .slice a t.nodes.length c := by
    obtain ⟨kvs, _, h2, _⟩ := h.2
    exact h2.form
  have HB := Lib.hid hb1
  have HH := Lib.hid (And.intro h (And.intro hP (And.intro hn (And.intro ht (And.intro hkids hl)))))
  unfold TextOut
  clear h hP hb1 hn ht hkids hl
  by_cases hc : Tr.check t n = 0
  · rw [if_pos hc]
    rw [hc] at HC ⊢
    obtain ⟨hr, h0, h1⟩ := check_zero hc
    obtain ⟨i, rfl⟩ : ∃ i : Nat, n = i := ⟨n.toNat, by omega⟩
    rw [Int.toNat_natCast]
    have hil : i < t.nodes.length := by omega
    obtain ⟨a, hrun, hroom⟩ := Tr.leafs_run hr hil
    have hfa := Tr.right_all hr
    have hsz : Tr.size t.nodes i ≤ 1073741823 := by
      cases hg : Tr.rightGo t 0 t.nodes (List.replicate t.nodes.length false) with
      | none => rw [Tr.right_none hg] at hr; cases hr
      | some kid => have := (Tr.right_facts hg).2.1 i hil; have := HH.out.2.2.1; omega
    have HLV : Hid (∀ W : World, Below w.heap.size w W → Calls Tryd.prog 35 #[.agg #[.slice at_ t.toks.length ct, .slice an t.nodes.length cn], .int .i64 (i : Int)] W fun e w' => ∃ v, e = .returned v ∧ w'.ownsRow W.heap.size 3 1 v (Tr.leafs t.nodes i).length (intCells (Tr.leafs t.nodes i)) ∧ Below W.heap.size W w') :=
      fun W hW => leaves_calls (HH.out.1.keep (Keeps.of hW HH.out.2.1)) (fun k hk => Nat.lt_of_lt_of_le (HH.out.2.1 k hk) hW.size) hfa.1 i hil (by have := HH.out.2.2.1; omega) hsz
    obtain ⟨l, hle⟩ : ∃ l, Tr.leafs t.nodes i = l := ⟨_, rfl⟩
    rw [hle] at HLV hrun hroom ⊢
    clear hc hr h0 h1 hil hfa hsz hle
    go_enter Tryd.func17, Tryd.ntmps17
    go_wp2_with fail
    refine HC.out.mono ?_
    rintro e w2 ⟨rfl, hb2⟩
    have hbx := chk_box hb2
    have c0 := cell_of_heap hbx 0 rfl
    have c1 := cell_of_heap hbx 1 rfl
    have l0 := cell_lt c0
    have hw2 : Below w.heap.size w w2 := HB.out.trans (hb2.mono HB.out.size)
    have HW := Lib.hid (And.intro hw2 hbx)
    have HRN := Lib.hid hrun
    clear hb2 hbx hw2 hrun
    dsimp only
    go_wp2_with fail
    refine (HLV.out w2 HW.out.1).mono ?_
    rintro e w3 ⟨v3, rfl, ho3, hb3⟩
    obtain ⟨a3, c3, rfl⟩ := ownsRow_form ho3
    have hbx3 := anc_box HW.out.2 hb3
    have HW3 := Lib.hid (And.intro (HW.out.1.trans (hb3.mono HW.out.1.size)) (And.intro hbx3 ho3))
    clear c0 c1 l0 hb3 hbx3 ho3
    have c0 := cell_of_heap HW3.out.2.1 0 rfl
    have l0 := cell_lt c0
    cases l with
    | nil =>
      dsimp only
      go_wp2_with fail
      go_ret2
      exact ⟨rfl, HW3.out.1⟩
    | cons x r =>
      obtain ⟨m, hm⟩ : ∃ m, r.length = m := ⟨_, rfl⟩
      have hxl : (x :: r).length = m + 1 := by simp [hm]
      have HXL := Lib.hid hxl
      rw [hxl] at HW3 hroom ⊢
      have hx0 : x = (a : Int) := by
        have := congrArg (fun z => z[0]?) HRN.out
        rw [hxl] at this
        simpa using this
      subst hx0
      have hym : ((a : Int) :: r)[m]? = some ((a + m : Nat) : Int) := by
        have := congrArg (fun z => z[m]?) HRN.out
        rw [hxl] at this
        simpa using this
      obtain ⟨g3, rfl, hc0⟩ := rt_leaf_any HW3.out.2.2 (i := 0) (x := (a : Int)) rfl (by omega)
      obtain ⟨g3', hg3, hcm⟩ := rt_leaf_any HW3.out.2.2 hym (by omega)
      obtain rfl : g3' = g3 := by injection hg3 with e; injection e with e; exact e.symm
      have hroom' : (a : Int) + (m : Int) + 1 ≤ (t.toks.length : Int) := by omega
      have htl : (t.toks.length : Int) ≤ 1073741823 := by have := HH.out.2.2.2.1; omega
      have HYM := Lib.hid (And.intro hym hm)
      obtain ⟨k0, hk0⟩ : ∃ k0, t.toks[a]? = some k0 := ⟨_, List.getElem?_eq_getElem (by omega)⟩
      obtain ⟨bt, ot, ct', het, hPt, _⟩ := HH.out.1.1.tok hk0
      obtain ⟨rfl, rfl⟩ : at_ = some ⟨bt, ot, none⟩ ∧ ct = ct' := by
        simp only [Value.slice.injEq] at het
        exact ⟨het.1, het.2.2⟩
      have htc : (t.toks.length : Int) ≤ (ct : Int) := by
        obtain ⟨_, _, _, he, hc, _⟩ := HH.out.1.1
        simp only [Value.slice.injEq] at he
        omega
      have HK := Lib.hid (And.intro hk0 hPt)
      have lg := cell_lt hc0
      have w1 : IntKind.i64.wrap ((m : Int) + 1 - 1) = (m : Int) := by rw [show (m : Int) + 1 - 1 = (m : Int) by omega]; exact IntWalk.i64_in _ (by omega)
      have w2' : IntKind.i64.wrap (m : Int) = (m : Int) := IntWalk.i64_in _ (by omega)
      have w3' : IntKind.i64.wrap ((a : Int) + (m : Int) + 1) = (a : Int) + (m : Int) + 1 := IntWalk.i64_in _ (by omega)
      have w4' : (0 : Int) ≤ (m : Int) := by omega
      have w5' : (m : Int) < (m : Int) + 1 := by omega
      have w6' : (0 : Int) < (m : Int) + 1 := by omega
      have w7' : (0 : Int) ≤ (a : Int) := by omega
      have w8' : (a : Int) ≤ (a : Int) + (m : Int) + 1 := by omega
      have w9' : (a : Int) + (m : Int) + 1 ≤ (ct : Int) := by omega
      have w10' : ¬ ct = a := by omega
      have w11' : ((a : Int) + (m : Int) + 1).toNat - a = m + 1 := by omega
      have hsub : RdS w3 P 4 (.slice (some ⟨bt, ot + a * 4, none⟩) (m + 1) (ct - a)) (m + 1) (tksCells ((t.toks.drop a).take (m + 1))) := RdS.sub (HH.out.1.1.keep (Keeps.of HW3.out.1 HH.out.2.1)) rfl (by omega)
      have HCL := Lib.hid (clone_tok (w := w3.drew) (hsub.keep fun _ _ => rfl) (by omega) (tks_one _))
      clear hsub
      clear hxl hg3 hym hm het hk0 hPt hroom
      dsimp only
      go_wp2_with fail
      go_region_held3 (fun w' => w'.cell? ⟨w.heap.size, 0, none⟩ = some (.slice (some ⟨bt, ot, none⟩) t.toks.length ct) ∧ w'.cell? ⟨g3', 0, none⟩ = some (.int .i64 (a : Int)) ∧ w'.cell? ⟨g3', m, none⟩ = some (.int .i64 ((a + m : Nat) : Int))) (first | exact ⟨c0, hc0, hcm⟩ | exact ⟨e0, e1, e2⟩ | go_keep)
        ((first
          | (go_at_call 28; refine HCL.out.mono ?_; rintro e w4 ⟨v4, rfl, ho4, hb4⟩; obtain ⟨g4, c4, rfl, _, _⟩ := ho4.form (Nat.succ_pos m); have e0 := (hb4.cell (p := ⟨w.heap.size, 0, none⟩) l0).trans c0; have e1 := (hb4.cell (p := ⟨g3', 0, none⟩) lg).trans hc0; have e2 := (hb4.cell (p := ⟨g3', m, none⟩) lg).trans hcm; have HO4 := Lib.hid ho4; have HB4 := Lib.hid hb4; clear ho4 hb4)))
      obtain ⟨rest, hrest⟩ : ∃ rest, (t.toks.drop a).take (m + 1) = k0 :: rest := by
        rw [Tr.drop_get HK.out.1]
        exact ⟨_, rfl⟩
      have hlen2 : (clearLead (k0 :: rest)).length = m + 1 := by
        have := congrArg List.length hrest
        simp only [List.length_take, List.length_drop, List.length_cons] at this
        simp only [clearLead, List.length_cons]
        omega
      have ho4 := HO4.out
      rw [hrest] at ho4
      obtain ⟨hrd, ⟨u, hu⟩, hfz⟩ := clear_cells ho4
      have hg4 := (ho4.lt g4 rfl).2
      have hwl := whole_clear_len (k0 :: rest)
      have hwp := whole_part_len t.toks a (m + 1)
      rw [hrest] at hwp
      have HTX : Hid (textAt t.toks ((a : Int) :: r) = wholeOf (clearLead (k0 :: rest))) := by
        refine Lib.hid ?_
        unfold textAt
        simp only
        rw [HYM.out.2, Int.toNat_natCast, hrest]
      have HWH : Hid (Calls Tryd.prog 33 #[.slice (some ⟨g4, 0, none⟩) (m + 1) c4] (w4.setCell ⟨g4, 1, none⟩ (.string ⟨#[]⟩)) fun e w' => e = .returned (.string ⟨(wholeOf (clearLead (k0 :: rest))).toArray⟩) ∧ Below (w4.setCell ⟨g4, 1, none⟩ (.string ⟨#[]⟩)).heap.size (w4.setCell ⟨g4, 1, none⟩ (.string ⟨#[]⟩)) w') := by
        refine Lib.hid ?_
        have h := whole_calls (w := w4.setCell ⟨g4, 1, none⟩ (.string ⟨#[]⟩)) (P := fun b => b = g4) (v := .slice (some ⟨g4, 0, none⟩) (m + 1) c4) (toks := clearLead (k0 :: rest)) (by rw [hlen2]; exact hrd) (fun k hk => by subst hk; simpa [World.setCell] using hg4) (by rw [hlen2]; omega) (by have := HH.out.2.2.2.2.2; omega)
        exact h
      have hs4 : (w4.setCell ⟨g4, 1, none⟩ (.string ⟨#[]⟩)).heap.size = w4.heap.size := by simp [World.setCell]
      have hbe : Below w.heap.size w (w4.setCell ⟨g4, 1, none⟩ (.string ⟨#[]⟩)) := by
        have h1 : Below w3.heap.size w3.drew w4 := HB4.out
        refine ((HW3.out.1.drew).trans (h1.mono HW3.out.1.size)).setCell ?_ _
        have h2 := (ho4.lt g4 rfl).1
        have h3 := HW3.out.1.size
        have h4 : w3.drew.heap.size = w3.heap.size := rfl
        simp only
        omega
      have HE := Lib.hid (And.intro hbe hs4)
      clear hrd hwl hwp hrest ho4 hlen2 hbe hs4 e0 e1 e2 c0 hc0 hcm w1 w2' w3' w10' w11'
      go_wp2_with fail
      refine HWH.out.mono ?_
      rintro e w5 ⟨rfl, hb5⟩
      have HB5 := Lib.hid hb5
      clear hb5
      dsimp only
      go_wp2_with fail
      go_ret2
      exact ⟨by rw [HTX.out]; rfl, HE.out.1.trans (HB5.out.mono HE.out.1.size)⟩
  · rw [if_neg hc]
    have hc' : (Tr.check t n != 0) = true := by simp [hc]
    generalize Tr.check t n = c at *
    clear hc
    go_enter Tryd.func17, Tryd.ntmps17
    go_wp2_with fail
    refine HC.out.mono ?_
    rintro e w2 ⟨rfl, hb2⟩
    have HB2 := Lib.hid hb2
    clear hb2
    dsimp only
    go_wp2_with fail
    go_ret2
    exact ⟨rfl, HB.out.trans (HB2.out.mono HB.out.size)⟩
end Go.Proofs.YtfoelgkkoopheaaDoor
/- Plain: the document's forms, and that its Right is the program's. No program in sight. -/
namespace Go.Proofs.YtfoelgkkoopheaaDoor.Tr

def okNode (t : T) (n : Nd) : Bool := !(decide (n.kind < 1) || decide (19 < n.kind) || (n.kind == 19 && (decide (0 < n.kids.length) || decide (n.tok < 0) || decide ((t.toks.length : Int) ≤ n.tok))) || (n.kind != 19 && n.tok != -1))
def badK (i : Nat) (k : Int) : Bool := decide (k < 0) || decide ((i : Int) ≤ k)
def cnt (i : Nat) : List Int → List Int → Option (List Int)
  | [], times => some times
  | k :: ks, times => if badK i k then none else cnt i ks (times.set k.toNat (times.getD k.toNat 0 + 1))
def formsGo (t : T) : Nat → List Nd → List Int → Option (List Int)
  | _, [], times => some times
  | i, n :: l, times => if okNode t n then (match cnt i n.kids times with | none => none | some x => formsGo t (i + 1) l x) else none
def forms (t : T) : Bool := match formsGo t 0 t.nodes (List.replicate t.nodes.length 0) with | none => false | some times => (times.take (t.nodes.length - 1)).all (· == 1) && decide (0 < t.nodes.length)

theorem formed_ok {t : T} {i : Nat} {n : Nd} : formed t i n = (okNode t n && !(n.kids.any (badK i))) := by
  have e : ∀ l : List Int, (l.any fun k => decide (k < 0) || decide ((i : Int) ≤ k)) = l.any (badK i) := fun l => rfl
  unfold formed okNode
  by_cases h1 : n.kind < 1 ∨ 19 < n.kind
  · rw [if_pos h1]
    rcases h1 with h1 | h1 <;> simp [h1]
  · rw [if_neg h1]
    by_cases h2 : n.kind = 19
    · rw [if_pos h2]
      cases hk : n.kids with
      | nil =>
        simp only [h2, List.isEmpty_nil, List.length_nil, List.any_nil]
        by_cases h3 : n.tok < 0 <;> by_cases h4 : (t.toks.length : Int) ≤ n.tok <;> simp [h3, h4] <;> omega
      | cons k ks => simp [h2]
    · rw [if_neg h2, e]
      by_cases h3 : n.tok = -1 <;> simp [h2, h3, show ¬ n.kind < 1 by omega, show ¬ 19 < n.kind by omega]

/-- What the two counts have to do with each other. -/
def Rel (kid : List Bool) (times : List Int) : Prop := kid.length = times.length ∧ ∀ i, times.getD i 0 = if kid.getD i false then 1 else 0
theorem getD_set {α : Type} (l : List α) (d x : α) (i j : Nat) (h : i < l.length) : (l.set i x).getD j d = if i = j then x else l.getD j d := by
  simp only [List.getD]
  by_cases e : i = j
  · subst e
    rw [if_pos rfl, List.getElem?_set_self h]
    rfl
  · rw [if_neg e, List.getElem?_set_ne e]
theorem Rel.set {kid : List Bool} {times : List Int} (h : Rel kid times) {k : Nat} (hk : k < kid.length) (hf : kid.getD k false = false) : Rel (kid.set k true) (times.set k (times.getD k 0 + 1)) := by
  refine ⟨by simp [h.1], fun i => ?_⟩
  rw [getD_set _ _ _ _ _ hk, getD_set _ _ _ _ _ (by rw [← h.1]; exact hk), h.2 k, hf]
  by_cases e : k = i
  · simp [e]
  · simp only [if_neg e]
    exact h.2 i

theorem cnt_len {i : Nat} : ∀ {ks times times' : List Int}, cnt i ks times = some times' → times'.length = times.length ∧ ∀ j, times.getD j 0 ≤ times'.getD j 0
  | [], times, times', h => by
    simp only [cnt, Option.some.injEq] at h
    subst h
    exact ⟨rfl, fun j => Int.le_refl _⟩
  | k :: ks, times, times', h => by
    unfold cnt at h
    split at h
    · cases h
    · obtain ⟨h1, h2⟩ := cnt_len h
      refine ⟨by simpa using h1, fun j => Int.le_trans ?_ (h2 j)⟩
      rcases Nat.lt_or_ge k.toNat times.length with hlt | hge
      · rw [getD_set _ _ _ _ _ hlt]
        split
        · rename_i e; subst e; omega
        · exact Int.le_refl _
      · rw [List.set_eq_of_length_le hge]
        exact Int.le_refl _
theorem cnt_bad {i : Nat} : ∀ {ks times : List Int}, ks.any (badK i) = true → cnt i ks times = none
  | [], _, h => by simp at h
  | k :: ks, times, h => by
    unfold cnt
    by_cases hb : badK i k = true
    · rw [if_pos hb]
    · rw [if_neg hb]
      refine cnt_bad ?_
      simp only [List.any_cons, Bool.or_eq_true] at h
      exact h.resolve_left hb
theorem cnt_some {i : Nat} : ∀ {ks : List Int} (times : List Int), ks.any (badK i) = false → ∃ times', cnt i ks times = some times'
  | [], times, _ => ⟨times, rfl⟩
  | k :: ks, times, h => by
    simp only [List.any_cons, Bool.or_eq_false_iff] at h
    unfold cnt
    rw [if_neg (by simp [h.1])]
    exact cnt_some _ h.2
theorem cnt_marks {i : Nat} : ∀ {ks : List Int} {kid : List Bool} {times times' : List Int}, Rel kid times → i ≤ kid.length → cnt i ks times = some times' →
    (∀ kid', marks kid ks = some kid' → Rel kid' times') ∧ (marks kid ks = none → ∃ j, j < i ∧ 2 ≤ times'.getD j 0)
  | [], kid, times, times', hr, _, h => by
    simp only [cnt, Option.some.injEq] at h
    subst h
    refine ⟨fun kid' hm => ?_, fun hm => ?_⟩
    · simp only [marks, Option.some.injEq] at hm
      subst hm
      exact hr
    · simp [marks] at hm
  | k :: ks, kid, times, times', hr, hi, h => by
    unfold cnt at h
    split at h
    · cases h
    · rename_i hb
      simp only [badK, Bool.or_eq_true, decide_eq_true_eq, not_or] at hb
      have hk : k.toNat < kid.length := by omega
      by_cases hf : kid.getD k.toNat false = true
      · have h2 : marks kid (k :: ks) = none := by simp only [marks, hf, if_true]
        refine ⟨fun kid' hm => (by rw [h2] at hm; cases hm), fun _ => ⟨k.toNat, by omega, ?_⟩⟩
        have h3 := (cnt_len h).2 k.toNat
        rw [getD_set _ _ _ _ _ (by rw [← hr.1]; exact hk), if_pos rfl, hr.2, hf] at h3
        simpa using h3
      · have hf' : kid.getD k.toNat false = false := by simpa using hf
        have h2 : marks kid (k :: ks) = marks (kid.set k.toNat true) ks := by simp only [marks, hf']; rfl
        rw [h2]
        exact cnt_marks (hr.set hk hf') (by simpa using hi) h
theorem formsGo_len {t : T} : ∀ {l : List Nd} {i : Nat} {times times' : List Int}, formsGo t i l times = some times' → times'.length = times.length ∧ ∀ j, times.getD j 0 ≤ times'.getD j 0
  | [], _, times, times', h => by
    simp only [formsGo, Option.some.injEq] at h
    subst h
    exact ⟨rfl, fun j => Int.le_refl _⟩
  | n :: l, i, times, times', h => by
    unfold formsGo at h
    split at h
    · split at h
      · cases h
      · rename_i x hx
        obtain ⟨h1, h2⟩ := formsGo_len h
        obtain ⟨h3, h4⟩ := cnt_len hx
        exact ⟨h1.trans h3, fun j => Int.le_trans (h4 j) (h2 j)⟩
    · cases h
theorem formsGo_right {t : T} : ∀ {l : List Nd} {i : Nat} {kid : List Bool} {times : List Int}, Rel kid times → i + l.length ≤ kid.length →
    (∀ kid', rightGo t i l kid = some kid' → ∃ times', formsGo t i l times = some times' ∧ Rel kid' times') ∧ (rightGo t i l kid = none → formsGo t i l times = none ∨ ∃ times' j, formsGo t i l times = some times' ∧ j + 1 < i + l.length ∧ 2 ≤ times'.getD j 0)
  | [], i, kid, times, hr, _ => by
    refine ⟨fun kid' h => ?_, fun h => by simp [rightGo] at h⟩
    simp only [rightGo, Option.some.injEq] at h
    subst h
    exact ⟨times, rfl, hr⟩
  | n :: l, i, kid, times, hr, hi => by
    simp only [List.length_cons] at hi ⊢
    unfold rightGo formsGo
    rw [formed_ok]
    cases ho : okNode t n with
    | false => simp
    | true =>
      cases hb : n.kids.any (badK i) with
      | true => simp [cnt_bad hb]
      | false =>
        obtain ⟨x, hx⟩ := cnt_some times hb
        have hm := cnt_marks hr (by omega) hx
        simp only [Bool.not_false, Bool.and_self, if_true, hx]
        cases hk : marks kid n.kids with
        | none =>
          refine ⟨fun kid' h => by simp at h, fun _ => ?_⟩
          obtain ⟨j, hj, h2⟩ := hm.2 hk
          cases hg : formsGo t (i + 1) l x with
          | none => exact Or.inl rfl
          | some y => exact Or.inr ⟨y, j, rfl, by omega, Int.le_trans h2 ((formsGo_len hg).2 j)⟩
        | some kid1 =>
          have h1 := hm.1 kid1 hk
          have h2 := (cnt_len hx).1
          have h3 := formsGo_right (t := t) (l := l) (i := i + 1) h1 (by rw [h1.1, h2, ← hr.1]; omega)
          simp only
          refine ⟨h3.1, fun h => (h3.2 h).imp_right ?_⟩
          rintro ⟨y, j, e1, e2, e3⟩
          exact ⟨y, j, e1, by omega, e3⟩
theorem rel_start (n : Nat) : Rel (List.replicate n false) (List.replicate n 0) := by
  refine ⟨by simp, fun i => ?_⟩
  simp only [List.getD, List.getElem?_replicate]
  by_cases h : i < n <;> simp [h]

/-- Where the forms hold: the nodes are good for what follows. -/
theorem forms_right {t : T} (h : forms t = true) : ∃ kid, rightGo t 0 t.nodes (List.replicate t.nodes.length false) = some kid := by
  cases hg : rightGo t 0 t.nodes (List.replicate t.nodes.length false) with
  | some kid => exact ⟨kid, rfl⟩
  | none =>
    exfalso
    have h1 := (formsGo_right (t := t) (l := t.nodes) (i := 0) (rel_start t.nodes.length) (by simp)).2 hg
    unfold forms at h
    rcases h1 with h1 | ⟨times, j, h1, h2, h3⟩
    · rw [h1] at h
      cases h
    · rw [h1] at h
      simp only [Bool.and_eq_true, List.all_eq_true, beq_iff_eq] at h
      have hl := (formsGo_len h1).1
      simp only [List.length_replicate] at hl
      have hj : j < times.length := by omega
      have := h.1 times[j] (by
        refine List.mem_of_getElem? (i := j) ?_
        rw [List.getElem?_take, if_pos (by omega), List.getElem?_eq_getElem hj])
      simp only [List.getD, List.getElem?_eq_getElem hj, Option.getD_some] at h3
      omega
theorem right_forms (t : T) : right t = (forms t && (leafs t.nodes (t.nodes.length - 1) == (List.range t.toks.length).map fun i : Nat => (i : Int))) := by
  cases hg : rightGo t 0 t.nodes (List.replicate t.nodes.length false) with
  | none =>
    rw [right_none hg]
    cases hf : forms t with
    | false => rfl
    | true =>
      obtain ⟨kid, h⟩ := forms_right hf
      rw [hg] at h
      cases h
  | some kid =>
    rw [right_some hg]
    obtain ⟨times, h1, h2⟩ := (formsGo_right (t := t) (l := t.nodes) (i := 0) (rel_start t.nodes.length) (by simp)).1 kid hg
    have hl := (formsGo_len h1).1
    simp only [List.length_replicate] at hl
    have hkl : kid.length = t.nodes.length := h2.1.trans hl
    congr 1
    unfold forms
    rw [h1]
    simp only
    have e1 : (!kid.isEmpty) = decide (0 < t.nodes.length) := by
      rw [← hkl]
      cases kid <;> simp
    have e2 : (!(kid.take (kid.length - 1)).contains false) = (times.take (t.nodes.length - 1)).all (· == 1) := by
      rw [hkl, Bool.eq_iff_iff]
      simp only [Bool.not_eq_true', List.all_eq_true, beq_iff_eq]
      constructor
      · intro h x hx
        obtain ⟨i, hi⟩ := List.mem_iff_getElem?.1 hx
        rw [List.getElem?_take] at hi
        split at hi
        · rename_i hlt
          have hv := h2.2 i
          simp only [List.getD, hi, Option.getD_some] at hv
          cases hk : kid[i]? with
          | none => rw [List.getElem?_eq_none_iff] at hk; omega
          | some v =>
            cases v with
            | true => rw [hv]; simp [hk]
            | false =>
              have : (kid.take (t.nodes.length - 1)).contains false = true := by
                rw [List.contains_iff_mem]
                refine List.mem_of_getElem? (i := i) ?_
                rw [List.getElem?_take, if_pos hlt, hk]
              rw [h] at this
              cases this
        · cases hi
      · intro h
        cases hc : (kid.take (t.nodes.length - 1)).contains false with
        | false => rfl
        | true =>
          rw [List.contains_iff_mem] at hc
          obtain ⟨i, hi⟩ := List.mem_iff_getElem?.1 hc
          rw [List.getElem?_take] at hi
          split at hi
          · rename_i hlt
            have hv := h2.2 i
            simp only [List.getD, hi, Option.getD_some] at hv
            have hit : i < times.length := by omega
            have := h times[i] (by
              refine List.mem_of_getElem? (i := i) ?_
              rw [List.getElem?_take, if_pos hlt, List.getElem?_eq_getElem hit])
            rw [List.getElem?_eq_getElem hit] at hv
            simp only [Option.getD_some] at hv
            rw [this] at hv
            simp at hv
          · cases hi
    rw [e1, e2, Bool.and_comm]
end Go.Proofs.YtfoelgkkoopheaaDoor.Tr
/- append(own row, slice...): the slice may be of none. -/
namespace Go.Proofs.YtfoelgkkoopheaaDoor
open Go.RowKit

theorem run_append_row {P : Program} (w : World) (t ty : TypeId) (base : Nat) (e : TypeId) (i : TypeInfo) (z : Value) (size bytes : Nat) (ht : P.underlying t = some (.slice e)) (hi : P.info? e = some i) (hz : i.zero = some z)
    (hsize : i.size = size) (hby : i.bytes = bytes) (hzs : z.cells.size = size) (hsz : 0 < size)
    (v : Value) (n : Nat) (xs : List Value) (hown : w.ownsRow base e size v n xs) {Q : Nat → Prop} {x : Value} {m : Nat} {news : List Value} (hx : RdS w Q size x m news) (h1 : ∀ u ∈ news, u.oneCell' = true)
    (h63 : n + m ≤ maxLen) (hbytes : (n + m) * bytes ≤ 140737488355328) (hbase : base ≤ w.heap.size) :
    ∃ a cap w', (Builtin.append_ #[t, t] ty #[v, x]).run P w = .ok (.slice a (n + m) cap) w' ∧
      w'.ownsRow base e size (.slice a (n + m) cap) (n + m) (xs ++ news) ∧ w.grownBy w' v.ownBlock ∧ (∀ k, (Value.slice a (n + m) cap).ownBlock = some k → v.ownBlock = some k ∨ k = w.heap.size) := by
  obtain ⟨hl, ax, cx, rfl, hmc, hr⟩ := hx
  rcases Nat.eq_zero_or_pos m with h0 | h0
  · subst h0
    obtain rfl : news = [] := List.eq_nil_of_length_eq_zero (by simpa using hl)
    have hs : Src P i.size t (.slice ax 0 cx) 0 [] w := by
      rcases ax with _ | ad
      · exact Src.ofNil w ht cx
      · exact Src.ofSlice w ht ad 0 cx [] (by simp) (fun j u h => by simp at h) (fun u h => by cases h)
    have key : ∃ a c, v = .slice a n c ∧ n ≤ c := by
      rcases hown.2 with ⟨rfl, rfl⟩ | ⟨g, cap, cur, rfl, _, _, hn, _⟩
      · exact ⟨none, 0, rfl, Nat.le_refl _⟩
      · exact ⟨_, cap, rfl, hn⟩
    obtain ⟨a, c, rfl, hnc⟩ := key
    refine ⟨a, c, w, run_append_nothing (P := P) w t t ty e i ht hi a n c hnc _ hs, by simpa using hown, ⟨rfl, rfl, rfl, Nat.le_refl _, fun _ _ _ => rfl⟩, fun k hk => Or.inl hk⟩
  · rcases hr with ⟨_, h⟩ | ⟨b, off, rfl, _, hrg⟩
    · omega
    · obtain ⟨g, cap, w', hr, h2, h3, h4, h5⟩ := run_append_lies (P := P) w t ty base e i z size bytes ht hi hz hsize hby hzs hsz v n xs hown ⟨b, off, none⟩ m cx news hl (fun j u hj => by
        have := hrg j u hj
        rwa [Addr.add_mid]) h1 h0 h63 hbytes hbase w.heap.size rfl
      refine ⟨some ⟨g, 0, none⟩, cap, w', hr, h2, h3, fun k hk => ?_⟩
      simp only [Value.ownBlock, Option.some.injEq] at hk
      subst hk
      exact h4

/-- At a step of a region that draws its order. -/
theorem step_append_row {P : Program} {w : World} {ops : Array Oper} {o : Oper} {a : Act} {K : Act → World → Prop} {Q : Exit → Act → World → Prop} {E : Prop} (hgd : o.guard = none) (s x : Operand) (t : TypeId)
    (ho : o.op = .call { callee := .builtin .append, args := #[s, x], argTypes := #[t, t] })
    (base : Nat) (e : TypeId) (i : TypeInfo) (z : Value) (size bytes : Nat) (ht : P.underlying t = some (.slice e)) (hi : P.info? e = some i) (hz : i.zero = some z)
    (hsize : i.size = size) (hby : i.bytes = bytes) (hzs : z.cells.size = size) (hsz : 0 < size)
    (v : Value) (n : Nat) (xs : List Value) (hs : a.eval s = v) (hown : w.ownsRow base e size v n xs) {R : Nat → Prop} {xv : Value} {m : Nat} {news : List Value} (hxv : a.eval x = xv) (hx : RdS w R size xv m news) (h1 : ∀ u ∈ news, u.oneCell' = true)
    (h63 : n + m ≤ maxLen) (hbytes : (n + m) * bytes ≤ 140737488355328) (hbase : base ≤ w.heap.size)
    (h : ∀ a2 cap w', w'.ownsRow base e size (.slice a2 (n + m) cap) (n + m) (xs ++ news) → w.grownBy w' v.ownBlock → (∀ k, (Value.slice a2 (n + m) cap).ownBlock = some k → v.ownBlock = some k ∨ k = w.heap.size) → K (a.put o.dst (.slice a2 (n + m) cap)) w') :
    if Region.wanted o (yielded ops a.tmps) = true then Oper.wp P o a w K Q else E := by
  have hw : Region.wanted o (yielded ops a.tmps) = true := by simp [Region.wanted, hgd]
  rw [if_pos hw]
  obtain ⟨a2, cap, w', hr, h2, h3, h4⟩ := run_append_row (P := P) w t o.type base e i z size bytes ht hi hz hsize hby hzs hsz v n xs hown hx h1 h63 hbytes hbase
  unfold Oper.wp execOp
  simp only [ho, resolve, invoke, builtin, Sem.run_bind, Sem.run_pure, Result.andThen_ok, List.map_toArray, List.map_cons, List.map_nil, hs, hxv, hr]
  exact h a2 cap w' h2 h3 h4
end Go.Proofs.YtfoelgkkoopheaaDoor
/- The document's Leaves: the walk. -/
namespace Go.Proofs.YtfoelgkkoopheaaDoor
open Go.RowKit

/-- A row of ints that was just made. -/
theorem ints_new {w : World} (l : List Int) (hl : l.length ≤ maxLen) {base : Nat} (hb : base ≤ w.heap.size) : (w.alloc (.cells (intCells l).toArray 3)).ownsRow base 3 1 (.slice (some ⟨w.heap.size, 0, none⟩) l.length l.length) l.length (intCells l) := by
  refine ⟨by simp [intCells], Or.inr ⟨w.heap.size, l.length, (intCells l).toArray, rfl, hb, heap_alloc_new _ _, Nat.le_refl _, hl, by simp [intCells], ?_⟩⟩
  rw [Nat.mul_one]
  exact List.take_of_length_le (by simp [intCells])
/-- One int of a slice that came in. -/
theorem rdw_kid {w : World} {P : Nat → Prop} {v : Value} {l : List Int} (h : RdW w P 1 v l.length (intCells l)) {i : Nat} {x : Int} (hi : l[i]? = some x) : ∃ b off c, v = .slice (some ⟨b, off, none⟩) l.length c ∧ P b ∧ w.cell? ⟨b, off + i, none⟩ = some (.int .i64 x) := by
  have hlt := Tr.get_lt hi
  obtain ⟨h1, a, c, rfl, hc, h3⟩ := h
  rcases h3 with ⟨h3, _⟩ | ⟨b, off, rfl, h4, h5⟩
  · omega
  · refine ⟨b, off, c, rfl, h4.resolve_left (by omega), h5 i _ ?_⟩
    simp only [intCells, List.getElem?_map, hi, Option.map_some]
/-- The leaves of the first so many kids. -/
def lvTo (ns : List Tr.Nd) (n : Tr.Nd) (j : Nat) : List Int := (n.kids.take j).flatMap fun k => Tr.leafs ns k.toNat
theorem lvTo_succ (ns : List Tr.Nd) {n : Tr.Nd} {j : Nat} {k : Int} (h : n.kids[j]? = some k) : lvTo ns n (j + 1) = lvTo ns n j ++ Tr.leafs ns k.toNat := by
  unfold lvTo
  rw [List.take_add_one, h]
  simp
theorem lvTo_all (ns : List Tr.Nd) (n : Tr.Nd) : lvTo ns n n.kids.length = n.kids.flatMap fun k => Tr.leafs ns k.toNat := by
  unfold lvTo
  rw [List.take_length]
theorem lvTo_le (ns : List Tr.Nd) (n : Tr.Nd) (j : Nat) : (lvTo ns n j).length ≤ (lvTo ns n n.kids.length).length := by
  rw [lvTo_all]
  unfold lvTo
  conv => rhs; rw [← List.take_append_drop j n.kids, List.flatMap_append, List.length_append]
  omega

/-- What is held at the loop. -/
def RLv (w : World) (d0 d1 : Array Value) (ns : List Tr.Nd) (n : Tr.Nd) (k : Nat) (v6 v7 : Value) (wr : World) : Prop :=
  ∃ (j : Nat) (a : Option Addr) (c : Nat), v7 = .int .i64 j ∧ v6 = .slice a (lvTo ns n j).length c ∧ k = n.kids.length - j ∧ j ≤ n.kids.length ∧ wr.ownsRow w.heap.size 3 1 (.slice a (lvTo ns n j).length c) (lvTo ns n j).length (intCells (lvTo ns n j)) ∧
    wr.heap[w.heap.size]? = some (.cells d0 54 (0, 0)) ∧ wr.heap[w.heap.size + 1]? = some (.cells d1 79 (0, 0)) ∧ Below w.heap.size w wr

theorem rlv_step {w wr w4 w5 : World} {d0 d1 : Array Value} {v : Value} {m : Nat} {xs : List Value} (ho : wr.ownsRow w.heap.size 3 1 v m xs) (h0 : wr.heap[w.heap.size]? = some (.cells d0 54 (0, 0))) (h1 : wr.heap[w.heap.size + 1]? = some (.cells d1 79 (0, 0))) (hb : Below w.heap.size w wr)
    (h4 : Below wr.heap.size wr w4) (hg : w4.grownBy w5 v.ownBlock) :
    w5.heap[w.heap.size]? = some (.cells d0 54 (0, 0)) ∧ w5.heap[w.heap.size + 1]? = some (.cells d1 79 (0, 0)) ∧ Below w.heap.size w w5 := by
  have hne : ∀ (k : Nat) (cs : Array Value) (T : TypeId), wr.heap[k]? = some (.cells cs T (0, 0)) → T ≠ 3 → w5.heap[k]? = some (.cells cs T (0, 0)) := fun k cs T hk hT => by
    have hlt := lt_heap hk
    rw [hg.block k (Nat.lt_of_lt_of_le hlt h4.size) ?_, h4.block k hlt, hk]
    intro e
    obtain ⟨c, hc⟩ := ownsRow_cells ho e.symm
    rw [hk] at hc
    simp only [Option.some.injEq, Obj.cells.injEq] at hc
    exact hT hc.2.1
  exact ⟨hne _ _ _ h0 (by decide), hne _ _ _ h1 (by decide), (hb.trans (h4.mono hb.size)).grown hg (Nat.le_trans hb.size h4.size) fun k e => (ho.lt k e).1⟩

set_option maxRecDepth 100000 in
set_option maxHeartbeats 2000000 in
theorem rleaves_calls {P : Nat → Prop} {vt vn : Value} {t : Tr.T} (hlow : Tr.Low t.nodes) (hsz : ∀ j, j < t.nodes.length → Tr.size t.nodes j ≤ j + 1) (hn : t.nodes.length ≤ 1073741823) (hkids : ∀ n ∈ t.nodes, n.kids.length ≤ 1073741823) (i : Nat) : i < t.nodes.length → ∀ (w : World), RdT w P vt vn t → (∀ k, P k → k < w.heap.size) →
    Calls Tryd.prog 41 #[.agg #[vt, vn], .int .i64 i] w fun e w' => ∃ v, e = .returned v ∧ w'.ownsRow w.heap.size 3 1 v (Tr.leafs t.nodes i).length (intCells (Tr.leafs t.nodes i)) ∧ Below w.heap.size w w' := by
  induction i using Nat.strongRecOn with
  | ind i ih =>
    intro hi w h hP
    obtain ⟨at_, ct, rfl⟩ := h.1.form
    obtain ⟨an, cn, rfl⟩ : ∃ a c, vn = .slice a t.nodes.length c := by
      obtain ⟨kvs, _, h2, _⟩ := h.2
      exact h2.form
    obtain ⟨n, hnj⟩ : ∃ n, t.nodes[i]? = some n := ⟨_, List.getElem?_eq_getElem hi⟩
    have hb1 : Below w.heap.size w (w.alloc (.cells #[.slice at_ t.toks.length ct, .slice an t.nodes.length cn] 54)) := (Below.refl _ _).alloc (Nat.le_refl _) _
    obtain ⟨b, off, c', kv, he, hbB, hrg, hkv⟩ := (h.2.keep (Keeps.of hb1 hP)).node hnj
    obtain ⟨rfl, rfl⟩ : an = some ⟨b, off, none⟩ ∧ cn = c' := by
      simp only [Value.slice.injEq] at he
      exact ⟨he.1, he.2.2⟩
    obtain ⟨ka, kc, rfl⟩ := hkv.form
    have hlw := hlow i n hnj
    have hLL : (Tr.leafs t.nodes i).length ≤ 1073741823 := by have := Tr.leafs_len t.nodes i; have := hsz i hi; omega
    obtain ⟨V, hV⟩ : ∃ V, (w.alloc (.cells #[.slice at_ t.toks.length ct, .slice (some ⟨b, off, none⟩) t.nodes.length cn] 54)).alloc (.cells #[.int .i64 n.kind, .int .i64 n.tok, .slice ka n.kids.length kc] 79) = V := ⟨_, rfl⟩
    have hv : Below w.heap.size w V := by rw [← hV]; exact ((Below.refl _ _).alloc (Nat.le_refl _) _).alloc (by rw [← size_alloc1]; omega) _
    have hv1 : V.heap[w.heap.size]? = some (.cells #[.slice at_ t.toks.length ct, .slice (some ⟨b, off, none⟩) t.nodes.length cn] 54 (0, 0)) := by
      rw [← hV, Below.heap_alloc _ _ _ (by rw [← size_alloc1]; omega)]
      exact heap_alloc_new _ _
    have hv2 : V.heap[w.heap.size + 1]? = some (.cells #[.int .i64 n.kind, .int .i64 n.tok, .slice ka n.kids.length kc] 79 (0, 0)) := by
      rw [← hV]
      exact new_at _ _ _ (by rw [← size_alloc1])
    have HV := Lib.hid (And.intro hv (And.intro hv1 hv2))
    have HG := Lib.hid hrg
    have HH := Lib.hid (And.intro h (And.intro hP (And.intro hlow (And.intro hn hsz))))
    have HIH := Lib.hid ih
    have HN := Lib.hid (And.intro hnj (And.intro hlw hLL))
    have hi' : (i : Int) < (t.nodes.length : Int) := by omega
    have hn' : (t.nodes.length : Int) ≤ 1073741823 := by omega
    have hkl' : (n.kids.length : Int) ≤ 1073741823 := by have := hkids n (List.mem_of_getElem? hnj); omega
    have c0 := cell_of_heap hv1 0 rfl
    have c1 := cell_of_heap hv1 1 rfl
    have d0 := cell_of_heap hv2 0 rfl
    have d1 := cell_of_heap hv2 1 rfl
    have d2 := cell_of_heap hv2 2 rfl
    have hkvw : RdW w P 1 (.slice ka n.kids.length kc) n.kids.length (intCells n.kids) := hkv.keep fun k hk => (hb1.block k (hP k hk)).symm
    have HKV := Lib.hid hkvw
    clear hkids hv hv1 hv2 hrg h hP ih hlw hlow hsz hLL he hbB hkv hkvw hb1
    by_cases hk : n.kind = 19
    · rw [Tr.leafs_leaf hnj hk]
      have hk1 : (n.kind == 19) = true := by simp [hk]
      clear hnj hk
      go_enter Tryd.func41, Tryd.ntmps41
      go_wp2_with (refine wpList_load_mid rfl 79 _ rfl b (off + i * 3) rfl _ _ HG.out Tryd.underlying79 rfl rfl ?_)
      go_ret
      refine ⟨_, rfl, ?_, HV.out.1.alloc HV.out.1.size _⟩
      have := ints_new (w := V) [n.tok] (by simp [maxLen]) HV.out.1.size
      simpa [intCells] using this
    · have hk1 : (n.kind == 19) = false := by simp [hk]
      have HL := Lib.hid (Tr.leafs_node HH.out.2.2.1 hnj hk)
      clear hnj hk
      go_enter Tryd.func41, Tryd.ntmps41
      go_wp2_with (refine wpList_load_mid rfl 79 _ rfl b (off + i * 3) rfl _ _ HG.out Tryd.underlying79 rfl rfl ?_)
      clear hV c0 c1 d0 d1 d2
      go_loopg [6, 7] n.kids.length (fun k v6 v7 wr => RLv w #[.slice at_ t.toks.length ct, .slice (some ⟨b, off, none⟩) t.nodes.length cn] #[.int .i64 n.kind, .int .i64 n.tok, .slice ka n.kids.length kc] t.nodes n k v6 v7 wr)
      case atStart => exact ⟨0, none, 0, rfl, by simp [lvTo], rfl, Nat.zero_le _, by simpa [lvTo, intCells] using World.ownsRow_nil _ _ _ _, HV.out.2.1, HV.out.2.2, HV.out.1⟩
      case round =>
        obtain ⟨j, a, c, rfl, rfl, hk, hj, ho, hx0, hx1, hb⟩ := hrel
        have HR := Lib.hid (And.intro hk (And.intro ho (And.intro hx0 (And.intro hx1 hb))))
        have e0 := cell_of_heap hx0 0 rfl
        have e1 := cell_of_heap hx0 1 rfl
        have e2 := cell_of_heap hx1 2 rfl
        clear hk ho hx0 hx1 hb
        by_cases hlt : j < n.kids.length
        · have hlt' : (j : Int) < (n.kids.length : Int) := by omega
          obtain ⟨k, hkj⟩ : ∃ k, n.kids[j]? = some k := ⟨_, List.getElem?_eq_getElem hlt⟩
          have hk0 := HN.out.2.1.1 k (List.mem_of_getElem? hkj)
          obtain ⟨m, rfl⟩ : ∃ m : Nat, k = m := ⟨k.toNat, by omega⟩
          have hmi : m < i := by omega
          have hbw := HR.out.2.2.2.2
          obtain ⟨bk, ok, ck, hek, hPk, hcell⟩ := rdw_kid (HKV.out.keep (Keeps.of hbw HH.out.2.1)) hkj
          obtain ⟨rfl, rfl⟩ : ka = some ⟨bk, ok, none⟩ ∧ kc = ck := by
            simp only [Value.slice.injEq] at hek
            exact ⟨hek.1, hek.2.2⟩
          have HPK := Lib.hid (HH.out.2.1 _ hPk)
          have hih := HIH.out m hmi (by omega) wr.drew (HH.out.1.keep (Keeps.of (hbw.trans ((Below.refl _ _).drew)) HH.out.2.1)) (fun q hq => Nat.lt_of_lt_of_le (HH.out.2.1 q hq) hbw.size)
          have HI := Lib.hid hih
          have HLS := Lib.hid (lvTo_succ t.nodes hkj)
          have hll1 := lvTo_le t.nodes n (j + 1)
          simp only [Int.toNat_natCast] at HLS
          rw [HLS.out, List.length_append, lvTo_all, ← HL.out] at hll1
          have HLE : Hid ((lvTo t.nodes n j).length + (Tr.leafs t.nodes m).length ≤ 1073741823) := Lib.hid (Nat.le_trans hll1 HN.out.2.2)
          obtain ⟨i0, hi0, hz0, hz1, hz2⟩ := info_split info_int
          have Hi := Lib.hid hi0
          have Hz0 := Lib.hid hz0
          have Hz1 := Lib.hid hz1
          have Hz2 := Lib.hid hz2
          have l0 := cell_lt e0
          have l2 := cell_lt e2
          have lk := cell_lt hcell
          obtain ⟨L, hLd⟩ : ∃ L, (lvTo t.nodes n j).length = L := ⟨_, rfl⟩
          obtain ⟨M, hMd⟩ : ∃ M, (Tr.leafs t.nodes m).length = M := ⟨_, rfl⟩
          have HLM := Lib.hid (And.intro hLd hMd)
          rw [hLd] at HR HLE ⊢
          rw [hMd] at HLE HI
          clear hkj hk0 hbw hPk hih hll1 hi0 hz0 hz1 hz2 hek hLd hMd
          go_wp2_with fail
          go_region_held3 (fun w' => w'.cell? ⟨w.heap.size, 0, none⟩ = some (.slice at_ t.toks.length ct) ∧ w'.cell? ⟨w.heap.size, 1, none⟩ = some (.slice (some ⟨b, off, none⟩) t.nodes.length cn) ∧ w'.cell? ⟨w.heap.size + 1, 2, none⟩ = some (.slice (some ⟨bk, ok, none⟩) n.kids.length kc) ∧ w'.cell? ⟨bk, ok + j, none⟩ = some (.int .i64 m)) (first | exact ⟨e0, e1, e2, hcell⟩ | exact ⟨f0, f1, f2, f3⟩ | exact ⟨g0, g1, g2, g3⟩ | go_keep)
            (first
              | (go_at_call 41; refine HI.out.mono ?_; rintro e w4 ⟨v4, rfl, ho4, hb4⟩; obtain ⟨a4, c4, rfl⟩ := ownsRow_form ho4; have f0 := (hb4.cell (p := ⟨w.heap.size, 0, none⟩) l0).trans e0; have f1 := (hb4.cell (p := ⟨w.heap.size, 1, none⟩) l0).trans e1; have f2 := (hb4.cell (p := ⟨w.heap.size + 1, 2, none⟩) l2).trans e2; have f3 := (hb4.cell (p := ⟨bk, ok + j, none⟩) lk).trans hcell; have H4 : Hid (w4.ownsRow wr.heap.size 3 1 (.slice a4 M c4) M (intCells (Tr.leafs t.nodes m)) ∧ Below wr.heap.size wr w4) := Lib.hid (And.intro ho4 ((Below.drew (Below.refl _ _)).trans hb4)); clear ho4 hb4)
              | (refine step_append_row rfl (.tmp 26) (.tmp 33) 22 rfl w.heap.size 3 i0 (.int .i64 0) 1 8 Tryd.underlying22 Hi.out Hz0.out Hz1.out Hz2.out rfl (by decide) (.slice a L c) L (intCells (lvTo t.nodes n j)) (by simp [Act.eval]) (ownsRow_below HR.out.2.1 H4.out.2) (xv := .slice a4 M c4) (by simp [Act.eval]) (RdS.own H4.out.1) (ints_one _) (by have := HLE.out; unfold maxLen; omega) (by have := HLE.out; omega) (Nat.le_trans HR.out.2.2.2.2.size H4.out.2.size) ?_; intro a5 c5 w5 hown5 hg5 hat5; have hst := rlv_step HR.out.2.1 HR.out.2.2.1 HR.out.2.2.2.1 HR.out.2.2.2.2 H4.out.2 hg5; have g0 := cell_of_heap hst.1 0 rfl; have g1 := cell_of_heap hst.1 1 rfl; have g2 := cell_of_heap hst.2.1 2 rfl; have g3 := (hg5.cell_far ⟨bk, ok + j, none⟩ (Nat.lt_of_lt_of_le lk H4.out.2.size) (fun e => by have := (HR.out.2.1.lt bk e.symm).1; have := HPK.out; simp only at *; omega)).trans f3; have hown6 : w5.ownsRow w.heap.size 3 1 (.slice a5 (L + M) c5) (L + M) (intCells (lvTo t.nodes n j ++ Tr.leafs t.nodes m)) := (by simpa [intCells] using hown5); have H5 := Lib.hid (And.intro hown6 hst); clear hown6 hown5 hg5 hat5 hst))
          go_wp2_with fail
          have el : (lvTo t.nodes n (j + 1)).length = L + M := by rw [HLS.out, List.length_append, HLM.out.1, HLM.out.2]
          have hown := H5.out.1
          rw [← HLS.out] at hown
          go_roundg (n.kids.length - (j + 1))
          case measure => have := HR.out.1; omega
          case rel =>
            refine ⟨j + 1, a5, c5, by go_num, by rw [el], rfl, by omega, ?_, H5.out.2.1, H5.out.2.2.1, H5.out.2.2.2⟩
            rw [el]
            exact hown
        · obtain rfl : j = n.kids.length := by omega
          go_wp2_with fail
          go_ret
          have hr := HR.out.2.1
          rw [HL.out]
          rw [lvTo_all] at hr ⊢
          exact ⟨_, rfl, hr, HR.out.2.2.2.2⟩
end Go.Proofs.YtfoelgkkoopheaaDoor
/- Plain laws of the flat tree: one node over all leaves. No program in sight. -/
namespace Go.Proofs.YtfoelgkkoopheaaDoor.Tr

def leavesOf (m : Nat) : List Nd := (List.range m).map fun i : Nat => ⟨19, (i : Int), []⟩
def kidsOf (m : Nat) : List Int := (List.range m).map fun i : Nat => (i : Int)
def flatT (toks : List Tk) (kind : Int) : T := ⟨toks, leavesOf toks.length ++ [⟨kind, -1, kidsOf toks.length⟩]⟩
theorem leavesOf_succ (m : Nat) : leavesOf (m + 1) = leavesOf m ++ [⟨19, (m : Int), []⟩] := by simp [leavesOf, List.range_succ]
theorem kidsOf_succ (m : Nat) : kidsOf (m + 1) = kidsOf m ++ [(m : Int)] := by simp [kidsOf, List.range_succ]
theorem leavesOf_length (m : Nat) : (leavesOf m).length = m := by simp [leavesOf]
theorem kidsOf_length (m : Nat) : (kidsOf m).length = m := by simp [kidsOf]

theorem marks_run : ∀ (k j n : Nat), j + k ≤ n → marks (List.replicate j true ++ List.replicate (n - j) false) ((List.range' j k).map fun i : Nat => (i : Int)) = some (List.replicate (j + k) true ++ List.replicate (n - (j + k)) false)
  | 0, j, n, _ => by simp [marks]
  | k + 1, j, n, h => by
    rw [List.range'_succ, List.map_cons]
    unfold marks
    have hl : (List.replicate j true).length = j := by simp
    have h1 : (List.replicate j true ++ List.replicate (n - j) false).getD (j : Int).toNat false = false := by
      rw [Int.toNat_natCast]
      simp only [List.getD]
      rw [List.getElem?_append_right (by omega), hl, Nat.sub_self, List.getElem?_replicate]
      split <;> rfl
    have h2 : (List.replicate j true ++ List.replicate (n - j) false).set (j : Int).toNat true = List.replicate (j + 1) true ++ List.replicate (n - (j + 1)) false := by
      rw [Int.toNat_natCast, List.set_append_right _ _ (by omega), hl, Nat.sub_self, show n - j = (n - (j + 1)) + 1 by omega, List.replicate_succ, List.set_cons_zero, List.replicate_succ', List.append_assoc]
      rfl
    rw [h1, h2]
    have ih := marks_run k (j + 1) n (by omega)
    rw [show j + 1 + k = j + (k + 1) by omega] at ih
    exact ih
theorem kidsOf_range' (m : Nat) : kidsOf m = (List.range' 0 m).map fun i : Nat => (i : Int) := by rw [kidsOf, List.range_eq_range']
theorem rightGo_leaves {t : T} : ∀ (k i : Nat) (l : List Nd) (kid : List Bool), i + k ≤ t.toks.length → rightGo t i (((List.range' i k).map fun j : Nat => (⟨19, (j : Int), []⟩ : Nd)) ++ l) kid = rightGo t (i + k) l kid
  | 0, i, l, kid, _ => by simp
  | k + 1, i, l, kid, h => by
    rw [List.range'_succ, List.map_cons, List.cons_append]
    unfold rightGo
    have hf : formed t i ⟨19, (i : Int), []⟩ = true := by
      unfold formed
      simp
      omega
    rw [if_pos hf]
    simp only [marks]
    rw [rightGo_leaves k (i + 1) l kid (by omega), show i + 1 + k = i + (k + 1) by omega]
    cases l <;> simp [rightGo]
theorem leavesOf_range' (m : Nat) : leavesOf m = (List.range' 0 m).map fun j : Nat => (⟨19, (j : Int), []⟩ : Nd) := by rw [leavesOf, List.range_eq_range']
theorem flat_rightGo (toks : List Tk) (kind : Int) (h1 : 1 ≤ kind) (h2 : kind ≤ 18) :
    rightGo (flatT toks kind) 0 (flatT toks kind).nodes (List.replicate (flatT toks kind).nodes.length false) = some (List.replicate toks.length true ++ [false]) := by
  have hn : (flatT toks kind).nodes = leavesOf toks.length ++ [⟨kind, -1, kidsOf toks.length⟩] := rfl
  have hnl : (flatT toks kind).nodes.length = toks.length + 1 := by rw [hn]; simp [leavesOf_length]
  rw [hnl, hn, leavesOf_range', rightGo_leaves toks.length 0 _ _ (by rw [Nat.zero_add]; exact Nat.le_refl _), Nat.zero_add]
  unfold rightGo
  have hf : formed (flatT toks kind) toks.length ⟨kind, -1, kidsOf toks.length⟩ = true := by
    unfold formed
    rw [if_neg (by simp only; omega), if_neg (by simp only; omega)]
    simp only [Bool.and_eq_true, decide_eq_true_eq, Bool.not_eq_true', List.any_eq_false, Bool.or_eq_true, not_or]
    refine ⟨trivial, fun k hk => ?_⟩
    simp only [kidsOf, List.mem_map, List.mem_range] at hk
    obtain ⟨j, hj, rfl⟩ := hk
    omega
  rw [if_pos hf]
  have hm := marks_run toks.length 0 (toks.length + 1) (by omega)
  simp only [List.replicate_zero, List.nil_append, Nat.sub_zero, Nat.zero_add, Nat.add_sub_cancel_left] at hm
  rw [← kidsOf_range'] at hm
  simp only [hm, rightGo]
  rfl
theorem flat_low (toks : List Tk) (kind : Int) (h1 : 1 ≤ kind) (h2 : kind ≤ 18) : Low (flatT toks kind).nodes := (right_facts (flat_rightGo toks kind h1 h2)).1
theorem leavesOf_get {m i : Nat} (h : i < m) : (leavesOf m)[i]? = some ⟨19, (i : Int), []⟩ := by
  simp [leavesOf, h]
theorem flat_leafs (toks : List Tk) (kind : Int) (h1 : 1 ≤ kind) (h2 : kind ≤ 18) : leafs (flatT toks kind).nodes toks.length = kidsOf toks.length := by
  have hn : (flatT toks kind).nodes[toks.length]? = some ⟨kind, -1, kidsOf toks.length⟩ := by
    show (leavesOf toks.length ++ [_])[toks.length]? = _
    rw [List.getElem?_append_right (by rw [leavesOf_length]; exact Nat.le_refl _), leavesOf_length, Nat.sub_self]
    rfl
  rw [leafs_node (flat_low toks kind h1 h2) hn (by simp only; omega)]
  simp only
  have h : ∀ l : List Int, (∀ k ∈ l, 0 ≤ k ∧ k < (toks.length : Int)) → (l.flatMap fun k => leafs (flatT toks kind).nodes k.toNat) = l := by
    intro l hl
    induction l with
    | nil => rfl
    | cons k l ih =>
      have hk := hl k (by simp)
      have hg : (flatT toks kind).nodes[k.toNat]? = some ⟨19, ((k.toNat : Nat) : Int), []⟩ := by
        show (leavesOf toks.length ++ [_])[k.toNat]? = _
        rw [List.getElem?_append_left (by rw [leavesOf_length]; omega), leavesOf_get (by omega)]
      rw [List.flatMap_cons, ih fun x hx => hl x (by simp [hx]), leafs_leaf hg rfl]
      simp only [List.cons_append, List.nil_append]
      rw [show ((k.toNat : Nat) : Int) = k by omega]
  refine h _ fun k hk => ?_
  simp only [kidsOf, List.mem_map, List.mem_range] at hk
  obtain ⟨j, hj, rfl⟩ := hk
  omega
theorem flat_right (toks : List Tk) (kind : Int) (h1 : 1 ≤ kind) (h2 : kind ≤ 18) : right (flatT toks kind) = true := by
  rw [right_some (flat_rightGo toks kind h1 h2)]
  have hl : (flatT toks kind).nodes.length - 1 = toks.length := by simp [flatT, leavesOf_length]
  rw [hl, flat_leafs toks kind h1 h2]
  have e1 : (List.replicate toks.length true ++ [false]).isEmpty = false := by simp
  have e2 : (List.replicate toks.length true ++ [false]).length - 1 = toks.length := by simp
  have e3 : ((List.replicate toks.length true ++ [false]).take toks.length).contains false = false := by
    rw [List.take_append_of_le_length (by simp), List.take_of_length_le (by simp), List.contains_eq_mem, decide_eq_false_iff_not]
    intro h
    have := (List.mem_replicate.1 h).2
    cases this
  rw [e1, e2, e3]
  show (true && true && (kidsOf toks.length == (List.range toks.length).map fun i : Nat => (i : Int))) = true
  simp [kidsOf]
end Go.Proofs.YtfoelgkkoopheaaDoor.Tr
/- TreeFlat: the walk. -/
namespace Go.Proofs.YtfoelgkkoopheaaDoor
open Go.RowKit

/-- A builder stands where its own blocks stand, and what it reads. -/
theorem BuildI.keepT {w w' : World} {B b : Nat} {vt vn : Value} {t : Tr.T} {used : Nat} (h : BuildI w B b vt vn t used) (hs : w.heap.size ≤ w'.heap.size) (hb : w'.heap[b]? = w.heap[b]?) (hv : ∀ k, vn.ownBlock = some k → w'.heap[k]? = w.heap[k]?)
    (ht : ∀ (k : Nat) (cs : Array Value), w.heap[k]? = some (.cells cs 34 (0, 0)) → w'.heap[k]? = w.heap[k]?) (hi : (∀ (k : Nat) (cs : Array Value), w.heap[k]? = some (.cells cs 3 (0, 0)) → w'.heap[k]? = w.heap[k]?) ∨ ∀ n ∈ t.nodes, n.kids = []) : BuildI w' B b vt vn t used := by
  have hkt : Keeps (BPt 34 w B b vn) w w' := fun k hk => by
    obtain ⟨cs, hc⟩ := hk.2
    exact ht k cs hc
  have hbpt : ∀ T k, w'.heap[k]? = w.heap[k]? → BPt T w B b vn k → BPt T w' B b vn k := fun T k he hk => ⟨hk.1.size hs, hk.2.imp fun cs hc => he.trans hc⟩
  obtain ⟨kvs, hk1, hk2, hk3⟩ := h.nodes
  refine ⟨by rw [hb]; exact h.cell, h.base, h.ne, (h.toks.keep hkt).imp fun k hk => hbpt _ k (hkt k hk) hk, kvs, hk1, ownsRow_same hk2 hv, fun i n kv hin hkv => ?_⟩
  rcases hi with hi | hi
  · have hki : Keeps (BPt 3 w B b vn) w w' := fun k hk => by
      obtain ⟨cs, hc⟩ := hk.2
      exact hi k cs hc
    exact ((hk3 i n kv hin hkv).keep hki).imp fun k hk => hbpt _ k (hki k hk) hk
  · have h0 := hi n (List.mem_of_getElem? hin)
    obtain ⟨q1, a, c, q2, q3, q4⟩ := hk3 i n kv hin hkv
    rw [h0] at q1 q2 q3 q4 ⊢
    refine ⟨rfl, a, c, q2, q3, q4.imp_right ?_⟩
    rintro ⟨b', o', e, _, _⟩
    exact ⟨b', o', e, Or.inl rfl, rangeAt_nil _ _ _⟩
theorem Anc.grownInt {w W W' : World} {b base n : Nat} {t : Tr.T} {used : Nat} {v : Value} {xs : List Value} (h : Anc w W b t used) (hk : ∀ n ∈ t.nodes, n.kids = []) (ho : W.ownsRow base 3 1 v n xs) (hbase : w.heap.size ≤ base) (hg : W.grownBy W' v.ownBlock) : Anc w W' b t used := by
  obtain ⟨B, vt, vn, h1, h2, h3⟩ := h
  have hne : ∀ (k : Nat) (cs : Array Value) (T : TypeId), W.heap[k]? = some (.cells cs T (0, 0)) → T ≠ 3 → W'.heap[k]? = W.heap[k]? := by
    intro k cs T hkk hT
    refine hg.block k (lt_heap hkk) fun e => ?_
    obtain ⟨cur, hc⟩ := ownsRow_cells ho e.symm
    rw [hkk] at hc
    simp only [Option.some.injEq, Obj.cells.injEq] at hc
    exact hT hc.2.1
  obtain ⟨kvs, _, hk2, _⟩ := h2.nodes
  refine ⟨B, vt, vn, h1, h2.keepT hg.size (hne b _ _ h2.cell (by decide)) (fun k hk => ?_) (fun k cs hc => hne k cs _ hc (by decide)) (Or.inr hk), h3.grown hg h3.size fun k e => Nat.le_trans hbase (ho.lt k e).1⟩
  obtain ⟨cur, hc⟩ := ownsRow_cells hk2 hk
  exact hne k cur _ hc (by decide)

def FlRel (w : World) (b g : Nat) (o : Obj) (toks : List Tr.Tk) (k : Nat) (v8 v37 : Value) (wr : World) : Prop :=
  ∃ (j : Nat) (a : Option Addr) (c : Nat), v37 = .int .i64 j ∧ v8 = .slice a j c ∧ k = toks.length - j ∧ j ≤ toks.length ∧ wr.ownsRow w.heap.size 3 1 (.slice a j c) j (intCells (Tr.kidsOf j)) ∧ Anc w wr b ⟨toks, Tr.leavesOf j⟩ j ∧ wr.heap[g]? = some o

theorem Anc.row {w W W' : World} {b base n : Nat} {t : Tr.T} {used : Nat} {v : Value} {xs : List Value} (h : Anc w W b t used) (ho : W.ownsRow base 3 1 v n xs) (hn : NBt 38 b W W') : W'.ownsRow base 3 1 v n xs := by
  refine ownsRow_same ho fun k hk => ?_
  obtain ⟨cur, hc⟩ := ownsRow_cells ho hk
  rw [hc, hn.cells hc ?_ (by decide)]
  rintro rfl
  obtain ⟨B, vt, vn, h1, h2, h3⟩ := h
  have := h2.cell
  rw [hc] at this
  simp at this
theorem fl_step {w W W' : World} {b base n g : Nat} {t : Tr.T} {used : Nat} {v : Value} {xs : List Value} {cur : Array Value} (h : Anc w W b t used) (hk : ∀ n ∈ t.nodes, n.kids = []) (ho : W.ownsRow base 3 1 v n xs) (hbase : w.heap.size ≤ base) (hg : W.heap[g]? = some (.cells cur 34 (0, 0))) {tmp : Obj} (hgrow : (W.alloc tmp).grownBy W' v.ownBlock) :
    Anc w W' b t used ∧ W'.heap[g]? = some (.cells cur 34 (0, 0)) := by
  refine ⟨(h.alloc tmp).grownInt hk (ho.alloc _) hbase hgrow, ?_⟩
  have hlt := lt_heap hg
  rw [hgrow.block g (by rw [← size_alloc1]; omega) fun e => ?_, Below.heap_alloc _ _ _ hlt]
  · exact hg
  · obtain ⟨c, hc⟩ := ownsRow_cells ho e.symm
    rw [hg] at hc
    simp at hc
theorem leaves_nil (m : Nat) : ∀ n ∈ Tr.leavesOf m, n.kids = [] := by
  intro n hn
  simp only [Tr.leavesOf, List.mem_map] at hn
  obtain ⟨i, _, rfl⟩ := hn
  rfl

theorem kids_ok (m : Nat) : (Tr.kidsOf m).any (badKid m) = false := by
  rw [List.any_eq_false]
  intro k hk
  simp only [Tr.kidsOf, List.mem_map, List.mem_range] at hk
  obtain ⟨j, hj, rfl⟩ := hk
  simp only [badKid, Bool.or_eq_true, decide_eq_true_eq, not_or]
  omega
theorem flat_text {toks : List Tr.Tk} {kind : Int} (h1 : 1 ≤ kind) (h2 : kind ≤ 18) (hp : 0 < toks.length) : Tr.check (Tr.flatT toks kind) (toks.length : Int) = 0 ∧ TextOut (Tr.flatT toks kind) (toks.length : Int) = wholeOf (clearLead toks) := by
  have hr := Tr.flat_right toks kind h1 h2
  have hl : (Tr.flatT toks kind).nodes.length = toks.length + 1 := by simp [Tr.flatT, Tr.leavesOf_length]
  have hc : Tr.check (Tr.flatT toks kind) (toks.length : Int) = 0 := by
    unfold Tr.check
    rw [hr, if_neg (by simp), if_neg (by rw [hl]; omega)]
  refine ⟨hc, ?_⟩
  unfold TextOut
  rw [if_pos hc, Int.toNat_natCast, Tr.flat_leafs toks kind h1 h2]
  obtain ⟨m, hm⟩ : ∃ m, toks.length = m + 1 := ⟨toks.length - 1, by omega⟩
  have e : Tr.kidsOf toks.length = (0 : Int) :: (Tr.kidsOf toks.length).tail := by
    rw [hm, Tr.kidsOf_range', List.range'_succ]
    rfl
  have e2 : (Tr.kidsOf toks.length).tail.length + 1 = toks.length := by
    rw [List.length_tail, Tr.kidsOf_length]
    omega
  unfold textAt
  rw [e]
  simp only
  rw [e2]
  show wholeOf (clearLead ((toks.drop 0).take toks.length)) = _
  rw [List.drop_zero, List.take_length]
set_option maxRecDepth 100000 in
set_option maxHeartbeats 4000000 in
theorem flat_calls (l : List UInt8) (kind : Int) (w : World) (hll : l.length ≤ 500) (hk1 : 1 ≤ kind) (hk2 : kind ≤ 18) :
    Calls Tryd.prog 5 #[.string ⟨l.toArray⟩, .int .i64 kind] w fun e w' => e = .returned (.bool true) ∧ Below w.heap.size w w' := by
  have hll' : (l.length : Int) ≤ 500 := by omega
  have HKB := Lib.hid (And.intro hk1 hk2)
  have hd1 : decide (500 < (l.length : Int)) = false := decide_eq_false (by omega)
  have hd2 : decide (kind < 1) = false := decide_eq_false (by omega)
  have hd3 : decide (18 < kind) = false := decide_eq_false (by omega)
  go_enter Tryd.func5, Tryd.ntmps5
  go_wp2_with fail
  refine (anchor_calls _).mono ?_
  rintro e w1 ⟨rfl, hb1⟩
  have HB1 := Lib.hid hb1
  clear hb1
  dsimp only
  go_wp2_with fail
  refine (lex_calls l (by omega) w1).mono ?_
  rintro e w2 ⟨v, rfl, ho2, hb2⟩
  rw [toks_cells] at ho2
  obtain ⟨a2, c2, rfl⟩ := ownsRow_form ho2
  have HB2 := Lib.hid (HB1.out.trans (hb2.mono HB1.out.size))
  have HO2 := Lib.hid (And.intro ho2 hb2.size)
  clear ho2 hb2
  obtain ⟨err, herr⟩ : ∃ err, (Lx.lex l).2.1 = err := ⟨_, rfl⟩
  obtain ⟨pos, hpos⟩ : ∃ pos, (Lx.lex l).2.2 = pos := ⟨_, rfl⟩
  obtain ⟨ts, hts⟩ : ∃ ts, (Lx.lex l).1 = ts := ⟨_, rfl⟩
  have HLX := Lib.hid (Lx.lex_whole (l := l))
  rw [herr, hpos, hts]
  rw [hts] at HO2
  rw [herr, hts] at HLX
  clear herr hpos hts
  by_cases he : err = 0
  · subst he
    obtain ⟨hw, hpos1, hlen⟩ := HLX.out rfl
    dsimp only
    go_wp2_with fail
    clear hd1 hd2 hd3
    obtain ⟨g2, c2', hsl, _, hg2⟩ := HO2.out.1.form (by simpa using hpos1)
    obtain ⟨rfl, rfl⟩ : a2 = some ⟨g2, 0, none⟩ ∧ c2 = c2' := by
      simp only [Value.slice.injEq] at hsl
      exact ⟨hsl.1, hsl.2.2⟩
    obtain ⟨toks, htoks⟩ : ∃ toks, ts.map toTk = toks := ⟨_, rfl⟩
    have htl : ts.length = toks.length := by rw [← htoks]; simp
    have hwt : wholeOf toks = l := by rw [← htoks, whole_toTk]; exact hw
    rw [htoks] at HO2
    rw [htl] at hpos1 hlen HO2 ⊢
    have htl' : (toks.length : Int) ≤ 501 := by omega
    obtain ⟨cur2, hcur2⟩ := ownsRow_cells HO2.out.1 (k := g2) rfl
    have HWT := Lib.hid (And.intro hwt (And.intro hpos1 hlen))
    have HC1 : Hid (∀ (k0 : Tr.Tk) (rest : List Tr.Tk), toks = k0 :: rest → cur2[1]? = some (.string ⟨k0.lead.toArray⟩)) := fun k0 rest e => by
      have h := HO2.out.1.cells (g := g2) rfl 1 (.string ⟨k0.lead.toArray⟩) (by rw [e]; simp [tksCells, tkCells])
      rw [Addr.add_mid, Nat.zero_add] at h
      simpa [World.cell?, hcur2] using h
    have hf1 : Below w2.heap.size w2 (w2.alloc (.cells #[.int .i64 0, .int .i64 (pos : Int)] 27)) := (Below.refl _ _).alloc (Nat.le_refl _) _
    have hcur3 := anc_box hcur2 hf1
    refine (anc_new (w := w) (l := toks) ((RdS.own HO2.out.1).keep (Keeps.of hf1 fun k hk => hk.2.2)) (by omega) (HB2.out.trans (hf1.mono HB2.out.size))).mono ?_
    rintro e w3 ⟨b, rfl, hA3, hbl, hb3⟩
    have hgb : g2 ≠ b := by have := hf1.size; omega
    have HA3 := Lib.hid (And.intro hA3 (And.intro hgb (anc_box hcur3 hb3)))
    clear hw htoks htl hwt hlen hcur2 hcur3 hf1 hsl hA3 hb3 hbl hgb hll hk1 hk2
    dsimp only
    go_wp2_with fail
    go_loopg [8, 37] toks.length (fun k v8 v37 wr => FlRel w b g2 (.cells cur2 34 (0, 0)) toks k v8 v37 wr)
    case atStart => exact ⟨0, none, 0, rfl, rfl, rfl, Nat.zero_le _, World.ownsRow_nil _ _ _ _, HA3.out.1, HA3.out.2.2⟩
    case round =>
      obtain ⟨j, a, c, rfl, rfl, hk, hj, ho, hA, hgo⟩ := hrel
      have HR := Lib.hid (And.intro hk (And.intro ho (And.intro hA hgo)))
      clear hk ho hA hgo
      by_cases hlt : j < toks.length
      · have hlt' : (j : Int) < (toks.length : Int) := by omega
        have hlf := anc_leaf HR.out.2.2.1 (by rw [Tr.leavesOf_length]; omega) (by simp only; omega) (by simp only; omega)
        simp only [Tr.leavesOf_length] at hlf
        rw [← Tr.leavesOf_succ] at hlf
        have HLF := Lib.hid hlf
        obtain ⟨i0, hi0, hz0, hz1, hz2⟩ := info_split info_int
        have Hi := Lib.hid hi0
        have Hz0 := Lib.hid hz0
        have Hz1 := Lib.hid hz1
        have Hz2 := Lib.hid hz2
        clear hlf hi0 hz0 hz1 hz2
        go_wp2_with fail
        refine HLF.out.mono ?_
        rintro e w4 ⟨rfl, hA4, hn4⟩
        have ho4 := HR.out.2.2.1.row HR.out.2.1 hn4
        have hg4 := hn4.cells HR.out.2.2.2 HA3.out.2.1 (by decide)
        have H4 := Lib.hid (And.intro hA4 (And.intro ho4 hg4))
        clear hA4 hn4 ho4 hg4
        dsimp only
        go_wp2_with (at_builtin; refine wpList_append_one2 rfl _ _ 22 rfl w.heap.size 3 3 i0 (.int .i64 0) 1 8 Tryd.underlying22 Hi.out Hz0.out Hz1.out Hz2.out rfl (by decide) _ j (intCells (Tr.kidsOf j)) rfl H4.out.2.1 _ 1 [(.int .i64 j)] rfl rfl rfl (by simp [Value.oneCell']) (by omega) (by decide) H4.out.1.below.size ?_)
        intro v5 w5 hown5 hg5
        obtain ⟨a5, c5, rfl⟩ := ownsRow_form hown5
        have hs5 := fl_step H4.out.1 (leaves_nil _) H4.out.2.1 (Nat.le_refl _) H4.out.2.2 hg5
        have H5 := Lib.hid (And.intro hown5 hs5)
        clear hown5 hg5 hs5
        go_wp2_with fail
        refine Handed.intro (toks.length - (j + 1)) ?_ ?_
        · have := HR.out.1; omega
        go_step
        repeat apply Exists.intro
        refine ⟨?_, rfl⟩
        refine ⟨j + 1, a5, c5, by go_num, rfl, rfl, by omega, ?_, H5.out.2.1, H5.out.2.2⟩
        have := H5.out.1
        rw [Tr.kidsOf_succ]
        simpa [intCells] using this
      · obtain rfl : j = toks.length := by omega
        have hnd := anc_node (l := Tr.kidsOf toks.length) HR.out.2.2.1 (by rw [Tr.leavesOf_length]; omega) (P := fun k => k < wr.heap.size) (v := .slice a toks.length c) (by
          rw [Tr.kidsOf_length]
          exact (RdS.own HR.out.2.1).imp fun k hk => hk.2.2) (fun k hk => hk) (by rw [Tr.kidsOf_length]; omega) kind (by simp only [Tr.leavesOf_length]; exact kids_ok _)
        simp only [Tr.leavesOf_length] at hnd
        have HND : Hid (Calls Tryd.prog 12 #[.pointer (some ⟨b, 0, none⟩), .int .i64 kind, .slice a toks.length c] wr fun e w' => e = .returned (.int .i64 toks.length) ∧ Anc w w' b (Tr.flatT toks kind) toks.length ∧ NBt 38 b wr w') := hnd
        have hnl : (Tr.flatT toks kind).nodes.length = toks.length + 1 := by simp [Tr.flatT, Tr.leavesOf_length]
        have HNL := Lib.hid hnl
        clear hnd hnl
        go_wp2_with fail
        refine HND.out.mono ?_
        rintro e w6 ⟨rfl, hA6, hn6⟩
        have hg6 := hn6.cells HR.out.2.2.2 HA3.out.2.1 (by decide)
        have H6 := Lib.hid (And.intro hA6 hg6)
        clear hA6 hn6 hg6
        dsimp only
        go_wp2_with fail
        refine (anc_done H6.out.1 (by rw [HNL.out]; omega) (by show toks.length ≤ _; omega) (fun n hn => ?_)).mono ?_
        · simp only [Tr.flatT, List.mem_append, List.mem_singleton] at hn
          rcases hn with hn | rfl
          · rw [leaves_nil _ n hn]
            simp
          · simp only [Tr.kidsOf_length]
            omega
        rintro e w7 ⟨vt, vn, rfl, hT7, hb7⟩
        obtain ⟨at_, ct, rfl⟩ : ∃ a c, vt = .slice a toks.length c := hT7.1.form
        obtain ⟨an, cn, rfl⟩ : ∃ a c, vn = .slice a (toks.length + 1) c := by
          obtain ⟨kvs, _, h2, _⟩ := hT7.2
          rw [HNL.out] at h2
          exact h2.form
        have hkids7 : ∀ n ∈ (Tr.flatT toks kind).nodes, n.kids.length ≤ 1073741823 := by
          intro n hn
          simp only [Tr.flatT, List.mem_append, List.mem_singleton] at hn
          rcases hn with hn | rfl
          · rw [leaves_nil _ n hn]
            simp
          · simp only [Tr.kidsOf_length]
            omega
        have HT7 := Lib.hid (And.intro hT7 hkids7)
        have H7 := Lib.hid (And.intro (H6.out.1.past hb7) (anc_box H6.out.2 hb7))
        clear hT7 hb7 hkids7
        dsimp only
        go_wp2_with fail
        have hv1 : Below w7.heap.size w7 (w7.alloc (.cells #[.slice at_ toks.length ct, .slice an (toks.length + 1) cn] 41)) := (Below.refl _ _).alloc (Nat.le_refl _) _
        have hvt : (w7.alloc (.cells #[.slice at_ toks.length ct, .slice an (toks.length + 1) cn] 41)).heap[w7.heap.size]? = some (.cells #[.slice at_ toks.length ct, .slice an (toks.length + 1) cn] 41 (0, 0)) := new_at _ _ _ rfl
        have hva := H7.out.1.past hv1
        have hvg := anc_box H7.out.2 hv1
        generalize w7.alloc (.cells #[.slice at_ toks.length ct, .slice an (toks.length + 1) cn] 41) = V at *
        obtain ⟨hwt, _, hlen⟩ := HWT.out
        obtain ⟨k1, k2⟩ := HKB.out
        obtain ⟨k0, rest, hk0⟩ : ∃ k0 rest, toks = k0 :: rest := by
          cases toks with
          | nil => simp at hpos1
          | cons k r => exact ⟨k, r, rfl⟩
        have hnl := HNL.out
        have hft := flat_text (kind := kind) k1 k2 hpos1
        have hc1 := HC1.out k0 rest hk0
        obtain ⟨tx, htx⟩ : ∃ tx, wholeOf (clearLead toks) = tx := ⟨_, rfl⟩
        rw [htx] at hft
        have hcat : k0.lead ++ tx = l := by
          rw [← htx, ← hwt, hk0]
          simp [wholeOf, clearLead]
        have hcl : k0.lead.length + tx.length ≤ 500 := by rw [← List.length_append, hcat]; omega
        have hcat' : (⟨k0.lead.toArray⟩ : ByteArray) ++ ⟨tx.toArray⟩ = ⟨l.toArray⟩ := by rw [str_add, hcat]
        obtain ⟨kd0, ld0, tx0, ps0⟩ := k0
        simp only at hc1 hcat' hcl
        have HCAT := Lib.hid hcat'
        have hcl' : (ld0.length : Int) + (tx.length : Int) ≤ 500 := by omega
        have HRt : Hid (∀ W : World, Calls Tryd.prog 18 #[.agg #[.slice at_ toks.length ct, .slice an (toks.length + 1) cn]] W fun e w' => e = .returned (.int .i64 (toks.length : Int)) ∧ W.alloc (.cells #[.slice at_ toks.length ct, .slice an (toks.length + 1) cn] 41) = w') := fun W => root_succ W _ _ toks.length _ (by omega)
        have HTe : Hid (∀ W : World, Below w7.heap.size w7 W → Calls Tryd.prog 17 #[.agg #[.slice at_ toks.length ct, .slice an (toks.length + 1) cn], .int .i64 (toks.length : Int)] W fun e w' => e = .returned (.tuple #[.string ⟨tx.toArray⟩, .int .i64 0]) ∧ Below W.heap.size W w') := by
          intro W hW
          have h := text_calls (HT7.out.1.keep (Keeps.of hW fun k hk => hk.2)) (fun k hk => Nat.lt_of_lt_of_le hk.2 hW.size) (by rw [hnl]; omega) (by show toks.length ≤ _; omega) HT7.out.2 (toks.length : Int) (by show (wholeOf toks).length ≤ _; rw [hwt]; omega)
          rw [hft.1, hft.2] at h
          exact h
        have HRi : Hid (∀ W : World, Below w7.heap.size w7 W → Calls Tryd.prog 19 #[.agg #[.slice at_ toks.length ct, .slice an (toks.length + 1) cn]] W fun e w' => e = .returned (.bool true) ∧ Below W.heap.size W w') := by
          intro W hW
          have h := right_calls (HT7.out.1.keep (Keeps.of hW fun k hk => hk.2)) (fun k hk => Nat.lt_of_lt_of_le hk.2 hW.size) (by rw [hnl]; omega) (by show toks.length ≤ _; omega) HT7.out.2
          rw [Tr.flat_right toks kind k1 k2] at h
          exact h
        have HSh : Hid (∀ W : World, Below w7.heap.size w7 W → Calls Tryd.prog 14 #[.agg #[.slice at_ toks.length ct, .slice an (toks.length + 1) cn]] W fun e w' => e = .returned (.string ⟨l.toArray⟩) ∧ Below W.heap.size W w') := by
          intro W hW
          have h := show_calls (toks := toks) (vn := .slice an (toks.length + 1) cn) (HT7.out.1.1.keep (Keeps.of hW fun k hk => hk.2)) (fun k hk => Nat.lt_of_lt_of_le hk.2 hW.size) (by omega) (by rw [hwt]; omega)
          rw [hwt] at h
          exact h
        have t0 := cell_of_heap hvt 0 rfl
        have t1 := cell_of_heap hvt 1 rfl
        have l0 := cell_lt t0
        have HV := Lib.hid (And.intro hv1 (And.intro hvt (And.intro hva (And.intro hvg hc1))))
        clear hv1 hvt hva hvg hc1 hwt hlen k1 k2 hk0 hnl hft htx hcat hcat'
        go_region_held3 (fun w' => w'.cell? ⟨w7.heap.size, 0, none⟩ = some (.slice at_ toks.length ct) ∧ w'.cell? ⟨w7.heap.size, 1, none⟩ = some (.slice an (toks.length + 1) cn)) (first | exact ⟨t0, t1⟩ | exact ⟨e20, e21⟩ | go_keep)
          ((first
            | (go_at_call 18; refine (HRt.out _).mono ?_; rintro e w2 ⟨rfl, rfl⟩)
            | (go_at_call 17; refine (HTe.out _ (HV.out.1.alloc HV.out.1.size _).drew).mono ?_; rintro e w8 ⟨rfl, hb8⟩; have hb9 := anc_after HV.out.1 HV.out.2.1 hb8; have e20 := cell_of_heap hb9.2 0 rfl; have e21 := cell_of_heap hb9.2 1 rfl; have HB9 := Lib.hid (And.intro hb9 hb8); clear hb8 hb9)))
        clear t0 t1 l0
        go_wp2_with fail
        refine (HRi.out _ HB9.out.1.1).mono ?_
        rintro e w9 ⟨rfl, hb9⟩
        have hbx := anc_box HB9.out.1.2 hb9
        have e30 := cell_of_heap hbx 0 rfl
        have e31 := cell_of_heap hbx 1 rfl
        have HB10 := Lib.hid (And.intro hb9 hbx)
        clear hb9 hbx e20 e21
        dsimp only
        go_wp2_with fail
        refine (HSh.out _ (HB9.out.1.1.trans (HB10.out.1.mono HB9.out.1.1.size))).mono ?_
        rintro e w10 ⟨rfl, hb10⟩
        have HB11 := Lib.hid hb10
        have hA := ((((HV.out.2.2.1.alloc (.cells #[.slice at_ toks.length ct, .slice an (toks.length + 1) cn] 41)).past (Below.refl _ _).drew).past HB9.out.2).past HB10.out.1).past hb10
        have hbV : Below V.heap.size V (V.alloc (.cells #[.slice at_ toks.length ct, .slice an (toks.length + 1) cn] 41)).drew := ((Below.refl _ _).alloc (Nat.le_refl _) _).drew
        have hg := anc_box (anc_box (anc_box (anc_box HV.out.2.2.2.1 hbV) HB9.out.2) HB10.out.1) hb10
        have hgc := cell_of_heap hg 1 HV.out.2.2.2.2
        have HA11 := Lib.hid hA
        have hcat' := HCAT.out
        clear hb10 e30 e31 hA hbV hg
        dsimp only
        go_wp2_with fail
        refine (anc_leaf_end HA11.out (by rw [HNL.out]; omega) (by show toks.length ≤ _; omega)).mono ?_
        rintro e w11 ⟨rfl, hA12, _⟩
        have HA12 := Lib.hid hA12
        clear hA12 hgc
        dsimp only
        go_wp2_with fail
        go_ret
        exact ⟨by simp, HA12.out.below⟩
  · have he' : ((err : Int) != 0) = true := by simp [he]
    have HE := Lib.hid he
    clear he
    dsimp only
    go_wp2_with fail
    go_ret
    exact ⟨rfl, HB2.out.alloc HB2.out.size _⟩

set_option maxRecDepth 100000 in
/-- .. where the text is too long, or the kind is none of a node's. -/
theorem flat_out (l : List UInt8) (kind : Int) (w : World) (h : 500 < l.length ∨ kind < 1 ∨ 18 < kind) :
    Calls Tryd.prog 5 #[.string ⟨l.toArray⟩, .int .i64 kind] w fun e w' => e = .returned (.bool true) ∧ Below w.heap.size w w' := by
  by_cases h1 : 500 < l.length
  · have hd1 : decide (500 < (l.length : Int)) = true := decide_eq_true (by omega)
    clear h h1
    go_enter Tryd.func5, Tryd.ntmps5
    go_wp2_with fail
    refine (anchor_calls _).mono ?_
    rintro e w1 ⟨rfl, hb1⟩
    have HB1 := Lib.hid hb1
    clear hb1
    dsimp only
    go_wp2_with fail
    go_ret
    exact ⟨rfl, HB1.out⟩
  · have hd1 : decide (500 < (l.length : Int)) = false := decide_eq_false (by omega)
    by_cases h2 : kind < 1
    · have hd2 : decide (kind < 1) = true := decide_eq_true h2
      clear h h1 h2
      go_enter Tryd.func5, Tryd.ntmps5
      go_wp2_with fail
      refine (anchor_calls _).mono ?_
      rintro e w1 ⟨rfl, hb1⟩
      have HB1 := Lib.hid hb1
      clear hb1
      dsimp only
      go_wp2_with fail
      go_ret
      exact ⟨rfl, HB1.out⟩
    · have hd2 : decide (kind < 1) = false := decide_eq_false h2
      have hd3 : decide (18 < kind) = true := decide_eq_true (by omega)
      clear h h1 h2
      go_enter Tryd.func5, Tryd.ntmps5
      go_wp2_with fail
      refine (anchor_calls _).mono ?_
      rintro e w1 ⟨rfl, hb1⟩
      have HB1 := Lib.hid hb1
      clear hb1
      dsimp only
      go_wp2_with fail
      go_ret
      exact ⟨rfl, HB1.out⟩
theorem flat_any (l : List UInt8) (kind : Int) (w : World) : Calls Tryd.prog 5 #[.string ⟨l.toArray⟩, .int .i64 kind] w fun e w' => e = .returned (.bool true) ∧ Below w.heap.size w w' := by
  by_cases h : l.length ≤ 500 ∧ 1 ≤ kind ∧ kind ≤ 18
  · exact flat_calls l kind w h.1 h.2.1 h.2.2
  · exact flat_out l kind w (by omega)
end Go.Proofs.YtfoelgkkoopheaaDoor
/- TreeBuilds: what its loop keeps in memory: the builder, the nodes that are wanted, the tokens. -/
namespace Go.Proofs.YtfoelgkkoopheaaDoor
open Go.RowKit

/-- A block of cells of one type. -/
def TyB (T : TypeId) (W : World) (k : Nat) : Prop := ∃ cs, W.heap[k]? = some (.cells cs T (0, 0))
/-- The nodes that are wanted: in a row of the law's own. -/
def WantI (w W : World) (vw : Value) (ns : List Tr.Nd) : Prop :=
  ∃ kvs : List Value, kvs.length = ns.length ∧ W.ownsRow w.heap.size 38 3 vw ns.length ((ns.zip kvs).flatMap ndCells) ∧ ∀ (i : Nat) (n : Tr.Nd) (kv : Value), ns[i]? = some n → kvs[i]? = some kv → RdS W (TyB 3 W) 1 kv n.kids.length (intCells n.kids)
theorem WantI.same {w W W' : World} {vw : Value} {ns : List Tr.Nd} (h : WantI w W vw ns) (hv : ∀ k, vw.ownBlock = some k → W'.heap[k]? = W.heap[k]?) (hi : ∀ (k : Nat) (cs : Array Value), W.heap[k]? = some (.cells cs 3 (0, 0)) → W'.heap[k]? = W.heap[k]?) : WantI w W' vw ns := by
  obtain ⟨kvs, h1, h2, h3⟩ := h
  have hk : Keeps (TyB 3 W) W W' := fun k ⟨cs, hc⟩ => hi k cs hc
  exact ⟨kvs, h1, ownsRow_same h2 hv, fun i n kv hn hkv => ((h3 i n kv hn hkv).keep hk).imp fun k ⟨cs, hc⟩ => ⟨cs, (hi k cs hc).trans hc⟩⟩
theorem WantI.below {w W W' : World} {vw : Value} {ns : List Tr.Nd} (h : WantI w W vw ns) (hb : Below W.heap.size W W') : WantI w W' vw ns := by
  obtain ⟨kvs, h1, h2, h3⟩ := id h
  exact h.same (fun k hk => hb.block k (h2.lt k hk).2) fun k cs hc => hb.block k (lt_heap hc)
theorem WantI.form {w W : World} {vw : Value} {ns : List Tr.Nd} (h : WantI w W vw ns) : ∃ a c, vw = .slice a ns.length c := by
  obtain ⟨kvs, _, h2, _⟩ := h
  exact ownsRow_form h2

/-- All that the loop keeps. -/
structure TbI (w : World) (B b g : Nat) (o : Obj) (vt vn vw : Value) (t : Tr.T) (used : Nat) (ns : List Tr.Nd) (W : World) : Prop where
  hB : w.heap.size ≤ B
  bi : BuildI W B b vt vn t used
  be : Below w.heap.size w W
  tok : W.heap[g]? = some o
  gb : g ≠ b
  want : WantI w W vw ns
  apart : ∀ k, vw.ownBlock = some k → vn.ownBlock ≠ some k

theorem TbI.below {w W W' : World} {B b g : Nat} {o : Obj} {vt vn vw : Value} {t : Tr.T} {used : Nat} {ns : List Tr.Nd} (h : TbI w B b g o vt vn vw t used ns W) (hb : Below W.heap.size W W') : TbI w B b g o vt vn vw t used ns W' :=
  ⟨h.hB, h.bi.keep hb.size fun k hk _ => hb.block k hk, h.be.trans (hb.mono h.be.size), anc_box h.tok hb, h.gb, h.want.below hb, h.apart⟩

/-- A step of the builder: its own block and its nodes' row may have been turned. -/
theorem TbI.step {w W W' : World} {B b g : Nat} {cur : Array Value} {vt vn vn' vw : Value} {t t' : Tr.T} {used used' : Nat} {ns : List Tr.Nd} (h : TbI w B b g (.cells cur 34 (0, 0)) vt vn vw t used ns W) (hb : BuildI W' B b vt vn' t' used') (hg : Grew W W' b vn vn') :
    TbI w B b g (.cells cur 34 (0, 0)) vt vn' vw t' used' ns W' ∧ NBt 38 b W W' := by
  have hn := hg.nbt h.bi
  obtain ⟨kvs, h1, h2, h3⟩ := id h.want
  have hbt := h.bi.cell
  refine ⟨⟨h.hB, hb, h.be.trans ((hg.low h.bi).mono h.hB), hn.cells h.tok h.gb (by decide), h.gb, h.want.same (fun k hk => ?_) fun k cs hc => ?_, fun k hk e => ?_⟩, hn⟩
  · refine hg.1.block k (h2.lt k hk).2 ?_
    rintro (e | e)
    · obtain ⟨c, hc⟩ := ownsRow_cells h2 hk
      rw [e, hbt] at hc
      simp at hc
    · exact h.apart k hk e
  · rw [hc]
    refine hn.cells hc ?_ (by decide)
    rintro rfl
    rw [hbt] at hc
    simp at hc
  · rcases hg.2 k e with e1 | e1
    · exact h.apart k hk e1
    · have := (h2.lt k hk).2
      omega

/-- .. whatever the builder's two slices are. -/
def TbX (w : World) (b g : Nat) (o : Obj) (vw : Value) (t : Tr.T) (used : Nat) (ns : List Tr.Nd) (W : World) : Prop := ∃ B vt vn, TbI w B b g o vt vn vw t used ns W
theorem TbX.below {w W W' : World} {b g : Nat} {o : Obj} {vw : Value} {t : Tr.T} {used : Nat} {ns : List Tr.Nd} (h : TbX w b g o vw t used ns W) (hb : Below W.heap.size W W') : TbX w b g o vw t used ns W' := by
  obtain ⟨B, vt, vn, h⟩ := h
  exact ⟨B, vt, vn, h.below hb⟩
theorem TbX.be {w W : World} {b g : Nat} {o : Obj} {vw : Value} {t : Tr.T} {used : Nat} {ns : List Tr.Nd} (h : TbX w b g o vw t used ns W) : Below w.heap.size w W := by
  obtain ⟨B, vt, vn, h⟩ := h
  exact h.be
theorem TbX.tok {w W : World} {b g : Nat} {o : Obj} {vw : Value} {t : Tr.T} {used : Nat} {ns : List Tr.Nd} (h : TbX w b g o vw t used ns W) : W.heap[g]? = some o := by
  obtain ⟨B, vt, vn, h⟩ := h
  exact h.tok
theorem TbX.want {w W : World} {b g : Nat} {o : Obj} {vw : Value} {t : Tr.T} {used : Nat} {ns : List Tr.Nd} (h : TbX w b g o vw t used ns W) : WantI w W vw ns := by
  obtain ⟨B, vt, vn, h⟩ := h
  exact h.want
/-- At the start. -/
theorem tx_start {w W : World} {b g : Nat} {o : Obj} {l : List Tr.Tk} (h : Anc w W b ⟨l, []⟩ 0) (ht : W.heap[g]? = some o) (hg : g ≠ b) : TbX w b g o (.slice none 0 0) ⟨l, []⟩ 0 [] W := by
  obtain ⟨B, vt, vn, h1, h2, h3⟩ := h
  exact ⟨B, vt, vn, h1, h2, h3, ht, hg, ⟨[], rfl, World.ownsRow_nil _ _ _ _, fun i n kv hi => by simp at hi⟩, fun k hk => by cases hk⟩
theorem tx_peek {w W : World} {b g : Nat} {o : Obj} {vw : Value} {t : Tr.T} {used : Nat} {ns : List Tr.Nd} (h : TbX w b g o vw t used ns W) (ht : t.toks.length ≤ 1073741824) (hu : used ≤ t.toks.length) {k : Tr.Tk} (hk : t.toks[min used (t.toks.length - 1)]? = some k) :
    Calls Tryd.prog 10 #[.pointer (some ⟨b, 0, none⟩)] W fun e w' => e = .returned (.agg #[.int .i64 k.kind, .string ⟨k.lead.toArray⟩, .string ⟨k.text.toArray⟩, .int .i64 k.pos]) ∧ TbX w b g o vw t used ns w' := by
  obtain ⟨B, vt, vn, h⟩ := h
  refine (peek_calls h.bi ht hu hk).mono ?_
  rintro e w' ⟨rfl, hb⟩
  exact ⟨rfl, B, vt, vn, h.below hb⟩
theorem tx_leaf {w W : World} {b g : Nat} {cur : Array Value} {vw : Value} {t : Tr.T} {used : Nat} {ns : List Tr.Nd} (h : TbX w b g (.cells cur 34 (0, 0)) vw t used ns W) (hn : t.nodes.length ≤ 1073741823) (ht : t.toks.length ≤ 1073741824) (hu : used < t.toks.length) :
    Calls Tryd.prog 11 #[.pointer (some ⟨b, 0, none⟩)] W fun e w' => e = .returned (.int .i64 t.nodes.length) ∧ TbX w b g (.cells cur 34 (0, 0)) vw ⟨t.toks, t.nodes ++ [⟨19, used, []⟩]⟩ (used + 1) ns w' := by
  obtain ⟨B, vt, vn, h⟩ := h
  refine (leaf_calls h.bi hn ht (by omega)).mono ?_
  intro e w' hs
  unfold LeafSays at hs
  rw [if_neg (by omega)] at hs
  obtain ⟨vn', rfl, q1, q2⟩ := hs
  exact ⟨rfl, B, vt, vn', (h.step q1 q2).1⟩
theorem tx_leaf_end {w W : World} {b g : Nat} {cur : Array Value} {vw : Value} {t : Tr.T} {ns : List Tr.Nd} (h : TbX w b g (.cells cur 34 (0, 0)) vw t t.toks.length ns W) (hn : t.nodes.length ≤ 1073741823) (ht : t.toks.length ≤ 1073741824) :
    Calls Tryd.prog 11 #[.pointer (some ⟨b, 0, none⟩)] W fun e w' => e = .returned (.int .i64 (-1)) ∧ TbX w b g (.cells cur 34 (0, 0)) vw t t.toks.length ns w' := by
  obtain ⟨B, vt, vn, h⟩ := h
  refine (leaf_calls h.bi hn ht (Nat.le_refl _)).mono ?_
  intro e w' hs
  unfold LeafSays at hs
  rw [if_pos rfl] at hs
  obtain ⟨rfl, q1, q2⟩ := hs
  exact ⟨rfl, B, vt, vn, (h.step q1 q2).1⟩
theorem tx_kids {w W W' : World} {B b g : Nat} {o : Obj} {vt vn vw : Value} {t : Tr.T} {used : Nat} {ns : List Tr.Nd} (h : TbI w B b g o vt vn vw t used ns W) (hn : NBt 38 b W W') {v : Value} {l : List Int} (hk : RdS W (TyB 3 W) 1 v l.length (intCells l)) : RdS W' (TyB 3 W') 1 v l.length (intCells l) := by
  have hne : ∀ k, TyB 3 W k → W'.heap[k]? = W.heap[k]? := by
    rintro k ⟨cs, hc⟩
    rw [hc]
    refine hn.cells hc ?_ (by decide)
    rintro rfl
    rw [h.bi.cell] at hc
    simp at hc
  exact (hk.keep hne).imp fun k hk => hk.imp fun cs hc => (hne k ⟨cs, hc⟩).trans hc
theorem tx_node {w W : World} {b g : Nat} {cur : Array Value} {vw : Value} {t : Tr.T} {used : Nat} {ns : List Tr.Nd} (h : TbX w b g (.cells cur 34 (0, 0)) vw t used ns W) (hn : t.nodes.length ≤ 1073741823) {v : Value} {l : List Int} (hk : RdS W (TyB 3 W) 1 v l.length (intCells l)) (hl : l.length ≤ 1073741824) (kind : Int) (hok : l.any (badKid t.nodes.length) = false) :
    Calls Tryd.prog 12 #[.pointer (some ⟨b, 0, none⟩), .int .i64 kind, v] W fun e w' => e = .returned (.int .i64 t.nodes.length) ∧ TbX w b g (.cells cur 34 (0, 0)) vw ⟨t.toks, t.nodes ++ [⟨kind, -1, l⟩]⟩ used ns w' ∧ RdS w' (TyB 3 w') 1 v l.length (intCells l) := by
  obtain ⟨B, vt, vn, h⟩ := h
  refine (node_calls h.bi hn hk (fun k ⟨cs, hc⟩ => lt_heap hc) hl kind).mono ?_
  intro e w' hs
  unfold NodeSays at hs
  rw [if_neg (by simp [hok])] at hs
  obtain ⟨vn', rfl, q1, q2⟩ := hs
  have hst := h.step q1 q2
  exact ⟨rfl, ⟨B, vt, vn', hst.1⟩, tx_kids h hst.2 hk⟩
theorem tx_node_bad {w W : World} {b g : Nat} {cur : Array Value} {vw : Value} {t : Tr.T} {used : Nat} {ns : List Tr.Nd} (h : TbX w b g (.cells cur 34 (0, 0)) vw t used ns W) (hn : t.nodes.length ≤ 1073741823) {v : Value} {l : List Int} (hk : RdS W (TyB 3 W) 1 v l.length (intCells l)) (hl : l.length ≤ 1073741824) (kind : Int) (hok : l.any (badKid t.nodes.length) = true) :
    Calls Tryd.prog 12 #[.pointer (some ⟨b, 0, none⟩), .int .i64 kind, v] W fun e w' => e = .returned (.int .i64 (-1)) ∧ TbX w b g (.cells cur 34 (0, 0)) vw t used ns w' := by
  obtain ⟨B, vt, vn, h⟩ := h
  refine (node_calls h.bi hn hk (fun k ⟨cs, hc⟩ => lt_heap hc) hl kind).mono ?_
  intro e w' hs
  unfold NodeSays at hs
  rw [if_pos hok] at hs
  obtain ⟨rfl, q1, q2⟩ := hs
  exact ⟨rfl, B, vt, vn, (h.step q1 q2).1⟩
theorem tx_done {w W : World} {b g : Nat} {o : Obj} {vw : Value} {t : Tr.T} {used : Nat} {ns : List Tr.Nd} (h : TbX w b g o vw t used ns W) (hn : t.nodes.length ≤ 1073741823) (ht : t.toks.length ≤ 1073741824) (hkids : ∀ n ∈ t.nodes, n.kids.length ≤ 1073741824) :
    Calls Tryd.prog 13 #[.pointer (some ⟨b, 0, none⟩)] W fun e w' => ∃ vt' vn', e = .returned (.agg #[vt', vn']) ∧ RdT w' (fun k => k < w'.heap.size) vt' vn' t ∧ TbX w b g o vw t used ns w' := by
  obtain ⟨B, vt, vn, h⟩ := h
  refine (done_calls h.bi hn ht hkids).mono ?_
  rintro e w' ⟨vt', vn', rfl, h1, h2⟩
  exact ⟨vt', vn', rfl, ⟨h1.1.imp fun k hk => hk.2, h1.2.imp fun k hk => hk.2⟩, B, vt, vn, h.below h2⟩

/-- One node more is wanted. -/
theorem tb_push {w W V W' : World} {B b g : Nat} {cur : Array Value} {vt vn vw : Value} {t : Tr.T} {ns : List Tr.Nd} {n : Tr.Nd} {used : Nat} (h : TbI w B b g (.cells cur 34 (0, 0)) vt vn vw t used ns W)
    {kvs : List Value} (h1 : kvs.length = ns.length) (h2 : W.ownsRow w.heap.size 38 3 vw ns.length ((ns.zip kvs).flatMap ndCells))
    (h3 : ∀ (i : Nat) (n : Tr.Nd) (kv : Value), ns[i]? = some n → kvs[i]? = some kv → RdS W (TyB 3 W) 1 kv n.kids.length (intCells n.kids)) {kv : Value} (hk : RdS W (TyB 3 W) 1 kv n.kids.length (intCells n.kids)) (hV : Below W.heap.size W V)
    {g' cap : Nat} (hown : W'.ownsRow w.heap.size 38 3 (.slice (some ⟨g', 0, none⟩) (ns.length + 1) cap) (ns.length + 1) ((ns.zip kvs).flatMap ndCells ++ [.int .i64 n.kind, .int .i64 n.tok, kv])) (hgrow : V.grownBy W' vw.ownBlock) (hat : vw.ownBlock = some g' ∨ g' = V.heap.size) :
    TbI w B b g (.cells cur 34 (0, 0)) vt vn (.slice (some ⟨g', 0, none⟩) (ns.length + 1) cap) t used (ns ++ [n]) W' := by
  obtain ⟨hB, hbi, hbe, htok, hgb, _, hap⟩ := h
  have hs := hV.size
  have hmove : ∀ k, k < W.heap.size → vw.ownBlock ≠ some k → W'.heap[k]? = W.heap[k]? := fun k hk hn => by
    rw [hgrow.block k (by omega) (fun e => hn e.symm), hV.block k hk]
  have hty : ∀ (k : Nat) (cs : Array Value) (T : TypeId), W.heap[k]? = some (.cells cs T (0, 0)) → T ≠ 38 → W'.heap[k]? = W.heap[k]? := fun k cs T hc hT => by
    refine hmove k (lt_heap hc) fun e => ?_
    obtain ⟨c, hc'⟩ := ownsRow_cells h2 e
    rw [hc] at hc'
    simp only [Option.some.injEq, Obj.cells.injEq] at hc'
    exact hT hc'.2.1
  have hki : Keeps (TyB 3 W) W W' := fun k ⟨cs, hc⟩ => hty k cs _ hc (by decide)
  obtain ⟨bkvs, _, hb2, _⟩ := hbi.nodes
  refine ⟨hB, hbi.keepT (Nat.le_trans hs hgrow.size) (hty b _ _ hbi.cell (by decide)) (fun k hk => hmove k (hb2.lt k hk).2 fun e => hap k e hk) (fun k cs hc => hty k cs _ hc (by decide)) (Or.inl fun k cs hc => hty k cs _ hc (by decide)), (hbe.trans (hV.mono hbe.size)).grown hgrow (Nat.le_trans hbe.size hs) (fun k e => (h2.lt k e).1),
    (hty g _ _ htok (by decide)).trans htok, hgb, ⟨kvs ++ [kv], by simp [h1], ?_, fun i m kv' hi hkv => ?_⟩, fun k hk => ?_⟩
  · have hz : (ns ++ [n]).zip (kvs ++ [kv]) = ns.zip kvs ++ [(n, kv)] := by rw [List.zip_append h1.symm]; rfl
    simp only [hz, List.flatMap_append, List.length_append, List.length_cons, List.length_nil]
    simpa [ndCells] using hown
  · have himp : ∀ {kv : Value} {l : List Int}, RdS W (TyB 3 W) 1 kv l.length (intCells l) → RdS W' (TyB 3 W') 1 kv l.length (intCells l) := fun h => (h.keep hki).imp fun k ⟨cs, hc⟩ => ⟨cs, (hty k cs _ hc (by decide)).trans hc⟩
    rcases Nat.lt_or_ge i ns.length with hlt | hge
    · rw [List.getElem?_append_left hlt] at hi
      rw [List.getElem?_append_left (by omega)] at hkv
      exact himp (h3 i m kv' hi hkv)
    · have h0 : i = ns.length := by
        have := Tr.get_lt hi
        simp only [List.length_append, List.length_cons, List.length_nil] at this
        omega
      subst h0
      rw [List.getElem?_append_right (Nat.le_refl _)] at hi
      rw [List.getElem?_append_right (by omega)] at hkv
      simp only [Nat.sub_self, List.getElem?_cons_zero, Option.some.injEq, h1] at hi hkv
      subst hi hkv
      exact himp hk
  · simp only [Value.ownBlock, Option.some.injEq] at hk
    subst hk
    intro e
    rcases hat with h | h
    · exact hap _ h e
    · have := (hb2.lt _ e).2
      omega
theorem tx_push {w W V W' : World} {b g : Nat} {cur : Array Value} {vw : Value} {t : Tr.T} {ns : List Tr.Nd} {n : Tr.Nd} {used : Nat} (h : TbX w b g (.cells cur 34 (0, 0)) vw t used ns W)
    {kvs : List Value} (h1 : kvs.length = ns.length) (h2 : W.ownsRow w.heap.size 38 3 vw ns.length ((ns.zip kvs).flatMap ndCells))
    (h3 : ∀ (i : Nat) (n : Tr.Nd) (kv : Value), ns[i]? = some n → kvs[i]? = some kv → RdS W (TyB 3 W) 1 kv n.kids.length (intCells n.kids)) {kv : Value} (hk : RdS W (TyB 3 W) 1 kv n.kids.length (intCells n.kids)) (hV : Below W.heap.size W V)
    {g' cap : Nat} (hown : W'.ownsRow w.heap.size 38 3 (.slice (some ⟨g', 0, none⟩) (ns.length + 1) cap) (ns.length + 1) ((ns.zip kvs).flatMap ndCells ++ [.int .i64 n.kind, .int .i64 n.tok, kv])) (hgrow : V.grownBy W' vw.ownBlock) (hat : vw.ownBlock = some g' ∨ g' = V.heap.size) :
    TbX w b g (.cells cur 34 (0, 0)) (.slice (some ⟨g', 0, none⟩) (ns.length + 1) cap) t used (ns ++ [n]) W' := by
  obtain ⟨B, vt, vn, h⟩ := h
  exact ⟨B, vt, vn, tb_push h h1 h2 h3 hk hV hown hgrow hat⟩
end Go.Proofs.YtfoelgkkoopheaaDoor
