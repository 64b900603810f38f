/- The tree's builder: add. -/
import Derived.Test.YtfoelgkkoopheaaDoorBuild
import Derived.Deep.AppendLies
import Derived.Deep.RegionLaw
namespace Go.Proofs.YtfoelgkkoopheaaDoor
open Go.RowKit

/-- All stands but what S names. -/
structure But (S : Nat → Prop) (w w' : World) : Prop where
  os : w'.os = w.os
  tape : w'.tape = w.tape
  output : w'.output = w.output
  size : w.heap.size ≤ w'.heap.size
  block : ∀ k, k < w.heap.size → ¬ S k → w'.heap[k]? = w.heap[k]?
/-- What a builder's step may turn: its own block, and its nodes' row, which may have moved to a new block. -/
def Grew (w w' : World) (b : Nat) (vn vn' : Value) : Prop := But (fun k => k = b ∨ vn.ownBlock = some k) w w' ∧ ∀ k, vn'.ownBlock = some k → vn.ownBlock = some k ∨ w.heap.size ≤ k

theorem root_len (w : World) (vt : Value) (a : Option Addr) (n c : Nat) (hn : n ≤ 1073741824) :
    Calls Tryd.prog 18 #[.agg #[vt, .slice a n c]] w fun e w' => e = .returned (.int .i64 ((n : Int) - 1)) ∧ w.alloc (.cells #[vt, .slice a n c] 41) = w' := by
  have hn' : (n : Int) ≤ 1073741824 := by omega
  go_enter Tryd.func18, Tryd.ntmps18
  go_wp2
  go_ret
  exact ⟨rfl, rfl⟩
theorem info_node : (Tryd.prog.info? 38).map (fun i => (i.zero, i.size, i.bytes)) = some (some (.agg #[.int .i64 0, .int .i64 0, .slice none 0 0]), 3, 40) := by kernel_rfl

theorem cell_of_heap {w : World} {b : Nat} {cs : Array Value} {T : TypeId} {fr : Nat × Nat} (h : w.heap[b]? = some (.cells cs T fr)) (j : Nat) {u : Value} (hj : cs[j]? = some u) : w.cell? ⟨b, j, none⟩ = some u := by
  simp [World.cell?, h, hj]
theorem frozen_of_heap {w : World} {b : Nat} {cs : Array Value} {T : TypeId} (h : w.heap[b]? = some (.cells cs T (0, 0))) (j : Nat) : w.frozen? ⟨b, j, none⟩ = false := by
  simp [World.frozen?, h]
theorem lt_heap {w : World} {k : Nat} {o : Obj} (h : w.heap[k]? = some o) : k < w.heap.size := by
  rcases Nat.lt_or_ge k w.heap.size with h1 | h1
  · exact h1
  · rw [Array.getElem?_eq_none h1] at h; cases h

def AddSays (w : World) (B b : Nat) (vt vn : Value) (t : Tr.T) (used : Nat) (n : Tr.Nd) (e : Ending) (w' : World) : Prop :=
  ∃ vn', e = .returned (.int .i64 t.nodes.length) ∧ BuildI w' B b vt vn' ⟨t.toks, t.nodes ++ [n]⟩ used ∧ Grew w w' b vn vn'

theorem add_node (w : World) (A B : Array Value) (T U : TypeId) : ((w.alloc (.cells A T)).alloc (.cells B U)).drew.heap[w.heap.size + 1]? = some (.cells B U (0, 0)) := by
  rw [size_alloc1 w (.cells A T)]
  exact heap_alloc_new _ _
theorem add_base {w : World} {B b : Nat} {vt vn : Value} {t : Tr.T} {used : Nat} (h : BuildI w B b vt vn t used) (x y : Obj) : B ≤ ((w.alloc x).alloc y).drew.heap.size := by
  show B ≤ ((w.alloc x).alloc y).heap.size
  rw [← size_alloc1, ← size_alloc1]
  have := h.base
  have := lt_heap h.cell
  omega

theorem add_stand {w w1 : World} {B b : Nat} {vt vn : Value} {t : Tr.T} {used : Nat} (h : BuildI w B b vt vn t used) {x y : Obj} (hg : ((w.alloc x).alloc y).drew.grownBy w1 vn.ownBlock) :
    w1.heap[b]? = some (.cells #[vt, vn, .int .i64 used] 68 (0, 0)) := by
  have hlt := lt_heap h.cell
  rw [hg.block b (by show b < ((w.alloc x).alloc y).heap.size; rw [← size_alloc1, ← size_alloc1]; omega) (fun e => h.ne e.symm)]
  show ((w.alloc x).alloc y).heap[b]? = _
  rw [Below.heap_alloc _ _ _ (by rw [← size_alloc1]; omega), Below.heap_alloc _ _ _ hlt]
  exact h.cell

theorem ownsRow_same {w w' : World} {base : Nat} {e : TypeId} {size : Nat} {v : Value} {n : Nat} {xs : List Value} (h : w.ownsRow base e size v n xs) (hk : ∀ k, v.ownBlock = some k → w'.heap[k]? = w.heap[k]?) : w'.ownsRow base e size v n xs := by
  obtain ⟨h1, h2⟩ := h
  refine ⟨h1, ?_⟩
  rcases h2 with h2 | ⟨g, cap, cur, rfl, hg, hh, r⟩
  · exact Or.inl h2
  · exact Or.inr ⟨g, cap, cur, rfl, hg, by rw [hk g rfl]; exact hh, r⟩
theorem setCell_row {w : World} {b j : Nat} {cs : Array Value} {T : TypeId} (h : w.heap[b]? = some (.cells cs T (0, 0))) (u : Value) : (w.setCell ⟨b, j, none⟩ u).heap[b]? = some (.cells (cs.setIfInBounds j u) T (0, 0)) := by
  rw [setCell_eq_setRow w b j cs T (0, 0) u h]
  exact setRow_at h

/-- What add has done. -/
theorem add_done {w w1 : World} {B b : Nat} {vt vn : Value} {t : Tr.T} {used : Nat} (h : BuildI w B b vt vn t used) {n : Tr.Nd} {kv : Value} (hk : RdS w (BP w B b vn) 1 kv n.kids.length (intCells n.kids))
    {kvs : List Value} (hk1 : kvs.length = t.nodes.length) (hk3 : ∀ (i : Nat) (n : Tr.Nd) (kv : Value), t.nodes[i]? = some n → kvs[i]? = some kv → RdS w (BP w B b vn) 1 kv n.kids.length (intCells n.kids))
    {x y z : Obj} {g cap : Nat} (hown : w1.ownsRow B 38 3 (.slice (some ⟨g, 0, none⟩) (t.nodes.length + 1) cap) (t.nodes.length + 1) ((t.nodes.zip kvs).flatMap ndCells ++ [.int .i64 n.kind, .int .i64 n.tok, kv]))
    (hgrow : ((w.alloc x).alloc y).drew.grownBy w1 vn.ownBlock) (hat : vn.ownBlock = some g ∨ g = ((w.alloc x).alloc y).drew.heap.size) :
    BuildI ((w1.setCell ⟨b, 1, none⟩ (.slice (some ⟨g, 0, none⟩) (t.nodes.length + 1) cap)).alloc z) B b vt (.slice (some ⟨g, 0, none⟩) (t.nodes.length + 1) cap) ⟨t.toks, t.nodes ++ [n]⟩ used ∧
    Grew w ((w1.setCell ⟨b, 1, none⟩ (.slice (some ⟨g, 0, none⟩) (t.nodes.length + 1) cap)).alloc z) b vn (.slice (some ⟨g, 0, none⟩) (t.nodes.length + 1) cap) := by
  have hst := add_stand h hgrow
  have hblt := lt_heap h.cell
  have hs2 : ((w.alloc x).alloc y).drew.heap.size = w.heap.size + 2 := by
    show ((w.alloc x).alloc y).heap.size = _
    rw [← size_alloc1, ← size_alloc1]
  have hs1 : w.heap.size + 2 ≤ w1.heap.size := by rw [← hs2]; exact hgrow.size
  have hgb : g ≠ b := by
    rcases hat with h1 | h1
    · intro e; exact h.ne (by rw [h1, e])
    · omega
  have hglt : g < w1.heap.size := (hown.lt g rfl).2
  generalize hv : Value.slice (some ⟨g, 0, none⟩) (t.nodes.length + 1) cap = v at *
  have hvo : v.ownBlock = some g := by rw [← hv]; rfl
  have hsz : (w1.setCell ⟨b, 1, none⟩ v).heap.size = w1.heap.size := by simp [World.setCell]
  have hne : ∀ k, k < w1.heap.size → k ≠ b → ((w1.setCell ⟨b, 1, none⟩ v).alloc z).heap[k]? = w1.heap[k]? := by
    intro k h1 h2
    rw [Below.heap_alloc _ _ _ (by rw [hsz]; exact h1), Below.heap_setCell _ _ _ _ h2]
  have hold : ∀ k, k < w.heap.size → k ≠ b → vn.ownBlock ≠ some k → ((w1.setCell ⟨b, 1, none⟩ v).alloc z).heap[k]? = w.heap[k]? := by
    intro k h1 h2 h3
    rw [hne k (by omega) h2, hgrow.block k (by omega) (fun e => h3 e.symm)]
    show ((w.alloc x).alloc y).heap[k]? = _
    rw [Below.heap_alloc _ _ _ (by rw [← size_alloc1]; omega), Below.heap_alloc _ _ _ h1]
  have hbp : ∀ k, BP w B b vn k → BP ((w1.setCell ⟨b, 1, none⟩ v).alloc z) B b v k := by
    rintro k ⟨h1, h2, h3, h4⟩
    refine ⟨h1, h2, ?_, by rw [← size_alloc1, hsz]; omega⟩
    rw [hvo]
    intro e
    injection e with e
    subst e
    rcases hat with h5 | h5
    · exact h3 h5
    · omega
  have hkeep : Keeps (BP w B b vn) w ((w1.setCell ⟨b, 1, none⟩ v).alloc z) := fun k hk => hold k hk.2.2.2 hk.2.1 hk.2.2.1
  refine ⟨⟨?_, h.base, ?_, (h.toks.keep hkeep).imp hbp, kvs ++ [kv], by simp [hk1], ?_, ?_⟩, ⟨?_, ?_, ?_, ?_, ?_⟩, ?_⟩
  · rw [Below.heap_alloc _ _ _ (by rw [hsz]; omega), setCell_row hst]
    rfl
  · rw [hvo]
    intro e
    injection e with e
    exact hgb e
  · have h1 : (t.nodes ++ [n]).zip (kvs ++ [kv]) = t.nodes.zip kvs ++ [(n, kv)] := by rw [List.zip_append hk1.symm]; rfl
    simp only [h1, List.flatMap_append, List.length_append, List.length_cons, List.length_nil]
    refine ownsRow_same (by simpa [ndCells] using hown) fun k hk => ?_
    rw [hvo] at hk
    injection hk with hk
    subst hk
    exact hne g hglt hgb
  · intro i m kv' hi hkv
    rcases Nat.lt_or_ge i t.nodes.length with hlt | hge
    · rw [List.getElem?_append_left hlt] at hi
      rw [List.getElem?_append_left (by omega)] at hkv
      exact ((hk3 i m kv' hi hkv).keep hkeep).imp hbp
    · have h0 : i = t.nodes.length := by
        rcases Nat.lt_or_ge t.nodes.length i with h1 | h1
        · rw [List.getElem?_eq_none (by simp; omega)] at hi; cases hi
        · omega
      subst h0
      rw [List.getElem?_append_right (Nat.le_refl _)] at hi
      rw [List.getElem?_append_right (by omega)] at hkv
      simp only [Nat.sub_self, List.getElem?_cons_zero, Option.some.injEq, hk1] at hi hkv
      subst hi hkv
      exact (hk.keep hkeep).imp hbp
  · exact hgrow.os
  · exact hgrow.tape
  · exact hgrow.output
  · rw [← size_alloc1, hsz]; omega
  · intro k h1 h2
    exact hold k h1 (fun e => h2 (Or.inl e)) (fun e => h2 (Or.inr e))
  · intro k hk
    rw [hvo] at hk
    injection hk with hk
    subst hk
    rcases hat with h5 | h5
    · exact Or.inl h5
    · right; omega

set_option maxRecDepth 100000 in
theorem add_calls {w : World} {B b : Nat} {vt vn : Value} {t : Tr.T} {used : Nat} (h : BuildI w B b vt vn t used) (hn : t.nodes.length ≤ 1073741823) (n : Tr.Nd) (kv : Value) (hk : RdS w (BP w B b vn) 1 kv n.kids.length (intCells n.kids)) :
    Calls Tryd.prog 29 #[.pointer (some ⟨b, 0, none⟩), .agg #[.int .i64 n.kind, .int .i64 n.tok, kv]] w (AddSays w B b vt vn t used n) := by
  obtain ⟨kvs, hk1, hk2, hk3⟩ := h.nodes
  obtain ⟨an, cn, rfl⟩ := ownsRow_form hk2
  obtain ⟨at_, ct, rfl⟩ := h.toks.form
  obtain ⟨ak, ck, rfl⟩ := hk.form
  obtain ⟨i0, hi, hz0, hz1, hz2⟩ := info_split info_node
  have Hi := Lib.hid hi
  have Hz0 := Lib.hid hz0
  have Hz1 := Lib.hid hz1
  have Hz2 := Lib.hid hz2
  have hlt := lt_heap h.cell
  have c0 := cell_of_heap h.cell 0 rfl
  have c1 := cell_of_heap h.cell 1 rfl
  have HH := Lib.hid h
  have HK := Lib.hid hk
  have HKS := Lib.hid (And.intro hk1 (And.intro hk2 hk3))
  have HN := Lib.hid hn
  clear hi hz0 hz1 hz2 h hk hk1 hk2 hk3 hn
  go_enter Tryd.func29, Tryd.ntmps29
  go_wp2
  go_region_law (refine step_append_lies _ rfl (.tmp 10) (.tmp 12) 32 rfl B 38 i0 (.agg #[.int .i64 0, .int .i64 0, .slice none 0 0]) 3 40 Tryd.underlying32 Hi.out Hz0.out Hz1.out Hz2.out rfl (by decide) (.slice an t.nodes.length cn) t.nodes.length ((t.nodes.zip kvs).flatMap ndCells) (by simp [Act.eval]) ((HKS.out.2.1.alloc _).alloc _) ⟨w.heap.size + 1, 0, none⟩ 1 1 [.int .i64 n.kind, .int .i64 n.tok, .slice ak n.kids.length ck] (by simp [Act.eval]) rfl (World.news_of_block (add_node w _ _ _ _)) (by simp [Value.oneCell']) (by decide) (by have := HN.out; unfold maxLen; omega) (by have := HN.out; omega) (add_base HH.out _ _) _ rfl ?_; intro g cap w1 hown hgrow hat hlt1; have hst := add_stand HH.out hgrow; have d0 := cell_of_heap hst 0 rfl; have d1 := cell_of_heap hst 1 rfl; have f1 := frozen_of_heap hst 1; have HG := Lib.hid (And.intro hown (And.intro hgrow (And.intro hat (And.intro hlt1 hst)))); clear hown hgrow hat hlt1 hst)
  all_goals
    have hd := add_done HH.out HK.out HKS.out.1 HKS.out.2.2 (z := .cells #[.slice at_ t.toks.length ct, .slice (some ⟨g, 0, none⟩) (t.nodes.length + 1) cap] 41) HG.out.1 HG.out.2.1 HG.out.2.2.1
    have hst2 := setCell_row (j := 1) HG.out.2.2.2.2 (.slice (some ⟨g, 0, none⟩) (t.nodes.length + 1) cap)
    have e0 := cell_of_heap hst2 0 rfl
    have e1 := cell_of_heap hst2 1 rfl
    have HD := Lib.hid hd
    clear hd hst2 d0 d1 f1 c0 c1 HG
    generalize w1.setCell ⟨b, 1, none⟩ (.slice (some ⟨g, 0, none⟩) (t.nodes.length + 1) cap) = w2 at *
    have hn2 := HN.out
    go_wp2_with (go_at_call 18; refine (root_len _ _ _ _ _ (by omega)).mono ?_; rintro e w3 ⟨rfl, rfl⟩)
    go_ret
    obtain ⟨q1, q2⟩ := HD.out
    refine ⟨_, ?_, q1, q2⟩
    simp
end Go.Proofs.YtfoelgkkoopheaaDoor
