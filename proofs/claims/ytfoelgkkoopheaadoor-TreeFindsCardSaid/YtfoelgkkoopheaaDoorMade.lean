/- made.Tree: a tree as the document has it. -/
import Derived.Test.YtfoelgkkoopheaaDoorSmall
namespace Go.Proofs.YtfoelgkkoopheaaDoor
open Go.RowKit

theorem info_rtok : (Tryd.prog.info? 78).map (fun i => (i.zero, i.size, i.bytes)) = some (some (.agg #[.int .i64 0, .string ⟨#[]⟩, .string ⟨#[]⟩, .int .i64 0]), 4, 48) := by kernel_rfl
theorem info_rnode : (Tryd.prog.info? 79).map (fun i => (i.zero, i.size, i.bytes)) = some (some (.agg #[.int .i64 0, .int .i64 0, .slice none 0 0]), 3, 40) := by kernel_rfl

/-- All below d stands since W; d's block holds the two slices. -/
def MadeT (W : World) (d : Nat) (toks : List Tr.Tk) (k : Nat) (v11 : Value) (wr : World) : Prop :=
  ∃ (j : Nat) (a : Option Addr) (c : Nat), v11 = .int .i64 j ∧ k = toks.length - j ∧ j ≤ toks.length ∧ wr.heap[d]? = some (.cells #[.slice a j c, .slice none 0 0] 54 (0, 0)) ∧
    wr.ownsRow (d + 1) 78 4 (.slice a j c) j (tksCells (toks.take j)) ∧ Below d W wr
def MadeN (W : World) (d : Nat) (vt : Value) (ns : List Tr.Nd) (kvs : List Value) (k : Nat) (v25 : Value) (wr : World) : Prop :=
  ∃ (j : Nat) (a : Option Addr) (c : Nat), v25 = .int .i64 j ∧ k = ns.length - j ∧ j ≤ ns.length ∧ wr.heap[d]? = some (.cells #[vt, .slice a j c] 54 (0, 0)) ∧
    wr.ownsRow W.heap.size 79 3 (.slice a j c) j (((ns.take j).zip (kvs.take j)).flatMap ndCells) ∧ But (fun k => k = d) W wr

theorem made_start (w : World) (x y : Obj) (T : TypeId) (cs : Array Value) : (((w.alloc x).alloc y).alloc (.cells cs T)).heap[w.heap.size + 2]? = some (.cells cs T (0, 0)) := by
  rw [show w.heap.size + 2 = ((w.alloc x).alloc y).heap.size from by rw [← size_alloc1, ← size_alloc1]]
  exact heap_alloc_new _ _

theorem made_mid (w : World) (x z : Obj) (T : TypeId) (cs : Array Value) : (((w.alloc x).alloc (.cells cs T)).alloc z).heap[w.heap.size + 1]? = some (.cells cs T (0, 0)) := by
  rw [Below.heap_alloc _ _ _ (by rw [← size_alloc1, ← size_alloc1]; omega), show w.heap.size + 1 = (w.alloc x).heap.size from size_alloc1 _ _]
  exact heap_alloc_new _ _
theorem made_low (w : World) (y z : Obj) (T : TypeId) (cs : Array Value) : (((w.alloc (.cells cs T)).alloc y).alloc z).heap[w.heap.size]? = some (.cells cs T (0, 0)) := by
  rw [Below.heap_alloc _ _ _ (by rw [← size_alloc1, ← size_alloc1]; omega), Below.heap_alloc _ _ _ (by rw [← size_alloc1]; omega)]
  exact heap_alloc_new _ _
theorem made_stand {wr w3 : World} {d e size n : Nat} {v : Value} {xs : List Value} {x y o : Obj} (hd : wr.heap[d]? = some o) (ho : wr.ownsRow (d + 1) e size v n xs) (hg : ((wr.alloc x).alloc y).grownBy w3 v.ownBlock) : w3.heap[d]? = some o := by
  have hlt := lt_heap hd
  rw [hg.block d (by rw [← size_alloc1, ← size_alloc1]; omega) (fun e => by have := (ho.lt d e.symm).1; omega), Below.heap_alloc _ _ _ (by rw [← size_alloc1]; omega), Below.heap_alloc _ _ _ hlt]
  exact hd

theorem flatMap_eq_nil_len {l : List (Tr.Nd × Value)} (h : l.flatMap ndCells = []) : l = [] := by
  have := flatMap_len (f := ndCells) (s := 3) (fun _ => rfl) l
  rw [h] at this
  exact List.eq_nil_of_length_eq_zero (by simp only [List.length_nil] at this; omega)
theorem made_stand2 {w0 wr w3 : World} {d e size n : Nat} {v : Value} {xs : List Value} {x y o : Obj} (hd : wr.heap[d]? = some o) (ho : wr.ownsRow w0.heap.size e size v n xs) (hlt0 : d < w0.heap.size) (hg : ((wr.alloc x).alloc y).grownBy w3 v.ownBlock) : w3.heap[d]? = some o := by
  have hlt := lt_heap hd
  rw [hg.block d (by rw [← size_alloc1, ← size_alloc1]; omega) (fun e => by have := (ho.lt d e.symm).1; omega), Below.heap_alloc _ _ _ (by rw [← size_alloc1]; omega), Below.heap_alloc _ _ _ hlt]
  exact hd
theorem made_but {w0 wr w3 : World} {d j : Nat} {v : Value} {x y : Obj} (hb : But (fun k => k = d) w0 wr) (hg : ((wr.alloc x).alloc y).grownBy w3 v.ownBlock) (hv : ∀ k, v.ownBlock = some k → w0.heap.size ≤ k) (u : Value) : But (fun k => k = d) w0 (w3.setCell ⟨d, j, none⟩ u) := by
  have hs := hg.size
  rw [← size_alloc1, ← size_alloc1] at hs
  have hs0 := hb.size
  refine ⟨hg.os.trans hb.os, hg.tape.trans hb.tape, hg.output.trans hb.output, ?_, fun k hk hn => ?_⟩
  · have : (w3.setCell ⟨d, j, none⟩ u).heap.size = w3.heap.size := by simp [World.setCell]
    omega
  · rw [Below.heap_setCell _ _ _ _ hn, hg.block k (by rw [← size_alloc1, ← size_alloc1]; omega) (fun e => by have := hv k e.symm; omega), Below.heap_alloc _ _ _ (by rw [← size_alloc1]; omega), Below.heap_alloc _ _ _ (by omega)]
    exact hb.block k hk hn
theorem made_zip {ns : List Tr.Nd} {kvs : List Value} {j : Nat} {n : Tr.Nd} {kv : Value} (h1 : ns[j]? = some n) (h2 : kvs[j]? = some kv) (hl : kvs.length = ns.length) :
    ((ns.take (j + 1)).zip (kvs.take (j + 1))).flatMap ndCells = ((ns.take j).zip (kvs.take j)).flatMap ndCells ++ [.int .i64 n.kind, .int .i64 n.tok, kv] := by
  rw [List.take_add_one, List.take_add_one, h1, h2, List.zip_append (by simp [hl])]
  simp [ndCells]
theorem made_node {w : World} {P : Nat → Prop} {an : Option Addr} {cn m : Nat} {ns : List Tr.Nd} {kvs : List Value} (h : RdS w P 3 (.slice an m cn) m ((ns.zip kvs).flatMap ndCells)) {j : Nat} {n : Tr.Nd} {kv : Value} (h1 : ns[j]? = some n) (h2 : kvs[j]? = some kv) :
    ∃ g o, an = some ⟨g, o, none⟩ ∧ w.rangeAt g (o + j * 3) [.int .i64 n.kind, .int .i64 n.tok, kv] := by
  obtain ⟨hl, a, c, he, _, hd⟩ := h
  simp only [Value.slice.injEq, true_and] at he
  obtain ⟨rfl, rfl⟩ := he
  have hz : (ns.zip kvs)[j]? = some (n, kv) := by rw [List.getElem?_zip_eq_some]; exact ⟨h1, h2⟩
  rcases hd with ⟨_, h0⟩ | ⟨b, off, rfl, _, hr⟩
  · have e : (ns.zip kvs).flatMap ndCells = [] := List.eq_nil_of_length_eq_zero (by rw [hl, h0])
    rw [flatMap_eq_nil_len e] at hz
    cases hz
  · exact ⟨b, off, rfl, rangeAt_piece (f := ndCells) (s := 3) (x := (n, kv)) (fun _ => rfl) hr hz⟩

set_option maxRecDepth 100000 in
set_option maxHeartbeats 1000000 in
theorem made_calls {w : World} {P : Nat → Prop} {vt vn : Value} {t : Tr.T} (h : RdT w P vt vn t) (hP : ∀ k, P k → k < w.heap.size) (ht : t.toks.length ≤ 1073741823) (hn : t.nodes.length ≤ 1073741823) :
    Calls Tryd.prog 20 #[.agg #[vt, vn]] w fun e w' => ∃ vt' vn', e = .returned (.agg #[vt', vn']) ∧ RdT w' (fun k => P k ∨ (w.heap.size ≤ k ∧ k < w'.heap.size)) vt' vn' t ∧ Below w.heap.size w w' := by
  obtain ⟨toks, ns⟩ := t
  simp only at ht hn
  have ht' : (toks.length : Int) ≤ 1073741823 := by omega
  have hn' : (ns.length : Int) ≤ 1073741823 := by omega
  have HH := Lib.hid (And.intro h hP)
  obtain ⟨at_, ct, rfl⟩ := h.1.form
  obtain ⟨an, cn, rfl⟩ : ∃ a c, vn = .slice a ns.length c := by
    obtain ⟨kvs, _, h2, _⟩ := h.2
    exact h2.form
  clear h hP
  simp only at HH
  obtain ⟨i0, hi, hz0, hz1, hz2⟩ := info_split info_rtok
  have Hi := Lib.hid hi
  have Hz0 := Lib.hid hz0
  have Hz1 := Lib.hid hz1
  have Hz2 := Lib.hid hz2
  clear hi hz0 hz1 hz2
  go_enter Tryd.func20, Tryd.ntmps20
  go_wp2
  obtain ⟨W, hW⟩ : ∃ W, ((w.alloc (.cells #[.slice at_ toks.length ct, .slice an ns.length cn] 41)).alloc (.cells #[.slice none 0 0, .slice none 0 0] 54)).alloc (.cells #[.slice none 0 0, .slice none 0 0] 54) = W := ⟨_, rfl⟩
  rw [hW]
  have hWs : W.heap.size = w.heap.size + 3 := by rw [← hW, ← size_alloc1, ← size_alloc1, ← size_alloc1]
  have hWd : W.heap[w.heap.size + 2]? = some (.cells #[.slice none 0 0, .slice none 0 0] 54 (0, 0)) := by rw [← hW]; exact made_start _ _ _ _ _
  have hWb : Below w.heap.size w W := by rw [← hW]; exact (((Below.refl _ _).alloc (Nat.le_refl _) _).alloc (by rw [← size_alloc1]; omega) _).alloc (by rw [← size_alloc1, ← size_alloc1]; omega) _
  have hWr : W.heap[w.heap.size + 1]? = some (.cells #[.slice none 0 0, .slice none 0 0] 54 (0, 0)) := by rw [← hW]; exact made_mid _ _ _ _ _
  have hWx : W.heap[w.heap.size]? = some (.cells #[.slice at_ toks.length ct, .slice an ns.length cn] 41 (0, 0)) := by rw [← hW]; exact made_low _ _ _ _ _
  have HW := Lib.hid (And.intro hWs (And.intro hWd (And.intro hWb (And.intro hWr hWx))))
  clear hWs hWd hWb hWr hWx hW
  go_loopg [11] toks.length (fun k v11 wr => MadeT W (w.heap.size + 2) toks k v11 wr)
  case atStart => exact ⟨0, none, 0, rfl, rfl, Nat.zero_le _, HW.out.2.1, World.ownsRow_nil _ _ _ _, Below.refl _ _⟩
  case round =>
    obtain ⟨j, a, c, rfl, hk, hj, hd, hown, hb⟩ := hrel
    by_cases hlt : j < toks.length
    · have hlt' : (j : Int) < (toks.length : Int) := by omega
      obtain ⟨tk, htk⟩ : ∃ tk, toks[j]? = some tk := ⟨_, List.getElem?_eq_getElem hlt⟩
      have hbw : Below w.heap.size w wr := HW.out.2.2.1.trans (hb.mono (by omega))
      obtain ⟨g, o, c', he, hg, hrg⟩ := (HH.out.1.1.keep (Keeps.of hbw HH.out.2)).tok htk
      simp only [Value.slice.injEq, true_and] at he
      obtain ⟨rfl, rfl⟩ := he
      have e0 := cell_of_heap hd 0 rfl
      have l0 := cell_lt e0
      have HG := Lib.hid hrg
      have HR := Lib.hid (And.intro hk (And.intro htk (And.intro hd (And.intro hown hb))))
      clear hrg htk hg hk hd hown hb hbw
      obtain ⟨kd, ld, tx, ps⟩ := tk
      go_wp2_with (first
        | (refine wpList_load_mid rfl 34 _ rfl g (o + j * 4) rfl _ _ HG.out Tryd.underlying34 rfl rfl ?_)
        | (at_builtin; refine wpList_append_one2 rfl _ _ 51 rfl (w.heap.size + 2 + 1) 78 78 i0 (.agg #[.int .i64 0, .string ⟨#[]⟩, .string ⟨#[]⟩, .int .i64 0]) 4 48 Tryd.underlying51 Hi.out Hz0.out Hz1.out Hz2.out rfl (by decide) _ j (tksCells (toks.take j)) rfl (HR.out.2.2.2.1.alloc _) _ 1 [.int .i64 kd, .string ⟨ld.toArray⟩, .string ⟨tx.toArray⟩, .int .i64 ps] rfl (size_alloc1 _ _) rfl (by simp [Value.oneCell']) (by omega) (by decide) (Nat.le_trans l0 (Nat.le_of_lt (by rw [← size_alloc1]; omega))) ?_))
      intro v3 w3 hown3 hg3
      obtain ⟨a3, c3, rfl⟩ := ownsRow_form hown3
      have hd3 := made_stand HR.out.2.2.1 HR.out.2.2.2.1 hg3
      have f3 := cell_of_heap hd3 0 rfl
      have z3 := frozen_of_heap hd3 0
      have l3 := cell_lt f3
      have HO := Lib.hid (And.intro hown3 (And.intro hg3 hd3))
      clear hown3 hg3 hd3 e0
      go_wp2
      go_roundg (toks.length - (j + 1))
      case measure => have := HR.out.1; omega
      case rel =>
        obtain ⟨_, htk, hd, hown, hb⟩ := HR.out
        obtain ⟨ho3, hg3, hd3⟩ := HO.out
        refine ⟨j + 1, a3, c3, by go_num, rfl, by omega, setCell_row hd3 _, ?_, ?_⟩
        · rw [List.take_add_one, htk]
          refine ownsRow_same (by simpa [tksCells, tkCells] using ho3) fun k hk => Below.heap_setCell _ _ _ _ ?_
          have := (ho3.lt k hk).1
          simp only
          omega
        · exact (((hb.alloc (by omega) _).alloc (by rw [← size_alloc1]; omega) _).grown hg3 (by rw [← size_alloc1, ← size_alloc1]; omega) (fun k hk => by have := (hown.lt k hk).1; omega)).setCell (Nat.le_refl _) _
    · obtain rfl : j = toks.length := by omega
      rw [List.take_length] at hown
      have hbox : wr.heap[w.heap.size]? = some (.cells #[.slice at_ toks.length ct, .slice an ns.length cn] 41 (0, 0)) := by rw [hb.block _ (by omega)]; exact HW.out.2.2.2.2
      have hres : wr.heap[w.heap.size + 1]? = some (.cells #[.slice none 0 0, .slice none 0 0] 54 (0, 0)) := by rw [hb.block _ (by omega)]; exact HW.out.2.2.2.1
      have d1 := cell_of_heap hbox 1 rfl
      have hbw : Below w.heap.size w wr := HW.out.2.2.1.trans (hb.mono (by omega))
      obtain ⟨kvs, hk1, hk2, hk3⟩ := HH.out.1.2
      have HF := Lib.hid (And.intro hd (And.intro hown (And.intro hres hbw)))
      have HK := Lib.hid (And.intro hk1 (And.intro hk2 hk3))
      clear hbox hres hbw hd hown hb hk hk1 hk2 hk3
      generalize wr = w0 at *
      obtain ⟨i1, hi, hz0, hz1, hz2⟩ := info_split info_rnode
      have Ji := Lib.hid hi
      have Jz0 := Lib.hid hz0
      have Jz1 := Lib.hid hz1
      have Jz2 := Lib.hid hz2
      clear hi hz0 hz1 hz2
      go_wp2_with fail
      go_loopg [25] ns.length (fun k v25 wr => MadeN w0 (w.heap.size + 2) (.slice a toks.length c) ns kvs k v25 wr)
      case atStart => exact ⟨0, none, 0, rfl, rfl, Nat.zero_le _, HF.out.1, World.ownsRow_nil _ _ _ _, But.refl _ _⟩
      case round =>
        obtain ⟨j, a2, c2, rfl, hk, hj, hd, hown, hb⟩ := hrel
        have HR := Lib.hid (And.intro hk (And.intro hd (And.intro hown hb)))
        by_cases hlt : j < ns.length
        · have hlt' : (j : Int) < (ns.length : Int) := by omega
          obtain ⟨n, hnj⟩ : ∃ n, ns[j]? = some n := ⟨_, List.getElem?_eq_getElem hlt⟩
          obtain ⟨kv, hkv⟩ : ∃ kv, kvs[j]? = some kv := ⟨_, List.getElem?_eq_getElem (by have := HK.out.1; omega)⟩
          obtain ⟨ka, kc, rfl⟩ := (HK.out.2.2 j n kv hnj hkv).form
          have hkeep : Keeps P w wr := fun k hk => by rw [hb.block k (Nat.lt_of_lt_of_le (HH.out.2 k hk) HF.out.2.2.2.size) (by have := HH.out.2 k hk; omega), HF.out.2.2.2.block k (HH.out.2 k hk)]
          obtain ⟨g, o, he, hrg⟩ := made_node (HK.out.2.1.keep hkeep) hnj hkv
          obtain ⟨rfl⟩ := he
          have e0 := cell_of_heap hd 1 rfl
          have l0 := cell_lt e0
          have HG := Lib.hid hrg
          have HT := Lib.hid (And.intro hnj hkv)
          clear hrg hnj hkv hk hd hown hb hkeep
          go_wp2_with (first
            | (refine wpList_load_mid rfl 38 _ rfl g (o + j * 3) rfl _ _ HG.out Tryd.underlying38 rfl rfl ?_)
            | (at_builtin; refine wpList_append_one2 rfl _ _ 52 rfl w0.heap.size 79 79 i1 (.agg #[.int .i64 0, .int .i64 0, .slice none 0 0]) 3 40 Tryd.underlying52 Ji.out Jz0.out Jz1.out Jz2.out rfl (by decide) _ j (((ns.take j).zip (kvs.take j)).flatMap ndCells) rfl (HR.out.2.2.1.alloc _) _ 1 [.int .i64 n.kind, .int .i64 n.tok, .slice ka n.kids.length kc] rfl (size_alloc1 _ _) rfl (by simp [Value.oneCell']) (by omega) (by decide) (Nat.le_trans HR.out.2.2.2.size (Nat.le_of_lt (by rw [← size_alloc1]; omega))) ?_))
          intro v3 w3 hown3 hg3
          obtain ⟨a3, c3, rfl⟩ := ownsRow_form hown3
          have hdlt := lt_heap HF.out.1
          have hd3 := made_stand2 HR.out.2.1 HR.out.2.2.1 hdlt hg3
          have f3 := cell_of_heap hd3 1 rfl
          have z3 := frozen_of_heap hd3 1
          have l3 := cell_lt f3
          have HO := Lib.hid (And.intro hown3 (And.intro hg3 hd3))
          clear hown3 hg3 hd3 e0
          go_wp2
          go_roundg (ns.length - (j + 1))
          case measure => have := HR.out.1; omega
          case rel =>
            obtain ⟨_, hd, hown, hb⟩ := HR.out
            obtain ⟨ho3, hg3, hd3⟩ := HO.out
            refine ⟨j + 1, a3, c3, by go_num, rfl, by omega, setCell_row hd3 _, ?_, made_but hb hg3 (fun k hk => (hown.lt k hk).1) _⟩
            rw [made_zip HT.out.1 HT.out.2 HK.out.1]
            refine ownsRow_same ho3 fun k hk => Below.heap_setCell _ _ _ _ ?_
            have := (ho3.lt k hk).1
            simp only
            omega
        · obtain rfl : j = ns.length := by omega
          have hres : wr.heap[w.heap.size + 1]? = some (.cells #[.slice none 0 0, .slice none 0 0] 54 (0, 0)) := by rw [hb.block _ (lt_heap HF.out.2.2.1) (by omega)]; exact HF.out.2.2.1
          have HRS := Lib.hid hres
          clear hk hd hown hb hres d1
          go_wp2_with (first
            | (refine wpList_load_row rfl 54 _ rfl (w.heap.size + 2) rfl _ _ _ _ HR.out.2.1 Tryd.underlying54 rfl rfl ?_)
            | (refine wpList_store_row rfl 54 _ _ rfl 54 (w.heap.size + 1) _ _ rfl HRS.out rfl rfl rfl (by simp [Value.oneCell']) ?_))
          refine bodyPost_ret (v := _) (results_cell_row rfl _ _ (w.heap.size + 1) _ _ _ _ rfl (setRow_at HRS.out) Tryd.underlying54 rfl rfl) rfl ?_
          obtain ⟨_, hd, hown, hb⟩ := HR.out
          obtain ⟨fd, fo, fr, fb⟩ := HF.out
          obtain ⟨hk1, hk2, hk3⟩ := HK.out
          have hsz : (wr.setRow (w.heap.size + 1) #[.slice a toks.length c, .slice a2 ns.length c2]).heap.size = wr.heap.size := by simp [World.setRow]
          have h0s := fb.size
          have hdl := lt_heap fd
          have hkP : Keeps P w (wr.setRow (w.heap.size + 1) #[.slice a toks.length c, .slice a2 ns.length c2]) := fun k hk => by
            have := HH.out.2 k hk
            rw [setRow_ne (by omega), hb.block k (by omega) (by omega), fb.block k this]
          refine ⟨_, _, rfl, ⟨?_, kvs, hk1, ?_, fun i n kv hi hkv => ((hk3 i n kv hi hkv).keep hkP).imp fun k hk => Or.inl hk⟩, ?_⟩
          · have ho2 : (wr.setRow (w.heap.size + 1) #[.slice a toks.length c, .slice a2 ns.length c2]).ownsRow (w.heap.size + 2 + 1) 78 4 (.slice a toks.length c) toks.length (tksCells toks) := ownsRow_same fo fun k hk => by
              have := fo.lt k hk
              rw [setRow_ne (by omega), hb.block k this.2 (by omega)]
            exact (RdS.own ho2).imp fun k hk => Or.inr ⟨by have := hk.2.1; omega, hk.2.2⟩
          · rw [List.take_length, ← hk1, List.take_length, hk1] at hown
            exact (RdS.own (ownsRow_same hown fun k hk => by
              have := hown.lt k hk
              exact setRow_ne (by omega))).imp fun k hk => Or.inr ⟨by have := hk.2.1; omega, hk.2.2⟩
          · refine ⟨hb.os.trans fb.os, hb.tape.trans fb.tape, hb.output.trans fb.output, by rw [hsz]; exact Nat.le_trans h0s hb.size, fun k hk => ?_⟩
            rw [setRow_ne (by omega), hb.block k (by omega) (by omega), fb.block k hk]
end Go.Proofs.YtfoelgkkoopheaaDoor
