/- Contracts and plain laws, in one text. Trees in memory; root, all. | slices.Clone at tokens and at ints. | (*strings.Builder).copyCheck and WriteString, at this dump (turned from the shelf's walks: copyCheck's last line is refused by the loader, so the shelf's do not lay). | lex.Whole: the text of tokens; (Tree).Show. | The tree's builder in memory: NewBuilder, add. | The tree's builder: add. | The tree's builder: Leaf. | The tree's builder: Node's closure; slices.IndexFunc, slices.ContainsFunc with it. | The tree's builder: Node. | The tree's builder: Done. | A tree's nodes: is each of the right form? | slices.Index, slices.Contai -/
import Derived.Test.YtlejecaanllghaaGreatDoorPlmM1
import Derived.Deep.AppendLies
import Derived.Deep.RegionLaw
import Derived.Deep.RegionHeld3
import Derived.Deep.Cut
import Derived.BigRegion
import Derived.RangeFuncNested
import Derived.RangeFuncBound
import Derived.RangeFuncCalls
import Derived.RangeFuncLeaves
import Derived.RangeFuncBox
import Derived.Shelf.Abstract
import Derived.Shelf.RegionOpen
import Derived.WalkKit
import Derived.OwnWalkIn
import Derived.TacticsInMore
import Derived.LoopNIn
import Derived.LoopIn
import Derived.Sort.LoopGhostIn
/- Trees in memory; root, all. -/
namespace Go.Proofs.YtlejecaanllghaaGreatDoor
open Go.RowKit

def tkCells (k : Tr.Tk) : List Value := [.int .i64 k.kind, .string ⟨k.lead.toArray⟩, .string ⟨k.text.toArray⟩, .int .i64 k.pos]
def tksCells (l : List Tr.Tk) : List Value := l.flatMap tkCells
def ndCells (p : Tr.Nd × Value) : List Value := [.int .i64 p.1.kind, .int .i64 p.1.tok, p.2]
def intCells (l : List Int) : List Value := l.map (.int .i64 ·)

/-- The nodes' slice: each node's three cells, and its kids. -/
def RdN (w : World) (P : Nat → Prop) (vn : Value) (ns : List Tr.Nd) : Prop :=
  ∃ kvs : List Value, kvs.length = ns.length ∧ RdS w P 3 vn ns.length ((ns.zip kvs).flatMap ndCells) ∧ ∀ (i : Nat) (n : Tr.Nd) (kv : Value), ns[i]? = some n → kvs[i]? = some kv → RdW w P 1 kv n.kids.length (intCells n.kids)
/-- A tree's two slices. -/
def RdT (w : World) (P : Nat → Prop) (vt vn : Value) (t : Tr.T) : Prop := RdS w P 4 vt t.toks.length (tksCells t.toks) ∧ RdN w P vn t.nodes

theorem RdN.keep {w w' : World} {P : Nat → Prop} {vn : Value} {ns : List Tr.Nd} (h : RdN w P vn ns) (hb : Keeps P w w') : RdN w' P vn ns := by
  obtain ⟨kvs, h1, h2, h3⟩ := h
  exact ⟨kvs, h1, h2.keep hb, fun i n kv hn hk => (h3 i n kv hn hk).keep hb⟩
theorem RdT.keep {w w' : World} {P : Nat → Prop} {vt vn : Value} {t : Tr.T} (h : RdT w P vt vn t) (hb : Keeps P w w') : RdT w' P vt vn t := ⟨h.1.keep hb, h.2.keep hb⟩
theorem RdN.imp {w : World} {P Q : Nat → Prop} {vn : Value} {ns : List Tr.Nd} (h : RdN w P vn ns) (hb : ∀ k, P k → Q k) : RdN w Q vn ns := by
  obtain ⟨kvs, h1, h2, h3⟩ := h
  exact ⟨kvs, h1, h2.imp hb, fun i n kv hn hk => (h3 i n kv hn hk).imp hb⟩
theorem RdT.imp {w : World} {P Q : Nat → Prop} {vt vn : Value} {t : Tr.T} (h : RdT w P vt vn t) (hb : ∀ k, P k → Q k) : RdT w Q vt vn t := ⟨h.1.imp hb, h.2.imp hb⟩

/-- One node. -/
theorem RdN.node {w : World} {P : Nat → Prop} {vn : Value} {ns : List Tr.Nd} (h : RdN w P vn ns) {i : Nat} {n : Tr.Nd} (hi : ns[i]? = some n) :
    ∃ b off c kv, vn = .slice (some ⟨b, off, none⟩) ns.length c ∧ P b ∧ w.rangeAt b (off + i * 3) [.int .i64 n.kind, .int .i64 n.tok, kv] ∧ RdW w P 1 kv n.kids.length (intCells n.kids) := by
  obtain ⟨kvs, h1, ⟨h2, a, c, rfl, hc, h4⟩, h3⟩ := h
  have hlt : i < ns.length := by
    rcases Nat.lt_or_ge i ns.length with h | h
    · exact h
    · rw [List.getElem?_eq_none h] at hi; cases hi
  have hk : kvs[i]? = some (kvs[i]'(by omega)) := List.getElem?_eq_getElem (by omega)
  rcases h4 with ⟨_, h4⟩ | ⟨b, off, rfl, h5, h6⟩
  · omega
  · refine ⟨b, off, c, kvs[i]'(by omega), rfl, h5.resolve_left (by omega), ?_, h3 i n _ hi hk⟩
    exact rangeAt_piece (f := ndCells) (s := 3) (x := (n, kvs[i]'(by omega))) (fun _ => rfl) h6 (by rw [List.getElem?_zip_eq_some]; exact ⟨hi, hk⟩)

theorem root_calls {w : World} {P : Nat → Prop} {vt : Value} {vn : Value} {t : Tr.T} (h : RdT w P vt vn t) (hn : t.nodes.length ≤ 1073741824) :
    Calls Tryz.prog 44 #[.agg #[vt, vn]] w fun e w' => e = .returned (.int .i64 (Tr.root t)) ∧ w.alloc (.cells #[vt, vn] 30) = w' := by
  obtain ⟨_, kvs, _, ⟨_, a, c, rfl, _⟩, _⟩ := h
  have hn' : (t.nodes.length : Int) ≤ 1073741824 := by omega
  unfold Tr.root
  generalize t.nodes.length = n at *
  go_enter Tryz.func44, Tryz.ntmps44
  go_wp2
  go_ret
  exact ⟨rfl, rfl⟩

theorem info_int : (Tryz.prog.info? 3).map (fun i => (i.zero, i.size, i.bytes)) = some (some (.int .i64 0), 1, 8) := by kernel_rfl

/-- One token. -/
theorem RdS.tok {w : World} {P : Nat → Prop} {vt : Value} {l : List Tr.Tk} (h : RdS w P 4 vt l.length (tksCells l)) {i : Nat} {k : Tr.Tk} (hi : l[i]? = some k) :
    ∃ b off c, vt = .slice (some ⟨b, off, none⟩) l.length c ∧ P b ∧ w.rangeAt b (off + i * 4) [.int .i64 k.kind, .string ⟨k.lead.toArray⟩, .string ⟨k.text.toArray⟩, .int .i64 k.pos] := by
  obtain ⟨h2, a, c, rfl, hc, h4⟩ := h
  have hlt : i < l.length := by
    rcases Nat.lt_or_ge i l.length with h | h
    · exact h
    · rw [List.getElem?_eq_none h] at hi; cases hi
  rcases h4 with ⟨_, h4⟩ | ⟨b, off, rfl, h5, h6⟩
  · omega
  · exact ⟨b, off, c, rfl, h5.resolve_left (by omega), rangeAt_piece (f := tkCells) (s := 4) (fun _ => rfl) h6 hi⟩

end Go.Proofs.YtlejecaanllghaaGreatDoor
/- slices.Clone at tokens and at ints. -/
namespace Go.Proofs
def Tryz.cloneTok_ren : Go.Shelf.Ren := ⟨fun | 41 => 133 | n => n, fun | 22 => 27 | 23 => 169 | 4 => 4 | n => n, fun | n => n⟩
theorem Tryz.cloneTok : Go.Proofs.SlLaysE0.n41 Tryz.prog Tryz.cloneTok_ren := {
  mixed := by kernel_rfl
  f41 := ⟨Tryz.f133.name, by decide, Tryz.func133.trans (congrArg some (by kernel_rfl))⟩
  t4 := Tryz.underlying4
  a4 := Tryz.isAgg4
  z4 := Tryz.sizeOf4
  v4 := Tryz.zeroValue4
  t22 := Tryz.underlying27
  a22 := Tryz.isAgg27
  z22 := Tryz.sizeOf27
  v22 := Tryz.zeroValue27 }
def Tryz.cloneInt_ren : Go.Shelf.Ren := ⟨fun | 41 => 134 | n => n, fun | 22 => 56 | 23 => 3 | 4 => 4 | n => n, fun | n => n⟩
theorem Tryz.cloneInt : Go.Proofs.SlLaysE0.n41 Tryz.prog Tryz.cloneInt_ren := {
  mixed := by kernel_rfl
  f41 := ⟨Tryz.f134.name, by decide, Tryz.func134.trans (congrArg some (by kernel_rfl))⟩
  t4 := Tryz.underlying4
  a4 := Tryz.isAgg4
  z4 := Tryz.sizeOf4
  v4 := Tryz.zeroValue4
  t22 := Tryz.underlying56
  a22 := Tryz.isAgg56
  z22 := Tryz.sizeOf56
  v22 := Tryz.zeroValue56 }
end Go.Proofs
namespace Go.Proofs.YtlejecaanllghaaGreatDoor
open Go.RowKit
theorem clone_tok {w : World} {P : Nat → Prop} {v : Value} {n : Nat} {xs : List Value} (h : RdS w P 4 v n xs) (hn : n ≤ 1073741824) (h1 : ∀ u ∈ xs, u.oneCell' = true) :
    Calls Tryz.prog 133 #[v] w fun e w' => ∃ v', e = .returned v' ∧ w'.ownsRow w.heap.size 169 4 v' n xs ∧ Below w.heap.size w w' := by
  obtain ⟨hl, a, c, rfl, hc, ⟨rfl, rfl⟩ | ⟨b, off, rfl, _, hr⟩⟩ := h
  · have : xs = [] := List.eq_nil_of_length_eq_zero (by simpa using hl)
    subst this
    exact (AnyE.slices_Clone_nil Tryz.cloneTok 0 c w).mono fun e w' ⟨h1, h2⟩ => ⟨_, h1, World.ownsRow_nil _ _ _ _, by rw [h2]; exact Below.refl _ _⟩
  · obtain ⟨i0, hi, hz0, hz1, hz2⟩ := info_split info_tok
    exact (AnyE.slices_Clone Tryz.cloneTok i0 (.agg #[.int .i64 0, .string ⟨#[]⟩, .string ⟨#[]⟩, .int .i64 0]) 4 48 hi hz0 hz1 hz2 rfl (by decide) (fun w => by kernel_rfl) b off n c xs w hl (by unfold maxLen; omega) (by omega) hr h1).mono
      fun e w' ⟨v', q1, q2, _, q3⟩ => ⟨v', q1, q2, q3⟩
theorem clone_int {w : World} {P : Nat → Prop} {v : Value} {n : Nat} {xs : List Value} (h : RdS w P 1 v n xs) (hn : n ≤ 1073741824) (h1 : ∀ u ∈ xs, u.oneCell' = true) :
    Calls Tryz.prog 134 #[v] w fun e w' => ∃ v', e = .returned v' ∧ w'.ownsRow w.heap.size 3 1 v' n xs ∧ Below w.heap.size w w' := by
  obtain ⟨hl, a, c, rfl, hc, ⟨rfl, rfl⟩ | ⟨b, off, rfl, _, hr⟩⟩ := h
  · have : xs = [] := List.eq_nil_of_length_eq_zero (by simpa using hl)
    subst this
    exact (AnyE.slices_Clone_nil Tryz.cloneInt 0 c w).mono fun e w' ⟨h1, h2⟩ => ⟨_, h1, World.ownsRow_nil _ _ _ _, by rw [h2]; exact Below.refl _ _⟩
  · obtain ⟨i0, hi, hz0, hz1, hz2⟩ := info_split info_int
    exact (AnyE.slices_Clone Tryz.cloneInt i0 (.int .i64 0) 1 8 hi hz0 hz1 hz2 rfl (by decide) (fun w => by kernel_rfl) b off n c xs w hl (by unfold maxLen; omega) (by omega) hr h1).mono
      fun e w' ⟨v', q1, q2, _, q3⟩ => ⟨v', q1, q2, q3⟩
end Go.Proofs.YtlejecaanllghaaGreatDoor
/- (*strings.Builder).copyCheck and WriteString, at this dump (turned from the shelf's walks: copyCheck's last line is refused by the loader, so the shelf's do not lay). -/
namespace Go.Proofs.YtlejecaanllghaaGreatDoor
open Go.RowKit

theorem sizeB : (Tryz.prog.info? 115).map (·.size) = some 2 := by kernel_rfl
theorem liesB : liesAt Tryz.prog Tryz.prog.depth 115 (2 / Tryz.prog.cellsOf 115) 0 115 1 = true := by kernel_rfl
theorem info_byte : (Tryz.prog.info? 5).map (fun i => (i.zero, i.size, i.bytes)) = some (some (.int .u8 0), 1, 1) := by kernel_rfl

set_option maxRecDepth 100000 in
theorem check_used (b : Nat) (w : World) (h0 : w.cell? ⟨b, 0, none⟩ = some (.pointer (some ⟨b, 0, none⟩))) :
    Calls Tryz.prog 110 #[.pointer (some ⟨b, 0, none⟩)] w fun e w' => e = .returned (.tuple #[]) ∧ w' = w := by
  obtain ⟨j, hj, _⟩ := Option.map_eq_some_iff.1 sizeB
  go_enter Tryz.func110, Tryz.ntmps110
  go_wp2
  rw [Lib.run_neq_ptr_same w _ Tryz.underlying112 hj]
  go_wp2
  go_end0
  exact ⟨rfl, rfl⟩

set_option maxRecDepth 100000 in
theorem check_fresh (b : Nat) (w : World) (h0 : w.cell? ⟨b, 0, none⟩ = some (.pointer none)) (hsh : w.shape? b = some (115, 2)) (hfz : w.frozen? ⟨b, 0, none⟩ = false) :
    Calls Tryz.prog 110 #[.pointer (some ⟨b, 0, none⟩)] w fun e w' => e = .returned (.tuple #[]) ∧ w' = w.setCell ⟨b, 0, none⟩ (.pointer (some ⟨b, 0, none⟩)) := by
  obtain ⟨j, hj, hjs⟩ := Option.map_eq_some_iff.1 sizeB
  go_enter Tryz.func110, Tryz.ntmps110
  go_wp2
  rw [Lib.run_to_unsafe w ⟨b, 0, none⟩ Tryz.underlying112 Tryz.underlying230 hj (by rw [hjs]; decide) hsh (Nat.zero_lt_succ 1)]
  simp only [Result.andThen]
  rw [Oper.upon_value]
  go_wp2
  rw [run_callFunc_extern Tryz.func158 (by kernel_rfl) (by kernel_rfl) (by kernel_rfl) (e := Extern.AbiNoEscape.same) (by kernel_rfl)]
  rw [Lib.run_noEscape]
  simp only [Result.andThen]
  rw [Oper.upon_value]
  go_wp2
  rw [Lib.run_from_unsafe w ⟨b, 0, none⟩ Tryz.underlying230 Tryz.underlying112 hj hsh liesB]
  simp only [Result.andThen]
  rw [Oper.upon_value]
  go_wp2
  go_end0
  exact ⟨rfl, rfl⟩

/-- All stands but block b and rows of bytes. -/
structure NB (b : Nat) (w w' : World) : Prop where
  os : w'.os = w.os
  tape : w'.tape = w.tape
  output : w'.output = w.output
  size : w.heap.size ≤ w'.heap.size
  block : ∀ (k : Nat) (o : Obj), w.heap[k]? = some o → k ≠ b → (∀ cs fr, o ≠ .cells cs 5 fr) → w'.heap[k]? = some o
theorem NB.refl (b : Nat) (w : World) : NB b w w := ⟨rfl, rfl, rfl, Nat.le_refl _, fun _ _ h _ _ => h⟩
theorem NB.trans {b : Nat} {x y z : World} (h : NB b x y) (k : NB b y z) : NB b x z :=
  ⟨k.os.trans h.os, k.tape.trans h.tape, k.output.trans h.output, Nat.le_trans h.size k.size, fun i o hi hb hn => k.block i o (h.block i o hi hb hn) hb hn⟩
theorem NB.of {b : Nat} {x y : World} (h : Below x.heap.size x y) : NB b x y :=
  ⟨h.os, h.tape, h.output, h.size, fun i o hi _ _ => (h.block i (by
    rcases Nat.lt_or_ge i x.heap.size with h1 | h1
    · exact h1
    · rw [Array.getElem?_eq_none h1] at hi; cases hi)).trans hi⟩
theorem NB.setCell {b j : Nat} (x : World) (v : Value) : NB b x (x.setCell ⟨b, j, none⟩ v) :=
  ⟨rfl, rfl, rfl, by simp [World.setCell], fun i o hi hb _ => (Below.heap_setCell _ _ _ _ hb).trans hi⟩
theorem NB.grown {b : Nat} {B : Nat} {x y : World} {v : Value} {n : Nat} {xs : List Value} (h : x.grownBy y v.ownBlock) (ho : x.ownsRow B 5 1 v n xs) : NB b x y := by
  refine ⟨h.os, h.tape, h.output, h.size, fun i o hi _ hn => ?_⟩
  have hlt : i < x.heap.size := by
    rcases Nat.lt_or_ge i x.heap.size with h1 | h1
    · exact h1
    · rw [Array.getElem?_eq_none h1] at hi; cases hi
  rw [h.block i hlt fun e => ?_]
  · exact hi
  · rcases ho.2 with ⟨rfl, _⟩ | ⟨g, cap, cur, rfl, _, hg, _⟩
    · cases e
    · injection e with e
      subst e
      rw [hg] at hi
      injection hi with hi
      exact hn _ _ hi.symm

theorem check_calls (B b : Nat) (bs : List Value) (w : World) (h : Lib.IsBuilder 115 5 B b bs w) :
    Calls Tryz.prog 110 #[.pointer (some ⟨b, 0, none⟩)] w fun e w' => e = .returned (.tuple #[]) ∧ (Lib.BuilderAt 115 5 B b (.pointer (some ⟨b, 0, none⟩)) bs w' ∧ Below B w w' ∧ NB b w w') := by
  rcases h with h | h
  · refine (check_fresh b w h.cell0 h.shape h.frozen0).mono ?_
    rintro e w' ⟨rfl, rfl⟩
    exact ⟨rfl, h.used _, (Below.refl B w).setCell (p := ⟨b, 0, none⟩) h.1 _, NB.setCell _ _⟩
  · refine (check_used b w h.cell0).mono ?_
    rintro e w' ⟨rfl, rfl⟩
    exact ⟨rfl, h, Below.refl B _, NB.refl _ _⟩

set_option maxHeartbeats 2000000 in
set_option maxRecDepth 100000 in
theorem wstr_nb (B b : Nat) (bs : List Value) (s : ByteArray) (w : World) (h : Lib.IsBuilder 115 5 B b bs w) (hlen : bs.length + s.size ≤ 140737488355328) (hBw : B ≤ w.heap.size) :
    Calls Tryz.prog 58 #[.pointer (some ⟨b, 0, none⟩), .string s] w fun e w' => e = .returned (.tuple #[.int .i64 s.size, .nilIface]) ∧ (Lib.IsBuilder 115 5 B b (bs ++ Lib.strCells s) w' ∧ Below B w w' ∧ NB b w w') := by
  obtain ⟨i0, hi, hz0, hz1, hz2⟩ := info_split info_byte
  go_enter Tryz.func58, Tryz.ntmps58
  go_wp2_with (go_at_call 110; refine (check_calls B b bs _ h).mono ?_)
  rintro e w1 ⟨rfl, h1, hb1, hnb1⟩
  have HNB1 := Lib.hid hnb1
  clear hnb1
  obtain ⟨hB, v, hbk, hown, hne⟩ := h1
  have c0 : w1.cell? ⟨b, 0, none⟩ = some (.pointer (some ⟨b, 0, none⟩)) := by rw [Lib.cell_of_heap hbk]; rfl
  have c1 : w1.cell? ⟨b, 1, none⟩ = some v := by rw [Lib.cell_of_heap hbk]; rfl
  go_wp2_with (at_builtin; refine Lib.wpList_append_own_string _ rfl _ _ 113 9 rfl B 5 i0 Tryz.underlying113 Tryz.underlying9 hi hz0 hz1 hz2 _ _ _ rfl hown s rfl ?c3 ?c4 ?c5 ?_)
  case c3 => unfold maxLen; omega
  case c4 => omega
  case c5 => have := hb1.size; omega
  intro v' w2 hown' hgrow _
  have hlt : b < w1.heap.size := by
    rcases Nat.lt_or_ge b w1.heap.size with h' | h'
    · exact h'
    · simp [Array.getElem?_eq_none h'] at hbk
  have hb2 : w2.heap[b]? = some (.cells #[.pointer (some ⟨b, 0, none⟩), v] 115 (0, 0)) := by
    rw [hgrow.block b hlt (fun e => hne e.symm)]
    exact hbk
  have d0 : w2.cell? ⟨b, 0, none⟩ = some (.pointer (some ⟨b, 0, none⟩)) := by rw [Lib.cell_of_heap hb2]; rfl
  have d1 : w2.cell? ⟨b, 1, none⟩ = some v := by rw [Lib.cell_of_heap hb2]; rfl
  have f1 : w2.frozen? ⟨b, 1, none⟩ = false := Lib.frozen_of_heap hb2 1
  obtain ⟨ao, n', cap, rfl⟩ : ∃ ao n' cap, v' = .slice ao n' cap := by
    rcases hown'.2 with ⟨hv, _⟩ | ⟨g, cap, cur, hv, _⟩
    · exact ⟨_, _, _, hv⟩
    · exact ⟨_, _, _, hv⟩
  go_wp2
  go_ret2
  refine ⟨rfl, ?_, ?_, (HNB1.out.trans (NB.grown hgrow hown)).trans (NB.setCell _ _)⟩
  · exact Or.inr (Lib.BuilderAt.put (T := 115) (e := 5) hB hb2 (bs' := bs ++ Lib.strCells s) (by simpa [Lib.strCells_length] using hown') (by decide))
  · exact (hb1.grown hgrow (by have := hb1.size; omega) (fun k hk => (hown.lt k hk).1)).setCell (p := ⟨b, 1, none⟩) hB _
theorem wstr_calls (B b : Nat) (bs : List Value) (s : ByteArray) (w : World) (h : Lib.IsBuilder 115 5 B b bs w) (hlen : bs.length + s.size ≤ 140737488355328) (hBw : B ≤ w.heap.size) :
    Calls Tryz.prog 58 #[.pointer (some ⟨b, 0, none⟩), .string s] w fun e w' => e = .returned (.tuple #[.int .i64 s.size, .nilIface]) ∧ (Lib.IsBuilder 115 5 B b (bs ++ Lib.strCells s) w' ∧ Below B w w') :=
  (wstr_nb B b bs s w h hlen hBw).mono fun _ _ ⟨h1, h2, h3, _⟩ => ⟨h1, h2, h3⟩
end Go.Proofs.YtlejecaanllghaaGreatDoor
/- lex.Whole: the text of tokens; (Tree).Show. -/
namespace Go.Proofs.YtlejecaanllghaaGreatDoor
open Go.RowKit

/-- The text of tokens. -/
def wholeOf (l : List Tr.Tk) : List UInt8 := l.flatMap fun k => k.lead ++ k.text

theorem lt_heap2 {w : World} {k : Nat} {o : Obj} (h : w.heap[k]? = some o) : k < w.heap.size := by
  rcases Nat.lt_or_ge k w.heap.size with h1 | h1
  · exact h1
  · rw [Array.getElem?_eq_none h1] at h; cases h
theorem isBuilder_below {T e : TypeId} {B b : Nat} {bs : List Value} {w w' : World} (h : Lib.IsBuilder T e B b bs w) (hb : Below w.heap.size w w') : Lib.IsBuilder T e B b bs w' := by
  have hA : ∀ p, Lib.BuilderAt T e B b p bs w → Lib.BuilderAt T e B b p bs w' := by
    rintro p ⟨h1, v, h2, h3, h4⟩
    exact ⟨h1, v, by rw [hb.block b (lt_heap2 h2)]; exact h2, ownsRow_below h3 hb, h4⟩
  exact h.imp (hA _) (hA _)
theorem str_add (a b : List UInt8) : (⟨a.toArray⟩ : ByteArray) ++ ⟨b.toArray⟩ = ⟨(a ++ b).toArray⟩ := by
  apply ByteArray.ext
  simp
theorem whole_take {toks : List Tr.Tk} {j : Nat} {kd ps : Int} {ld tx : List UInt8} (h : toks[j]? = some ⟨kd, ld, tx, ps⟩) :
    wholeOf (toks.take (j + 1)) = wholeOf (toks.take j) ++ (ld ++ tx) ∧ (wholeOf (toks.take (j + 1))).length ≤ (wholeOf toks).length := by
  constructor
  · rw [List.take_add_one, h]
    simp [wholeOf]
  · have e : wholeOf toks = wholeOf (toks.take (j + 1)) ++ wholeOf (toks.drop (j + 1)) := by
      unfold wholeOf
      rw [← List.flatMap_append, List.take_append_drop]
    rw [e, List.length_append]
    omega
theorem whole_room {toks : List Tr.Tk} {j : Nat} {ld tx : List UInt8} (h : wholeOf (toks.take (j + 1)) = wholeOf (toks.take j) ++ (ld ++ tx) ∧ (wholeOf (toks.take (j + 1))).length ≤ (wholeOf toks).length) (hl : (wholeOf toks).length ≤ 1073741824) :
    (Lib.byteCells (wholeOf (toks.take j))).length + (⟨(ld ++ tx).toArray⟩ : ByteArray).size ≤ 140737488355328 := by
  have h1 := h.2
  rw [h.1, List.length_append] at h1
  have h2 : (⟨(ld ++ tx).toArray⟩ : ByteArray).size = (ld ++ tx).length := by simp [ByteArray.size]
  rw [Lib.byteCells_length, h2]
  omega

def WhRel (w : World) (toks : List Tr.Tk) (k : Nat) (v8 : Value) (wr : World) : Prop :=
  ∃ j : Nat, v8 = .int .i64 j ∧ k = toks.length - j ∧ j ≤ toks.length ∧ Lib.IsBuilder 115 5 w.heap.size w.heap.size (Lib.byteCells (wholeOf (toks.take j))) wr ∧ Below w.heap.size w wr

set_option maxRecDepth 100000 in
theorem whole_calls {w : World} {P : Nat → Prop} {v : Value} {toks : List Tr.Tk} (h : RdS w P 4 v toks.length (tksCells toks)) (hP : ∀ k, P k → k < w.heap.size) (hn : toks.length ≤ 1073741824) (hb : (wholeOf toks).length ≤ 1073741824) :
    Calls Tryz.prog 47 #[v] w fun e w' => e = .returned (.string ⟨(wholeOf toks).toArray⟩) ∧ Below w.heap.size w w' := by
  have hn' : (toks.length : Int) ≤ 1073741824 := by omega
  obtain ⟨_, a, c, rfl, _, hd⟩ := h
  have HD := Lib.hid (And.intro hd hP)
  have HL := Lib.hid hb
  clear hd hP hb
  go_enter Tryz.func47, Tryz.ntmps47
  go_wp2
  go_loopg [8] toks.length (fun k v8 wr => WhRel w toks k v8 wr)
  case atStart => exact ⟨0, rfl, rfl, Nat.zero_le _, Or.inl ⟨Nat.le_refl _, _, heap_alloc_new _ _, World.ownsRow_nil _ _ _ _, by simp [Value.ownBlock]⟩, (Below.refl _ _).alloc (Nat.le_refl _) _⟩
  case round =>
    obtain ⟨j, rfl, hk, hj, hbu, hbw⟩ := hrel
    have HR := Lib.hid (And.intro hk (And.intro hbu hbw))
    clear hk hbu hbw
    by_cases hlt : j < toks.length
    · have hlt' : (j : Int) < (toks.length : Int) := by omega
      obtain ⟨tk, htk⟩ : ∃ tk, toks[j]? = some tk := ⟨_, List.getElem?_eq_getElem hlt⟩
      obtain ⟨g, o, rfl, hg, hrg⟩ := HD.out.1.resolve_left (fun h => by omega)
      obtain ⟨kd, ld, tx, ps⟩ := tk
      have hrg' : wr.rangeAt g (o + j * 4) [.int .i64 kd, .string ⟨ld.toArray⟩, .string ⟨tx.toArray⟩, .int .i64 ps] := rangeAt_piece (f := tkCells) (s := 4) (fun _ => rfl) (rangeAt_same hrg (HR.out.2.2.block g (HD.out.2 g (hg.resolve_left (by omega))))) htk
      have HG := Lib.hid hrg'
      have HT := Lib.hid htk
      have HBB := Lib.hid (isBuilder_below HR.out.2.1 ((Below.refl wr.heap.size wr).alloc (Nat.le_refl _) (.cells #[.int .i64 kd, .string ⟨ld.toArray⟩, .string ⟨tx.toArray⟩, .int .i64 ps] 169)))
      have HSZ := Lib.hid (whole_take htk)
      have hlt2 : ld.length + tx.length ≤ 1073741824 := by have h1 := HSZ.out.2; rw [HSZ.out.1] at h1; have h2 := HL.out; simp only [List.length_append] at h1; omega
      have hlt3 : (ld.length : Int) + (tx.length : Int) ≤ 1073741824 := by omega
      clear hrg' hrg htk hg
      go_wp2_with (first
        | (refine wpList_load_mid rfl 169 _ rfl g (o + j * 4) rfl _ _ HG.out Tryz.underlying169 rfl rfl ?_)
        | (go_at_call 58; rw [str_add]; refine (wstr_calls w.heap.size w.heap.size _ _ _ HBB.out (whole_room HSZ.out HL.out) (Nat.le_trans HR.out.2.2.size (Nat.le_of_lt (by rw [← size_alloc1]; omega)))).mono ?_; rintro e w3 ⟨rfl, hb3, hw3⟩; have H3 := Lib.hid (And.intro hb3 hw3); clear hb3 hw3))
      go_roundg (toks.length - (j + 1))
      case measure => have := HR.out.1; omega
      case rel =>
        refine ⟨j + 1, by go_num, rfl, by omega, ?_, (HR.out.2.2.alloc HR.out.2.2.size _).trans H3.out.2⟩
        have := H3.out.1
        rw [show Lib.strCells ⟨(ld ++ tx).toArray⟩ = Lib.byteCells (ld ++ tx) from rfl, ← Lib.byteCells_append, ← HSZ.out.1] at this
        exact this
    · obtain rfl : j = toks.length := by omega
      go_wp2_with (go_at_call 59; refine (Tryz.Builder_String_any w.heap.size w.heap.size (wholeOf toks) _ (by have := HR.out.2.1; rwa [List.take_length] at this) HR.out.2.2.size).mono ?_; rintro e w2 ⟨rfl, hb2⟩; have HB2 := Lib.hid hb2; clear hb2)
      go_ret
      exact ⟨rfl, HR.out.2.2.trans HB2.out⟩

theorem show_calls {w : World} {P : Nat → Prop} {vt vn : Value} {toks : List Tr.Tk} (h : RdS w P 4 vt toks.length (tksCells toks)) (hP : ∀ k, P k → k < w.heap.size) (hn : toks.length ≤ 1073741824) (hb : (wholeOf toks).length ≤ 1073741824) :
    Calls Tryz.prog 11 #[.agg #[vt, vn]] w fun e w' => e = .returned (.string ⟨(wholeOf toks).toArray⟩) ∧ Below w.heap.size w w' := by
  have hb1 : Below w.heap.size w (w.alloc (.cells #[vt, vn] 30)) := (Below.refl _ _).alloc (Nat.le_refl _) _
  have HW := Lib.hid (whole_calls (h.keep (Keeps.of hb1 hP)) (fun k hk => Nat.lt_of_lt_of_le (hP k hk) hb1.size) hn hb)
  have HB := Lib.hid hb1
  obtain ⟨a, c, rfl⟩ := h.form
  clear h hP hb1 hb
  go_enter Tryz.func11, Tryz.ntmps11
  go_wp2_with (go_at_call 47; refine HW.out.mono ?_; rintro e w2 ⟨rfl, hb2⟩; have HB2 := Lib.hid hb2; clear hb2)
  go_ret
  exact ⟨rfl, HB.out.trans (HB2.out.mono HB.out.size)⟩
end Go.Proofs.YtlejecaanllghaaGreatDoor
/- The tree's builder in memory: NewBuilder, add. -/
namespace Go.Proofs.YtlejecaanllghaaGreatDoor
open Go.RowKit

/-- The blocks in which a builder's tokens and kids may lie. -/
def BP (w : World) (B b : Nat) (vn : Value) (k : Nat) : Prop := B ≤ k ∧ k ≠ b ∧ vn.ownBlock ≠ some k ∧ k < w.heap.size

/-- .. and cells of one type. -/
def BPt (T : TypeId) (w : World) (B b : Nat) (vn : Value) (k : Nat) : Prop := BP w B b vn k ∧ ∃ cs, w.heap[k]? = some (.cells cs T (0, 0))
theorem ownsRow_cells {w : World} {base : Nat} {e : TypeId} {size : Nat} {v : Value} {n : Nat} {xs : List Value} (h : w.ownsRow base e size v n xs) {k : Nat} (hk : v.ownBlock = some k) : ∃ cur, w.heap[k]? = some (.cells cur e (0, 0)) := by
  rcases h.2 with ⟨rfl, _⟩ | ⟨g, cap, cur, rfl, _, hg, _⟩
  · cases hk
  · injection hk with hk
    subst hk
    exact ⟨cur, hg⟩

/-- .. that Q names. -/
def BPq (Q : Nat → Prop) (T : TypeId) (w : World) (B b : Nat) (vn : Value) (k : Nat) : Prop := BPt T w B b vn k ∧ Q k
/-- A builder at block b; its kids lie in blocks that Q names. -/
structure BuildI (Q : Nat → Prop) (w : World) (B b : Nat) (vt vn : Value) (t : Tr.T) (used : Nat) : Prop where
  cell : w.heap[b]? = some (.cells #[vt, vn, .int .i64 used] 210 (0, 0))
  base : B ≤ b
  ne : vn.ownBlock ≠ some b
  toks : RdS w (BPt 169 w B b vn) 4 vt t.toks.length (tksCells t.toks)
  nodes : ∃ kvs : List Value, kvs.length = t.nodes.length ∧ w.ownsRow B 175 3 vn t.nodes.length ((t.nodes.zip kvs).flatMap ndCells) ∧
    ∀ (i : Nat) (n : Tr.Nd) (kv : Value), t.nodes[i]? = some n → kvs[i]? = some kv → RdS w (BPq Q 3 w B b vn) 1 kv n.kids.length (intCells n.kids)

theorem tks_one (l : List Tr.Tk) : ∀ u ∈ tksCells l, u.oneCell' = true := by
  intro u hu
  simp only [tksCells, List.mem_flatMap, tkCells] at hu
  obtain ⟨k, _, hk⟩ := hu
  simp only [List.mem_cons, List.not_mem_nil, or_false] at hk
  rcases hk with rfl | rfl | rfl | rfl <;> rfl
theorem ints_one (l : List Int) : ∀ u ∈ intCells l, u.oneCell' = true := by
  intro u hu
  simp only [intCells, List.mem_map] at hu
  obtain ⟨k, _, rfl⟩ := hu
  rfl

theorem newBuilder_calls (Q : Nat → Prop) {w : World} {P : Nat → Prop} {v : Value} {l : List Tr.Tk} (h : RdS w P 4 v l.length (tksCells l)) (hn : l.length ≤ 1073741824) :
    Calls Tryz.prog 90 #[v] w fun e w' => ∃ b vt, e = .returned (.pointer (some ⟨b, 0, none⟩)) ∧ BuildI Q w' w.heap.size b vt (.slice none 0 0) ⟨l, []⟩ 0 ∧ Below w.heap.size w w' := by
  have HC := Lib.hid (clone_tok h hn (tks_one l))
  clear h hn
  go_enter Tryz.func90, Tryz.ntmps90
  go_wp2_with (go_at_call 133; refine HC.out.mono ?_; rintro e w1 ⟨v1, rfl, ho, hb⟩; obtain ⟨a1, c1, rfl⟩ := ownsRow_form ho; have HO := Lib.hid ho; have HB := Lib.hid hb; clear ho hb)
  go_ret
  have hlt := HO.out.lt
  refine ⟨w1.heap.size, _, rfl, ⟨heap_alloc_new _ _, HB.out.size, by simp [Value.ownBlock], ?_, ⟨[], rfl, World.ownsRow_nil _ _ _ _, fun i n kv hi => by simp at hi⟩⟩, HB.out.alloc HB.out.size _⟩
  have ha : Below w1.heap.size w1 (w1.alloc (.cells #[.slice a1 l.length c1, .slice none 0 0, .int .i64 0] 210)) := (Below.refl _ _).alloc (Nat.le_refl _) _
  refine ((RdS.own HO.out).keep (Keeps.of ha fun i hi => hi.2.2)).imp fun k hk => ⟨⟨hk.2.1, by have := hk.2.2; omega, by simp [Value.ownBlock], by rw [← size_alloc1]; have := hk.2.2; omega⟩, ?_⟩
  obtain ⟨cur, hcur⟩ := ownsRow_cells HO.out hk.1
  exact ⟨cur, (ha.block k hk.2.2).trans hcur⟩
end Go.Proofs.YtlejecaanllghaaGreatDoor
/- The tree's builder: add. -/
namespace Go.Proofs.YtlejecaanllghaaGreatDoor
open Go.RowKit

section
variable {Q : Nat → Prop}

/-- All stands but what S names. -/
structure But (S : Nat → Prop) (w w' : World) : Prop where
  os : w'.os = w.os
  tape : w'.tape = w.tape
  output : w'.output = w.output
  size : w.heap.size ≤ w'.heap.size
  block : ∀ k, k < w.heap.size → ¬ S k → w'.heap[k]? = w.heap[k]?
/-- What a builder's step may turn: its own block, and its nodes' row, which may have moved to a new block. -/
def Grew (w w' : World) (b : Nat) (vn vn' : Value) : Prop := But (fun k => k = b ∨ vn.ownBlock = some k) w w' ∧ ∀ k, vn'.ownBlock = some k → vn.ownBlock = some k ∨ w.heap.size ≤ k

theorem root_len (w : World) (vt : Value) (a : Option Addr) (n c : Nat) (hn : n ≤ 1073741824) :
    Calls Tryz.prog 44 #[.agg #[vt, .slice a n c]] w fun e w' => e = .returned (.int .i64 ((n : Int) - 1)) ∧ w.alloc (.cells #[vt, .slice a n c] 30) = w' := by
  have hn' : (n : Int) ≤ 1073741824 := by omega
  go_enter Tryz.func44, Tryz.ntmps44
  go_wp2
  go_ret
  exact ⟨rfl, rfl⟩
theorem info_node : (Tryz.prog.info? 175).map (fun i => (i.zero, i.size, i.bytes)) = some (some (.agg #[.int .i64 0, .int .i64 0, .slice none 0 0]), 3, 40) := by kernel_rfl

theorem cell_of_heap {w : World} {b : Nat} {cs : Array Value} {T : TypeId} {fr : Nat × Nat} (h : w.heap[b]? = some (.cells cs T fr)) (j : Nat) {u : Value} (hj : cs[j]? = some u) : w.cell? ⟨b, j, none⟩ = some u := by
  simp [World.cell?, h, hj]
theorem frozen_of_heap {w : World} {b : Nat} {cs : Array Value} {T : TypeId} (h : w.heap[b]? = some (.cells cs T (0, 0))) (j : Nat) : w.frozen? ⟨b, j, none⟩ = false := by
  simp [World.frozen?, h]
theorem lt_heap {w : World} {k : Nat} {o : Obj} (h : w.heap[k]? = some o) : k < w.heap.size := by
  rcases Nat.lt_or_ge k w.heap.size with h1 | h1
  · exact h1
  · rw [Array.getElem?_eq_none h1] at h; cases h

def AddSays (Q : Nat → Prop) (w : World) (B b : Nat) (vt vn : Value) (t : Tr.T) (used : Nat) (n : Tr.Nd) (e : Ending) (w' : World) : Prop :=
  ∃ vn', e = .returned (.int .i64 t.nodes.length) ∧ BuildI Q w' B b vt vn' ⟨t.toks, t.nodes ++ [n]⟩ used ∧ Grew w w' b vn vn'

theorem add_node (w : World) (A B : Array Value) (T U : TypeId) : ((w.alloc (.cells A T)).alloc (.cells B U)).drew.heap[w.heap.size + 1]? = some (.cells B U (0, 0)) := by
  rw [size_alloc1 w (.cells A T)]
  exact heap_alloc_new _ _
theorem add_base {w : World} {B b : Nat} {vt vn : Value} {t : Tr.T} {used : Nat} (h : BuildI Q w B b vt vn t used) (x y : Obj) : B ≤ ((w.alloc x).alloc y).drew.heap.size := by
  show B ≤ ((w.alloc x).alloc y).heap.size
  rw [← size_alloc1, ← size_alloc1]
  have := h.base
  have := lt_heap h.cell
  omega

theorem add_stand {w w1 : World} {B b : Nat} {vt vn : Value} {t : Tr.T} {used : Nat} (h : BuildI Q w B b vt vn t used) {x y : Obj} (hg : ((w.alloc x).alloc y).drew.grownBy w1 vn.ownBlock) :
    w1.heap[b]? = some (.cells #[vt, vn, .int .i64 used] 210 (0, 0)) := by
  have hlt := lt_heap h.cell
  rw [hg.block b (by show b < ((w.alloc x).alloc y).heap.size; rw [← size_alloc1, ← size_alloc1]; omega) (fun e => h.ne e.symm)]
  show ((w.alloc x).alloc y).heap[b]? = _
  rw [Below.heap_alloc _ _ _ (by rw [← size_alloc1]; omega), Below.heap_alloc _ _ _ hlt]
  exact h.cell

theorem ownsRow_same {w w' : World} {base : Nat} {e : TypeId} {size : Nat} {v : Value} {n : Nat} {xs : List Value} (h : w.ownsRow base e size v n xs) (hk : ∀ k, v.ownBlock = some k → w'.heap[k]? = w.heap[k]?) : w'.ownsRow base e size v n xs := by
  obtain ⟨h1, h2⟩ := h
  refine ⟨h1, ?_⟩
  rcases h2 with h2 | ⟨g, cap, cur, rfl, hg, hh, r⟩
  · exact Or.inl h2
  · exact Or.inr ⟨g, cap, cur, rfl, hg, by rw [hk g rfl]; exact hh, r⟩
theorem setCell_row {w : World} {b j : Nat} {cs : Array Value} {T : TypeId} (h : w.heap[b]? = some (.cells cs T (0, 0))) (u : Value) : (w.setCell ⟨b, j, none⟩ u).heap[b]? = some (.cells (cs.setIfInBounds j u) T (0, 0)) := by
  rw [setCell_eq_setRow w b j cs T (0, 0) u h]
  exact setRow_at h

/-- What add has done. -/
theorem add_done {w w1 : World} {B b : Nat} {vt vn : Value} {t : Tr.T} {used : Nat} (h : BuildI Q w B b vt vn t used) {n : Tr.Nd} {kv : Value} (hk : RdS w (BPq Q 3 w B b vn) 1 kv n.kids.length (intCells n.kids))
    {kvs : List Value} (hk1 : kvs.length = t.nodes.length) (hk3 : ∀ (i : Nat) (n : Tr.Nd) (kv : Value), t.nodes[i]? = some n → kvs[i]? = some kv → RdS w (BPq Q 3 w B b vn) 1 kv n.kids.length (intCells n.kids))
    {x y z : Obj} {g cap : Nat} (hown : w1.ownsRow B 175 3 (.slice (some ⟨g, 0, none⟩) (t.nodes.length + 1) cap) (t.nodes.length + 1) ((t.nodes.zip kvs).flatMap ndCells ++ [.int .i64 n.kind, .int .i64 n.tok, kv]))
    (hgrow : ((w.alloc x).alloc y).drew.grownBy w1 vn.ownBlock) (hat : vn.ownBlock = some g ∨ g = ((w.alloc x).alloc y).drew.heap.size) :
    BuildI Q ((w1.setCell ⟨b, 1, none⟩ (.slice (some ⟨g, 0, none⟩) (t.nodes.length + 1) cap)).alloc z) B b vt (.slice (some ⟨g, 0, none⟩) (t.nodes.length + 1) cap) ⟨t.toks, t.nodes ++ [n]⟩ used ∧
    Grew w ((w1.setCell ⟨b, 1, none⟩ (.slice (some ⟨g, 0, none⟩) (t.nodes.length + 1) cap)).alloc z) b vn (.slice (some ⟨g, 0, none⟩) (t.nodes.length + 1) cap) := by
  have hst := add_stand h hgrow
  have hblt := lt_heap h.cell
  have hs2 : ((w.alloc x).alloc y).drew.heap.size = w.heap.size + 2 := by
    show ((w.alloc x).alloc y).heap.size = _
    rw [← size_alloc1, ← size_alloc1]
  have hs1 : w.heap.size + 2 ≤ w1.heap.size := by rw [← hs2]; exact hgrow.size
  have hgb : g ≠ b := by
    rcases hat with h1 | h1
    · intro e; exact h.ne (by rw [h1, e])
    · omega
  have hglt : g < w1.heap.size := (hown.lt g rfl).2
  generalize hv : Value.slice (some ⟨g, 0, none⟩) (t.nodes.length + 1) cap = v at *
  have hvo : v.ownBlock = some g := by rw [← hv]; rfl
  have hsz : (w1.setCell ⟨b, 1, none⟩ v).heap.size = w1.heap.size := by simp [World.setCell]
  have hne : ∀ k, k < w1.heap.size → k ≠ b → ((w1.setCell ⟨b, 1, none⟩ v).alloc z).heap[k]? = w1.heap[k]? := by
    intro k h1 h2
    rw [Below.heap_alloc _ _ _ (by rw [hsz]; exact h1), Below.heap_setCell _ _ _ _ h2]
  have hold : ∀ k, k < w.heap.size → k ≠ b → vn.ownBlock ≠ some k → ((w1.setCell ⟨b, 1, none⟩ v).alloc z).heap[k]? = w.heap[k]? := by
    intro k h1 h2 h3
    rw [hne k (by omega) h2, hgrow.block k (by omega) (fun e => h3 e.symm)]
    show ((w.alloc x).alloc y).heap[k]? = _
    rw [Below.heap_alloc _ _ _ (by rw [← size_alloc1]; omega), Below.heap_alloc _ _ _ h1]
  have hbp : ∀ k, BP w B b vn k → BP ((w1.setCell ⟨b, 1, none⟩ v).alloc z) B b v k := by
    rintro k ⟨h1, h2, h3, h4⟩
    refine ⟨h1, h2, ?_, by rw [← size_alloc1, hsz]; omega⟩
    rw [hvo]
    intro e
    injection e with e
    subst e
    rcases hat with h5 | h5
    · exact h3 h5
    · omega
  have hkeep : ∀ T, Keeps (BPt T w B b vn) w ((w1.setCell ⟨b, 1, none⟩ v).alloc z) := fun T k hk => hold k hk.1.2.2.2 hk.1.2.1 hk.1.2.2.1
  have hbpt : ∀ T k, BPt T w B b vn k → BPt T ((w1.setCell ⟨b, 1, none⟩ v).alloc z) B b v k := fun T k hk => ⟨hbp k hk.1, hk.2.imp fun cs hc => (hkeep T k hk).trans hc⟩
  refine ⟨⟨?_, h.base, ?_, (h.toks.keep (hkeep _)).imp (hbpt _), kvs ++ [kv], by simp [hk1], ?_, ?_⟩, ⟨?_, ?_, ?_, ?_, ?_⟩, ?_⟩
  · rw [Below.heap_alloc _ _ _ (by rw [hsz]; omega), setCell_row hst]
    rfl
  · rw [hvo]
    intro e
    injection e with e
    exact hgb e
  · have h1 : (t.nodes ++ [n]).zip (kvs ++ [kv]) = t.nodes.zip kvs ++ [(n, kv)] := by rw [List.zip_append hk1.symm]; rfl
    simp only [h1, List.flatMap_append, List.length_append, List.length_cons, List.length_nil]
    refine ownsRow_same (by simpa [ndCells] using hown) fun k hk => ?_
    rw [hvo] at hk
    injection hk with hk
    subst hk
    exact hne g hglt hgb
  · intro i m kv' hi hkv
    rcases Nat.lt_or_ge i t.nodes.length with hlt | hge
    · rw [List.getElem?_append_left hlt] at hi
      rw [List.getElem?_append_left (by omega)] at hkv
      exact ((hk3 i m kv' hi hkv).keep fun k hk => hkeep _ k hk.1).imp fun k hk => ⟨hbpt _ k hk.1, hk.2⟩
    · have h0 : i = t.nodes.length := by
        rcases Nat.lt_or_ge t.nodes.length i with h1 | h1
        · rw [List.getElem?_eq_none (by simp; omega)] at hi; cases hi
        · omega
      subst h0
      rw [List.getElem?_append_right (Nat.le_refl _)] at hi
      rw [List.getElem?_append_right (by omega)] at hkv
      simp only [Nat.sub_self, List.getElem?_cons_zero, Option.some.injEq, hk1] at hi hkv
      subst hi hkv
      exact (hk.keep fun k hk => hkeep _ k hk.1).imp fun k hk => ⟨hbpt _ k hk.1, hk.2⟩
  · exact hgrow.os
  · exact hgrow.tape
  · exact hgrow.output
  · rw [← size_alloc1, hsz]; omega
  · intro k h1 h2
    exact hold k h1 (fun e => h2 (Or.inl e)) (fun e => h2 (Or.inr e))
  · intro k hk
    rw [hvo] at hk
    injection hk with hk
    subst hk
    rcases hat with h5 | h5
    · exact Or.inl h5
    · right; omega

set_option maxRecDepth 100000 in
theorem add_calls {w : World} {B b : Nat} {vt vn : Value} {t : Tr.T} {used : Nat} (h : BuildI Q w B b vt vn t used) (hn : t.nodes.length ≤ 1073741823) (n : Tr.Nd) (kv : Value) (hk : RdS w (BPq Q 3 w B b vn) 1 kv n.kids.length (intCells n.kids)) :
    Calls Tryz.prog 181 #[.pointer (some ⟨b, 0, none⟩), .agg #[.int .i64 n.kind, .int .i64 n.tok, kv]] w (AddSays Q w B b vt vn t used n) := by
  obtain ⟨kvs, hk1, hk2, hk3⟩ := h.nodes
  obtain ⟨an, cn, rfl⟩ := ownsRow_form hk2
  obtain ⟨at_, ct, rfl⟩ := h.toks.form
  obtain ⟨ak, ck, rfl⟩ := hk.form
  obtain ⟨i0, hi, hz0, hz1, hz2⟩ := info_split info_node
  have Hi := Lib.hid hi
  have Hz0 := Lib.hid hz0
  have Hz1 := Lib.hid hz1
  have Hz2 := Lib.hid hz2
  have hlt := lt_heap h.cell
  have c0 := cell_of_heap h.cell 0 rfl
  have c1 := cell_of_heap h.cell 1 rfl
  have HH := Lib.hid h
  have HK := Lib.hid hk
  have HKS := Lib.hid (And.intro hk1 (And.intro hk2 hk3))
  have HN := Lib.hid hn
  clear hi hz0 hz1 hz2 h hk hk1 hk2 hk3 hn
  go_enter Tryz.func181, Tryz.ntmps181
  go_wp2
  go_region_law (refine step_append_lies _ rfl (.tmp 10) (.tmp 12) 28 rfl B 175 i0 (.agg #[.int .i64 0, .int .i64 0, .slice none 0 0]) 3 40 Tryz.underlying28 Hi.out Hz0.out Hz1.out Hz2.out rfl (by decide) (.slice an t.nodes.length cn) t.nodes.length ((t.nodes.zip kvs).flatMap ndCells) (by simp [Act.eval]) ((HKS.out.2.1.alloc _).alloc _) ⟨w.heap.size + 1, 0, none⟩ 1 1 [.int .i64 n.kind, .int .i64 n.tok, .slice ak n.kids.length ck] (by simp [Act.eval]) rfl (World.news_of_block (add_node w _ _ _ _)) (by simp [Value.oneCell']) (by decide) (by have := HN.out; unfold maxLen; omega) (by have := HN.out; omega) (add_base HH.out _ _) _ rfl ?_; intro g cap w1 hown hgrow hat hlt1; have hst := add_stand HH.out hgrow; have d0 := cell_of_heap hst 0 rfl; have d1 := cell_of_heap hst 1 rfl; have f1 := frozen_of_heap hst 1; have HG := Lib.hid (And.intro hown (And.intro hgrow (And.intro hat (And.intro hlt1 hst)))); clear hown hgrow hat hlt1 hst)
  all_goals
    have hd := add_done HH.out HK.out HKS.out.1 HKS.out.2.2 (z := .cells #[.slice at_ t.toks.length ct, .slice (some ⟨g, 0, none⟩) (t.nodes.length + 1) cap] 30) HG.out.1 HG.out.2.1 HG.out.2.2.1
    have hst2 := setCell_row (j := 1) HG.out.2.2.2.2 (.slice (some ⟨g, 0, none⟩) (t.nodes.length + 1) cap)
    have e0 := cell_of_heap hst2 0 rfl
    have e1 := cell_of_heap hst2 1 rfl
    have HD := Lib.hid hd
    clear hd hst2 d0 d1 f1 c0 c1 HG
    generalize w1.setCell ⟨b, 1, none⟩ (.slice (some ⟨g, 0, none⟩) (t.nodes.length + 1) cap) = w2 at *
    have hn2 := HN.out
    go_wp2_with (go_at_call 44; refine (root_len _ _ _ _ _ (by omega)).mono ?_; rintro e w3 ⟨rfl, rfl⟩)
    go_ret
    obtain ⟨q1, q2⟩ := HD.out
    refine ⟨_, ?_, q1, q2⟩
    simp
end
end Go.Proofs.YtlejecaanllghaaGreatDoor
/- The tree's builder: Leaf. -/
namespace Go.Proofs.YtlejecaanllghaaGreatDoor
open Go.RowKit

section
variable {Q : Nat → Prop}

theorem BP.size {w w' : World} {B b : Nat} {vn : Value} {k : Nat} (h : BP w B b vn k) (hs : w.heap.size ≤ w'.heap.size) : BP w' B b vn k := ⟨h.1, h.2.1, h.2.2.1, Nat.lt_of_lt_of_le h.2.2.2 hs⟩

/-- A builder stands where its blocks stand, and its own block is as it was but for what is used. -/
theorem BuildI.stays {w w' : World} {B b : Nat} {vt vn : Value} {t : Tr.T} {used used' : Nat} (h : BuildI Q w B b vt vn t used) (hc : w'.heap[b]? = some (.cells #[vt, vn, .int .i64 used'] 210 (0, 0)))
    (hs : w.heap.size ≤ w'.heap.size) (hk : ∀ k, k < w.heap.size → k ≠ b → B ≤ k → w'.heap[k]? = w.heap[k]?) : BuildI Q w' B b vt vn t used' := by
  have hkeep : ∀ T, Keeps (BPt T w B b vn) w w' := fun T k hk' => hk k hk'.1.2.2.2 hk'.1.2.1 hk'.1.1
  have hbpt : ∀ T k, BPt T w B b vn k → BPt T w' B b vn k := fun T k hk' => ⟨hk'.1.size hs, hk'.2.imp fun cs hc => (hkeep T k hk').trans hc⟩
  obtain ⟨kvs, hk1, hk2, hk3⟩ := h.nodes
  exact ⟨hc, h.base, h.ne, (h.toks.keep (hkeep _)).imp (hbpt _), kvs, hk1, ownsRow_same hk2 fun k hk' => hk k (hk2.lt k hk').2 (fun e => h.ne (by rw [hk', e])) (hk2.lt k hk').1, fun i n kv hi hkv => ((hk3 i n kv hi hkv).keep fun k hk => hkeep _ k hk.1).imp fun k hk => ⟨hbpt _ k hk.1, hk.2⟩⟩
/-- And where all but blocks of the caller's own stands. -/
theorem BuildI.keep {w w' : World} {B b : Nat} {vt vn : Value} {t : Tr.T} {used : Nat} (h : BuildI Q w B b vt vn t used) (hs : w.heap.size ≤ w'.heap.size) (hk : ∀ k, k < w.heap.size → B ≤ k → w'.heap[k]? = w.heap[k]?) : BuildI Q w' B b vt vn t used :=
  h.stays (by rw [hk b (lt_heap h.cell) h.base]; exact h.cell) hs fun k h1 _ h3 => hk k h1 h3
theorem But.refl (S : Nat → Prop) (w : World) : But S w w := ⟨rfl, rfl, rfl, Nat.le_refl _, fun _ _ _ => rfl⟩
theorem But.trans {S : Nat → Prop} {a b c : World} (h : But S a b) (k : But S b c) : But S a c :=
  ⟨k.os.trans h.os, k.tape.trans h.tape, k.output.trans h.output, Nat.le_trans h.size k.size, fun i hi hn => (k.block i (Nat.lt_of_lt_of_le hi h.size) hn).trans (h.block i hi hn)⟩
theorem But.of {S : Nat → Prop} {w w' : World} (h : Below w.heap.size w w') : But S w w' := ⟨h.os, h.tape, h.output, h.size, fun k hk _ => h.block k hk⟩
theorem Grew.refl (w : World) (b : Nat) (vn : Value) : Grew w w b vn vn := ⟨But.refl _ _, fun _ h => Or.inl h⟩
theorem Grew.trans {w w1 w2 : World} {b : Nat} {vn vn1 vn2 : Value} (h : Grew w w1 b vn vn1) (k : Grew w1 w2 b vn1 vn2) : Grew w w2 b vn vn2 := by
  refine ⟨⟨k.1.os.trans h.1.os, k.1.tape.trans h.1.tape, k.1.output.trans h.1.output, Nat.le_trans h.1.size k.1.size, fun i hi hn => ?_⟩, fun i hi => ?_⟩
  · rw [k.1.block i (Nat.lt_of_lt_of_le hi h.1.size) ?_, h.1.block i hi hn]
    rintro (e | e)
    · exact hn (Or.inl e)
    · rcases h.2 i e with e2 | e2
      · exact hn (Or.inr e2)
      · omega
  · rcases k.2 i hi with e | e
    · exact h.2 i e
    · exact Or.inr (Nat.le_trans h.1.size e)
theorem Grew.of {w w' : World} {b : Nat} {vn : Value} (h : Below w.heap.size w w') : Grew w w' b vn vn := ⟨But.of h, fun _ h => Or.inl h⟩

theorem leaf_used {w : World} {B b : Nat} {vt vn : Value} {t : Tr.T} {used : Nat} (h : BuildI Q w B b vt vn t used) : BuildI Q (w.setCell ⟨b, 2, none⟩ (.int .i64 ((used : Int) + 1))).drew B b vt vn t (used + 1) := by
  refine h.stays ?_ (by show _ ≤ (w.setCell _ _).heap.size; simp [World.setCell]) fun k _ h2 _ => ?_
  · exact setCell_row h.cell _
  · exact Below.heap_setCell _ _ _ _ h2
theorem leaf_grew {w : World} {b : Nat} {vn : Value} {used : Nat} : Grew w (w.setCell ⟨b, 2, none⟩ (.int .i64 ((used : Int) + 1))).drew b vn vn :=
  ⟨⟨rfl, rfl, rfl, by show _ ≤ (w.setCell _ _).heap.size; simp [World.setCell], fun k _ h2 => Below.heap_setCell _ _ _ _ (fun e => h2 (Or.inl e))⟩, fun _ h => Or.inl h⟩

def LeafSays (Q : Nat → Prop) (w : World) (B b : Nat) (vt vn : Value) (t : Tr.T) (used : Nat) (e : Ending) (w' : World) : Prop :=
  if used = t.toks.length then e = .returned (.int .i64 (-1)) ∧ BuildI Q w' B b vt vn t used ∧ Grew w w' b vn vn
  else ∃ vn', e = .returned (.int .i64 t.nodes.length) ∧ BuildI Q w' B b vt vn' ⟨t.toks, t.nodes ++ [⟨19, used, []⟩]⟩ (used + 1) ∧ Grew w w' b vn vn'

set_option maxRecDepth 100000 in
theorem leaf_calls {w : World} {B b : Nat} {vt vn : Value} {t : Tr.T} {used : Nat} (h : BuildI Q w B b vt vn t used) (hn : t.nodes.length ≤ 1073741823) (ht : t.toks.length ≤ 1073741824) (hu : used ≤ t.toks.length) :
    Calls Tryz.prog 137 #[.pointer (some ⟨b, 0, none⟩)] w (LeafSays Q w B b vt vn t used) := by
  obtain ⟨at_, ct, rfl⟩ := h.toks.form
  have ht' : (t.toks.length : Int) ≤ 1073741824 := by omega
  have hu' : (used : Int) ≤ (t.toks.length : Int) := by omega
  have c0 := cell_of_heap h.cell 0 rfl
  have c2 := cell_of_heap h.cell 2 rfl
  have f2 := frozen_of_heap h.cell 2
  have HH := Lib.hid h
  have HN := Lib.hid hn
  clear h hn
  unfold LeafSays
  by_cases hul : used = t.toks.length
  · simp only [if_pos hul]
    have hul' : ((used : Int) == (t.toks.length : Int)) = true := by simp [hul]
    go_enter Tryz.func137, Tryz.ntmps137
    go_wp2
    go_region
    all_goals go_wp2
    all_goals go_ret
    all_goals exact ⟨rfl, HH.out.keep (Nat.le_refl _) (fun _ _ _ => rfl), Grew.of (Below.refl _ _).drew⟩
  · simp only [if_neg hul]
    have hul' : ((used : Int) == (t.toks.length : Int)) = false := by simp; omega
    have hul2 : (used : Int) < (t.toks.length : Int) := by omega
    go_enter Tryz.func137, Tryz.ntmps137
    go_wp2
    go_region
    all_goals
      have hB2 := leaf_used HH.out
      have hG2 := leaf_grew (w := w) (b := b) (vn := vn) (used := used)
      have HB2 := Lib.hid hB2
      have HG2 := Lib.hid hG2
      clear hB2 hG2
      go_wp2_with (go_at_call 181; refine (add_calls HB2.out HN.out ⟨19, used, []⟩ (.slice none 0 0) (RdS.nil _ _ _)).mono ?_; rintro e w3 ⟨vn', rfl, q1, q2⟩; have Q1 := Lib.hid q1; have Q2 := Lib.hid q2; clear q1 q2)
      go_ret
      exact ⟨vn', rfl, Q1.out, HG2.out.trans Q2.out⟩
end
end Go.Proofs.YtlejecaanllghaaGreatDoor
/- The tree's builder: Node's closure; slices.IndexFunc, slices.ContainsFunc with it. -/
namespace Go.Proofs.YtlejecaanllghaaGreatDoor
open Go.RowKit

/-- Is a kid none of the nodes so far? -/
def badKid (n : Nat) (k : Int) : Bool := decide (k < 0) || decide ((n : Int) ≤ k)

theorem node1_calls {w : World} {b c : Nat} {an : Option Addr} {n cn : Nat} (hn : n ≤ 1073741824) (k : Int) (h0 : w.cell? ⟨c, 0, none⟩ = some (.pointer (some ⟨b, 0, none⟩))) (h1 : w.cell? ⟨b, 1, none⟩ = some (.slice an n cn)) :
    Calls Tryz.prog 185 #[.int .i64 k, .pointer (some ⟨c, 0, none⟩)] w fun e w' => e = .returned (.bool (badKid n k)) ∧ w = w' := by
  have hn' : (n : Int) ≤ 1073741824 := by omega
  unfold badKid
  by_cases hk : k < 0
  · go_enter Tryz.func185, Tryz.ntmps185
    go_wp2
    go_ret
    exact ⟨by simp [hk], rfl⟩
  · have hk' : 0 ≤ k := by omega
    go_enter Tryz.func185, Tryz.ntmps185
    go_wp2
    go_ret
    exact ⟨by simp only [decide_eq_false (show ¬ k < 0 by omega), Bool.false_or]; rfl, rfl⟩

set_option maxRecDepth 100000 in
theorem index_node {w : World} {P : Nat → Prop} {v : Value} {l : List Int} (h : RdS w P 1 v l.length (intCells l)) (hl : l.length ≤ 1073741824) {b c : Nat} {an : Option Addr} {n cn : Nat} (hn : n ≤ 1073741824)
    (h0 : w.cell? ⟨c, 0, none⟩ = some (.pointer (some ⟨b, 0, none⟩))) (h1 : w.cell? ⟨b, 1, none⟩ = some (.slice an n cn)) :
    Calls Tryz.prog 225 #[v, .func (.func 185) #[] #[.pointer (some ⟨c, 0, none⟩)]] w fun e w' =>
      ∃ r : Int, e = .returned (.int .i64 r) ∧ decide (0 ≤ r) = l.any (badKid n) ∧ w = w' := by
  obtain ⟨_, a, cl, rfl, _, hd⟩ := h
  have hl' : (l.length : Int) ≤ 1073741824 := by omega
  have HC := fun k => Lib.hid (node1_calls hn k h0 h1)
  have HD := Lib.hid hd
  clear h0 h1 hd
  go_enter Tryz.func225, Tryz.ntmps225
  go_wp2
  go_loopg [8] l.length (fun k v8 wr => ∃ j : Nat, v8 = .int .i64 j ∧ k = l.length - j ∧ j ≤ l.length ∧ wr = w ∧ ((l.take j).any (badKid n)) = false)
  case atStart => exact ⟨0, rfl, rfl, Nat.zero_le _, rfl, by simp⟩
  case round =>
    obtain ⟨j, rfl, hk, hj, rfl, hall⟩ := hrel
    have HK := Lib.hid hk
    have HA := Lib.hid hall
    clear hk hall
    by_cases hlt : j < l.length
    · have hlt' : (j : Int) < (l.length : Int) := by omega
      obtain ⟨b2, off, rfl, _, hr⟩ := HD.out.resolve_left (fun h => by omega)
      have hcell : wr.cell? ⟨b2, off + j, none⟩ = some (.int .i64 l[j]) := hr j _ (by simp [intCells, List.getElem?_eq_getElem hlt])
      clear hr
      obtain ⟨y, hy⟩ : ∃ y, l[j] = y := ⟨_, rfl⟩
      rw [hy] at hcell
      have HY := Lib.hid hy
      clear hy
      cases hb : badKid n y
      · have HB := Lib.hid hb
        have HCB := Lib.hid (hb ▸ (HC y).out)
        clear hb
        go_wp2_with (go_at_call 185; refine HCB.out.mono ?_; rintro e w1 ⟨rfl, rfl⟩)
        go_roundg (l.length - (j + 1))
        case measure => have := HK.out; omega
        case rel =>
          refine ⟨j + 1, by go_num, rfl, by omega, rfl, ?_⟩
          rw [List.take_succ_eq_append_getElem hlt, List.any_append, HA.out, HY.out]
          simp [HB.out]
      · have HB := Lib.hid hb
        have HCB := Lib.hid (hb ▸ (HC y).out)
        clear hb
        go_wp2_with (go_at_call 185; refine HCB.out.mono ?_; rintro e w1 ⟨rfl, rfl⟩)
        go_ret
        refine ⟨(j : Int), rfl, ?_, rfl⟩
        have h2 : l.any (badKid n) = true := List.any_eq_true.2 ⟨y, by rw [← HY.out]; exact List.getElem_mem hlt, HB.out⟩
        rw [h2]
        simp
    · obtain rfl : j = l.length := by omega
      go_wp2
      go_ret
      refine ⟨-1, rfl, ?_, rfl⟩
      have h2 := HA.out
      rw [List.take_length] at h2
      rw [h2]
      rfl
theorem contains_node {w : World} {P : Nat → Prop} {v : Value} {l : List Int} (h : RdS w P 1 v l.length (intCells l)) (hl : l.length ≤ 1073741824) {b c : Nat} {an : Option Addr} {n cn : Nat} (hn : n ≤ 1073741824)
    (h0 : w.cell? ⟨c, 0, none⟩ = some (.pointer (some ⟨b, 0, none⟩))) (h1 : w.cell? ⟨b, 1, none⟩ = some (.slice an n cn)) :
    Calls Tryz.prog 184 #[v, .func (.func 185) #[] #[.pointer (some ⟨c, 0, none⟩)]] w fun e w' =>
      e = .returned (.bool (l.any (badKid n))) ∧ w = w' := by
  have HI := Lib.hid (index_node h hl hn h0 h1)
  clear h h0 h1
  go_enter Tryz.func184, Tryz.ntmps184
  go_wp2_with (go_at_call 225; refine HI.out.mono ?_; rintro e w1 ⟨r, rfl, hr, rfl⟩; have HR := Lib.hid hr; clear hr)
  go_ret
  exact ⟨by rw [← HR.out]; rfl, rfl⟩
end Go.Proofs.YtlejecaanllghaaGreatDoor
/- The tree's builder: Node. -/
namespace Go.Proofs.YtlejecaanllghaaGreatDoor
open Go.RowKit

section
variable {Q : Nat → Prop}

def NodeSays (Q : Nat → Prop) (w : World) (B b : Nat) (vt vn : Value) (t : Tr.T) (used : Nat) (kind : Int) (l : List Int) (e : Ending) (w' : World) : Prop :=
  if l.any (badKid t.nodes.length) then e = .returned (.int .i64 (-1)) ∧ BuildI Q w' B b vt vn t used ∧ Grew w w' b vn vn
  else ∃ vn', e = .returned (.int .i64 t.nodes.length) ∧ BuildI Q w' B b vt vn' ⟨t.toks, t.nodes ++ [⟨kind, -1, l⟩]⟩ used ∧ Grew w w' b vn vn'

theorem BuildI.own {w w' : World} {B b : Nat} {vt vn : Value} {t : Tr.T} {used : Nat} (h : BuildI Q w B b vt vn t used) {base : Nat} {e : TypeId} {size n : Nat} {v : Value} {xs : List Value} (ho : w'.ownsRow base e size v n xs) (hb : w.heap.size ≤ base) (hQ : ∀ k, w.heap.size ≤ k → Q k) :
    RdS w' (BPq Q e w' B b vn) size v n xs := by
  refine (RdS.own ho).imp fun k hk => ⟨⟨⟨?_, ?_, ?_, hk.2.2⟩, ownsRow_cells ho hk.1⟩, hQ k (Nat.le_trans hb hk.2.1)⟩
  · have := h.base; have := lt_heap h.cell; omega
  · have := lt_heap h.cell; omega
  · obtain ⟨kvs, _, hk2, _⟩ := h.nodes
    intro e
    have := (hk2.lt k e).2
    omega

theorem cell_lt {w : World} {b j : Nat} {u : Value} (h : w.cell? ⟨b, j, none⟩ = some u) : b < w.heap.size := by
  rcases Nat.lt_or_ge b w.heap.size with h1 | h1
  · exact h1
  · simp [World.cell?, Array.getElem?_eq_none h1] at h
theorem BuildI.far {w : World} {B b : Nat} {vt vn : Value} {t : Tr.T} {used : Nat} (h : BuildI Q w B b vt vn t used) : w.heap.size ≠ b ∧ vn.ownBlock ≠ some w.heap.size := by
  refine ⟨by have := lt_heap h.cell; omega, ?_⟩
  obtain ⟨kvs, _, hk2, _⟩ := h.nodes
  intro e
  have := (hk2.lt _ e).2
  omega
theorem Grew.cell {w w' : World} {b : Nat} {vn vn' : Value} (h : Grew w w' b vn vn') {c j : Nat} {u : Value} (hc : w.cell? ⟨c, j, none⟩ = some u) (h1 : c ≠ b) (h2 : vn.ownBlock ≠ some c) : w'.cell? ⟨c, j, none⟩ = some u := by
  rw [← hc]
  exact World.cell?_of_block (a := ⟨c, j, none⟩) (h.1.block c (cell_lt hc) (by rintro (e | e) <;> contradiction))
theorem BuildI.past {w w' : World} {B b : Nat} {vt vn : Value} {t : Tr.T} {used : Nat} (h : BuildI Q w B b vt vn t used) (hb : Below w.drew.heap.size w.drew w') : BuildI Q w' B b vt vn t used := h.keep hb.size fun k hk _ => hb.block k hk

set_option maxRecDepth 100000 in
theorem node_calls {w : World} {B b : Nat} {vt vn : Value} {t : Tr.T} {used : Nat} (h : BuildI Q w B b vt vn t used) (hn : t.nodes.length ≤ 1073741823) {P : Nat → Prop} {v : Value} {l : List Int} (hk : RdS w P 1 v l.length (intCells l))
    (hP : ∀ k, P k → k < w.heap.size) (hl : l.length ≤ 1073741824) (hQ : ∀ k, w.heap.size ≤ k → Q k) (kind : Int) :
    Calls Tryz.prog 143 #[.pointer (some ⟨b, 0, none⟩), .int .i64 kind, v] w (NodeSays Q w B b vt vn t used kind l) := by
  have hb1 : Below w.heap.size w (w.alloc (.cells #[.pointer (some ⟨b, 0, none⟩)] 160)) := (Below.refl _ _).alloc (Nat.le_refl _) _
  have h1 := h.keep (w' := w.alloc (.cells #[.pointer (some ⟨b, 0, none⟩)] 160)) hb1.size fun k hk _ => hb1.block k hk
  have hk1 := hk.keep (Keeps.of hb1 hP)
  obtain ⟨kvs, _, hk2, _⟩ := h.nodes
  obtain ⟨an, cn, rfl⟩ := ownsRow_form hk2
  have e0 : (w.alloc (.cells #[.pointer (some ⟨b, 0, none⟩)] 160)).cell? ⟨w.heap.size, 0, none⟩ = some (.pointer (some ⟨b, 0, none⟩)) := cell_of_heap (heap_alloc_new _ _) 0 rfl
  have e1 := cell_of_heap h1.cell 1 rfl
  have HC := Lib.hid (contains_node hk1 hl (show t.nodes.length ≤ 1073741824 by omega) e0 e1)
  have HG := Lib.hid (Grew.of (b := b) (vn := .slice an t.nodes.length cn) hb1)
  have HH := Lib.hid h1
  have HK := Lib.hid hk1
  have HN := Lib.hid (And.intro hn hl)
  have HFAR := Lib.hid h.far
  have HQ := Lib.hid (fun k (hk : (w.alloc (.cells #[.pointer (some ⟨b, 0, none⟩)] 160)).heap.size ≤ k) => hQ k (Nat.le_trans hb1.size hk))
  obtain ⟨al, cl, rfl⟩ := hk.form
  clear h hk hk1 hk2 h1 hb1 e1 hn hl hP hQ
  unfold NodeSays
  cases hbad : l.any (badKid t.nodes.length)
  · rw [hbad] at HC
    clear hbad
    simp only [Bool.false_eq_true, if_false]
    go_enter Tryz.func143, Tryz.ntmps143
    go_wp2_with (go_at_call 184; refine HC.out.mono ?_; rintro e w2 ⟨rfl, rfl⟩)
    generalize w.alloc (.cells #[.pointer (some ⟨b, 0, none⟩)] 160) = w1 at *
    generalize w.heap.size = c at *
    go_region_held3 (fun w' => w'.cell? ⟨c, 0, none⟩ = some (.pointer (some ⟨b, 0, none⟩))) (first | exact e0 | exact e2 | exact e3 | go_keep)
      (first
        | (go_at_call 134; refine (clone_int (w := w1.drew) HK.out HN.out.2 (ints_one l)).mono ?_; rintro e w2 ⟨v2, rfl, ho, hb⟩; have e2 : w2.cell? ⟨c, 0, none⟩ = some (.pointer (some ⟨b, 0, none⟩)) := (hb.cell (p := ⟨c, 0, none⟩) (cell_lt e0)).trans e0; obtain ⟨a2, c2, rfl⟩ := ownsRow_form ho; have HO := Lib.hid ho; have HB := Lib.hid hb; clear ho hb)
        | (go_at_call 181; refine (add_calls (HH.out.past HB.out) HN.out.1 ⟨kind, -1, l⟩ _ (HH.out.own HO.out (Nat.le_refl _) HQ.out)).mono ?_; rintro e w3 ⟨vn', rfl, q1, q2⟩; have e3 : w3.cell? ⟨c, 0, none⟩ = some (.pointer (some ⟨b, 0, none⟩)) := q2.cell e2 HFAR.out.1 HFAR.out.2; have Q1 := Lib.hid q1; have Q2 := Lib.hid q2; clear q1 q2))
    go_wp2
    go_ret
    exact ⟨vn', rfl, Q1.out, (HG.out.trans (Grew.of (Below.drew (Below.refl _ _)))).trans ((Grew.of HB.out).trans Q2.out)⟩
  · rw [hbad] at HC
    clear hbad
    simp only [if_true]
    go_enter Tryz.func143, Tryz.ntmps143
    go_wp2_with (go_at_call 184; refine HC.out.mono ?_; rintro e w2 ⟨rfl, rfl⟩)
    go_ret
    exact ⟨rfl, HH.out, HG.out⟩
end
end Go.Proofs.YtlejecaanllghaaGreatDoor
/- The tree's builder: Done. -/
namespace Go.Proofs.YtlejecaanllghaaGreatDoor
open Go.RowKit

section
variable {Q : Nat → Prop}

/-- A tree that the call builds: its two slices; block b holds them. -/
structure TrI (w : World) (B b : Nat) (vt vn : Value) (t : Tr.T) : Prop where
  base : B ≤ b
  lt : b < w.heap.size
  ne : vn.ownBlock ≠ some b
  toks : RdS w (BP w B b vn) 4 vt t.toks.length (tksCells t.toks)
  nodes : ∃ kvs : List Value, kvs.length = t.nodes.length ∧ w.ownsRow B 175 3 vn t.nodes.length ((t.nodes.zip kvs).flatMap ndCells) ∧
    ∀ (i : Nat) (n : Tr.Nd) (kv : Value), t.nodes[i]? = some n → kvs[i]? = some kv → RdS w (BP w B b vn) 1 kv n.kids.length (intCells n.kids)

theorem TrI.keep {w w' : World} {B b : Nat} {vt vn : Value} {t : Tr.T} (h : TrI w B b vt vn t) (hs : w.heap.size ≤ w'.heap.size) (hk : ∀ k, k < w.heap.size → k ≠ b → B ≤ k → w'.heap[k]? = w.heap[k]?) : TrI w' B b vt vn t := by
  have hkeep : Keeps (BP w B b vn) w w' := fun k hk' => hk k hk'.2.2.2 hk'.2.1 hk'.1
  obtain ⟨kvs, hk1, hk2, hk3⟩ := h.nodes
  exact ⟨h.base, Nat.lt_of_lt_of_le h.lt hs, h.ne, (h.toks.keep hkeep).imp fun k hk => hk.size hs, kvs, hk1, ownsRow_same hk2 fun k hk' => hk k (hk2.lt k hk').2 (fun e => h.ne (by rw [hk', e])) (hk2.lt k hk').1, fun i n kv hi hkv => ((hk3 i n kv hi hkv).keep hkeep).imp fun k hk => hk.size hs⟩
theorem TrI.below {w w' : World} {B b : Nat} {vt vn : Value} {t : Tr.T} (h : TrI w B b vt vn t) (hb : Below w.heap.size w w') : TrI w' B b vt vn t := h.keep hb.size fun k hk _ _ => hb.block k hk
theorem TrI.own {w w' : World} {B b : Nat} {vt vn : Value} {t : Tr.T} (h : TrI w B b vt vn t) {base : Nat} {e : TypeId} {size n : Nat} {v : Value} {xs : List Value} (ho : w'.ownsRow base e size v n xs) (hb : w.heap.size ≤ base) :
    RdS w' (BP w' B b vn) size v n xs := by
  refine (RdS.own ho).imp fun k hk => ⟨?_, ?_, ?_, hk.2.2⟩
  · have := h.base; have := h.lt; omega
  · have := h.lt; omega
  · obtain ⟨kvs, _, hk2, _⟩ := h.nodes
    intro e
    have := (hk2.lt k e).2
    omega
theorem TrI.rd {w : World} {B b : Nat} {vt vn : Value} {t : Tr.T} (h : TrI w B b vt vn t) : RdT w (fun k => B ≤ k ∧ k < w.heap.size) vt vn t := by
  obtain ⟨kvs, hk1, hk2, hk3⟩ := h.nodes
  exact ⟨h.toks.imp fun k hk => ⟨hk.1, hk.2.2.2⟩, kvs, hk1, (RdS.own hk2).imp fun k hk => hk.2, fun i n kv hi hkv => (hk3 i n kv hi hkv).weak.imp fun k hk => ⟨hk.1, hk.2.2.2⟩⟩

/-- One node more. -/
theorem TrI.push {w w1 : World} {B b : Nat} {vt vn : Value} {t : Tr.T} (h : TrI w B b vt vn t) {n : Tr.Nd} {kv : Value} (hk : RdS w (BP w B b vn) 1 kv n.kids.length (intCells n.kids)) {g cap : Nat}
    {kvs : List Value} (hk1 : kvs.length = t.nodes.length) (hk3 : ∀ (i : Nat) (n : Tr.Nd) (kv : Value), t.nodes[i]? = some n → kvs[i]? = some kv → RdS w (BP w B b vn) 1 kv n.kids.length (intCells n.kids))
    (hown : w1.ownsRow B 175 3 (.slice (some ⟨g, 0, none⟩) (t.nodes.length + 1) cap) (t.nodes.length + 1) ((t.nodes.zip kvs).flatMap ndCells ++ [.int .i64 n.kind, .int .i64 n.tok, kv]))
    (hgrow : w.grownBy w1 vn.ownBlock) (hat : vn.ownBlock = some g ∨ w.heap.size ≤ g) :
    TrI (w1.setCell ⟨b, 1, none⟩ (.slice (some ⟨g, 0, none⟩) (t.nodes.length + 1) cap)) B b vt (.slice (some ⟨g, 0, none⟩) (t.nodes.length + 1) cap) ⟨t.toks, t.nodes ++ [n]⟩ := by
  have hblt := h.lt
  have hs1 : w.heap.size ≤ w1.heap.size := hgrow.size
  have hgb : g ≠ b := by
    rcases hat with h1 | h1
    · intro e; exact h.ne (by rw [h1, e])
    · omega
  have hglt : g < w1.heap.size := (hown.lt g rfl).2
  generalize hv : Value.slice (some ⟨g, 0, none⟩) (t.nodes.length + 1) cap = v at *
  have hvo : v.ownBlock = some g := by rw [← hv]; rfl
  have hsz : (w1.setCell ⟨b, 1, none⟩ v).heap.size = w1.heap.size := by simp [World.setCell]
  have hne : ∀ k, k ≠ b → (w1.setCell ⟨b, 1, none⟩ v).heap[k]? = w1.heap[k]? := fun k h2 => Below.heap_setCell _ _ _ _ h2
  have hold : ∀ k, k < w.heap.size → k ≠ b → vn.ownBlock ≠ some k → (w1.setCell ⟨b, 1, none⟩ v).heap[k]? = w.heap[k]? := by
    intro k h1 h2 h3
    rw [hne k h2, hgrow.block k h1 (fun e => h3 e.symm)]
  have hbp : ∀ k, BP w B b vn k → BP (w1.setCell ⟨b, 1, none⟩ v) B b v k := by
    rintro k ⟨h1, h2, h3, h4⟩
    refine ⟨h1, h2, ?_, by rw [hsz]; omega⟩
    rw [hvo]
    intro e
    injection e with e
    subst e
    rcases hat with h5 | h5
    · exact h3 h5
    · omega
  have hkeep : Keeps (BP w B b vn) w (w1.setCell ⟨b, 1, none⟩ v) := fun k hk => hold k hk.2.2.2 hk.2.1 hk.2.2.1
  refine ⟨h.base, by rw [hsz]; omega, ?_, (h.toks.keep hkeep).imp hbp, kvs ++ [kv], by simp [hk1], ?_, ?_⟩
  · rw [hvo]
    intro e
    injection e with e
    exact hgb e
  · have h1 : (t.nodes ++ [n]).zip (kvs ++ [kv]) = t.nodes.zip kvs ++ [(n, kv)] := by rw [List.zip_append hk1.symm]; rfl
    simp only [h1, List.flatMap_append, List.length_append, List.length_cons, List.length_nil]
    refine ownsRow_same (by simpa [ndCells] using hown) fun k hk => ?_
    rw [hvo] at hk
    injection hk with hk
    subst hk
    exact hne g hgb
  · intro i m kv' hi hkv
    rcases Nat.lt_or_ge i t.nodes.length with hlt | hge
    · rw [List.getElem?_append_left hlt] at hi
      rw [List.getElem?_append_left (by omega)] at hkv
      exact ((hk3 i m kv' hi hkv).keep hkeep).imp hbp
    · have h0 : i = t.nodes.length := by
        rcases Nat.lt_or_ge t.nodes.length i with h1 | h1
        · rw [List.getElem?_eq_none (by simp; omega)] at hi; cases hi
        · omega
      subst h0
      rw [List.getElem?_append_right (Nat.le_refl _)] at hi
      rw [List.getElem?_append_right (by omega)] at hkv
      simp only [Nat.sub_self, List.getElem?_cons_zero, Option.some.injEq, hk1] at hi hkv
      subst hi hkv
      exact (hk.keep hkeep).imp hbp

def DoneRel (w : World) (vt : Value) (toks : List Tr.Tk) (ns : List Tr.Nd) (d : Nat) (k : Nat) (v19 : Value) (wr : World) : Prop :=
  ∃ (j : Nat) (a : Option Addr) (c : Nat), v19 = .int .i64 j ∧ k = ns.length - j ∧ j ≤ ns.length ∧ wr.heap[w.heap.size]? = some (.cells #[.slice none 0 0, .slice none 0 0] 30 (0, 0)) ∧ w.heap.size < d ∧
    wr.heap[d]? = some (.cells #[vt, .slice a j c] 30 (0, 0)) ∧ TrI wr (w.heap.size + 1) d vt (.slice a j c) ⟨toks, ns.take j⟩ ∧ Below w.heap.size w wr

theorem done_stand {w w1 : World} {B b : Nat} {vt vn : Value} {t : Tr.T} {used : Nat} (h : BuildI Q w B b vt vn t used) {o : Obj} (hb : Below (w.alloc o).heap.size (w.alloc o) w1) : w1.heap[b]? = some (.cells #[vt, vn, .int .i64 used] 210 (0, 0)) := by
  have hlt := lt_heap h.cell
  rw [hb.block b (by rw [← size_alloc1]; omega), Below.heap_alloc _ _ _ hlt]
  exact h.cell
theorem done_start (w : World) {w1 : World} {v : Value} {toks : List Tr.Tk} {ns : List Tr.Nd}
    (ho : w1.ownsRow (w.alloc (.cells #[.slice none 0 0, .slice none 0 0] 30)).heap.size 169 4 v toks.length (tksCells toks))
    (hb : Below (w.alloc (.cells #[.slice none 0 0, .slice none 0 0] 30)).heap.size (w.alloc (.cells #[.slice none 0 0, .slice none 0 0] 30)) w1) :
    DoneRel w v toks ns w1.heap.size ns.length (.int .i64 0) (w1.alloc (.cells #[v, .slice none 0 0] 30)) := by
  have hs := hb.size
  rw [← size_alloc1] at hs ho
  have hw1 : w1.heap[w.heap.size]? = some (.cells #[.slice none 0 0, .slice none 0 0] 30 (0, 0)) := by
    rw [hb.block _ (by rw [← size_alloc1]; omega)]
    exact heap_alloc_new _ _
  have ha : Below w1.heap.size w1 (w1.alloc (.cells #[v, .slice none 0 0] 30)) := (Below.refl _ _).alloc (Nat.le_refl _) _
  refine ⟨0, none, 0, rfl, rfl, Nat.zero_le _, by rw [ha.block _ (by omega)]; exact hw1, by omega, heap_alloc_new _ _, ⟨by omega, by rw [← size_alloc1]; omega, by simp [Value.ownBlock], ?_, [], rfl, World.ownsRow_nil _ _ _ _, fun i n kv hi => by simp at hi⟩, ?_⟩
  · exact ((RdS.own ho).keep (Keeps.of ha fun i hi => hi.2.2)).imp fun k hk => ⟨hk.2.1, by have := hk.2.2; omega, by simp [Value.ownBlock], by rw [← size_alloc1]; have := hk.2.2; omega⟩
  · exact (((Below.refl w.heap.size w).alloc (Nat.le_refl _) _).trans (hb.mono (by rw [← size_alloc1]; omega))).trans (ha.mono (by omega))

/-- A builder's nodes: their kids' slices lie somewhere. -/
def RdNs (w : World) (P : Nat → Prop) (vn : Value) (ns : List Tr.Nd) : Prop :=
  ∃ kvs : List Value, kvs.length = ns.length ∧ RdS w P 3 vn ns.length ((ns.zip kvs).flatMap ndCells) ∧ ∀ (i : Nat) (n : Tr.Nd) (kv : Value), ns[i]? = some n → kvs[i]? = some kv → RdS w P 1 kv n.kids.length (intCells n.kids)
theorem RdNs.keep {w w' : World} {P : Nat → Prop} {vn : Value} {ns : List Tr.Nd} (h : RdNs w P vn ns) (hb : Keeps P w w') : RdNs w' P vn ns := by
  obtain ⟨kvs, h1, h2, h3⟩ := h
  exact ⟨kvs, h1, h2.keep hb, fun i n kv hn hk => (h3 i n kv hn hk).keep hb⟩
theorem RdNs.node {w : World} {P : Nat → Prop} {vn : Value} {ns : List Tr.Nd} (h : RdNs w P vn ns) {i : Nat} {n : Tr.Nd} (hi : ns[i]? = some n) :
    ∃ b off c kv, vn = .slice (some ⟨b, off, none⟩) ns.length c ∧ P b ∧ w.rangeAt b (off + i * 3) [.int .i64 n.kind, .int .i64 n.tok, kv] ∧ RdS w P 1 kv n.kids.length (intCells n.kids) := by
  obtain ⟨kvs, h1, ⟨h2, a, c, rfl, hc, h4⟩, h3⟩ := h
  have hlt : i < ns.length := by
    rcases Nat.lt_or_ge i ns.length with h | h
    · exact h
    · rw [List.getElem?_eq_none h] at hi; cases hi
  have hk : kvs[i]? = some (kvs[i]'(by omega)) := List.getElem?_eq_getElem (by omega)
  rcases h4 with ⟨_, h4⟩ | ⟨b, off, rfl, h5, h6⟩
  · omega
  · refine ⟨b, off, c, kvs[i]'(by omega), rfl, h5.resolve_left (by omega), ?_, h3 i n _ hi hk⟩
    exact rangeAt_piece (f := ndCells) (s := 3) (x := (n, kvs[i]'(by omega))) (fun _ => rfl) h6 (by rw [List.getElem?_zip_eq_some]; exact ⟨hi, hk⟩)
theorem BuildI.rd {w : World} {B b : Nat} {vt vn : Value} {t : Tr.T} {used : Nat} (h : BuildI Q w B b vt vn t used) : RdNs w (fun k => k < w.heap.size) vn t.nodes := by
  obtain ⟨kvs, hk1, hk2, hk3⟩ := h.nodes
  exact ⟨kvs, hk1, (RdS.own hk2).imp fun k hk => hk.2.2, fun i n kv hi hkv => (hk3 i n kv hi hkv).imp fun k hk => hk.1.1.2.2.2⟩
theorem done_node {w w' : World} {cs : Array Value} {T : TypeId} (hb : Below (w.alloc (.cells cs T)).heap.size (w.alloc (.cells cs T)) w') : w'.heap[w.heap.size]? = some (.cells cs T (0, 0)) := by
  rw [hb.block _ (by rw [← size_alloc1]; omega)]
  exact heap_alloc_new _ _

theorem done_mid {wr w3 : World} {B d : Nat} {vt vn : Value} {tt : Tr.T} (htr : TrI wr B d vt vn tt) {x y kv v3 : Value} {T : TypeId}
    (hb3 : Below (wr.alloc (.cells #[x, y, kv] T)).heap.size (wr.alloc (.cells #[x, y, kv] T)) w3) {m : Nat} {xs : List Value} (ho3 : w3.ownsRow (wr.alloc (.cells #[x, y, kv] T)).heap.size 3 1 v3 m xs) :
    TrI (w3.setCell ⟨wr.heap.size, 2, none⟩ v3) B d vt vn tt ∧ RdS (w3.setCell ⟨wr.heap.size, 2, none⟩ v3) (BP (w3.setCell ⟨wr.heap.size, 2, none⟩ v3) B d vn) 1 v3 m xs ∧ Below wr.heap.size wr (w3.setCell ⟨wr.heap.size, 2, none⟩ v3) ∧
    (w3.setCell ⟨wr.heap.size, 2, none⟩ v3).heap[wr.heap.size]? = some (.cells #[x, y, v3] T (0, 0)) := by
  have hnb := done_node hb3
  have h4 : Below wr.heap.size wr (w3.setCell ⟨wr.heap.size, 2, none⟩ v3) := (((Below.refl wr.heap.size wr).alloc (Nat.le_refl _) _).trans (hb3.mono (by rw [← size_alloc1]; omega))).setCell (Nat.le_refl _) _
  refine ⟨htr.below h4, ?_, h4, setCell_row hnb _⟩
  refine htr.own (base := wr.heap.size + 1) (e := 3) (ownsRow_same (w := w3) (by rw [size_alloc1]; exact ho3) fun k hk => ?_) (Nat.le_succ _)
  have := (ho3.lt k hk).1
  rw [← size_alloc1] at this
  exact Below.heap_setCell _ _ _ _ (by simp only; omega)

theorem done_own {w4 : World} {B j : Nat} {v : Value} {ns : List Tr.Nd} {xs : List Value} (hj : (ns.take j).length = j) (h : w4.ownsRow B 175 3 v (ns.take j).length xs) (o : Obj) : (w4.alloc o).ownsRow B 175 3 v j xs := by
  rw [hj] at h
  exact h.alloc o
theorem done_push {w4 W w5 : World} {B d j : Nat} {vt vn kv : Value} {toks : List Tr.Tk} {ns : List Tr.Nd} {n : Tr.Nd} {kvs : List Value} {g cap : Nat} (hj : (ns.take j).length = j) (h : TrI w4 B d vt vn ⟨toks, ns.take j⟩) (hW : Below w4.heap.size w4 W)
    (hk : RdS w4 (BP w4 B d vn) 1 kv n.kids.length (intCells n.kids)) (q1 : kvs.length = (ns.take j).length)
    (q3 : ∀ (i : Nat) (n : Tr.Nd) (kv : Value), (ns.take j)[i]? = some n → kvs[i]? = some kv → RdS w4 (BP w4 B d vn) 1 kv n.kids.length (intCells n.kids))
    (hown : w5.ownsRow B 175 3 (.slice (some ⟨g, 0, none⟩) (j + 1) cap) (j + 1) (((ns.take j).zip kvs).flatMap ndCells ++ [.int .i64 n.kind, .int .i64 n.tok, kv]))
    (hgrow : W.grownBy w5 vn.ownBlock) (hat : vn.ownBlock = some g ∨ g = W.heap.size) :
    TrI (w5.setCell ⟨d, 1, none⟩ (.slice (some ⟨g, 0, none⟩) (j + 1) cap)) B d vt (.slice (some ⟨g, 0, none⟩) (j + 1) cap) ⟨toks, ns.take j ++ [n]⟩ := by
  have hkeep : Keeps (BP w4 B d vn) w4 W := Keeps.of hW fun k hk => hk.2.2.2
  have := (h.below hW).push (n := n) ((hk.keep hkeep).imp fun k hk => hk.size hW.size) (kvs := kvs) q1 (fun i m v hi hv => ((q3 i m v hi hv).keep hkeep).imp fun k hk => hk.size hW.size) (g := g) (cap := cap) (w1 := w5) (by simpa only [hj] using hown) hgrow (hat.imp_right fun e => by omega)
  simpa only [hj] using this
theorem done_below {w wr w4 W w5 : World} {d : Nat} {vn : Value} (hb : Below w.heap.size w wr) (hd : w.heap.size < d) (h4 : Below wr.heap.size wr w4) (hW : Below w4.heap.size w4 W) (hg : W.grownBy w5 vn.ownBlock) (hv : ∀ k, vn.ownBlock = some k → w.heap.size + 1 ≤ k) (hdl : d ≤ w4.heap.size) (u : Value) :
    (∀ {o : Obj}, wr.heap[w.heap.size]? = some o → (w5.setCell ⟨d, 1, none⟩ u).heap[w.heap.size]? = some o) ∧ Below w.heap.size w (w5.setCell ⟨d, 1, none⟩ u) := by
  have s1 := hb.size
  have s2 := h4.size
  have s3 := hW.size
  refine ⟨fun {o} ho => ?_, ?_⟩
  · have hlt := lt_heap ho
    rw [Below.heap_setCell _ _ _ _ (by simp only; omega), hg.block _ (by omega) (fun e => by have := hv _ e.symm; omega), hW.block _ (by omega), h4.block _ hlt]
    exact ho
  · exact (((hb.trans (h4.mono s1)).trans (hW.mono (Nat.le_trans s1 s2))).grown hg (by omega) (fun k hk => by have := hv k hk; omega)).setCell (by simp only; omega) _

set_option maxRecDepth 100000 in
set_option maxHeartbeats 1000000 in
theorem done_calls {w : World} {B b : Nat} {vt vn : Value} {t : Tr.T} {used : Nat} (h : BuildI Q w B b vt vn t used) (hn : t.nodes.length ≤ 1073741823) (ht : t.toks.length ≤ 1073741824) (hkids : ∀ n ∈ t.nodes, n.kids.length ≤ 1073741824) :
    Calls Tryz.prog 92 #[.pointer (some ⟨b, 0, none⟩)] w fun e w' => ∃ vt' vn', e = .returned (.agg #[vt', vn']) ∧ RdT w' (fun k => w.heap.size ≤ k ∧ k < w'.heap.size) vt' vn' t ∧ Below w.heap.size w w' := by
  obtain ⟨kvs, hk1, hk2, hk3⟩ := h.nodes
  obtain ⟨an, cn, rfl⟩ := ownsRow_form hk2
  have hb1 : Below w.heap.size w (w.alloc (.cells #[.slice none 0 0, .slice none 0 0] 30)) := (Below.refl _ _).alloc (Nat.le_refl _) _
  have h1 := h.keep (w' := w.alloc (.cells #[.slice none 0 0, .slice none 0 0] 30)) hb1.size fun k hk _ => hb1.block k hk
  obtain ⟨at_, ct, rfl⟩ := h.toks.form
  have e0 := cell_of_heap h1.cell 0 rfl
  have HH := Lib.hid h
  have HC := Lib.hid (clone_tok h1.toks ht (tks_one t.toks))
  have HN := Lib.hid (And.intro hn hkids)
  have HR := Lib.hid hb1
  have hn' : (t.nodes.length : Int) ≤ 1073741823 := by omega
  clear h hk1 hk2 hk3 hb1 h1 hn hkids
  go_enter Tryz.func92, Tryz.ntmps92
  go_wp2_with (go_at_call 133; refine HC.out.mono ?_; rintro e w1 ⟨v1, rfl, ho, hb⟩; obtain ⟨a1, c1, rfl⟩ := ownsRow_form ho; have e1 := cell_of_heap (done_stand HH.out hb) 1 rfl; have l1 := cell_lt e1; have HO := Lib.hid ho; have HB := Lib.hid hb; clear ho hb)
  go_loopg [19] t.nodes.length (fun k v19 wr => DoneRel w (.slice a1 t.toks.length c1) t.toks t.nodes w1.heap.size k v19 wr)
  case atStart => exact done_start w HO.out HB.out
  case round =>
    obtain ⟨j, a, c, rfl, hk, hj, hc2, hd2, hdc, htr, hb⟩ := hrel
    by_cases hlt : j < t.nodes.length
    · have hlt' : (j : Int) < (t.nodes.length : Int) := by omega
      obtain ⟨n, hnj⟩ : ∃ n, t.nodes[j]? = some n := ⟨_, List.getElem?_eq_getElem hlt⟩
      obtain ⟨g0, o0, c0, kv, he, hg0, hrg, hkv⟩ := (HH.out.rd.keep (Keeps.of hb fun _ h => h)).node hnj
      simp only [Value.slice.injEq, true_and] at he
      obtain ⟨rfl, rfl⟩ := he
      have hkl := HN.out.2 n (List.mem_of_getElem? hnj)
      have HG := Lib.hid hrg
      have hbn : Below wr.heap.size wr (wr.alloc (.cells #[.int .i64 n.kind, .int .i64 n.tok, kv] 175)) := (Below.refl _ _).alloc (Nat.le_refl _) _
      have HCI := Lib.hid (clone_int (hkv.keep (Keeps.of hbn fun i hi => Nat.lt_of_lt_of_le hi hb.size)) hkl (ints_one n.kids))
      obtain ⟨ka, kc, rfl⟩ := hkv.form
      have HRL := Lib.hid (And.intro hk (And.intro hc2 (And.intro hd2 (And.intro hdc (And.intro htr (And.intro hb (And.intro hnj hbn)))))))
      clear hk hc2 hd2 hdc htr hb hnj hrg hkv hkl hbn
      go_upto_region 6 with (first
        | (refine wpList_load_mid rfl 175 _ rfl g0 (o0 + j * 3) rfl _ _ HG.out Tryz.underlying175 rfl rfl ?_)
        | (go_at_call 134; refine HCI.out.mono ?_; rintro e w3 ⟨v3, rfl, ho, hb3⟩; obtain ⟨a3, c3, rfl⟩ := ownsRow_form ho; have hnb := done_node hb3; have d2 := cell_of_heap hnb 2 rfl; have f2 := frozen_of_heap hnb 2; have HO3 := Lib.hid ho; have HB3 := Lib.hid hb3; have HNB := Lib.hid hnb; clear ho hb3 hnb))
      have hm := done_mid HRL.out.2.2.2.2.1 HB3.out HO3.out
      clear d2 f2 l1
      generalize w3.setCell ⟨wr.heap.size, 2, none⟩ (.slice a3 n.kids.length c3) = w4 at *
      have hd4 : w4.heap[w1.heap.size]? = some (.cells #[.slice a1 t.toks.length c1, .slice a j c] 30 (0, 0)) := by rw [hm.2.2.1.block _ HRL.out.2.2.2.2.1.lt]; exact HRL.out.2.2.2.1
      obtain ⟨kvs2, q1, q2, q3⟩ := hm.1.nodes
      have hW : Below w4.heap.size w4 (w4.alloc (.cells #[.int .i64 n.kind, .int .i64 n.tok, .slice a3 n.kids.length c3] 175)) := (Below.refl _ _).alloc (Nat.le_refl _) _
      have e4 := cell_of_heap hd4 1 rfl
      have l4 := cell_lt e4
      have HM := Lib.hid hm
      have HD4 := Lib.hid hd4
      have HW := Lib.hid hW
      have HQ := Lib.hid (And.intro q1 (And.intro q2 q3))
      obtain ⟨i0, hi, hz0, hz1, hz2⟩ := info_split info_node
      have Hi := Lib.hid hi
      have Hz0 := Lib.hid hz0
      have Hz1 := Lib.hid hz1
      have Hz2 := Lib.hid hz2
      have hjl : (t.nodes.take j).length = j := by simp; omega
      have HJ := Lib.hid hjl
      clear hm hd4 hW q1 q2 q3 hi hz0 hz1 hz2 hjl
      go_wp2_with (first
        | (refine wpList_load_row rfl 175 _ rfl wr.heap.size rfl _ _ _ _ HM.out.2.2.2 Tryz.underlying175 rfl rfl ?_)
        | (at_builtin; refine wpList_append_lies _ rfl _ _ 28 rfl (w.heap.size + 1) 175 i0 (.agg #[.int .i64 0, .int .i64 0, .slice none 0 0]) 3 40 Tryz.underlying28 Hi.out Hz0.out Hz1.out Hz2.out rfl (by decide) (.slice a j c) j (((t.nodes.take j).zip kvs2).flatMap ndCells) rfl (done_own HJ.out HQ.out.2.1 _) ⟨w4.heap.size, 0, none⟩ 1 1 [.int .i64 n.kind, .int .i64 n.tok, .slice a3 n.kids.length c3] rfl rfl (World.news_of_block (heap_alloc_new _ _)) (by simp [Value.oneCell']) (by decide) (by have := HN.out.1; unfold maxLen; omega) (by have := HN.out.1; omega) (Nat.le_trans (Nat.le_trans HM.out.1.base (Nat.le_of_lt HM.out.1.lt)) HW.out.size) _ rfl ?_))
      intro g cap w5 hown hgrow hat hlt5
      have hp := done_push HJ.out HM.out.1 HW.out HM.out.2.1 HQ.out.1 HQ.out.2.2 hown hgrow (hat.imp_right fun e => e.trans (size_alloc1 _ _))
      have hd5 : w5.heap[w1.heap.size]? = some (.cells #[.slice a1 t.toks.length c1, .slice a j c] 30 (0, 0)) := by
        rw [hgrow.block _ (Nat.lt_of_lt_of_le HM.out.1.lt HW.out.size) (fun e => HM.out.1.ne e.symm), HW.out.block _ HM.out.1.lt]
        exact HD4.out
      have hst := setCell_row (j := 1) hd5 (.slice (some ⟨g, 0, none⟩) (j + 1) cap)
      have e5 := cell_of_heap hd5 1 rfl
      have f5 := frozen_of_heap hd5 1
      have hbig := done_below HRL.out.2.2.2.2.2.1 HRL.out.2.2.1 HM.out.2.2.1 HW.out hgrow (fun k hk => (HQ.out.2.1.lt k hk).1) (Nat.le_of_lt HM.out.1.lt)
      have HP := Lib.hid hp
      have HST := Lib.hid hst
      have HBG := Lib.hid hbig
      clear hp hst hbig hown hgrow hat hlt5 hd5
      go_wp2
      go_roundg (t.nodes.length - (j + 1))
      case measure => have := HRL.out.1; omega
      case rel =>
        refine ⟨j + 1, some ⟨g, 0, none⟩, cap, by go_num, rfl, by omega, ?_, HRL.out.2.2.1, HST.out, ?_, ?_⟩
        · exact (HBG.out _).1 HRL.out.2.1
        · rw [List.take_add_one, HRL.out.2.2.2.2.2.2.1]
          exact HP.out
        · exact (HBG.out _).2
    · obtain rfl : j = t.nodes.length := by omega
      have HC2 := Lib.hid hc2
      have HD2 := Lib.hid hdc
      have HTR := Lib.hid (And.intro htr (And.intro hb hd2))
      clear hc2 hdc htr hb hd2 e0 e1 l1
      go_wp2_with (first
        | (refine wpList_load_row rfl 30 _ rfl w1.heap.size rfl _ _ _ _ HD2.out Tryz.underlying30 rfl rfl ?_)
        | (refine wpList_store_row rfl 30 _ _ rfl 30 w.heap.size _ _ rfl HC2.out rfl rfl rfl (by simp [Value.oneCell']) ?_))
      refine bodyPost_ret (v := _) (results_cell_row rfl _ _ w.heap.size _ _ _ _ rfl (setRow_at HC2.out) Tryz.underlying30 rfl rfl) rfl ?_
      obtain ⟨htr, hb, hd2⟩ := HTR.out
      rw [List.take_length] at htr
      refine ⟨_, _, rfl, ?_, below_setRow hb (Nat.le_refl _) _⟩
      refine (htr.rd.keep fun k hk => setRow_ne (by omega)).imp fun k hk => ⟨by omega, ?_⟩
      have hsz : (wr.setRow w.heap.size #[.slice a1 t.toks.length c1, .slice a t.nodes.length c]).heap.size = wr.heap.size := by simp [World.setRow]
      rw [hsz]
      exact hk.2
end
end Go.Proofs.YtlejecaanllghaaGreatDoor
/- A tree's nodes: is each of the right form? -/
namespace Go.Proofs.YtlejecaanllghaaGreatDoor
open Go.RowKit

theorem formed1_calls {w : World} {c n : Nat} (k : Int) (h0 : w.cell? ⟨c, 0, none⟩ = some (.int .i64 n)) :
    Calls Tryz.prog 214 #[.int .i64 k, .pointer (some ⟨c, 0, none⟩)] w fun e w' => e = .returned (.bool (badKid n k)) ∧ w = w' := by
  unfold badKid
  by_cases hk : k < 0
  · go_enter Tryz.func214, Tryz.ntmps214
    go_wp2
    go_ret
    exact ⟨by simp [hk], rfl⟩
  · have hk' : 0 ≤ k := by omega
    go_enter Tryz.func214, Tryz.ntmps214
    go_wp2
    go_ret
    exact ⟨by simp only [decide_eq_false (show ¬ k < 0 by omega), Bool.false_or]; rfl, rfl⟩

set_option maxRecDepth 100000 in
theorem index_form {w : World} {P : Nat → Prop} {v : Value} {l : List Int} (h : RdW w P 1 v l.length (intCells l)) (hl : l.length ≤ 1073741824) {c n : Nat} (h0 : w.cell? ⟨c, 0, none⟩ = some (.int .i64 n)) :
    Calls Tryz.prog 225 #[v, .func (.func 214) #[] #[.pointer (some ⟨c, 0, none⟩)]] w fun e w' =>
      ∃ r : Int, e = .returned (.int .i64 r) ∧ decide (0 ≤ r) = l.any (badKid n) ∧ w = w' := by
  obtain ⟨_, a, cl, rfl, _, hd⟩ := h
  have hl' : (l.length : Int) ≤ 1073741824 := by omega
  have HC := fun k => Lib.hid (formed1_calls k h0)
  have HD := Lib.hid hd
  clear h0 hd
  go_enter Tryz.func225, Tryz.ntmps225
  go_wp2
  go_loopg [8] l.length (fun k v8 wr => ∃ j : Nat, v8 = .int .i64 j ∧ k = l.length - j ∧ j ≤ l.length ∧ wr = w ∧ ((l.take j).any (badKid n)) = false)
  case atStart => exact ⟨0, rfl, rfl, Nat.zero_le _, rfl, by simp⟩
  case round =>
    obtain ⟨j, rfl, hk, hj, rfl, hall⟩ := hrel
    have HK := Lib.hid hk
    have HA := Lib.hid hall
    clear hk hall
    by_cases hlt : j < l.length
    · have hlt' : (j : Int) < (l.length : Int) := by omega
      obtain ⟨b2, off, rfl, _, hr⟩ := HD.out.resolve_left (fun h => by omega)
      have hcell : wr.cell? ⟨b2, off + j, none⟩ = some (.int .i64 l[j]) := hr j _ (by simp [intCells, List.getElem?_eq_getElem hlt])
      clear hr
      obtain ⟨y, hy⟩ : ∃ y, l[j] = y := ⟨_, rfl⟩
      rw [hy] at hcell
      have HY := Lib.hid hy
      clear hy
      cases hb : badKid n y
      · have HB := Lib.hid hb
        have HCB := Lib.hid (hb ▸ (HC y).out)
        clear hb
        go_wp2_with (go_at_call 214; refine HCB.out.mono ?_; rintro e w1 ⟨rfl, rfl⟩)
        go_roundg (l.length - (j + 1))
        case measure => have := HK.out; omega
        case rel =>
          refine ⟨j + 1, by go_num, rfl, by omega, rfl, ?_⟩
          rw [List.take_succ_eq_append_getElem hlt, List.any_append, HA.out, HY.out]
          simp [HB.out]
      · have HB := Lib.hid hb
        have HCB := Lib.hid (hb ▸ (HC y).out)
        clear hb
        go_wp2_with (go_at_call 214; refine HCB.out.mono ?_; rintro e w1 ⟨rfl, rfl⟩)
        go_ret
        refine ⟨(j : Int), rfl, ?_, rfl⟩
        have h2 : l.any (badKid n) = true := List.any_eq_true.2 ⟨y, by rw [← HY.out]; exact List.getElem_mem hlt, HB.out⟩
        rw [h2]
        simp
    · obtain rfl : j = l.length := by omega
      go_wp2
      go_ret
      refine ⟨-1, rfl, ?_, rfl⟩
      have h2 := HA.out
      rw [List.take_length] at h2
      rw [h2]
      rfl
theorem contains_form {w : World} {P : Nat → Prop} {v : Value} {l : List Int} (h : RdW w P 1 v l.length (intCells l)) (hl : l.length ≤ 1073741824) {c n : Nat} (h0 : w.cell? ⟨c, 0, none⟩ = some (.int .i64 n)) :
    Calls Tryz.prog 184 #[v, .func (.func 214) #[] #[.pointer (some ⟨c, 0, none⟩)]] w fun e w' =>
      e = .returned (.bool (l.any (badKid n))) ∧ w = w' := by
  have HI := Lib.hid (index_form h hl h0)
  clear h h0
  go_enter Tryz.func184, Tryz.ntmps184
  go_wp2_with (go_at_call 225; refine HI.out.mono ?_; rintro e w1 ⟨r, rfl, hr, rfl⟩; have HR := Lib.hid hr; clear hr)
  go_ret
  exact ⟨by rw [← HR.out]; rfl, rfl⟩

theorem formed_eq (t : Tr.T) (i : Nat) (n : Tr.Nd) : Tr.formed t i n = if n.kind < 1 ∨ 19 < n.kind then false
  else if n.kind = 19 then n.kids.isEmpty && decide (0 ≤ n.tok) && decide (n.tok < (t.toks.length : Int))
  else decide (n.tok = -1) && !(n.kids.any (badKid i)) := rfl

set_option maxRecDepth 100000 in
theorem formed_calls {w : World} {P : Nat → Prop} {at_ : Option Addr} {ct : Nat} {vn kv : Value} {t : Tr.T} {n : Tr.Nd} (hk : RdW w P 1 kv n.kids.length (intCells n.kids)) (hP : ∀ k, P k → k < w.heap.size) (hl : n.kids.length ≤ 1073741824)
    (ht : t.toks.length ≤ 1073741824) (i : Nat) :
    Calls Tryz.prog 168 #[.agg #[.slice at_ t.toks.length ct, vn], .int .i64 i, .agg #[.int .i64 n.kind, .int .i64 n.tok, kv]] w fun e w' => e = .returned (.bool (Tr.formed t i n)) ∧ Below w.heap.size w w' := by
  have hb : Below w.heap.size w (((w.alloc (.cells #[.slice at_ t.toks.length ct, vn] 30)).alloc (.cells #[.int .i64 i] 3)).alloc (.cells #[.int .i64 n.kind, .int .i64 n.tok, kv] 175)) :=
    (((Below.refl _ _).alloc (Nat.le_refl _) _).alloc (by rw [← size_alloc1]; omega) _).alloc (by rw [← size_alloc1, ← size_alloc1]; omega) _
  have hc : (((w.alloc (.cells #[.slice at_ t.toks.length ct, vn] 30)).alloc (.cells #[.int .i64 i] 3)).alloc (.cells #[.int .i64 n.kind, .int .i64 n.tok, kv] 175)).cell? ⟨w.heap.size + 1, 0, none⟩ = some (.int .i64 i) := by
    refine cell_of_heap (T := 3) (fr := (0, 0)) (cs := #[.int .i64 i]) ?_ 0 rfl
    rw [Below.heap_alloc _ _ _ (by rw [← size_alloc1, ← size_alloc1]; omega), size_alloc1 w (.cells #[.slice at_ t.toks.length ct, vn] 30)]
    exact heap_alloc_new _ _
  have HF := Lib.hid (contains_form (hk.keep (Keeps.of hb hP)) hl hc)
  obtain ⟨ka, kc, rfl⟩ := hk.form
  have ht' : (t.toks.length : Int) ≤ 1073741824 := by omega
  have hl' : (n.kids.length : Int) ≤ 1073741824 := by omega
  have HB := Lib.hid (show ∀ o1 o2 o3 : Obj, Below w.heap.size w (((w.alloc o1).alloc o2).alloc o3) from fun o1 o2 o3 => (((Below.refl _ _).alloc (Nat.le_refl _) _).alloc (by rw [← size_alloc1]; omega) _).alloc (by rw [← size_alloc1, ← size_alloc1]; omega) _)
  clear hk hP hb hc hl
  obtain ⟨kind, tok, kids⟩ := n
  simp only at HF hl'
  rw [formed_eq]
  simp only
  by_cases h1 : kind < 1
  · rw [if_pos (Or.inl h1)]
    go_enter Tryz.func168, Tryz.ntmps168
    go_wp2
    go_ret
    exact ⟨rfl, HB.out _ _ _⟩
  · by_cases h2 : 19 < kind
    · rw [if_pos (Or.inr h2)]
      have h1' : 1 ≤ kind := by omega
      go_enter Tryz.func168, Tryz.ntmps168
      go_wp2
      go_ret
      exact ⟨rfl, HB.out _ _ _⟩
    · rw [if_neg (by omega)]
      have h1' : 1 ≤ kind := by omega
      have h2' : kind ≤ 19 := by omega
      by_cases h3 : kind = 19
      · rw [if_pos h3]
        subst h3
        by_cases h4 : kids.length = 0
        · have h4' : kids.isEmpty = true := by rw [List.isEmpty_iff]; exact List.eq_nil_of_length_eq_zero h4
          by_cases h5 : 0 ≤ tok
          · rw [h4', decide_eq_true h5, Bool.true_and, Bool.true_and]
            clear h4'
            go_enter Tryz.func168, Tryz.ntmps168
            go_wp2
            go_ret
            exact ⟨rfl, HB.out _ _ _⟩
          · rw [h4', decide_eq_false h5, Bool.and_false, Bool.false_and]
            clear h4'
            have h5' : tok < 0 := by omega
            go_enter Tryz.func168, Tryz.ntmps168
            go_wp2
            go_ret
            exact ⟨rfl, HB.out _ _ _⟩
        · have h4' : kids.isEmpty = false := by
            cases hq : kids with
            | nil => rw [hq] at h4; exact absurd rfl h4
            | cons a l => rfl
          have h6 : ((kids.length : Int) == 0) = false := by rw [beq_eq_false_iff_ne]; omega
          rw [h4', Bool.false_and, Bool.false_and]
          clear h4'
          go_enter Tryz.func168, Tryz.ntmps168
          go_wp2
          go_ret
          exact ⟨rfl, HB.out _ _ _⟩
      · rw [if_neg h3]
        have h3' : (kind == 19) = false := by simp [h3]
        by_cases h7 : tok = -1
        · rw [decide_eq_true h7, Bool.true_and]
          subst h7
          go_enter Tryz.func168, Tryz.ntmps168
          go_wp2_with (go_at_call 184; refine HF.out.mono ?_; rintro e w2 ⟨rfl, rfl⟩)
          go_ret
          exact ⟨rfl, HB.out _ _ _⟩
        · rw [decide_eq_false h7, Bool.false_and]
          have h7' : (tok == -1) = false := by simp [h7]
          go_enter Tryz.func168, Tryz.ntmps168
          go_wp2
          go_ret
          exact ⟨rfl, HB.out _ _ _⟩
end Go.Proofs.YtlejecaanllghaaGreatDoor
/- slices.Index, slices.Contains at []bool. -/
namespace Go.Proofs.YtlejecaanllghaaGreatDoor
open Go.RowKit

def boolCells (l : List Bool) : List Value := l.map (.bool ·)

set_option maxRecDepth 100000 in
theorem index_bool {w : World} {P : Nat → Prop} {v : Value} {l : List Bool} (h : RdS w P 1 v l.length (boolCells l)) (hl : l.length ≤ 1073741824) :
    Calls Tryz.prog 215 #[v, .bool false] w fun e w' => ∃ r : Int, e = .returned (.int .i64 r) ∧ decide (0 ≤ r) = l.contains false ∧ w = w' := by
  obtain ⟨_, a, cl, rfl, _, hd⟩ := h
  have hl' : (l.length : Int) ≤ 1073741824 := by omega
  have HD := Lib.hid hd
  clear hd
  go_enter Tryz.func215, Tryz.ntmps215
  go_wp2
  go_loopg [8] l.length (fun k v8 wr => ∃ j : Nat, v8 = .int .i64 j ∧ k = l.length - j ∧ j ≤ l.length ∧ wr = w ∧ (l.take j).contains false = false)
  case atStart => exact ⟨0, rfl, rfl, Nat.zero_le _, rfl, by simp⟩
  case round =>
    obtain ⟨j, rfl, hk, hj, rfl, hall⟩ := hrel
    have HK := Lib.hid hk
    have HA := Lib.hid hall
    clear hk hall
    by_cases hlt : j < l.length
    · have hlt' : (j : Int) < (l.length : Int) := by omega
      obtain ⟨b2, off, rfl, _, hr⟩ := HD.out.resolve_left (fun h => by omega)
      have hcell : wr.cell? ⟨b2, off + j, none⟩ = some (.bool l[j]) := hr j _ (by simp [boolCells, List.getElem?_eq_getElem hlt])
      clear hr
      obtain ⟨y, hy⟩ : ∃ y, l[j] = y := ⟨_, rfl⟩
      rw [hy] at hcell
      have HY := Lib.hid hy
      clear hy
      cases y
      · go_wp2
        go_ret
        refine ⟨(j : Int), rfl, ?_, rfl⟩
        have h2 : l.contains false = true := by rw [List.contains_iff_mem, ← HY.out]; exact List.getElem_mem hlt
        rw [h2]
        simp
      · go_wp2
        go_roundg (l.length - (j + 1))
        case measure => have := HK.out; omega
        case rel =>
          refine ⟨j + 1, by go_num, rfl, by omega, rfl, ?_⟩
          rw [List.take_succ_eq_append_getElem hlt, HY.out]
          have := HA.out
          simp only [List.contains_eq_mem, decide_eq_false_iff_not] at this ⊢
          simp [this]
    · obtain rfl : j = l.length := by omega
      go_wp2
      go_ret
      refine ⟨-1, rfl, ?_, rfl⟩
      have h2 := HA.out
      rw [List.take_length] at h2
      rw [h2]
      rfl
theorem contains_bool {w : World} {P : Nat → Prop} {v : Value} {l : List Bool} (h : RdS w P 1 v l.length (boolCells l)) (hl : l.length ≤ 1073741824) :
    Calls Tryz.prog 169 #[v, .bool false] w fun e w' => e = .returned (.bool (l.contains false)) ∧ w = w' := by
  have HI := Lib.hid (index_bool h hl)
  clear h
  go_enter Tryz.func169, Tryz.ntmps169
  go_wp2_with (go_at_call 215; refine HI.out.mono ?_; rintro e w1 ⟨r, rfl, hr, rfl⟩; have HR := Lib.hid hr; clear hr)
  go_ret
  exact ⟨by rw [← HR.out]; rfl, rfl⟩
end Go.Proofs.YtlejecaanllghaaGreatDoor
/- The tree's builder: Peek. -/
namespace Go.Proofs.YtlejecaanllghaaGreatDoor
open Go.RowKit

section
variable {Q : Nat → Prop}

set_option maxRecDepth 100000 in
set_option maxHeartbeats 2000000 in
theorem peek_calls {w : World} {B b : Nat} {vt vn : Value} {t : Tr.T} {used : Nat} (h : BuildI Q w B b vt vn t used) (ht : t.toks.length ≤ 1073741824) (hu : used ≤ t.toks.length) {k : Tr.Tk} (hk : t.toks[min used (t.toks.length - 1)]? = some k) :
    Calls Tryz.prog 144 #[.pointer (some ⟨b, 0, none⟩)] w fun e w' => e = .returned (.agg #[.int .i64 k.kind, .string ⟨k.lead.toArray⟩, .string ⟨k.text.toArray⟩, .int .i64 k.pos]) ∧ Below w.heap.size w w' := by
  have hlen : 0 < t.toks.length := by
    rcases Nat.eq_zero_or_pos t.toks.length with h0 | h0
    · rw [List.getElem?_eq_none (by omega)] at hk; cases hk
    · exact h0
  have ht' : (t.toks.length : Int) ≤ 1073741824 := by omega
  have hu' : (used : Int) ≤ (t.toks.length : Int) := by omega
  have hlen' : 0 < (t.toks.length : Int) := by omega
  obtain ⟨g, o, c, he, hg, hrg⟩ := h.toks.tok hk
  subst he
  obtain ⟨m, hm⟩ : ∃ m, min used (t.toks.length - 1) = m := ⟨_, rfl⟩
  rw [hm] at hrg
  have hb1 : Below w.heap.size w (w.alloc (.cells #[.int .i64 0, .string ⟨#[]⟩, .string ⟨#[]⟩, .int .i64 0] 169)) := (Below.refl _ _).alloc (Nat.le_refl _) _
  obtain ⟨W, hW⟩ : ∃ W, w.alloc (.cells #[.int .i64 0, .string ⟨#[]⟩, .string ⟨#[]⟩, .int .i64 0] 169) = W := ⟨_, rfl⟩
  have hnew : W.heap[w.heap.size]? = some (.cells #[.int .i64 0, .string ⟨#[]⟩, .string ⟨#[]⟩, .int .i64 0] 169 (0, 0)) := by rw [← hW]; exact heap_alloc_new _ _
  have hcb : W.heap[b]? = some (.cells #[.slice (some ⟨g, o, none⟩) t.toks.length c, vn, .int .i64 used] 210 (0, 0)) := by rw [← hW, Below.heap_alloc _ _ _ (lt_heap h.cell)]; exact h.cell
  have hrW : W.rangeAt g (o + m * 4) [.int .i64 k.kind, .string ⟨k.lead.toArray⟩, .string ⟨k.text.toArray⟩, .int .i64 k.pos] := by rw [← hW]; exact rangeAt_same hrg (Below.heap_alloc _ _ _ hg.1.2.2.2)
  have e : (min (used : Int) ((t.toks.length : Int) - 1)).toNat = m := by omega
  rw [← e] at hrW
  have c0 := cell_of_heap hcb 0 rfl
  have c2 := cell_of_heap hcb 2 rfl
  have q0 : W.cell? ⟨g, o + (min (used : Int) ((t.toks.length : Int) - 1)).toNat * 4, none⟩ = some (.int .i64 k.kind) := hrW 0 _ rfl
  have q1 : W.cell? ⟨g, o + (min (used : Int) ((t.toks.length : Int) - 1)).toNat * 4 + 1, none⟩ = some (.string ⟨k.lead.toArray⟩) := hrW 1 _ rfl
  have q2 : W.cell? ⟨g, o + (min (used : Int) ((t.toks.length : Int) - 1)).toNat * 4 + 2, none⟩ = some (.string ⟨k.text.toArray⟩) := hrW 2 _ rfl
  have q3 : W.cell? ⟨g, o + (min (used : Int) ((t.toks.length : Int) - 1)).toNat * 4 + 3, none⟩ = some (.int .i64 k.pos) := hrW 3 _ rfl
  have n0 := cell_of_heap hnew 0 rfl
  have n1 := cell_of_heap hnew 1 rfl
  have n2 := cell_of_heap hnew 2 rfl
  have n3 := cell_of_heap hnew 3 rfl
  have f0 := frozen_of_heap hnew 0
  have f1 := frozen_of_heap hnew 1
  have f2 := frozen_of_heap hnew 2
  have f3 := frozen_of_heap hnew 3
  have HB := Lib.hid (And.intro hb1 hnew)
  rw [hW] at HB
  clear h hk hrg hg hb1 hnew hcb hrW
  clear hm e
  go_enter Tryz.func144, Tryz.ntmps144
  go_wp2_with fail
  clear hW
  go_region
  all_goals go_wp2
  all_goals
    obtain ⟨hb1, hnew⟩ := HB.out
    have hd : W.drew.heap[w.heap.size]? = some (.cells #[.int .i64 0, .string ⟨#[]⟩, .string ⟨#[]⟩, .int .i64 0] 169 (0, 0)) := hnew
    refine bodyPost_ret (v := .agg #[.int .i64 k.kind, .string ⟨k.lead.toArray⟩, .string ⟨k.text.toArray⟩, .int .i64 k.pos]) (results_cell_row rfl _ _ w.heap.size _ _ _ _ rfl (setCell_row (setCell_row (setCell_row (setCell_row hd _) _) _) _) Tryz.underlying169 rfl rfl) rfl ?_
    exact ⟨rfl, (((hb1.drew.setCell (Nat.le_refl _) _).setCell (Nat.le_refl _) _).setCell (Nat.le_refl _) _).setCell (Nat.le_refl _) _⟩
end
end Go.Proofs.YtlejecaanllghaaGreatDoor
/- slices.Backward at []int: its contract for a range over it (fenced). -/
namespace Go.Proofs.YtlejecaanllghaaGreatDoor
open Go.RowKit Go.Shelf
attribute [local go_sem] Oper.semAt_some

/-- What has come when k rounds are over: the last k elements, the last one first, each with its place. -/
def backUpto (zs : List Int) (k : Nat) : List (Int × Int) := (List.range k).map fun j : Nat => (((zs.length : Int) - 1 - (j : Int)), zs[zs.length - 1 - j]?.getD 0)
theorem backUpto_succ (zs : List Int) (k : Nat) : backUpto zs (k + 1) = backUpto zs k ++ [((zs.length : Int) - 1 - k, zs[zs.length - 1 - k]?.getD 0)] := by simp [backUpto, List.range_succ]
theorem backUpto_length (zs : List Int) (k : Nat) : (backUpto zs k).length = k := by simp [backUpto]

set_option maxRecDepth 100000 in
set_option maxHeartbeats 2000000 in
theorem back1_in (F : Fence) (n : Nat) (h8 : F.fn 242) (hro : F.round = none) (hn : 1 ≤ n) (l Bs b off cap : Nat) (P : Nat → Prop) (zs : List Int) (hreach : zs.length ≤ 1073741824) (hb : 0 < zs.length → P b) (J Jx : List (Int × Int) → World → Prop)
    (hY : ∀ pre x W, J pre W → pre.length < zs.length → YieldAt F (n - 1) Tryz.prog l #[.int .i64 x.1, .int .i64 x.2] W fun e W' =>
      (e = .returned (.bool true) ∧ J (pre ++ [x]) W' ∧ Keeps P W W') ∨ (e = .returned (.bool false) ∧ Jx (pre ++ [x]) W'))
    (W : World) (hBn : P Bs) (hBs : W.cell? ⟨Bs, 0, none⟩ = some (.slice (some ⟨b, off, none⟩) zs.length cap)) (hc : ∀ j, j < zs.length → W.cell? ⟨b, off + j, none⟩ = some (.int .i64 (zs[j]?.getD 0))) (h0 : J [] W) :
    CallsIn F n Tryz.prog 242 #[.func (.yield l) #[] #[], .pointer (some ⟨Bs, 0, none⟩)] W fun e W' => (∃ v, e = .returned v) ∧
      ((∃ ys, ys = backUpto zs zs.length ∧ J ys W') ∨ (∃ pre, (∃ k, k ≤ zs.length ∧ pre = backUpto zs k) ∧ Jx pre W')) := by
  have hreach' : (zs.length : Int) ≤ 1073741824 := by omega
  refine callsIn_of_wp Tryz.func242 rfl h8 ?_ hro
  simp only [Tryz.ntmps242, List.size_toArray, List.length_cons, List.length_nil, Nat.reduceAdd, Nat.reduceSub, Array.replicate_succ, Array.replicate_zero, List.push_toArray, List.append_toArray, List.nil_append, List.cons_append]
  gi_wp2
  gi_loopw [3] (fun i wr => ∃ k : Nat, k ≤ zs.length ∧ i = .int .i64 ((zs.length : Int) - 1 - k) ∧ J (backUpto zs k) wr ∧ Keeps P W wr)
    (fun i _ => (intOf i + 1).toNat)
  case atStart => exact ⟨0, Nat.zero_le _, by simp, h0, Keeps.refl _ _⟩
  case round =>
    obtain ⟨k, hk, rfl, hJs, hnx⟩ := hrel
    by_cases hlt : k < zs.length
    · have hcx : wr.cell? ⟨b, off + (zs.length - 1 - k), none⟩ = some (.int .i64 (zs[zs.length - 1 - k]?.getD 0)) := (World.cell?_of_block (a := ⟨b, off + (zs.length - 1 - k), none⟩) (hnx b (hb (by omega)))).trans (hc _ (by omega))
      have hbx : wr.cell? ⟨Bs, 0, none⟩ = some (.slice (some ⟨b, off, none⟩) zs.length cap) := (World.cell?_of_block (a := ⟨Bs, 0, none⟩) (hnx Bs hBn)).trans hBs
      obtain ⟨fn, tmps, assign, body, hy, hR⟩ := hY _ ((zs.length : Int) - 1 - k, zs[zs.length - 1 - k]?.getD 0) wr hJs (by rw [backUpto_length]; exact hlt)
      dsimp only at hy
      obtain ⟨m, hm⟩ : ∃ m : Nat, (zs.length : Int) - 1 - k = m := ⟨zs.length - 1 - k, by omega⟩
      have hm2 : zs.length - 1 - k = m := by omega
      rw [hm2] at hcx hy
      rw [hm] at hy
      have hml : (m : Int) < (zs.length : Int) := by omega
      rw [hm]
      gi_wp2
      refine hR.mono ?_
      rintro e W3 (⟨rfl, hJ3, hk3⟩ | ⟨rfl, hJx3⟩)
      · gi_wp2
        go_roundw
        case rel => exact ⟨k + 1, by omega, (by first | (simp; done) | (simp; omega)), by rw [backUpto_succ]; exact hJ3, hnx.trans hk3⟩
        case measure => first | (simp [intOf]; done) | (simp [intOf]; omega)
      · gi_wp2
        refine bodyPost_ret (results_none rfl _ _ _) rfl ?_
        exact ⟨⟨_, rfl⟩, .inr ⟨_, ⟨k + 1, by omega, (backUpto_succ _ _).symm⟩, hJx3⟩⟩
    · have hm : (zs.length : Int) - 1 - k = -1 := by omega
      rw [hm]
      gi_wp2
      go_end0
      obtain rfl : k = zs.length := by omega
      exact ⟨⟨_, rfl⟩, .inl ⟨_, rfl, hJs⟩⟩

/-- .. at the nil slice: no round. -/
theorem back1_nil_in (F : Fence) (n : Nat) (h8 : F.fn 242) (hro : F.round = none) (l Bs : Nat) (J : List (Int × Int) → World → Prop) (W : World) (a : Option Addr) (c : Nat) (hBs : W.cell? ⟨Bs, 0, none⟩ = some (.slice a 0 c)) (h0 : J [] W) :
    CallsIn F n Tryz.prog 242 #[.func (.yield l) #[] #[], .pointer (some ⟨Bs, 0, none⟩)] W fun e W' => (∃ v, e = .returned v) ∧ J [] W' := by
  refine callsIn_of_wp Tryz.func242 rfl h8 ?_ hro
  simp only [Tryz.ntmps242, List.size_toArray, List.length_cons, List.length_nil, Nat.reduceAdd, Nat.reduceSub, Array.replicate_succ, Array.replicate_zero, List.push_toArray, List.append_toArray, List.nil_append, List.cons_append]
  gi_wp2
  gi_loopw [3] (fun i wr => i = .int .i64 (-1) ∧ J [] wr) (fun _ _ => 0)
  case atStart => exact ⟨rfl, h0⟩
  case round =>
    obtain ⟨rfl, hJs⟩ := hrel
    gi_wp2
    go_end0
    exact ⟨⟨_, rfl⟩, hJs⟩
end Go.Proofs.YtlejecaanllghaaGreatDoor
/- A function whose loop holds ranges over functions: many marks are taken up at its return. -/
namespace Go.Proofs.YtlejecaanllghaaGreatDoor
open Go.RowKit Go.Shelf

/-- The frame's deferred entries: one mark for each range that was gone through. -/
def markDs (ds : List Nat) : List Deferred := ds.map fun D => { target := .collected D, args := #[] }

theorem putObj_ne {w : World} {k D : Nat} {o : Obj} (h : k ≠ D) : (w.putObj D o).heap[k]? = w.heap[k]? := by
  simp only [World.putObj]
  rw [Array.getElem?_setIfInBounds_ne (by omega)]

/-- All marks are taken up, one by one; what is behind them is left as it is. -/
theorem leaves_marks {P : Program} {F : Fence} {n : Nat} {fn : Func} {tmps : Array Value} {R : Ending → World → Prop} : ∀ (ds : List Nat) (w : World), ds.Nodup → (∀ D ∈ ds, w.heap[D]? = some (.deferred (some []))) →
    (∀ w' : World, w'.os = w.os → w'.tape = w.tape → w'.output = w.output → w'.heap.size = w.heap.size → (∀ k, k ∉ ds → w'.heap[k]? = w.heap[k]?) → ∃ v, (results fn tmps).run P w' = .ok v w' ∧ R (.returned v) w') →
    LeavesInM F n P fn tmps R (markDs ds) .returning w
  | [], w, _, _, h => h w rfl rfl rfl rfl fun _ _ => rfl
  | D :: ds, w, hnd, hD, h => by
    refine ⟨by simp, .inl ⟨D, _, rfl, run_takeDeferred (hD D (by simp)), ?_⟩⟩
    have hn := List.nodup_cons.1 hnd
    refine leaves_marks ds _ hn.2 (fun E hE => ?_) fun w' h1 h2 h3 h4 h5 => h w' h1 h2 h3 (by rw [h4]; simp [World.putObj]) fun k hk => ?_
    · rw [putObj_ne (fun e => hn.1 (by rw [← e]; exact hE))]
      exact hD E (by simp [hE])
    · simp only [List.mem_cons, not_or] at hk
      rw [h5 k hk.2, putObj_ne hk.1]
end Go.Proofs.YtlejecaanllghaaGreatDoor
