/- Trees in memory; root, all. -/
import Derived.Test.YtfoelgkkoopheaaDoorTreeM
import Derived.Test.YtfoelgkkoopheaaDoorRd
import Derived.Test.YtfoelgkkoopheaaDoorLexG
namespace Go.Proofs.YtfoelgkkoopheaaDoor
open Go.RowKit

def tkCells (k : Tr.Tk) : List Value := [.int .i64 k.kind, .string ⟨k.lead.toArray⟩, .string ⟨k.text.toArray⟩, .int .i64 k.pos]
def tksCells (l : List Tr.Tk) : List Value := l.flatMap tkCells
def ndCells (p : Tr.Nd × Value) : List Value := [.int .i64 p.1.kind, .int .i64 p.1.tok, p.2]
def intCells (l : List Int) : List Value := l.map (.int .i64 ·)

/-- The nodes' slice: each node's three cells, and its kids. -/
def RdN (w : World) (P : Nat → Prop) (vn : Value) (ns : List Tr.Nd) : Prop :=
  ∃ kvs : List Value, kvs.length = ns.length ∧ RdS w P 3 vn ns.length ((ns.zip kvs).flatMap ndCells) ∧ ∀ (i : Nat) (n : Tr.Nd) (kv : Value), ns[i]? = some n → kvs[i]? = some kv → RdW w P 1 kv n.kids.length (intCells n.kids)
/-- A tree's two slices. -/
def RdT (w : World) (P : Nat → Prop) (vt vn : Value) (t : Tr.T) : Prop := RdS w P 4 vt t.toks.length (tksCells t.toks) ∧ RdN w P vn t.nodes

theorem RdN.keep {w w' : World} {P : Nat → Prop} {vn : Value} {ns : List Tr.Nd} (h : RdN w P vn ns) (hb : Keeps P w w') : RdN w' P vn ns := by
  obtain ⟨kvs, h1, h2, h3⟩ := h
  exact ⟨kvs, h1, h2.keep hb, fun i n kv hn hk => (h3 i n kv hn hk).keep hb⟩
theorem RdT.keep {w w' : World} {P : Nat → Prop} {vt vn : Value} {t : Tr.T} (h : RdT w P vt vn t) (hb : Keeps P w w') : RdT w' P vt vn t := ⟨h.1.keep hb, h.2.keep hb⟩
theorem RdN.imp {w : World} {P Q : Nat → Prop} {vn : Value} {ns : List Tr.Nd} (h : RdN w P vn ns) (hb : ∀ k, P k → Q k) : RdN w Q vn ns := by
  obtain ⟨kvs, h1, h2, h3⟩ := h
  exact ⟨kvs, h1, h2.imp hb, fun i n kv hn hk => (h3 i n kv hn hk).imp hb⟩
theorem RdT.imp {w : World} {P Q : Nat → Prop} {vt vn : Value} {t : Tr.T} (h : RdT w P vt vn t) (hb : ∀ k, P k → Q k) : RdT w Q vt vn t := ⟨h.1.imp hb, h.2.imp hb⟩

/-- One node. -/
theorem RdN.node {w : World} {P : Nat → Prop} {vn : Value} {ns : List Tr.Nd} (h : RdN w P vn ns) {i : Nat} {n : Tr.Nd} (hi : ns[i]? = some n) :
    ∃ b off c kv, vn = .slice (some ⟨b, off, none⟩) ns.length c ∧ P b ∧ w.rangeAt b (off + i * 3) [.int .i64 n.kind, .int .i64 n.tok, kv] ∧ RdW w P 1 kv n.kids.length (intCells n.kids) := by
  obtain ⟨kvs, h1, ⟨h2, a, c, rfl, hc, h4⟩, h3⟩ := h
  have hlt : i < ns.length := by
    rcases Nat.lt_or_ge i ns.length with h | h
    · exact h
    · rw [List.getElem?_eq_none h] at hi; cases hi
  have hk : kvs[i]? = some (kvs[i]'(by omega)) := List.getElem?_eq_getElem (by omega)
  rcases h4 with ⟨_, h4⟩ | ⟨b, off, rfl, h5, h6⟩
  · omega
  · refine ⟨b, off, c, kvs[i]'(by omega), rfl, h5.resolve_left (by omega), ?_, h3 i n _ hi hk⟩
    exact rangeAt_piece (f := ndCells) (s := 3) (x := (n, kvs[i]'(by omega))) (fun _ => rfl) h6 (by rw [List.getElem?_zip_eq_some]; exact ⟨hi, hk⟩)

theorem root_calls {w : World} {P : Nat → Prop} {vt : Value} {vn : Value} {t : Tr.T} (h : RdT w P vt vn t) (hn : t.nodes.length ≤ 1073741824) :
    Calls Tryd.prog 18 #[.agg #[vt, vn]] w fun e w' => e = .returned (.int .i64 (Tr.root t)) ∧ w.alloc (.cells #[vt, vn] 41) = w' := by
  obtain ⟨_, kvs, _, ⟨_, a, c, rfl, _⟩, _⟩ := h
  have hn' : (t.nodes.length : Int) ≤ 1073741824 := by omega
  unfold Tr.root
  generalize t.nodes.length = n at *
  go_enter Tryd.func18, Tryd.ntmps18
  go_wp2
  go_ret
  exact ⟨rfl, rfl⟩

theorem info_int : (Tryd.prog.info? 3).map (fun i => (i.zero, i.size, i.bytes)) = some (some (.int .i64 0), 1, 8) := by kernel_rfl

theorem all_step (kind : Int) {ns : List Tr.Nd} {j : Nat} {n : Tr.Nd} (h : ns[j]? = some n) :
    Tr.allGo kind j (ns.drop j) = if n.kind = kind then (j : Int) :: Tr.allGo kind (j + 1) (ns.drop (j + 1)) else Tr.allGo kind (j + 1) (ns.drop (j + 1)) := by
  have hlt : j < ns.length := by
    rcases Nat.lt_or_ge j ns.length with h1 | h1
    · exact h1
    · rw [List.getElem?_eq_none h1] at h; cases h
  rw [List.getElem?_eq_getElem hlt, Option.some.injEq] at h
  rw [List.drop_eq_getElem_cons hlt, h]
  rfl

def AllRel (kind : Int) (ns : List Tr.Nd) (w : World) (k : Nat) (v5 v11 : Value) (wr : World) : Prop :=
  ∃ (j m : Nat) (a : Option Addr) (c : Nat) (acc : List Int), v11 = .int .i64 j ∧ k = ns.length - j ∧ j ≤ ns.length ∧ v5 = .slice a m c ∧ m = acc.length ∧ m ≤ j ∧
    wr.ownsRow w.heap.size 3 1 (.slice a m c) m (intCells acc) ∧ Below w.heap.size w wr ∧ acc ++ Tr.allGo kind j (ns.drop j) = Tr.allGo kind 0 ns

set_option maxRecDepth 100000 in
theorem all_calls {w : World} {P : Nat → Prop} {vt : Value} {vn : Value} {t : Tr.T} (h : RdT w P vt vn t) (hB : ∀ k, P k → k < w.heap.size) (hn : t.nodes.length ≤ 1073741824) (kind : Int) :
    Calls Tryd.prog 16 #[.agg #[vt, vn], .int .i64 kind] w fun e w' => ∃ v, e = .returned v ∧ w'.ownsRow w.heap.size 3 1 v (Tr.all t kind).length (intCells (Tr.all t kind)) ∧ Below w.heap.size w w' := by
  obtain ⟨toks, ns⟩ := t
  have hN := h.2
  simp only at hn hN
  obtain ⟨kvs, hk1, ⟨hk2, a, c, rfl, hk3⟩, hk4⟩ := h.2
  have hn' : (ns.length : Int) ≤ 1073741824 := by omega
  have HN := Lib.hid (And.intro hN hB)
  clear h hN hk1 hk2 hk3 hk4 hB
  unfold Tr.all
  obtain ⟨i0, hi, hz0, hz1, hz2⟩ := info_split info_int
  have Hi := Lib.hid hi
  have Hz0 := Lib.hid hz0
  have Hz1 := Lib.hid hz1
  have Hz2 := Lib.hid hz2
  clear hi hz0 hz1 hz2
  go_enter Tryd.func16, Tryd.ntmps16
  go_wp2_with fail
  go_loopg [5, 11] ns.length (fun k v5 v11 wr => AllRel kind ns w k v5 v11 wr)
  case atStart => exact ⟨0, 0, none, 0, [], rfl, rfl, Nat.zero_le _, rfl, rfl, Nat.le_refl _, World.ownsRow_nil _ _ _ _, (Below.refl _ _).alloc (Nat.le_refl _) _, rfl⟩
  case round =>
    obtain ⟨j, m, a5, c5, acc, rfl, hk, hj, rfl, hm, hmj, hown, hb, hall⟩ := hrel
    have HR := Lib.hid (And.intro hk (And.intro hm (And.intro hmj (And.intro hown (And.intro hb hall)))))
    clear hk hm hmj hown hb hall
    by_cases hlt : j < ns.length
    · have hlt' : (j : Int) < (ns.length : Int) := by omega
      obtain ⟨n, hnj⟩ : ∃ n, ns[j]? = some n := ⟨_, List.getElem?_eq_getElem hlt⟩
      obtain ⟨b, off, c', kv, he, hbB, hrg, hkv⟩ := (HN.out.1.keep (Keeps.of HR.out.2.2.2.2.1 HN.out.2)).node hnj
      simp only [Value.slice.injEq, true_and] at he
      obtain ⟨rfl, rfl⟩ := he
      obtain ⟨_, ka, kc, rfl, _⟩ := hkv
      have HG := Lib.hid hrg
      have HA := Lib.hid (all_step kind hnj)
      clear hrg hnj
      by_cases hkind : n.kind = kind
      · have HKI := Lib.hid hkind
        go_wp2_with (first
          | (refine wpList_load_mid rfl 38 _ rfl b (off + j * 3) rfl _ _ HG.out Tryd.underlying38 rfl rfl ?_)
          | (at_builtin; refine wpList_append_one2 rfl _ _ 22 rfl w.heap.size 3 3 i0 (.int .i64 0) 1 8 Tryd.underlying22 Hi.out Hz0.out Hz1.out Hz2.out rfl (by decide) _ m (intCells acc) rfl (HR.out.2.2.2.1.alloc _) _ 1 [(.int .i64 j)] rfl (size_alloc1 _ _) rfl (by simp [Value.oneCell']) (by have := HR.out.2.2.1; omega) (by decide) (Nat.le_trans HR.out.2.2.2.2.1.size (Nat.le_of_lt (by rw [← size_alloc1]; omega))) ?_))
        intro v3 w3 hown3 hg3
        obtain ⟨a3, c3, rfl⟩ := ownsRow_form hown3
        have HO := Lib.hid hown3
        have HGR := Lib.hid hg3
        clear hown3 hg3
        go_wp2
        go_roundg (ns.length - (j + 1))
        case measure => have := HR.out.1; omega
        case rel =>
          obtain ⟨_, hm, hmj, hown, hb, hall⟩ := HR.out
          refine ⟨j + 1, m + 1, a3, c3, acc ++ [(j : Int)], by go_num, rfl, by omega, rfl, by simp; omega, by omega, by simpa [intCells] using HO.out, ?_, ?_⟩
          · exact ((hb.alloc hb.size _).alloc (by rw [← size_alloc1]; have := hb.size; omega) _).grown HGR.out (by rw [← size_alloc1, ← size_alloc1]; have := hb.size; omega) (fun k hk => (hown.lt k hk).1)
          · rw [← hall, HA.out, if_pos HKI.out]
            simp
      · have hkind' : (n.kind == kind) = false := by simp [hkind]
        have HKI := Lib.hid hkind
        go_wp2_with (refine wpList_load_mid rfl 38 _ rfl b (off + j * 3) rfl _ _ HG.out Tryd.underlying38 rfl rfl ?_)
        go_roundg (ns.length - (j + 1))
        case measure => have := HR.out.1; omega
        case rel =>
          obtain ⟨_, hm, hmj, hown, hb, hall⟩ := HR.out
          refine ⟨j + 1, m, a5, c5, acc, by go_num, rfl, by omega, rfl, hm, by omega, hown.alloc _, hb.alloc hb.size _, ?_⟩
          rw [← hall, HA.out, if_neg HKI.out]
    · obtain rfl : j = ns.length := by omega
      go_wp2
      go_ret
      obtain ⟨_, hm, hmj, hown, hb, hall⟩ := HR.out
      simp only [List.drop_length] at hall
      have e : acc = Tr.allGo kind 0 ns := by simpa [Tr.allGo] using hall
      subst hm
      exact ⟨_, rfl, by rw [← e]; exact hown, hb⟩
end Go.Proofs.YtfoelgkkoopheaaDoor
