/- The tree's builder in memory: NewBuilder, add. -/
import Derived.Test.YtfoelgkkoopheaaDoorClone
namespace Go.Proofs.YtfoelgkkoopheaaDoor
open Go.RowKit

/-- The blocks in which a builder's tokens and kids may lie. -/
def BP (w : World) (B b : Nat) (vn : Value) (k : Nat) : Prop := B ≤ k ∧ k ≠ b ∧ vn.ownBlock ≠ some k ∧ k < w.heap.size

/-- A builder at block b. -/
structure BuildI (w : World) (B b : Nat) (vt vn : Value) (t : Tr.T) (used : Nat) : Prop where
  cell : w.heap[b]? = some (.cells #[vt, vn, .int .i64 used] 68 (0, 0))
  base : B ≤ b
  ne : vn.ownBlock ≠ some b
  toks : RdS w (BP w B b vn) 4 vt t.toks.length (tksCells t.toks)
  nodes : ∃ kvs : List Value, kvs.length = t.nodes.length ∧ w.ownsRow B 38 3 vn t.nodes.length ((t.nodes.zip kvs).flatMap ndCells) ∧
    ∀ (i : Nat) (n : Tr.Nd) (kv : Value), t.nodes[i]? = some n → kvs[i]? = some kv → RdS w (BP w B b vn) 1 kv n.kids.length (intCells n.kids)

theorem tks_one (l : List Tr.Tk) : ∀ u ∈ tksCells l, u.oneCell' = true := by
  intro u hu
  simp only [tksCells, List.mem_flatMap, tkCells] at hu
  obtain ⟨k, _, hk⟩ := hu
  simp only [List.mem_cons, List.not_mem_nil, or_false] at hk
  rcases hk with rfl | rfl | rfl | rfl <;> rfl
theorem ints_one (l : List Int) : ∀ u ∈ intCells l, u.oneCell' = true := by
  intro u hu
  simp only [intCells, List.mem_map] at hu
  obtain ⟨k, _, rfl⟩ := hu
  rfl

theorem newBuilder_calls {w : World} {P : Nat → Prop} {v : Value} {l : List Tr.Tk} (h : RdS w P 4 v l.length (tksCells l)) (hn : l.length ≤ 1073741824) :
    Calls Tryd.prog 9 #[v] w fun e w' => ∃ b vt, e = .returned (.pointer (some ⟨b, 0, none⟩)) ∧ BuildI w' w.heap.size b vt (.slice none 0 0) ⟨l, []⟩ 0 ∧ Below w.heap.size w w' := by
  have HC := Lib.hid (clone_tok h hn (tks_one l))
  clear h hn
  go_enter Tryd.func9, Tryd.ntmps9
  go_wp2_with (go_at_call 28; refine HC.out.mono ?_; rintro e w1 ⟨v1, rfl, ho, hb⟩; obtain ⟨a1, c1, rfl⟩ := ownsRow_form ho; have HO := Lib.hid ho; have HB := Lib.hid hb; clear ho hb)
  go_ret
  have hlt := HO.out.lt
  refine ⟨w1.heap.size, _, rfl, ⟨heap_alloc_new _ _, HB.out.size, by simp [Value.ownBlock], ?_, ⟨[], rfl, World.ownsRow_nil _ _ _ _, fun i n kv hi => by simp at hi⟩⟩, HB.out.alloc HB.out.size _⟩
  have ha : Below w1.heap.size w1 (w1.alloc (.cells #[.slice a1 l.length c1, .slice none 0 0, .int .i64 0] 68)) := (Below.refl _ _).alloc (Nat.le_refl _) _
  refine ((RdS.own HO.out).keep (Keeps.of ha fun i hi => hi.2.2)).imp fun k hk => ⟨hk.2.1, by have := hk.2.2; omega, by simp [Value.ownBlock], by rw [← size_alloc1]; have := hk.2.2; omega⟩
end Go.Proofs.YtfoelgkkoopheaaDoor
