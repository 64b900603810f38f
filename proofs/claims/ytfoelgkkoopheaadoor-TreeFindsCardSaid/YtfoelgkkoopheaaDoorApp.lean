/- One thing appended to a row of the call's own: the law with its side conditions paid. -/
import Derived.Test.YtfoelgkkoopheaaDoorChecked
import Derived.WalkKit
namespace Go.Proofs.YtfoelgkkoopheaaDoor
open Go.RowKit

/-- 'append(s, x)': x, of so many cells, has just been laid into a block of its own. -/
theorem wpList_append_one {P : Program} {ops : Array Oper} {rest : List Oper} {o : Oper} {a : Act} {Q : Exit → Act → World → Prop} {w1 : World} (hgd : o.guard = none) (s x : Operand) (t : TypeId)
    (ho : o.op = .call { callee := .builtin .append, args := #[s, x], argTypes := #[t, t] })
    (base : Nat) (e T : TypeId) (i : TypeInfo) (z : Value) (size bytes : Nat) (ht : P.underlying t = some (.slice e)) (hi : P.info? e = some i) (hz : i.zero = some z)
    (hsize : i.size = size) (hby : i.bytes = bytes) (hzs : z.cells.size = size) (hsz : 0 < size)
    (v : Value) (n : Nat) (xs : List Value) (hs : a.eval s = v) (hown : w1.ownsRow base e size v n xs)
    (c : Nat) (news : List Value) (hx : a.eval x = .slice (some ⟨w1.heap.size, 0, none⟩) 1 c) (hl : news.length = size) (h1 : ∀ u ∈ news, u.oneCell' = true)
    (hn : n ≤ 1073741824) (hb : bytes ≤ 4096) (hbase : base ≤ w1.heap.size)
    (h : ∀ v' w', w'.ownsRow base e size v' (n + 1) (xs ++ news) → (w1.alloc (.cells news.toArray T)).grownBy w' v.ownBlock → wpList P ops Q rest (a.put o.dst v') w') :
    wpList P ops Q (o :: rest) a (w1.alloc (.cells news.toArray T)) := by
  refine wpList_append_own _ hgd s x t ho base e i z size bytes ht hi hz hsize hby hzs hsz v n xs hs (hown.alloc _) ⟨w1.heap.size, 0, none⟩ 1 c news hx (by omega) ?_ h1 (by unfold maxLen; omega) ?_ ?_ (fun v' w' h2 h3 _ => h v' w' h2 h3)
  · intro j u hj
    have e : (⟨w1.heap.size, 0, none⟩ : Addr).add j = ⟨w1.heap.size, j, none⟩ := by
      unfold Addr.add
      split <;> simp_all
    rw [e]
    unfold World.cell?
    simp only
    rw [heap_alloc_new]
    simpa using hj
  · calc (n + 1) * bytes ≤ 1073741825 * 4096 := Nat.mul_le_mul (by omega) hb
      _ ≤ 140737488355328 := by decide
  · simp only [World.size_alloc]; omega
theorem cell_set_ne {w : World} {b o b' o' : Nat} {v : Value} (h : b ≠ b' ∨ o ≠ o') : (w.setCell ⟨b, o, none⟩ v).cell? ⟨b', o', none⟩ = w.cell? ⟨b', o', none⟩ :=
  World.cell?_setCell_other (w := w) (a := ⟨b, o, none⟩) (b := ⟨b', o', none⟩) (v := v) (h := fun e => by simp only [Addr.mk.injEq] at e; omega)
theorem cell_set_eq {w : World} {b o : Nat} {u v : Value} (h : w.cell? ⟨b, o, none⟩ = some u) : (w.setCell ⟨b, o, none⟩ v).cell? ⟨b, o, none⟩ = some v :=
  World.cell?_setCell_same (w := w) (a := ⟨b, o, none⟩) (v := v) (h := h)
end Go.Proofs.YtfoelgkkoopheaaDoor
