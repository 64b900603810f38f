/- A rule of the walk for a region whose first operation is a select of one case with a default: one goroutine alone. -/
import Derived.Test.YtbgopncknlammaaChecked
import Derived.WalkKit
import Derived.Conc.LoneSelect
import Derived.Conc.LoneSelectN
import Derived.Deep.Cut
namespace Go.Proofs.Ytbgopncknlammaa
open Go.Conc Go.RowKit

/-- The step of a communication, whatever kind of frame it is. -/
theorem stepG_comm_any {P : Program} {main : Bool} {b : Frame} {a : Act} {k : List Item} {cs : List Frame} {w : World} {ops : Array Oper} {i : Nat} {rest : List Nat} {o : Oper} {cases : Array CommCase} {blocking : Bool} {shape : CommShape} {w' : World} (ho : ops[i]? = some o) (hw : Region.wanted o (yielded ops a.tmps) = true)
    (hr : (execOp a.eval o).run P w = .ok (.comm cases blocking shape) w') :
    ∃ es, stepG P main (G (b.at a (.inRegion ops (i :: rest) :: k)) cs) w = .comm (G (b.at a (.inRegion ops (i :: rest) :: k)) cs) cases blocking shape w' es := by
  rw [stepG_oper ho hw]
  simp [stepG.apply, hr, G, Frame.at, GStep.after]

/-- What the step of a select hands over. -/
def SelStep (P : Program) (w : World) (cases : Array CommCase) (v : Value) (w' : World) : Prop :=
  ∀ (fr : Frame) (cs : List Frame) (es : Array Event), stepG P true (G fr cs) w = .comm (G fr cs) cases false .select w es →
    step P (solo (G fr cs) w) = .next (solo (G (fr.finish v) cs) w')

theorem wp_region_select {P : Program} {id : Nat} {ops : Array Oper} {Q : Exit → Act → World → Prop} {a : Act} {w w' : World} {o : Oper} {l : List Oper} {cases : Array CommCase} {v : Value}
    (hl : ops.toList = o :: l) (hg : o.guard = none) (hr : (execOp a.eval o).run P w = .ok (.comm cases false .select) w)
    (hs : SelStep P w cases v w') (h : wpList P ops Q l (a.put o.dst v) w') : (Code.region id ops false).wp P Q a w := by
  have ho : ops[0]? = some o := by
    rw [← Array.getElem?_toList, hl]; rfl
  have hsz : ops.size = l.length + 1 := by
    rw [← Array.length_toList, hl]; rfl
  have hrg : List.range ops.size = 0 :: List.range' 1 l.length := by
    rw [hsz, List.range_eq_range', List.range'_succ]
  have hwp : wpOps P ops Q (List.range' 1 l.length) (a.put o.dst v) w' := by
    rw [wpOps_eq_wpList l 1 (fun j => by rw [← Array.getElem?_toList, hl, Nat.add_comm]; rfl)]; exact h
  intro b k cs
  obtain ⟨e, a', w2, q, r⟩ := wp_ops _ _ _ hwp b k cs
  refine ⟨e, a', w2, q, ?_⟩
  refine .of_steps (.head (step_region (id := id)) ?_) r
  rw [hrg]
  obtain ⟨es, hst⟩ := stepG_comm_any (P := P) (main := true) (b := b) (a := a) (k := k) (cs := cs) (w := w) (ops := ops) (i := 0) (rest := List.range' 1 l.length) ho (by simp [Region.wanted, hg]) hr
  have h2 := hs _ _ _ hst
  rw [Frame.finish_at, ho] at h2
  exact .one h2

theorem sel_send_room {P : Program} {w : World} {c cap s r : Nat} {l : List Value} {v z : Value} {tm : Bool} (hc : w.heap[c]? = some (.chan cap l.toArray false s r tm)) (hroom : l.length < cap) :
    SelStep P w #[scase c v z] (.tuple #[goInt 0, .bool false]) (w.setChan c cap (l ++ [v]).toArray false (s + 1) r tm) :=
  fun fr cs es h => by
    have h2 := step_lone_select_send_room (fr := fr) (cs := cs) h hc (by simpa using hroom)
    simpa using h2
theorem sel_send_full {P : Program} {w : World} {c cap s r : Nat} {l : List Value} {v z : Value} {tm : Bool} (hc : w.heap[c]? = some (.chan cap l.toArray false s r tm)) (hfull : cap ≤ l.length) :
    SelStep P w #[scase c v z] (.tuple #[goInt (-1), .bool false]) w :=
  fun _ _ _ h => step_lone_select_send_full h hc (by simpa using hfull)
theorem sel_recv_buf {P : Program} {w : World} {c cap s r : Nat} {x : Value} {l : List Value} {z : Value} {tm closed : Bool} (hc : w.heap[c]? = some (.chan cap (x :: l).toArray closed s r tm)) :
    SelStep P w #[rcase c z] (.tuple #[goInt 0, .bool true, x]) (w.setChan c cap l.toArray closed s (r + 1) tm) :=
  fun fr cs es h => by
    have h2 := step_lone_select_recv_buf (fr := fr) (cs := cs) h hc (by simp)
    have e : (x :: l).toArray.extract 1 (x :: l).toArray.size = l.toArray := by simp
    rw [e] at h2
    exact h2
theorem sel_recv_none {P : Program} {w : World} {c cap s r : Nat} {z : Value} {tm : Bool} (hc : w.heap[c]? = some (.chan cap #[] false s r tm)) :
    SelStep P w #[rcase c z] (.tuple #[goInt (-1), .bool false, z]) w :=
  fun _ _ _ h => step_lone_select_default h hc
theorem cell_setChan {c b : Nat} (w : World) (o cap : Nat) (buf : Array Value) (cl : Bool) (s r : Nat) (tm : Bool) (h : b ≠ c) :
    (w.setChan c cap buf cl s r tm).cell? ⟨b, o, none⟩ = w.cell? ⟨b, o, none⟩ :=
  World.cell?_of_block (w := w) (a := ⟨b, o, none⟩) (by simp [World.setChan, Array.getElem?_setIfInBounds_ne (Ne.symm h)])
theorem frozen_setChan {c b : Nat} (w : World) (o cap : Nat) (buf : Array Value) (cl : Bool) (s r : Nat) (tm : Bool) (h : b ≠ c) :
    (w.setChan c cap buf cl s r tm).frozen? ⟨b, o, none⟩ = w.frozen? ⟨b, o, none⟩ :=
  World.frozen?_of_block (w := w) (a := ⟨b, o, none⟩) (by simp [World.setChan, Array.getElem?_setIfInBounds_ne (Ne.symm h)])
end Go.Proofs.Ytbgopncknlammaa
