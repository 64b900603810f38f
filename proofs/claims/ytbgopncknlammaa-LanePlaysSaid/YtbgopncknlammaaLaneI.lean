/- The walks of the lanes' functions at one element type: what Offer, next, Take do. -/
import Derived.Test.YtbgopncknlammaaSel
import Derived.Deep.QuietTactic
import Derived.BigQuiet
import Derived.StillTailTactics
import Derived.Lib.Hide
import Derived.Deep.RegionWith
namespace Go.Proofs.Ytbgopncknlammaa.LI
open Go.Conc Go.RowKit

theorem next1_some (c cap s r : Nat) (x : Value) (l : List Value) (bl : Nat) (w : World)
    (h0 : w.cell? ⟨bl, 0, none⟩ = some (.chan (some c))) (hc : w.heap[c]? = some (.chan cap (x :: l).toArray false s r false)) :
    Calls Try.prog 19 #[.slice (some ⟨bl, 0, none⟩) 1 1] w fun e w' => e = .returned (.tuple #[x, .int .i64 0]) ∧ w.setChan c cap l.toArray false s (r + 1) false = w' := by
  go_enter Try.func19, Try.ntmps19
  go_wp2_with fail
  refine wp_loop_rounds 1 ?_
  rw [rounds_succ]
  go_upto_region 5 with (fail)
  refine wp_region_select rfl rfl (cases := #[rcase c (.int .i64 0)]) (by simp [go_sem, execOp, rcase, Act.eval]) (sel_recv_buf hc) ?_
  simp only [Act.put]
  go_wp2
  go_ret2
  exact ⟨rfl, rfl⟩

theorem next2_first (c c2 cap s r : Nat) (x : Value) (l : List Value) (bl : Nat) (w : World)
    (h0 : w.cell? ⟨bl, 0, none⟩ = some (.chan (some c))) (_h1 : w.cell? ⟨bl, 1, none⟩ = some (.chan (some c2))) (hc : w.heap[c]? = some (.chan cap (x :: l).toArray false s r false)) :
    Calls Try.prog 19 #[.slice (some ⟨bl, 0, none⟩) 2 2] w fun e w' => e = .returned (.tuple #[x, .int .i64 0]) ∧ w.setChan c cap l.toArray false s (r + 1) false = w' := by
  go_enter Try.func19, Try.ntmps19
  go_wp2_with fail
  refine wp_loop_rounds 1 ?_
  rw [rounds_succ]
  go_upto_region 5 with (fail)
  refine wp_region_select rfl rfl (cases := #[rcase c (.int .i64 0)]) (by simp [go_sem, execOp, rcase, Act.eval]) (sel_recv_buf hc) ?_
  simp only [Act.put]
  go_wp2
  go_ret2
  exact ⟨rfl, rfl⟩

theorem next2_second (c c2 cap s r s2 r2 cap2 : Nat) (x : Value) (l : List Value) (bl : Nat) (w : World)
    (h0 : w.cell? ⟨bl, 0, none⟩ = some (.chan (some c))) (h1 : w.cell? ⟨bl, 1, none⟩ = some (.chan (some c2))) (hc : w.heap[c]? = some (.chan cap #[] false s r false))
    (hc2 : w.heap[c2]? = some (.chan cap2 (x :: l).toArray false s2 r2 false)) :
    Calls Try.prog 19 #[.slice (some ⟨bl, 0, none⟩) 2 2] w fun e w' => e = .returned (.tuple #[x, .int .i64 1]) ∧ w.setChan c2 cap2 l.toArray false s2 (r2 + 1) false = w' := by
  go_enter Try.func19, Try.ntmps19
  go_wp2_with fail
  refine wp_loop_rounds 2 ?_
  rw [rounds_succ]
  go_upto_region 5 with (fail)
  refine wp_region_select rfl rfl (cases := #[rcase c (.int .i64 0)]) (by simp [go_sem, execOp, rcase, Act.eval]) (sel_recv_none hc) ?_
  simp only [Act.put]
  go_wp2
  rw [rounds_succ]
  go_upto_region 5 with (fail)
  refine wp_region_select rfl rfl (cases := #[rcase c2 (.int .i64 0)]) (by simp [go_sem, execOp, rcase, Act.eval]) (sel_recv_buf hc2) ?_
  simp only [Act.put]
  go_wp2
  go_ret2
  exact ⟨rfl, rfl⟩

theorem next2_none (c c2 cap s r s2 r2 cap2 : Nat) (bl : Nat) (w : World)
    (h0 : w.cell? ⟨bl, 0, none⟩ = some (.chan (some c))) (h1 : w.cell? ⟨bl, 1, none⟩ = some (.chan (some c2))) (hc : w.heap[c]? = some (.chan cap #[] false s r false))
    (hc2 : w.heap[c2]? = some (.chan cap2 #[] false s2 r2 false)) :
    Calls Try.prog 19 #[.slice (some ⟨bl, 0, none⟩) 2 2] w fun e w' => e = .returned (.tuple #[(.int .i64 0), .int .i64 2]) ∧ w = w' := by
  go_enter Try.func19, Try.ntmps19
  go_wp2_with fail
  refine wp_loop_rounds 3 ?_
  rw [rounds_succ]
  go_upto_region 5 with (fail)
  refine wp_region_select rfl rfl (cases := #[rcase c (.int .i64 0)]) (by simp [go_sem, execOp, rcase, Act.eval]) (sel_recv_none hc) ?_
  simp only [Act.put]
  go_wp2
  rw [rounds_succ]
  go_upto_region 5 with (fail)
  refine wp_region_select rfl rfl (cases := #[rcase c2 (.int .i64 0)]) (by simp [go_sem, execOp, rcase, Act.eval]) (sel_recv_none hc2) ?_
  simp only [Act.put]
  go_wp2
  rw [rounds_succ]
  go_wp2
  go_ret2
  exact ⟨rfl, rfl⟩

theorem offer_shut (b : Nat) (x : Value) (u : Bool) (w : World) (hsh : w.cell? ⟨b, 3, none⟩ = some (.bool true)) :
    Calls Try.prog 8 #[.pointer (some ⟨b, 0, none⟩), x, .bool u] w fun e w' => e = .returned (.int .i64 16) ∧ w = w' := by
  go_enter Try.func8, Try.ntmps8
  go_wp2
  go_ret
  exact ⟨rfl, rfl⟩

theorem offer_room (b cu cs cap s r : Nat) (x : Value) (u : Bool) (l : List Value) (w : World) (hsh : w.cell? ⟨b, 3, none⟩ = some (.bool false))
    (hu : w.cell? ⟨b, 0, none⟩ = some (.chan (some cu))) (hs : w.cell? ⟨b, 1, none⟩ = some (.chan (some cs)))
    (hc : w.heap[if u then cu else cs]? = some (.chan cap l.toArray false s r false)) (hroom : l.length < cap) :
    Calls Try.prog 8 #[.pointer (some ⟨b, 0, none⟩), x, .bool u] w fun e w' => e = .returned (.int .i64 0) ∧ w.setChan (if u then cu else cs) cap (l ++ [x]).toArray false (s + 1) r false = w' := by
  have hc' := Lib.hid hc
  clear hc
  cases u
  all_goals
    go_enter Try.func8, Try.ntmps8
    go_upto_region 8 with (fail)
    refine wp_region_select rfl rfl (by simp [go_sem, execOp, Act.eval]; rfl) (sel_send_room (z := (.int .i64 0)) hc'.out hroom) ?_
    simp only [Act.put]
    go_wp2
    go_ret
    exact ⟨rfl, rfl⟩

theorem offer_full (b cu cs cap s r : Nat) (x : Value) (u : Bool) (l : List Value) (w : World) (hsh : w.cell? ⟨b, 3, none⟩ = some (.bool false))
    (hu : w.cell? ⟨b, 0, none⟩ = some (.chan (some cu))) (hs : w.cell? ⟨b, 1, none⟩ = some (.chan (some cs)))
    (hc : w.heap[if u then cu else cs]? = some (.chan cap l.toArray false s r false)) (hroom : cap ≤ l.length) :
    Calls Try.prog 8 #[.pointer (some ⟨b, 0, none⟩), x, .bool u] w fun e w' => e = .returned (.int .i64 15) ∧ w = w' := by
  have hc' := Lib.hid hc
  clear hc
  cases u
  all_goals
    go_enter Try.func8, Try.ntmps8
    go_upto_region 8 with (fail)
    refine wp_region_select rfl rfl (by simp [go_sem, execOp, Act.eval]; rfl) (sel_send_full (z := (.int .i64 0)) hc'.out hroom) ?_
    simp only [Act.put]
    go_wp2
    go_ret
    exact ⟨rfl, rfl⟩
theorem after {P : Program} {f : FuncId} {args : Array Value} {W X : World} {v : Ending} {b : Nat} {st : Int} (h : Calls P f args W fun e w' => e = v ∧ X = w')
    (hc : X.cell? ⟨b, 2, none⟩ = some (.int .i64 st)) (hf : X.frozen? ⟨b, 2, none⟩ = false) :
    Calls P f args W fun e w' => e = v ∧ Hid (X = w') ∧ w'.cell? ⟨b, 2, none⟩ = some (.int .i64 st) ∧ w'.frozen? ⟨b, 2, none⟩ = false :=
  h.mono fun _ _ h => ⟨h.1, h.2, h.2 ▸ hc, h.2 ▸ hf⟩

/-- The world in which next is called. -/
def nw (cu cs : Nat) (w : World) : World := (w.alloc (.cells #[.chan (some cu), .chan (some cs)] 52)).drew

section
variable {cu cs : Nat} {w : World}
theorem nw_c0 : (nw cu cs w).cell? ⟨w.heap.size, 0, none⟩ = some (.chan (some cu)) := by
  show (w.alloc _).cell? _ = _
  unfold World.cell?
  rw [heap_alloc_new]
  rfl
theorem nw_c1 : (nw cu cs w).cell? ⟨w.heap.size, 1, none⟩ = some (.chan (some cs)) := by
  show (w.alloc _).cell? _ = _
  unfold World.cell?
  rw [heap_alloc_new]
  rfl
theorem nw_heap {k : Nat} {o : Obj} (h : w.heap[k]? = some o) : (nw cu cs w).heap[k]? = some o := by
  obtain ⟨hk, _⟩ := Array.getElem?_eq_some_iff.1 h
  show (w.alloc _).heap[k]? = _
  rw [Below.heap_alloc _ _ _ hk, h]
theorem nw_cell {b o : Nat} {v : Value} (h : w.cell? ⟨b, o, none⟩ = some v) : (nw cu cs w).cell? ⟨b, o, none⟩ = some v := by
  have hb : b < w.heap.size := by
    rcases Nat.lt_or_ge b w.heap.size with h1 | h1
    · exact h1
    · simp [World.cell?, Array.getElem?_eq_none h1] at h
  rw [← h]
  exact World.cell?_of_block (w := w) (a := ⟨b, o, none⟩) (Below.heap_alloc w _ b hb)
theorem nw_frozen {b o : Nat} {v : Value} (hc : w.cell? ⟨b, o, none⟩ = some v) (h : w.frozen? ⟨b, o, none⟩ = false) : (nw cu cs w).frozen? ⟨b, o, none⟩ = false := by
  have hb : b < w.heap.size := by
    rcases Nat.lt_or_ge b w.heap.size with h1 | h1
    · exact h1
    · simp [World.cell?, Array.getElem?_eq_none h1] at hc
  rw [← h]
  exact World.frozen?_of_block (w := w) (a := ⟨b, o, none⟩) (Below.heap_alloc w _ b hb)
end

theorem take_b (b cu cs cap su ru ss rs : Nat) (x y : Value) (lu ls : List Value) (st : Int) (hst : st < 4) (hst0 : 0 ≤ st) (w : World)
    (hu : w.cell? ⟨b, 0, none⟩ = some (.chan (some cu))) (hs : w.cell? ⟨b, 1, none⟩ = some (.chan (some cs))) (ht : w.cell? ⟨b, 2, none⟩ = some (.int .i64 st))
    (hf : w.frozen? ⟨b, 2, none⟩ = false) (hbu : b ≠ cu) (hbs : b ≠ cs)
    (hcu : w.heap[cu]? = some (.chan cap (x :: lu).toArray false su ru false)) (hcs : w.heap[cs]? = some (.chan cap (y :: ls).toArray false ss rs false)) :
    Calls Try.prog 14 #[.pointer (some ⟨b, 0, none⟩)] w fun e w' => e = .returned (.tuple #[x, .bool true]) ∧ ((nw cu cs w).setChan cu cap lu.toArray false su (ru + 1) false).setCell ⟨b, 2, none⟩ (.int .i64 (st + 1)) = w' := by
  have hlen := fun ty => run_len_chan (P := Try.prog) 52 ty Try.underlying52 hcs
  have hlen0 : ((y :: ls).toArray.size : Int) = (ls.length : Int) + 1 := by simp
  simp only [hlen0] at hlen
  have hgt : decide ((0:Int) < (ls.length : Int) + 1) = true := by simp
  clear hlen0
  have Hcu := Lib.hid hcu
  have Hcs := Lib.hid hcs
  have Hbu := Lib.hid hbu
  have Hbs := Lib.hid hbs
  clear hcu hcs hbu hbs
  go_enter Try.func14, Try.ntmps14
  go_wp2_with fail
  go_region_with (go_at_call 19; refine (after (next2_first cu cs cap su ru x lu w.heap.size _ nw_c0 nw_c1 (nw_heap Hcu.out)) (b := b) (st := st) (by rw [cell_setChan _ _ _ _ _ _ _ _ Hbu.out]; exact nw_cell ht) (by rw [frozen_setChan _ _ _ _ _ _ _ _ Hbu.out]; exact nw_frozen ht hf)).mono ?_; rintro e w' ⟨rfl, Hw', c1, f1⟩)
  go_wp2
  all_goals go_ret2
  all_goals exact ⟨rfl, congrArg (fun z => World.setCell z ⟨b, 2, none⟩ _) Hw'.out⟩

theorem take_c (b cu cs cap su ru ss rs : Nat) (y : Value) (ls : List Value) (st : Int) (hst : st < 4) (w : World)
    (hu : w.cell? ⟨b, 0, none⟩ = some (.chan (some cu))) (hs : w.cell? ⟨b, 1, none⟩ = some (.chan (some cs))) (ht : w.cell? ⟨b, 2, none⟩ = some (.int .i64 st))
    (hf : w.frozen? ⟨b, 2, none⟩ = false) (hbu : b ≠ cu) (hbs : b ≠ cs)
    (hcu : w.heap[cu]? = some (.chan cap #[] false su ru false)) (hcs : w.heap[cs]? = some (.chan cap (y :: ls).toArray false ss rs false)) :
    Calls Try.prog 14 #[.pointer (some ⟨b, 0, none⟩)] w fun e w' => e = .returned (.tuple #[y, .bool true]) ∧ ((nw cu cs w).setChan cs cap ls.toArray false ss (rs + 1) false).setCell ⟨b, 2, none⟩ (.int .i64 0) = w' := by
  have hlen := fun ty => run_len_chan (P := Try.prog) 52 ty Try.underlying52 hcs
  have hlen0 : ((y :: ls).toArray.size : Int) = (ls.length : Int) + 1 := by simp
  simp only [hlen0] at hlen
  have hgt : decide ((0:Int) < (ls.length : Int) + 1) = true := by simp
  clear hlen0
  have Hcu := Lib.hid hcu
  have Hcs := Lib.hid hcs
  have Hbu := Lib.hid hbu
  have Hbs := Lib.hid hbs
  clear hcu hcs hbu hbs
  go_enter Try.func14, Try.ntmps14
  go_wp2_with fail
  go_region_with (go_at_call 19; refine (after (next2_second cu cs cap su ru ss rs cap y ls w.heap.size _ nw_c0 nw_c1 (nw_heap Hcu.out) (nw_heap Hcs.out)) (b := b) (st := st) (by rw [cell_setChan _ _ _ _ _ _ _ _ Hbs.out]; exact nw_cell ht) (by rw [frozen_setChan _ _ _ _ _ _ _ _ Hbs.out]; exact nw_frozen ht hf)).mono ?_; rintro e w' ⟨rfl, Hw', c1, f1⟩)
  go_wp2
  all_goals go_ret2
  all_goals exact ⟨rfl, congrArg (fun z => World.setCell z ⟨b, 2, none⟩ _) Hw'.out⟩

theorem take_d (b cu cs cap su ru ss rs : Nat) (x : Value) (lu : List Value) (st : Int)  (w : World)
    (hu : w.cell? ⟨b, 0, none⟩ = some (.chan (some cu))) (hs : w.cell? ⟨b, 1, none⟩ = some (.chan (some cs))) (ht : w.cell? ⟨b, 2, none⟩ = some (.int .i64 st))
    (hf : w.frozen? ⟨b, 2, none⟩ = false) (hbu : b ≠ cu) (hbs : b ≠ cs)
    (hcu : w.heap[cu]? = some (.chan cap (x :: lu).toArray false su ru false)) (hcs : w.heap[cs]? = some (.chan cap #[] false ss rs false)) :
    Calls Try.prog 14 #[.pointer (some ⟨b, 0, none⟩)] w fun e w' => e = .returned (.tuple #[x, .bool true]) ∧ ((nw cu cs w).setChan cu cap lu.toArray false su (ru + 1) false).setCell ⟨b, 2, none⟩ (.int .i64 0) = w' := by
  have hlen := fun ty => run_len_chan (P := Try.prog) 52 ty Try.underlying52 hcs
  have hlen0 : ((#[] : Array Value).size : Int) = 0 := by simp
  simp only [hlen0] at hlen
  clear hlen0
  have Hcu := Lib.hid hcu
  have Hcs := Lib.hid hcs
  have Hbu := Lib.hid hbu
  have Hbs := Lib.hid hbs
  clear hcu hcs hbu hbs
  go_enter Try.func14, Try.ntmps14
  go_wp2_with fail
  go_region_with (go_at_call 19; refine (after (next2_first cu cs cap su ru x lu w.heap.size _ nw_c0 nw_c1 (nw_heap Hcu.out)) (b := b) (st := st) (by rw [cell_setChan _ _ _ _ _ _ _ _ Hbu.out]; exact nw_cell ht) (by rw [frozen_setChan _ _ _ _ _ _ _ _ Hbu.out]; exact nw_frozen ht hf)).mono ?_; rintro e w' ⟨rfl, Hw', c1, f1⟩)
  go_wp2
  all_goals go_ret2
  all_goals exact ⟨rfl, congrArg (fun z => World.setCell z ⟨b, 2, none⟩ _) Hw'.out⟩

theorem take_e (b cu cs cap su ru ss rs : Nat)  (st : Int)  (w : World)
    (hu : w.cell? ⟨b, 0, none⟩ = some (.chan (some cu))) (hs : w.cell? ⟨b, 1, none⟩ = some (.chan (some cs))) (ht : w.cell? ⟨b, 2, none⟩ = some (.int .i64 st))
    (hf : w.frozen? ⟨b, 2, none⟩ = false) (hbu : b ≠ cu) (hbs : b ≠ cs)
    (hcu : w.heap[cu]? = some (.chan cap #[] false su ru false)) (hcs : w.heap[cs]? = some (.chan cap #[] false ss rs false)) :
    Calls Try.prog 14 #[.pointer (some ⟨b, 0, none⟩)] w fun e w' => e = .returned (.tuple #[(.int .i64 0), .bool false]) ∧ (nw cu cs w).setCell ⟨b, 2, none⟩ (.int .i64 0) = w' := by
  have hlen := fun ty => run_len_chan (P := Try.prog) 52 ty Try.underlying52 hcs
  have hlen0 : ((#[] : Array Value).size : Int) = 0 := by simp
  simp only [hlen0] at hlen
  clear hlen0
  have Hcu := Lib.hid hcu
  have Hcs := Lib.hid hcs
  have Hbu := Lib.hid hbu
  have Hbs := Lib.hid hbs
  clear hcu hcs hbu hbs
  go_enter Try.func14, Try.ntmps14
  go_wp2_with fail
  go_region_with (go_at_call 19; refine (after (next2_none cu cs cap su ru ss rs cap w.heap.size _ nw_c0 nw_c1 (nw_heap Hcu.out) (nw_heap Hcs.out)) (b := b) (st := st) (by exact nw_cell ht) (by exact nw_frozen ht hf)).mono ?_; rintro e w' ⟨rfl, Hw', c1, f1⟩)
  go_wp2
  all_goals go_ret2
  all_goals exact ⟨rfl, congrArg (fun z => World.setCell z ⟨b, 2, none⟩ _) Hw'.out⟩

/-- The world in which next is called where the usual one is due. -/
def aw (b cs : Nat) (w : World) : World := (w.setCell ⟨b, 2, none⟩ (.int .i64 0)).alloc (.cells #[.chan (some cs)] 52)
theorem aw_c0 {b cs : Nat} {w : World} : (aw b cs w).cell? ⟨w.heap.size, 0, none⟩ = some (.chan (some cs)) := by
  have h := heap_alloc_new (w.setCell ⟨b, 2, none⟩ (.int .i64 0)) (.cells #[.chan (some cs)] 52)
  have e : (w.setCell ⟨b, 2, none⟩ (.int .i64 0)).heap.size = w.heap.size := by simp [World.setCell]
  rw [e] at h
  unfold aw World.cell?
  rw [h]
  rfl
theorem aw_heap {b cs k : Nat} {w : World} {o : Obj} (hb : b ≠ k) (h : w.heap[k]? = some o) : (aw b cs w).heap[k]? = some o := by
  obtain ⟨hk, _⟩ := Array.getElem?_eq_some_iff.1 h
  have e : (w.setCell ⟨b, 2, none⟩ (.int .i64 0)).heap.size = w.heap.size := by simp [World.setCell]
  unfold aw
  rw [Below.heap_alloc _ _ _ (by omega), Below.heap_setCell _ _ _ _ (Ne.symm hb), h]

/-- The usual one is taken because four urgent ones passed it. -/
theorem take_a (b cs cap ss rs : Nat) (y : Value) (ls : List Value) (st : Int) (hst : 4 ≤ st) (w : World)
    (hs : w.cell? ⟨b, 1, none⟩ = some (.chan (some cs))) (ht : w.cell? ⟨b, 2, none⟩ = some (.int .i64 st))
    (hf : w.frozen? ⟨b, 2, none⟩ = false) (hbs : b ≠ cs)
    (hcs : w.heap[cs]? = some (.chan cap (y :: ls).toArray false ss rs false)) :
    Calls Try.prog 14 #[.pointer (some ⟨b, 0, none⟩)] w fun e w' => e = .returned (.tuple #[y, .bool true]) ∧
      (aw b cs w).setChan cs cap ls.toArray false ss (rs + 1) false = w' := by
  have hlen := fun ty => run_len_chan (P := Try.prog) 52 ty Try.underlying52 hcs
  have hlen0 : ((y :: ls).toArray.size : Int) = (ls.length : Int) + 1 := by simp
  simp only [hlen0] at hlen
  have hgt : decide ((0:Int) < (ls.length : Int) + 1) = true := by simp
  clear hlen0
  have Hcs := Lib.hid hcs
  have Hbs := Lib.hid hbs
  clear hcs hbs
  go_enter Try.func14, Try.ntmps14
  go_wp2_with (go_at_call 19; refine (next1_some cs cap ss rs y ls w.heap.size (aw b cs w) aw_c0 (aw_heap Hbs.out Hcs.out)).mono ?_; rintro e w' ⟨rfl, rfl⟩)
  all_goals go_ret2
  all_goals exact ⟨rfl, rfl⟩
end Go.Proofs.Ytbgopncknlammaa.LI
