/- LanePlays: for every room and every list of steps the law returns true, and the list reads as it did. No condition. -/
import Derived.Test.YtbgopncknlammaaClose
import Derived.Test.YtbgopncknlammaaLaneL2
import Derived.Deep.Slices
import Derived.Deep.Strs
import Derived.Test.YtbgopncknlammaaLaneO2
namespace Go.Proofs.Ytbgopncknlammaa
open Go.ChangeShapes Go.WideShapes Go.ChangeAt Go.RowKit Go.Deep

set_option maxRecDepth 100000 in
theorem plays_out (a : Option Addr) (n cap : Nat) (room : Int) (w : World) (h : 100 < n ∨ n ≤ 100 ∧ (40 < room ∧ room ≤ 1024) ∨ n ≤ 100 ∧ room < 1 ∨ n ≤ 100 ∧ 1024 < room) :
    Calls Try.prog 5 #[.int .i64 room, .slice a n cap] w fun e w' => e = .returned (.bool true) ∧ Below w.heap.size w w' := by
  have h' : (100 : Int) < (n : Int) ∨ (n : Int) ≤ 100 ∧ (40 < room ∧ room ≤ 1024) ∨ (n : Int) ≤ 100 ∧ room < 1 ∨ (n : Int) ≤ 100 ∧ 1024 < room := by omega
  clear h
  rcases h' with h1 | ⟨h1, h2, h3⟩ | ⟨h1, h2⟩ | ⟨h1, h2⟩
  · go_enter Try.func5, Try.ntmps5
    go_wp2_with (go_at_call 6; refine (anchor_calls _).mono ?_; rintro e w1 ⟨rfl, hb1⟩; have HB1 := Lib.hid hb1; clear hb1)
    go_ret
    exact ⟨rfl, HB1.out⟩
  · go_enter Try.func5, Try.ntmps5
    go_wp2_with (go_at_call 6; refine (anchor_calls _).mono ?_; rintro e w1 ⟨rfl, hb1⟩; have HB1 := Lib.hid hb1; clear hb1)
    go_ret
    exact ⟨rfl, HB1.out⟩
  · have HR := Lib.hid (show room < 1 ∨ 1024 < room from Or.inl h2)
    have g1 : ¬ 40 < room := by omega
    go_enter Try.func5, Try.ntmps5
    go_wp2_with (first
      | (go_at_call 6; refine (anchor_calls _).mono ?_; rintro e w1 ⟨rfl, hb1⟩; have HB1 := Lib.hid hb1; clear hb1)
      | (go_at_call 7; refine (LI.new_range room HR.out _).mono ?_; rintro e w2 ⟨rfl, rfl⟩))
    go_ret
    exact ⟨rfl, HB1.out⟩
  · have HR := Lib.hid (show room < 1 ∨ 1024 < room from Or.inr h2)
    have g1 : ¬ room ≤ 1024 := by omega
    have g2 : ¬ room < 1 := by omega
    have g3 : 40 < room := by omega
    go_enter Try.func5, Try.ntmps5
    go_wp2_with (first
      | (go_at_call 6; refine (anchor_calls _).mono ?_; rintro e w1 ⟨rfl, hb1⟩; have HB1 := Lib.hid hb1; clear hb1)
      | (go_at_call 7; refine (LI.new_range room HR.out _).mono ?_; rintro e w2 ⟨rfl, rfl⟩))
    go_ret
    exact ⟨rfl, HB1.out⟩

theorem plays_any (ops : List (Int × Int × Bool)) (a : Option Addr) (cap : Nat) (room : Int) (w : World) (ho : OpsAt w a ops) :
    Calls Try.prog 5 #[.int .i64 room, .slice a ops.length cap] w fun e w' => e = .returned (.bool true) ∧ Below w.heap.size w w' := by
  by_cases h : 100 < ops.length ∨ ops.length ≤ 100 ∧ (40 < room ∧ room ≤ 1024) ∨ ops.length ≤ 100 ∧ room < 1 ∨ ops.length ≤ 100 ∧ 1024 < room
  · exact plays_out a ops.length cap room w h
  · obtain ⟨r, rfl⟩ := Int.eq_ofNat_of_zero_le (show 0 ≤ room by omega)
    exact plays_calls ops a cap r w (by omega) (by omega) (by omega) ho

theorem pOwn : ownKnob Try.prog.godebug = none := by kernel_rfl
theorem pLaidOut : laidOutB Try.prog = true := by kernel_rfl
theorem cellsOp : Try.prog.cellsOf 45 = 3 := by kernel_rfl

theorem cellsIntL : Try.prog.cellsOf 3 = 1 := by kernel_rfl
theorem cellsBoolL : Try.prog.cellsOf 4 = 1 := by kernel_rfl

theorem cell_spot {w : World} {a : Addr} {v : Value} (h : w.cell? a = some v) : a = ⟨a.block, a.off, none⟩ := by
  cases a with
  | mk b o s =>
    cases s with
    | none => rfl
    | some x =>
      unfold World.cell? at h
      split at h <;> simp at h

theorem addr_add (b o k : Nat) : (⟨b, o, none⟩ : Addr).add k = ⟨b, o + k, none⟩ := by
  unfold Addr.add
  split
  · rename_i h; subst h; rfl
  · rfl

theorem spot_of_add {w : World} {a : Addr} {v : Value} (h : w.cell? (a.add 0) = some v) : a = ⟨a.block, a.off, none⟩ := by
  have : a.add 0 = a := by simp [Addr.add]
  rw [this] at h
  exact cell_spot h

/-- The steps of an argument. -/
theorem open_ops {H : Type} {enc : TypeId × Value → H} {W : World} {fuel : Nat} {v : Value} {x : DataW H × List MemPlace} (h : DataW.trod enc Try.prog W 0 (fun _ => true) true fuel 40 [v] = some x) :
    ∃ (ops : List (Int × Int × Bool)) (a : Option Addr) (cap : Nat), v = .slice a ops.length cap ∧ OpsAt W a ops := by
  rcases open_slice Try.underlying40 h with ⟨hcs, _⟩ | ⟨a, len, cap, m, n, D, Pl, hcs, _, hl, hm, hmm, hx, hcell⟩
  · simp only [List.cons.injEq, and_true] at hcs
    exact ⟨[], none, 0, hcs, fun j hj => absurd hj (by simp)⟩
  · simp only [List.cons.injEq, and_true] at hcs
    simp only [if_true] at hmm
    subst hmm
    have key : ∀ i, i < m → ∃ op : Int × Int × Bool, W.cell? (a.add (i * 3)) = some (.int .i64 op.1) ∧ W.cell? ((a.add (i * 3)).add 1) = some (.int .i64 op.2.1) ∧ W.cell? ((a.add (i * 3)).add 2) = some (.bool op.2.2) := by
      intro i hi
      obtain ⟨cs', h1, h2⟩ := hcell i hi
      rw [cellsOp] at h1
      obtain ⟨_, h3, h4⟩ := World.cells?_some h1
      obtain ⟨y0, y1, y2, n', _, _, q0, q1, q2⟩ := trod_struct3 Try.underlying45 h2
      match cs', h3 with
      | [c0, c1, c2], _ =>
        simp only [cellsIntL, cellsBoolL, List.drop_succ_cons, List.drop_zero, List.take_succ_cons, List.take_zero] at q0 q1 q2
        obtain ⟨k, e0, _⟩ := DataW.trod_int Try.underlying3 q0
        obtain ⟨y, e1, _⟩ := DataW.trod_int Try.underlying3 q1
        obtain ⟨u, e2, _⟩ := DataW.trod_bool Try.underlying4 q2
        simp only [List.cons.injEq, and_true] at e0 e1 e2
        subst e0 e1 e2
        have z0 := h4 0 (by decide)
        have z1 := h4 1 (by decide)
        have z2 := h4 2 (by decide)
        have za : (a.add (i * 3)).add 0 = a.add (i * 3) := by simp [Addr.add]
        rw [za] at z0
        exact ⟨(k, y, u), z0, z1, z2⟩
    let f : Nat → Int × Int × Bool := fun i => if h : i < m then (key i h).choose else (0, 0, false)
    have hf : ∀ i, i < m → W.cell? (a.add (i * 3)) = some (.int .i64 (f i).1) ∧ W.cell? ((a.add (i * 3)).add 1) = some (.int .i64 (f i).2.1) ∧ W.cell? ((a.add (i * 3)).add 2) = some (.bool (f i).2.2) := by
      intro i hi
      have := (key i hi).choose_spec
      simp only [f, hi, dif_pos]
      exact this
    refine ⟨(List.range len).map f, some a, m, by simpa using hcs, ?_⟩
    intro j hj
    simp only [List.length_map, List.length_range] at hj
    obtain ⟨c0, c1, c2⟩ := hf j (by omega)
    have ha : a = ⟨a.block, a.off, none⟩ := spot_of_add (by have := (hf 0 (by omega)).1; simpa using this)
    have e : ((List.range len).map f).getD j (0, 0, false) = f j := by simp [hj]
    rw [e]
    rw [ha, addr_add] at c0 c1 c2
    rw [addr_add] at c1 c2
    refine ⟨a.block, a.off, by rw [← ha], c0, c1, c2, ?_⟩
    exact lt_of_cell (l := [.int .i64 (f j).1]) (m := 0) (by rw [c0]; rfl) (by simp)

set_option maxRecDepth 100000 in
theorem plays_lifted (os : Os) (started : os.Started) (H : Type) (enc : TypeId × Value → H) :
    ReturnsInHanded {} Try.checked os 5 .any (Rows.lanePlaysSpec.pre6 enc Try.prog Try.f5 Rows.lanePlaysRow.domain false) (Rows.lanePlaysSpec.post enc Try.prog Try.f5 false true false false) := by
  refine returnsInHanded_of_change (C := Try.checked) pOwn started (by kernel_rfl) Try.func5
    (ChangeSpec.witness6 (enc := enc) (C := Try.checked) false ⟨#[], #[.int .i64 0, .slice none 0 0], []⟩ 8 (by kernel_rfl) (by kernel_rfl) (by kernel_rfl) (by kernel_rfl)) ?_
  intro W base args ds gs before hval hW _ _
  obtain ⟨p, q, hA, _⟩ := id hW
  have hA' : DataW.TrodAll enc Try.prog W 0 (fun _ => true) true Try.f5.params.toList args.toList ds p := hA
  have hval' := hval
  rw [Try.params5] at hA' hval'
  obtain ⟨v0, v1, d0, d1, p0, p1, rfl, rfl, rfl, h0, h1⟩ := trodAll_two hA'
  obtain ⟨room, rfl, _⟩ := open_int Try.underlying3 (hval' 0 3 v0 rfl rfl) h0
  obtain ⟨a0, len, cap, rfl⟩ := okWide_slice Try.underlying40 (hval' 1 40 v1 rfl rfl)
  obtain ⟨fuel, hf⟩ := h1
  obtain ⟨ops, a, cap', e, ho⟩ := open_ops hf
  rw [e] at hval hW ⊢
  exact law_contract (s := Rows.lanePlaysSpec) pLaidOut (by kernel_rfl) rfl Try.underlying4 rfl ⟨rfl, rfl, rfl⟩ hval hW (fun _ _ _ _ _ => plays_any ops a cap' room W ho)

theorem lane_plays : Rows.LanePlaysSaid :=
  OpenClaim.holds_of_wide 5 Try.f5 rfl rfl rfl rfl rfl rfl rfl ⟨rfl, rfl, rfl, rfl, rfl⟩ rfl rfl rfl rfl rfl (by kernel_rfl) Try.func5 (by kernel_rfl)
    (of_decide_eq_true (by kernel_rfl)) (by unfold Func.isWrapper; first | (rw [if_pos (by decide +kernel)]; kernel_rfl) | (rw [if_neg (by decide +kernel)]; exact ⟨rfl, rfl⟩))
    (fun os started H enc _ => plays_lifted os started H enc)

#print axioms lane_plays
end Go.Proofs.Ytbgopncknlammaa
