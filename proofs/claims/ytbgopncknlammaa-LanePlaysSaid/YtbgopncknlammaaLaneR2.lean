/- The reference's Take. -/
import Derived.Test.YtbgopncknlammaaLaneR
namespace Go.Proofs.Ytbgopncknlammaa
open Go.Conc Go.RowKit

/-- Only block g has turned. -/
def OnlyAt (B g : Nat) (w w' : World) : Prop := Below B w w' ∧ ∀ k, k ≠ g → w'.heap[k]? = w.heap[k]?
theorem ref_below {w : World} {B g : Nat} (hB : B ≤ g) (v1 v2 : Value) (o1 o2 : Nat) : OnlyAt B g w ((w.setCell ⟨g, o1, none⟩ v1).setCell ⟨g, o2, none⟩ v2) :=
  ⟨((Below.refl _ _).setCell hB _).setCell hB _, fun k hk => by rw [Below.heap_setCell _ _ _ _ hk, Below.heap_setCell _ _ _ _ hk]⟩
theorem ref_below1 {w : World} {B g : Nat} (hB : B ≤ g) (v1 : Value) (o1 : Nat) : OnlyAt B g w (w.setCell ⟨g, o1, none⟩ v1) :=
  ⟨(Below.refl _ _).setCell hB _, fun k hk => by rw [Below.heap_setCell _ _ _ _ hk]⟩

set_option maxHeartbeats 400000 in
theorem rtake_a {w : World} {B g room : Nat} {U S : List Value} {x : Int} {st : Nat} {sh : Bool} (h : Ref w B g room U (.int .i64 x :: S) st sh) (h4 : 4 ≤ st) :
    Calls Try.prog 15 #[.pointer (some ⟨g, 0, none⟩)] w fun e w' => e = .returned (.tuple #[.int .i64 x, .bool true]) ∧ Ref w' B g room U S 0 sh ∧ OnlyAt B g w w' := by
  obtain ⟨vU, vS, ru, rs, h⟩ := h
  obtain ⟨gs, off, off', cap, rfl, rfl, hx, hc1, hc2, ho, hown⟩ := h.hS.pop
  obtain ⟨aU, cU, rfl⟩ := h.hU.value
  have hfin := (h.setS (v' := .slice (some ⟨gs, off', none⟩) S.length (cap - 1)) hown h.ns h.us).setSt 0 (by omega)
  have hg := h.hg
  have c0 := h.c0
  have c1 := h.c1
  have c3 := h.c3
  have f1 := h.free 1
  have f3 := h.free 3
  have hU0 : (0 : Int) ≤ (U.length : Int) := by omega
  have hc1' : ((S.length : Int) + 1) ≤ (cap : Int) := by omega
  have H := Lib.hid (And.intro hg (And.intro h hfin))
  clear h hfin hown hg
  have hgt : decide ((0:Int) < (S.length : Int) + 1) = true := by simp
  have h4' : (4 : Int) ≤ (st : Int) := by omega
  rcases ho with ⟨rfl, rfl⟩ | ⟨hne, rfl⟩
  case' inl => obtain rfl : S = [] := List.eq_nil_of_length_eq_zero (by omega)
  all_goals
    go_enter Try.func15, Try.ntmps15
    go_wp2
    all_goals go_ret2
    all_goals exact ⟨rfl, ⟨_, _, _, _, H.out.2.2⟩, ref_below H.out.1 _ _ _ _⟩

set_option maxHeartbeats 400000 in
theorem rtake_b {w : World} {B g room : Nat} {U S : List Value} {x : Int} {st : Nat} {sh : Bool} (h : Ref w B g room (.int .i64 x :: U) S st sh) (hS : S ≠ []) (h4 : st < 4) :
    Calls Try.prog 15 #[.pointer (some ⟨g, 0, none⟩)] w fun e w' => e = .returned (.tuple #[.int .i64 x, .bool true]) ∧ Ref w' B g room U S (st + 1) sh ∧ OnlyAt B g w w' := by
  obtain ⟨vU, vS, ru, rs, h⟩ := h
  obtain ⟨gs, off, off', cap, rfl, rfl, hx, hc1, hc2, ho, hown⟩ := h.hU.pop
  obtain ⟨aS, cS, rfl⟩ := h.hS.value
  have hfin := (h.setU (v' := .slice (some ⟨gs, off', none⟩) U.length (cap - 1)) hown h.nu h.us).setSt ((st + 1)) (by omega)
  have hg := h.hg
  have c0 := h.c0
  have c1 := h.c1
  have c3 := h.c3
  have f0 := h.free 0
  have f3 := h.free 3
  have hc1' : ((U.length : Int) + 1) ≤ (cap : Int) := by omega
  have h4' : (st : Int) < 4 := by omega
  have H := Lib.hid (And.intro hg (And.intro h hfin))
  clear h hfin hown hg
  have hs0 : (0 : Int) < (S.length : Int) := by have := List.length_pos_iff.2 hS; omega
  have hne2 : (((U.length : Int) + 1) == 0) = false := by simp; omega
  rcases ho with ⟨rfl, rfl⟩ | ⟨hne, rfl⟩
  case' inl => obtain rfl : U = [] := List.eq_nil_of_length_eq_zero (by omega)
  all_goals
    go_enter Try.func15, Try.ntmps15
    go_wp2
    all_goals go_ret2
    all_goals exact ⟨rfl, ⟨_, _, _, _, H.out.2.2⟩, ref_below H.out.1 _ _ _ _⟩

set_option maxHeartbeats 400000 in
theorem rtake_c {w : World} {B g room : Nat} {U S : List Value} {x : Int} {st : Nat} {sh : Bool} (h : Ref w B g room U (.int .i64 x :: S) st sh) (hU : U = []) :
    Calls Try.prog 15 #[.pointer (some ⟨g, 0, none⟩)] w fun e w' => e = .returned (.tuple #[.int .i64 x, .bool true]) ∧ Ref w' B g room U S 0 sh ∧ OnlyAt B g w w' := by
  obtain ⟨vU, vS, ru, rs, h⟩ := h
  obtain ⟨gs, off, off', cap, rfl, rfl, hx, hc1, hc2, ho, hown⟩ := h.hS.pop
  obtain ⟨aU, cU, rfl⟩ := h.hU.value
  have hfin := (h.setS (v' := .slice (some ⟨gs, off', none⟩) S.length (cap - 1)) hown h.ns h.us).setSt 0 (by omega)
  have hg := h.hg
  have c0 := h.c0
  have c1 := h.c1
  have c3 := h.c3
  have f1 := h.free 1
  have f3 := h.free 3
  have hU0 : (0 : Int) ≤ (U.length : Int) := by omega
  have hc1' : ((S.length : Int) + 1) ≤ (cap : Int) := by omega
  have H := Lib.hid (And.intro hg (And.intro h hfin))
  clear h hfin hown hg
  have hgt : decide ((0:Int) < (S.length : Int) + 1) = true := by simp
  obtain rfl : U = [] := hU
  simp only [List.length_nil] at c0 hU0
  rcases ho with ⟨rfl, rfl⟩ | ⟨hne, rfl⟩
  case' inl => obtain rfl : S = [] := List.eq_nil_of_length_eq_zero (by omega)
  all_goals
    go_enter Try.func15, Try.ntmps15
    go_wp2
    all_goals go_ret2
    all_goals exact ⟨rfl, ⟨_, _, _, _, H.out.2.2⟩, ref_below H.out.1 _ _ _ _⟩

set_option maxHeartbeats 400000 in
theorem rtake_d {w : World} {B g room : Nat} {U S : List Value} {x : Int} {st : Nat} {sh : Bool} (h : Ref w B g room (.int .i64 x :: U) S st sh) (hS : S = []) :
    Calls Try.prog 15 #[.pointer (some ⟨g, 0, none⟩)] w fun e w' => e = .returned (.tuple #[.int .i64 x, .bool true]) ∧ Ref w' B g room U S 0 sh ∧ OnlyAt B g w w' := by
  obtain ⟨vU, vS, ru, rs, h⟩ := h
  obtain ⟨gs, off, off', cap, rfl, rfl, hx, hc1, hc2, ho, hown⟩ := h.hU.pop
  obtain ⟨aS, cS, rfl⟩ := h.hS.value
  have hfin := (h.setU (v' := .slice (some ⟨gs, off', none⟩) U.length (cap - 1)) hown h.nu h.us).setSt (0) (by omega)
  have hg := h.hg
  have c0 := h.c0
  have c1 := h.c1
  have c3 := h.c3
  have f0 := h.free 0
  have f3 := h.free 3
  have hc1' : ((U.length : Int) + 1) ≤ (cap : Int) := by omega

  have H := Lib.hid (And.intro hg (And.intro h hfin))
  clear h hfin hown hg
  obtain rfl : S = [] := hS
  simp only [List.length_nil] at c1
  have hne2 : (((U.length : Int) + 1) == 0) = false := by simp; omega
  rcases ho with ⟨rfl, rfl⟩ | ⟨hne, rfl⟩
  case' inl => obtain rfl : U = [] := List.eq_nil_of_length_eq_zero (by omega)
  all_goals
    go_enter Try.func15, Try.ntmps15
    go_wp2
    all_goals go_ret2
    all_goals exact ⟨rfl, ⟨_, _, _, _, H.out.2.2⟩, ref_below H.out.1 _ _ _ _⟩

theorem rtake_e {w : World} {B g room : Nat} {st : Nat} {sh : Bool} (h : Ref w B g room [] [] st sh) :
    Calls Try.prog 15 #[.pointer (some ⟨g, 0, none⟩)] w fun e w' => e = .returned (.tuple #[.int .i64 0, .bool false]) ∧ Ref w' B g room [] [] 0 sh ∧ OnlyAt B g w w' := by
  obtain ⟨vU, vS, ru, rs, h⟩ := h
  obtain ⟨aS, cS, rfl⟩ := h.hS.value
  obtain ⟨aU, cU, rfl⟩ := h.hU.value
  have hfin := h.setSt 0 (by omega)
  have hg := h.hg
  have c0 := h.c0
  have c1 := h.c1
  have c3 := h.c3
  have f3 := h.free 3
  have H := Lib.hid (And.intro hg (And.intro h hfin))
  clear h hfin hg
  simp only [List.length_nil] at c0 c1
  go_enter Try.func15, Try.ntmps15
  go_wp2
  all_goals go_ret2
  all_goals exact ⟨rfl, ⟨_, _, _, _, H.out.2.2⟩, ref_below1 H.out.1 _ _⟩

/-- All ways in one: the reference takes what the lanes take. -/
theorem rtake {w : World} {B g room : Nat} {U S : List Value} {st : Nat} {sh : Bool} (h : Ref w B g room U S st sh) (hU : ∀ x ∈ U, LI.El x) (hS : ∀ x ∈ S, LI.El x) :
    Calls Try.prog 15 #[.pointer (some ⟨g, 0, none⟩)] w fun e w' => e = .returned (.tuple #[(takeQ U S st).1.getD (.int .i64 0), .bool (takeQ U S st).1.isSome]) ∧
      Ref w' B g room (takeQ U S st).2.1 (takeQ U S st).2.2.1 (takeQ U S st).2.2.2 sh ∧ OnlyAt B g w w' := by
  cases S with
  | nil =>
    cases U with
    | nil => exact rtake_e h
    | cons x U =>
      obtain ⟨n, rfl⟩ := hU x (List.mem_cons_self ..)
      exact rtake_d h rfl
  | cons y S =>
    obtain ⟨m, rfl⟩ := hS y (List.mem_cons_self ..)
    by_cases h4 : 4 ≤ st
    · have e1 : takeQ U (.int .i64 m :: S) st = (some (.int .i64 m), U, S, 0) := by simp [takeQ, h4]
      rw [e1]
      exact rtake_a h h4
    · cases U with
      | nil =>
        have e1 : takeQ [] (.int .i64 m :: S) st = (some (.int .i64 m), [], S, 0) := by simp [takeQ, h4]
        rw [e1]
        exact rtake_c h rfl
      | cons x U =>
        obtain ⟨n, rfl⟩ := hU x (List.mem_cons_self ..)
        have e1 : takeQ (.int .i64 n :: U) (.int .i64 m :: S) st = (some (.int .i64 n), U, .int .i64 m :: S, st + 1) := by simp [takeQ, h4]
        rw [e1]
        exact rtake_b h (by simp) (by omega)

theorem rtake_some {w : World} {B g room : Nat} {U S U' S' : List Value} {st st' : Nat} {sh : Bool} {x : Value} (h : Ref w B g room U S st sh) (hU : ∀ x ∈ U, LI.El x) (hS : ∀ x ∈ S, LI.El x) (ht : takeQ U S st = (some x, U', S', st')) :
    Calls Try.prog 15 #[.pointer (some ⟨g, 0, none⟩)] w fun e w' => e = .returned (.tuple #[x, .bool true]) ∧ Ref w' B g room U' S' st' sh ∧ OnlyAt B g w w' :=
  (rtake h hU hS).mono fun e w' ⟨h1, h2, h3⟩ => by rw [ht] at h1 h2; exact ⟨h1, h2, h3⟩
theorem rtake_none {w : World} {B g room : Nat} {U S U' S' : List Value} {st st' : Nat} {sh : Bool} (h : Ref w B g room U S st sh) (hU : ∀ x ∈ U, LI.El x) (hS : ∀ x ∈ S, LI.El x) (ht : takeQ U S st = (none, U', S', st')) :
    Calls Try.prog 15 #[.pointer (some ⟨g, 0, none⟩)] w fun e w' => e = .returned (.tuple #[.int .i64 0, .bool false]) ∧ Ref w' B g room U' S' st' sh ∧ OnlyAt B g w w' :=
  (rtake h hU hS).mono fun e w' ⟨h1, h2, h3⟩ => by rw [ht] at h1 h2; exact ⟨h1, h2, h3⟩
end Go.Proofs.Ytbgopncknlammaa
