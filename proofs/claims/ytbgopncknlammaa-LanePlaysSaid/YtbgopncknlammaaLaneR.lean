/- The reference's two lists: what Offer and Take do to them. -/
import Derived.Test.YtbgopncknlammaaRowQ
import Derived.Test.YtbgopncknlammaaLaneI4
import Derived.Deep.QuietTactic
import Derived.BigQuiet
namespace Go.Proofs.Ytbgopncknlammaa
open Go.Conc Go.RowKit

/-- The reference's lists lie at block g; they are of block B at least, and so are their arrays. -/
structure RefL (w : World) (B g room : Nat) (U S : List Value) (st : Nat) (sh : Bool) (vU vS : Value) (ru rs : Option Nat) : Prop where
  hb : ∃ T, w.heap[g]? = some (.cells #[vU, vS, .int .i64 room, .int .i64 st, .bool sh] T (0, 0))
  hU : OwnQ w B 3 vU U ru
  hS : OwnQ w B 3 vS S rs
  hg : B ≤ g
  nu : ru ≠ some g
  ns : rs ≠ some g
  us : ru = none ∨ ru ≠ rs
  st4 : st ≤ 4

/-- .. and all of it below block C. -/
def RefC (w : World) (B C g room : Nat) (U S : List Value) (st : Nat) (sh : Bool) : Prop :=
  ∃ vU vS ru rs, RefL w B g room U S st sh vU vS ru rs ∧ g < C ∧ (∀ k, ru = some k → k < C) ∧ (∀ k, rs = some k → k < C)
def Ref (w : World) (B g room : Nat) (U S : List Value) (st : Nat) (sh : Bool) : Prop := ∃ vU vS ru rs, RefL w B g room U S st sh vU vS ru rs

section
variable {w w' : World} {B g room : Nat} {U S : List Value} {st : Nat} {sh : Bool} {vU vS : Value} {ru rs : Option Nat}
theorem RefL.lt (h : RefL w B g room U S st sh vU vS ru rs) : g < w.heap.size := by obtain ⟨_, h1⟩ := h.hb; exact lt_of_heap h1
theorem RefL.c0 (h : RefL w B g room U S st sh vU vS ru rs) : w.cell? ⟨g, 0, none⟩ = some vU := by obtain ⟨T, e⟩ := h.hb; simp [World.cell?, e]
theorem RefL.c1 (h : RefL w B g room U S st sh vU vS ru rs) : w.cell? ⟨g, 1, none⟩ = some vS := by obtain ⟨T, e⟩ := h.hb; simp [World.cell?, e]
theorem RefL.c2 (h : RefL w B g room U S st sh vU vS ru rs) : w.cell? ⟨g, 2, none⟩ = some (.int .i64 room) := by obtain ⟨T, e⟩ := h.hb; simp [World.cell?, e]
theorem RefL.c3 (h : RefL w B g room U S st sh vU vS ru rs) : w.cell? ⟨g, 3, none⟩ = some (.int .i64 st) := by obtain ⟨T, e⟩ := h.hb; simp [World.cell?, e]
theorem RefL.c4 (h : RefL w B g room U S st sh vU vS ru rs) : w.cell? ⟨g, 4, none⟩ = some (.bool sh) := by obtain ⟨T, e⟩ := h.hb; simp [World.cell?, e]
theorem RefL.free (h : RefL w B g room U S st sh vU vS ru rs) (o : Nat) : w.frozen? ⟨g, o, none⟩ = false := by obtain ⟨T, e⟩ := h.hb; simp [World.frozen?, e]
theorem RefL.keep (h : RefL w B g room U S st sh vU vS ru rs) (hg : w'.heap[g]? = w.heap[g]?) (hU : ∀ k, ru = some k → w'.heap[k]? = w.heap[k]?) (hS : ∀ k, rs = some k → w'.heap[k]? = w.heap[k]?) : RefL w' B g room U S st sh vU vS ru rs :=
  ⟨by rw [hg]; exact h.hb, h.hU.keep hU, h.hS.keep hS, h.hg, h.nu, h.ns, h.us, h.st4⟩
theorem RefL.drew (h : RefL w B g room U S st sh vU vS ru rs) : RefL w.drew B g room U S st sh vU vS ru rs := h.keep rfl (fun _ _ => rfl) (fun _ _ => rfl)
theorem RefL.alloc (h : RefL w B g room U S st sh vU vS ru rs) (o : Obj) : RefL (w.alloc o) B g room U S st sh vU vS ru rs :=
  h.keep (Below.heap_alloc _ _ _ h.lt) (fun _ hk => Below.heap_alloc _ _ _ (h.hU.lt hk).2) (fun _ hk => Below.heap_alloc _ _ _ (h.hS.lt hk).2)
/-- The lanes' own blocks lie below. -/
theorem RefL.fr {b cu cs : Nat} (h : RefL w B g room U S st sh vU vS ru rs) (hf : Fr b cu cs w w') (h1 : b < B) (h2 : cu < B) (h3 : cs < B) : RefL w' B g room U S st sh vU vS ru rs := by
  have hg := h.hg
  refine h.keep (hf.block _ h.lt (by omega) (by omega) (by omega)) (fun k hk => ?_) (fun k hk => ?_)
  · have := h.hU.lt hk; exact hf.block _ this.2 (by omega) (by omega) (by omega)
  · have := h.hS.lt hk; exact hf.block _ this.2 (by omega) (by omega) (by omega)
theorem RefL.below {C : Nat} (h : RefL w B g room U S st sh vU vS ru rs) (hb : Below C w w') (hC : w.heap.size ≤ C) : RefL w' B g room U S st sh vU vS ru rs :=
  h.keep (hb.block _ (Nat.lt_of_lt_of_le h.lt hC)) (fun _ hk => hb.block _ (Nat.lt_of_lt_of_le (h.hU.lt hk).2 hC)) (fun _ hk => hb.block _ (Nat.lt_of_lt_of_le (h.hS.lt hk).2 hC))

/-- A store into a field of the struct. -/
theorem heap_set {cs : Array Value} {T : TypeId} (h : w.heap[g]? = some (.cells cs T (0, 0))) (o : Nat) (v : Value) : (w.setCell ⟨g, o, none⟩ v).heap[g]? = some (.cells (cs.setIfInBounds o v) T (0, 0)) := by
  simp [World.setCell, Array.getElem?_modify, h]
theorem own_set (h : OwnQ w B 3 vU U ru) (hn : ru ≠ some g) (o : Nat) (v : Value) : OwnQ (w.setCell ⟨g, o, none⟩ v) B 3 vU U ru :=
  h.keep fun k hk => Below.heap_setCell _ _ _ _ (by simp only; intro e; exact hn (by rw [hk, e]))
theorem RefL.setSt (h : RefL w B g room U S st sh vU vS ru rs) (st' : Nat) (h4 : st' ≤ 4) : RefL (w.setCell ⟨g, 3, none⟩ (.int .i64 st')) B g room U S st' sh vU vS ru rs := by
  obtain ⟨T, e⟩ := h.hb
  exact ⟨⟨T, by rw [heap_set e]; rfl⟩, own_set h.hU h.nu _ _, own_set h.hS h.ns _ _, h.hg, h.nu, h.ns, h.us, h4⟩
theorem RefL.setSh (h : RefL w B g room U S st sh vU vS ru rs) (sh' : Bool) : RefL (w.setCell ⟨g, 4, none⟩ (.bool sh')) B g room U S st sh' vU vS ru rs := by
  obtain ⟨T, e⟩ := h.hb
  exact ⟨⟨T, by rw [heap_set e]; rfl⟩, own_set h.hU h.nu _ _, own_set h.hS h.ns _ _, h.hg, h.nu, h.ns, h.us, h.st4⟩
theorem RefL.setU (h : RefL w B g room U S st sh vU vS ru rs) {v' : Value} {U' : List Value} {ru' : Option Nat} (hU' : OwnQ w B 3 v' U' ru') (hn : ru' ≠ some g) (hus : ru' = none ∨ ru' ≠ rs) : RefL (w.setCell ⟨g, 0, none⟩ v') B g room U' S st sh v' vS ru' rs := by
  obtain ⟨T, e⟩ := h.hb
  exact ⟨⟨T, by rw [heap_set e]; rfl⟩, own_set hU' hn _ _, own_set h.hS h.ns _ _, h.hg, hn, h.ns, hus, h.st4⟩
theorem RefL.setS (h : RefL w B g room U S st sh vU vS ru rs) {v' : Value} {S' : List Value} {rs' : Option Nat} (hS' : OwnQ w B 3 v' S' rs') (hn : rs' ≠ some g) (hus : ru = none ∨ ru ≠ rs') : RefL (w.setCell ⟨g, 1, none⟩ v') B g room U S' st sh vU v' ru rs' := by
  obtain ⟨T, e⟩ := h.hb
  exact ⟨⟨T, by rw [heap_set e]; rfl⟩, own_set h.hU h.nu _ _, own_set hS' hn _ _, h.hg, h.nu, hn, hus, h.st4⟩
end

theorem Ref.toC {w : World} {B g room : Nat} {U S : List Value} {st : Nat} {sh : Bool} (h : Ref w B g room U S st sh) : RefC w B w.heap.size g room U S st sh := by
  obtain ⟨vU, vS, ru, rs, h⟩ := h
  exact ⟨vU, vS, ru, rs, h, h.lt, fun k hk => (h.hU.lt hk).2, fun k hk => (h.hS.lt hk).2⟩
theorem RefC.toRef {w : World} {B C g room : Nat} {U S : List Value} {st : Nat} {sh : Bool} (h : RefC w B C g room U S st sh) : Ref w B g room U S st sh := by
  obtain ⟨vU, vS, ru, rs, h, _⟩ := h
  exact ⟨vU, vS, ru, rs, h⟩

theorem info_int : (Try.prog.info? 3).map (fun i => (i.zero, i.size, i.bytes)) = some (some (.int .i64 0), 1, 8) := by kernel_rfl

theorem ref_shut {w : World} {B g room : Nat} {U S : List Value} {st : Nat} (h : Ref w B g room U S st true) (x : Int) (u : Bool) :
    Calls Try.prog 13 #[.pointer (some ⟨g, 0, none⟩), .int .i64 x, .bool u] w fun e w' => e = .returned (.int .i64 16) ∧ w = w' := by
  obtain ⟨vU, vS, ru, rs, h⟩ := h
  have c4 := h.c4
  have H := Lib.hid h
  clear h
  go_enter Try.func13, Try.ntmps13
  go_wp2
  go_ret
  exact ⟨rfl, rfl⟩

theorem ref_full {w : World} {B g room : Nat} {U S : List Value} {st : Nat} (h : Ref w B g room U S st false) (x : Int) (u : Bool) (hr : room ≤ (if u then U else S).length) :
    Calls Try.prog 13 #[.pointer (some ⟨g, 0, none⟩), .int .i64 x, .bool u] w fun e w' => e = .returned (.int .i64 15) ∧ w.drew = w' := by
  obtain ⟨vU, vS, ru, rs, h⟩ := h
  obtain ⟨aU, cU, rfl⟩ := h.hU.value
  obtain ⟨aS, cS, rfl⟩ := h.hS.value
  have c4 := h.c4
  have c0 := h.c0
  have c1 := h.c1
  have c2 := h.c2
  have H := Lib.hid h
  clear h
  cases u
  all_goals
    simp only [if_true, Bool.false_eq_true, if_false] at hr
    have hr' : ((room : Nat) : Int) ≤ _ := Int.ofNat_le.2 hr
    go_enter Try.func13, Try.ntmps13
    go_wp2
    go_region
    all_goals go_wp2
    all_goals go_ret
    all_goals exact ⟨rfl, rfl⟩

/-- What append says of a list behind it. -/
def Pushed (w1 w' : World) (B : Nat) (v' : Value) (xs : List Value) (row row' : Option Nat) : Prop :=
  OwnQ w' B 3 v' xs row' ∧ w'.os = w1.os ∧ w'.tape = w1.tape ∧ w'.output = w1.output ∧ w1.heap.size ≤ w'.heap.size ∧ (∀ k, k < w1.heap.size → some k ≠ row → w'.heap[k]? = w1.heap[k]?) ∧
    (row' = row ∨ ∃ k, row' = some k ∧ w1.heap.size ≤ k)

theorem ref_pushed_u {w1 w' : World} {B g room : Nat} {U S U' : List Value} {st : Nat} {sh : Bool} {vU vS v' : Value} {ru rs row' : Option Nat} (h : RefL w1 B g room U S st sh vU vS ru rs) (hB : B ≤ w1.heap.size)
    (hp : Pushed w1 w' B v' U' ru row') : Ref (w'.setCell ⟨g, 0, none⟩ v') B g room U' S st sh ∧ Below B w1 (w'.setCell ⟨g, 0, none⟩ v') ∧ ∀ k, k < w1.heap.size → k ≠ g → some k ≠ ru → (w'.setCell ⟨g, 0, none⟩ v').heap[k]? = w1.heap[k]? := by
  obtain ⟨q1, q2, q3, q4, q5, q6, q7⟩ := hp
  have hrow : ∀ k, ru = some k → B ≤ k := fun k hk => (h.hU.lt hk).1
  have hgl := h.lt
  have hk : ∀ k, rs = some k → w'.heap[k]? = w1.heap[k]? := fun k hk => q6 k (h.hS.lt hk).2 (fun e => by
    rcases h.us with hu | hu
    · rw [hu] at e; cases e
    · exact hu (by rw [hk, ← e]))
  have hn : row' ≠ some g := by
    rcases q7 with rfl | ⟨k, rfl, hk2⟩
    · exact h.nu
    · simp; omega
  have hus : row' = none ∨ row' ≠ rs := by
    rcases q7 with rfl | ⟨k, rfl, hk2⟩
    · exact h.us
    · right; intro e; have := (h.hS.lt e.symm).2; omega
  have hw' : Below B w1 w' := ⟨q2, q3, q4, q5, fun k hk => q6 k (by omega) (fun e => by have := hrow k e.symm; omega)⟩
  obtain ⟨T, e⟩ := h.hb
  have e' : w'.heap[g]? = _ := (q6 g hgl (fun e => h.nu e.symm)).trans e
  exact ⟨⟨v', vS, row', rs, ⟨T, by rw [heap_set e']; rfl⟩, own_set q1 hn _ _, own_set (h.hS.keep hk) h.ns _ _, h.hg, hn, h.ns, hus, h.st4⟩, hw'.setCell h.hg _, fun k hk hkg hkr => by rw [Below.heap_setCell _ _ _ _ hkg]; exact q6 k hk hkr⟩

theorem ref_pushed_s {w1 w' : World} {B g room : Nat} {U S S' : List Value} {st : Nat} {sh : Bool} {vU vS v' : Value} {ru rs row' : Option Nat} (h : RefL w1 B g room U S st sh vU vS ru rs) (hB : B ≤ w1.heap.size)
    (hp : Pushed w1 w' B v' S' rs row') : Ref (w'.setCell ⟨g, 1, none⟩ v') B g room U S' st sh ∧ Below B w1 (w'.setCell ⟨g, 1, none⟩ v') ∧ ∀ k, k < w1.heap.size → k ≠ g → some k ≠ rs → (w'.setCell ⟨g, 1, none⟩ v').heap[k]? = w1.heap[k]? := by
  obtain ⟨q1, q2, q3, q4, q5, q6, q7⟩ := hp
  have hrow : ∀ k, rs = some k → B ≤ k := fun k hk => (h.hS.lt hk).1
  have hgl := h.lt
  have hk : ∀ k, ru = some k → w'.heap[k]? = w1.heap[k]? := fun k hk => q6 k (h.hU.lt hk).2 (fun e => by
    rcases h.us with hu | hu
    · rw [hu] at hk; cases hk
    · exact hu (by rw [hk, ← e]))
  have hn : row' ≠ some g := by
    rcases q7 with rfl | ⟨k, rfl, hk2⟩
    · exact h.ns
    · simp; omega
  have hus : ru = none ∨ ru ≠ row' := by
    rcases q7 with rfl | ⟨k, rfl, hk2⟩
    · exact h.us
    · right; intro e; have := (h.hU.lt e).2; omega
  have hw' : Below B w1 w' := ⟨q2, q3, q4, q5, fun k hk => q6 k (by omega) (fun e => by have := hrow k e.symm; omega)⟩
  obtain ⟨T, e⟩ := h.hb
  have e' : w'.heap[g]? = _ := (q6 g hgl (fun e => h.ns e.symm)).trans e
  exact ⟨⟨vU, v', ru, row', ⟨T, by rw [heap_set e']; rfl⟩, own_set (h.hU.keep hk) h.nu _ _, own_set q1 hn _ _, h.hg, h.nu, hn, hus, h.st4⟩, hw'.setCell h.hg _, fun k hk hkg hkr => by rw [Below.heap_setCell _ _ _ _ hkg]; exact q6 k hk hkr⟩

set_option maxHeartbeats 400000 in
theorem ref_room_u {w : World} {B C g room : Nat} {U S : List Value} {st : Nat} (h : RefC w B C g room U S st false) (x : Int) (hr : U.length < room) (h40 : room ≤ 1024) (hB : B ≤ w.heap.size) :
    Calls Try.prog 13 #[.pointer (some ⟨g, 0, none⟩), .int .i64 x, .bool true] w fun e w' => e = .returned (.int .i64 0) ∧ Ref w' B g room (U ++ [.int .i64 x]) S st false ∧ Below B w w' ∧ ∀ k, C ≤ k → k < w.heap.size → w'.heap[k]? = w.heap[k]? := by
  obtain ⟨vU, vS, ru, rs, h, hC⟩ := h
  have HC := Lib.hid hC
  clear hC
  have HWD := Lib.hid (show ∀ k : Nat, w.drew.heap[k]? = w.heap[k]? from fun _ => rfl)
  obtain ⟨aU, cU, rfl⟩ := h.hU.value
  have c4 := h.c4
  have c0 := h.c0
  have c2 := h.c2
  have H := Lib.hid h
  have HB := Lib.hid hB
  clear h hB
  have hr' : (U.length : Int) < ((room : Nat) : Int) := Int.ofNat_lt.2 hr
  obtain ⟨i0, hi, hz0, hz1, hz2⟩ := info_parts info_int
  have Hi := Lib.hid hi
  have Hz0 := Lib.hid hz0
  have Hz1 := Lib.hid hz1
  have Hz2 := Lib.hid hz2
  clear hi hz0 hz1 hz2
  go_enter Try.func13, Try.ntmps13
  go_wp2
  go_region
  have H2 := Lib.hid (show RefL w.drew B g room U S st false _ vS ru rs from H.out.drew)
  have HB2 := Lib.hid (show B ≤ w.drew.heap.size from HB.out)
  have HW := Lib.hid (show Below B w w.drew from (Below.refl _ _).drew)
  have d0 : w.drew.cell? ⟨g, 0, none⟩ = _ := H2.out.c0
  clear c0 c2 c4
  generalize w.drew = w1 at *
  go_wp2_with (at_builtin; refine wpList_append_q rfl _ _ 29 rfl B 3 3 i0 (.int .i64 0) 8 Try.underlying29 Hi.out Hz0.out Hz1.out Hz2.out rfl _ U ru rfl H2.out.hU 1 (.int .i64 x) rfl rfl (by omega) (by decide) HB2.out ?_)
  intro v' w' row' q1 q2 q3 q4 q5 q6 q7
  obtain ⟨av, cv, rfl⟩ := q1.value
  have d0' : w'.cell? ⟨g, 0, none⟩ = w1.cell? ⟨g, 0, none⟩ := World.cell?_of_block (w := w1) (a := ⟨g, 0, none⟩) (q6 g H2.out.lt (fun e => H2.out.nu e.symm))
  rw [d0] at d0'
  have f0 : w'.frozen? ⟨g, 0, none⟩ = false := by
    rw [World.frozen?_of_block (w := w1) (a := ⟨g, 0, none⟩) (q6 g H2.out.lt (fun e => H2.out.nu e.symm))]
    exact H2.out.free 0
  have HQ := Lib.hid (show Pushed w1 w' B (.slice av (U.length + 1) cv) (U ++ [.int .i64 x]) ru row' from ⟨by simpa using q1, q2, q3, q4, q5, q6, q7⟩)
  clear q1 q2 q3 q4 q5 q6 q7 d0
  go_wp2
  go_ret
  refine ⟨rfl, ?_⟩
  have hfin := ref_pushed_u H2.out HB2.out HQ.out
  exact ⟨by simpa using hfin.1, HW.out.trans hfin.2.1, fun k hk hk2 => by
    have h4 := hfin.2.2 k (Nat.lt_of_lt_of_le hk2 HW.out.size) (by have := HC.out.1; omega) (fun e => by first | (have := HC.out.2.1 k e.symm; omega) | (have := HC.out.2.2 k e.symm; omega))
    rw [h4]
    exact HWD.out k⟩

set_option maxHeartbeats 400000 in
theorem ref_room_s {w : World} {B C g room : Nat} {U S : List Value} {st : Nat} (h : RefC w B C g room U S st false) (x : Int) (hr : S.length < room) (h40 : room ≤ 1024) (hB : B ≤ w.heap.size) :
    Calls Try.prog 13 #[.pointer (some ⟨g, 0, none⟩), .int .i64 x, .bool false] w fun e w' => e = .returned (.int .i64 0) ∧ Ref w' B g room U (S ++ [.int .i64 x]) st false ∧ Below B w w' ∧ ∀ k, C ≤ k → k < w.heap.size → w'.heap[k]? = w.heap[k]? := by
  obtain ⟨vU, vS, ru, rs, h, hC⟩ := h
  have HC := Lib.hid hC
  clear hC
  have HWD := Lib.hid (show ∀ k : Nat, w.drew.heap[k]? = w.heap[k]? from fun _ => rfl)
  obtain ⟨aS, cS, rfl⟩ := h.hS.value
  have c4 := h.c4
  have c0 := h.c1
  have c2 := h.c2
  have H := Lib.hid h
  have HB := Lib.hid hB
  clear h hB
  have hr' : (S.length : Int) < ((room : Nat) : Int) := Int.ofNat_lt.2 hr
  obtain ⟨i0, hi, hz0, hz1, hz2⟩ := info_parts info_int
  have Hi := Lib.hid hi
  have Hz0 := Lib.hid hz0
  have Hz1 := Lib.hid hz1
  have Hz2 := Lib.hid hz2
  clear hi hz0 hz1 hz2
  go_enter Try.func13, Try.ntmps13
  go_wp2
  go_region
  have H2 := Lib.hid (show RefL w.drew B g room U S st false vU _ ru rs from H.out.drew)
  have HB2 := Lib.hid (show B ≤ w.drew.heap.size from HB.out)
  have HW := Lib.hid (show Below B w w.drew from (Below.refl _ _).drew)
  have d0 : w.drew.cell? ⟨g, 1, none⟩ = _ := H2.out.c1
  clear c0 c2 c4
  generalize w.drew = w1 at *
  go_wp2_with (at_builtin; refine wpList_append_q rfl _ _ 29 rfl B 3 3 i0 (.int .i64 0) 8 Try.underlying29 Hi.out Hz0.out Hz1.out Hz2.out rfl _ S rs rfl H2.out.hS 1 (.int .i64 x) rfl rfl (by omega) (by decide) HB2.out ?_)
  intro v' w' row' q1 q2 q3 q4 q5 q6 q7
  obtain ⟨av, cv, rfl⟩ := q1.value
  have d0' : w'.cell? ⟨g, 1, none⟩ = w1.cell? ⟨g, 1, none⟩ := World.cell?_of_block (w := w1) (a := ⟨g, 1, none⟩) (q6 g H2.out.lt (fun e => H2.out.ns e.symm))
  rw [d0] at d0'
  have f0 : w'.frozen? ⟨g, 1, none⟩ = false := by
    rw [World.frozen?_of_block (w := w1) (a := ⟨g, 1, none⟩) (q6 g H2.out.lt (fun e => H2.out.ns e.symm))]
    exact H2.out.free 1
  have HQ := Lib.hid (show Pushed w1 w' B (.slice av (S.length + 1) cv) (S ++ [.int .i64 x]) rs row' from ⟨by simpa using q1, q2, q3, q4, q5, q6, q7⟩)
  clear q1 q2 q3 q4 q5 q6 q7 d0
  go_wp2
  go_ret
  refine ⟨rfl, ?_⟩
  have hfin := ref_pushed_s H2.out HB2.out HQ.out
  exact ⟨by simpa using hfin.1, HW.out.trans hfin.2.1, fun k hk hk2 => by
    have h4 := hfin.2.2 k (Nat.lt_of_lt_of_le hk2 HW.out.size) (by have := HC.out.1; omega) (fun e => by first | (have := HC.out.2.1 k e.symm; omega) | (have := HC.out.2.2 k e.symm; omega))
    rw [h4]
    exact HWD.out k⟩
end Go.Proofs.Ytbgopncknlammaa
