/- The tree's builder: Node. -/
import Derived.Test.YtfoelgkkoopheaaDoorBuildN
import Derived.Deep.RegionHeld3
namespace Go.Proofs.YtfoelgkkoopheaaDoor
open Go.RowKit

def NodeSays (w : World) (B b : Nat) (vt vn : Value) (t : Tr.T) (used : Nat) (kind : Int) (l : List Int) (e : Ending) (w' : World) : Prop :=
  if l.any (badKid t.nodes.length) then e = .returned (.int .i64 (-1)) ∧ BuildI w' B b vt vn t used ∧ Grew w w' b vn vn
  else ∃ vn', e = .returned (.int .i64 t.nodes.length) ∧ BuildI w' B b vt vn' ⟨t.toks, t.nodes ++ [⟨kind, -1, l⟩]⟩ used ∧ Grew w w' b vn vn'

theorem BuildI.own {w w' : World} {B b : Nat} {vt vn : Value} {t : Tr.T} {used : Nat} (h : BuildI w B b vt vn t used) {base : Nat} {e : TypeId} {size n : Nat} {v : Value} {xs : List Value} (ho : w'.ownsRow base e size v n xs) (hb : w.heap.size ≤ base) :
    RdS w' (BP w' B b vn) size v n xs := by
  refine (RdS.own ho).imp fun k hk => ⟨?_, ?_, ?_, hk.2.2⟩
  · have := h.base; have := lt_heap h.cell; omega
  · have := lt_heap h.cell; omega
  · obtain ⟨kvs, _, hk2, _⟩ := h.nodes
    intro e
    have := (hk2.lt k e).2
    omega

theorem cell_lt {w : World} {b j : Nat} {u : Value} (h : w.cell? ⟨b, j, none⟩ = some u) : b < w.heap.size := by
  rcases Nat.lt_or_ge b w.heap.size with h1 | h1
  · exact h1
  · simp [World.cell?, Array.getElem?_eq_none h1] at h
theorem BuildI.far {w : World} {B b : Nat} {vt vn : Value} {t : Tr.T} {used : Nat} (h : BuildI w B b vt vn t used) : w.heap.size ≠ b ∧ vn.ownBlock ≠ some w.heap.size := by
  refine ⟨by have := lt_heap h.cell; omega, ?_⟩
  obtain ⟨kvs, _, hk2, _⟩ := h.nodes
  intro e
  have := (hk2.lt _ e).2
  omega
theorem Grew.cell {w w' : World} {b : Nat} {vn vn' : Value} (h : Grew w w' b vn vn') {c j : Nat} {u : Value} (hc : w.cell? ⟨c, j, none⟩ = some u) (h1 : c ≠ b) (h2 : vn.ownBlock ≠ some c) : w'.cell? ⟨c, j, none⟩ = some u := by
  rw [← hc]
  exact World.cell?_of_block (a := ⟨c, j, none⟩) (h.1.block c (cell_lt hc) (by rintro (e | e) <;> contradiction))
theorem BuildI.past {w w' : World} {B b : Nat} {vt vn : Value} {t : Tr.T} {used : Nat} (h : BuildI w B b vt vn t used) (hb : Below w.drew.heap.size w.drew w') : BuildI w' B b vt vn t used := h.keep hb.size fun k hk _ => hb.block k hk

set_option maxRecDepth 100000 in
theorem node_calls {w : World} {B b : Nat} {vt vn : Value} {t : Tr.T} {used : Nat} (h : BuildI w B b vt vn t used) (hn : t.nodes.length ≤ 1073741823) {P : Nat → Prop} {v : Value} {l : List Int} (hk : RdS w P 1 v l.length (intCells l))
    (hP : ∀ k, P k → k < w.heap.size) (hl : l.length ≤ 1073741824) (kind : Int) :
    Calls Tryd.prog 12 #[.pointer (some ⟨b, 0, none⟩), .int .i64 kind, v] w (NodeSays w B b vt vn t used kind l) := by
  have hb1 : Below w.heap.size w (w.alloc (.cells #[.pointer (some ⟨b, 0, none⟩)] 30)) := (Below.refl _ _).alloc (Nat.le_refl _) _
  have h1 := h.keep (w' := w.alloc (.cells #[.pointer (some ⟨b, 0, none⟩)] 30)) hb1.size fun k hk _ => hb1.block k hk
  have hk1 := hk.keep (Keeps.of hb1 hP)
  obtain ⟨kvs, _, hk2, _⟩ := h.nodes
  obtain ⟨an, cn, rfl⟩ := ownsRow_form hk2
  have e0 : (w.alloc (.cells #[.pointer (some ⟨b, 0, none⟩)] 30)).cell? ⟨w.heap.size, 0, none⟩ = some (.pointer (some ⟨b, 0, none⟩)) := cell_of_heap (heap_alloc_new _ _) 0 rfl
  have e1 := cell_of_heap h1.cell 1 rfl
  have HC := Lib.hid (contains_node hk1 hl (show t.nodes.length ≤ 1073741824 by omega) e0 e1)
  have HG := Lib.hid (Grew.of (b := b) (vn := .slice an t.nodes.length cn) hb1)
  have HH := Lib.hid h1
  have HK := Lib.hid hk1
  have HN := Lib.hid (And.intro hn hl)
  have HFAR := Lib.hid h.far
  obtain ⟨al, cl, rfl⟩ := hk.form
  clear h hk hk1 hk2 h1 hb1 e1 hn hl hP
  unfold NodeSays
  cases hbad : l.any (badKid t.nodes.length)
  · rw [hbad] at HC
    clear hbad
    simp only [Bool.false_eq_true, if_false]
    go_enter Tryd.func12, Tryd.ntmps12
    go_wp2_with (go_at_call 30; refine HC.out.mono ?_; rintro e w2 ⟨rfl, rfl⟩)
    generalize w.alloc (.cells #[.pointer (some ⟨b, 0, none⟩)] 30) = w1 at *
    generalize w.heap.size = c at *
    go_region_held3 (fun w' => w'.cell? ⟨c, 0, none⟩ = some (.pointer (some ⟨b, 0, none⟩))) (first | exact e0 | exact e2 | exact e3 | go_keep)
      (first
        | (go_at_call 32; refine (clone_int (w := w1.drew) HK.out HN.out.2 (ints_one l)).mono ?_; rintro e w2 ⟨v2, rfl, ho, hb⟩; have e2 : w2.cell? ⟨c, 0, none⟩ = some (.pointer (some ⟨b, 0, none⟩)) := (hb.cell (p := ⟨c, 0, none⟩) (cell_lt e0)).trans e0; obtain ⟨a2, c2, rfl⟩ := ownsRow_form ho; have HO := Lib.hid ho; have HB := Lib.hid hb; clear ho hb)
        | (go_at_call 29; refine (add_calls (HH.out.past HB.out) HN.out.1 ⟨kind, -1, l⟩ _ (HH.out.own HO.out (Nat.le_refl _))).mono ?_; rintro e w3 ⟨vn', rfl, q1, q2⟩; have e3 : w3.cell? ⟨c, 0, none⟩ = some (.pointer (some ⟨b, 0, none⟩)) := q2.cell e2 HFAR.out.1 HFAR.out.2; have Q1 := Lib.hid q1; have Q2 := Lib.hid q2; clear q1 q2))
    go_wp2
    go_ret
    exact ⟨vn', rfl, Q1.out, (HG.out.trans (Grew.of (Below.drew (Below.refl _ _)))).trans ((Grew.of HB.out).trans Q2.out)⟩
  · rw [hbad] at HC
    clear hbad
    simp only [if_true]
    go_enter Tryd.func12, Tryd.ntmps12
    go_wp2_with (go_at_call 30; refine HC.out.mono ?_; rintro e w2 ⟨rfl, rfl⟩)
    go_ret
    exact ⟨rfl, HH.out, HG.out⟩
end Go.Proofs.YtfoelgkkoopheaaDoor
