/- tree.Dump. -/
import Derived.Test.YtfoelgkkoopheaaDoorDump
namespace Go.Proofs.YtfoelgkkoopheaaDoor
open Go.RowKit

theorem check_zero {t : Tr.T} {n : Int} (h : Tr.check t n = 0) : Tr.right t = true ∧ 0 ≤ n ∧ n < (t.nodes.length : Int) := by
  unfold Tr.check at h
  split at h
  · omega
  · rename_i h1
    split at h
    · omega
    · exact ⟨by simpa using h1, by omega, by omega⟩
theorem right_formed {t : Tr.T} (h : Tr.right t = true) : Tr.FormedTo t t.nodes.length := by
  cases hg : Tr.rightGo t 0 t.nodes (List.replicate t.nodes.length false) with
  | none => rw [Tr.right_none hg] at h; cases h
  | some kid => exact Tr.rightGo_formed hg (by simp) (fun j n hj => absurd hj (by omega))

def DumpOut (t : Tr.T) (n : Int) : List UInt8 := if Tr.check t n = 0 then Tr.dump t n.toNat else []

set_option maxRecDepth 100000 in
set_option maxHeartbeats 1000000 in
theorem dump2_calls {w : World} {P : Nat → Prop} {vt vn : Value} {t : Tr.T} (h : RdT w P vt vn t) (hP : ∀ k, P k → k < w.heap.size) (hn : t.nodes.length ≤ 1073741823) (ht : t.toks.length ≤ 1073741823) (hkids : ∀ n ∈ t.nodes, n.kids.length ≤ 1073741823) (n : Int)
    (hl : (DumpOut t n).length ≤ 1073741824) :
    Calls Tryd.prog 21 #[.agg #[vt, vn], .int .i64 n] w fun e w' => e = .returned (.tuple #[.string ⟨(DumpOut t n).toArray⟩, .int .i64 (Tr.check t n)]) ∧ Below w.heap.size w w' := by
  have hb1 : Below w.heap.size w (w.alloc (.cells #[vt, vn] 41)) := (Below.refl _ _).alloc (Nat.le_refl _) _
  have HC := Lib.hid (check_node_calls (h.keep (Keeps.of hb1 hP)) (fun k hk => Nat.lt_of_lt_of_le (hP k hk) hb1.size) hn (by omega) hkids n)
  obtain ⟨at_, ct, rfl⟩ := h.1.form
  obtain ⟨an, cn, rfl⟩ : ∃ a c, vn = .slice a t.nodes.length c := by
    obtain ⟨kvs, _, h2, _⟩ := h.2
    exact h2.form
  have HB := Lib.hid hb1
  have HH := Lib.hid (And.intro h (And.intro hP (And.intro hn (And.intro ht hkids))))
  unfold DumpOut at hl ⊢
  clear h hP hb1 hn ht hkids
  by_cases hc : Tr.check t n = 0
  · rw [if_pos hc] at hl ⊢
    rw [hc] at HC ⊢
    obtain ⟨hr, h0, h1⟩ := check_zero hc
    obtain ⟨i, rfl⟩ : ∃ i : Nat, n = i := ⟨n.toNat, by omega⟩
    rw [Int.toNat_natCast] at hl ⊢
    have HR := Lib.hid (And.intro hr (And.intro h1 hl))
    clear hc hr h0 h1 hl
    go_enter Tryd.func21, Tryd.ntmps21
    go_wp2_with fail
    refine HC.out.mono ?_
    rintro e w2 ⟨rfl, hb2⟩
    have hbx := chk_box hb2
    have c0 := cell_of_heap hbx 0 rfl
    have c1 := cell_of_heap hbx 1 rfl
    have l0 := cell_lt c0
    have hw2 : Below w.heap.size w w2 := HB.out.trans (hb2.mono HB.out.size)
    have HW := Lib.hid (And.intro hw2 hbx)
    clear hb2 hbx hw2
    dsimp only
    go_wp2_with fail
    clear c0 c1 l0
    have hwv : Below w2.heap.size w2 (w2.alloc (.cells #[.pointer none, .slice none 0 0] 83)) := (Below.refl _ _).alloc (Nat.le_refl _) _
    have hbu : IsB (w2.alloc (.cells #[.pointer none, .slice none 0 0] 83)) w2.heap.size w2.heap.size [] := Or.inl ⟨Nat.le_refl _, _, heap_alloc_new _ _, World.ownsRow_nil _ _ _ _, by simp [Value.ownBlock]⟩
    obtain ⟨h, hP, hn, ht, hkids⟩ := HH.out
    have hw0 : Below w.heap.size w (w2.alloc (.cells #[.pointer none, .slice none 0 0] 83)) := HW.out.1.trans (hwv.mono HW.out.1.size)
    refine (dump_calls (B := w2.heap.size) (b := w2.heap.size) (fun k hk => Nat.lt_of_lt_of_le (hP k hk) HW.out.1.size) (right_formed HR.out.1) hn ht hkids i _ [] (by have := HR.out.2.1; omega) (h.keep (Keeps.of hw0 hP)) hwv.size hbu (by simpa using HR.out.2.2)).mono ?_
    rintro e w3 ⟨rfl, hi3, hb3, hn3⟩
    have H3 := Lib.hid (And.intro hi3 (And.intro hb3 (And.intro hw0 hwv)))
    clear h hP hn ht hkids hw0 hwv hbu hi3 hb3 hn3
    dsimp only
    go_wp2_with fail
    refine (Tryd.Builder_String_any w2.heap.size w2.heap.size (Tr.dump t i) _ (by have := H3.out.1; rwa [List.nil_append] at this) (Nat.le_trans H3.out.2.2.2.size H3.out.2.1.size)).mono ?_
    rintro e w4 ⟨rfl, hb4⟩
    have H4 := Lib.hid hb4
    clear hb4
    dsimp only
    go_wp2_with fail
    go_ret2
    exact ⟨rfl, H3.out.2.2.1.trans ((H3.out.2.1.trans H4.out).mono HW.out.1.size)⟩
  · rw [if_neg hc]
    have hc' : (Tr.check t n != 0) = true := by simp [hc]
    generalize Tr.check t n = c at *
    clear hl hc
    go_enter Tryd.func21, Tryd.ntmps21
    go_wp2_with fail
    refine HC.out.mono ?_
    rintro e w2 ⟨rfl, hb2⟩
    have HB2 := Lib.hid hb2
    clear hb2
    dsimp only
    go_wp2_with fail
    go_ret2
    exact ⟨rfl, HB.out.trans (HB2.out.mono HB.out.size)⟩
end Go.Proofs.YtfoelgkkoopheaaDoor
