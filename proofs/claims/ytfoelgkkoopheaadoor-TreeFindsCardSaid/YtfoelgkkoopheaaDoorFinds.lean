/- TreeFinds: the walk. -/
import Derived.Test.YtfoelgkkoopheaaDoorAnchor
namespace Go.Proofs.YtfoelgkkoopheaaDoor
open Go.RowKit

def FiRel (w1 : World) (kind : Int) (ns : List Tr.Nd) (l : List Int) (g : Nat) (k : Nat) (v6 v20 : Value) (wr : World) : Prop :=
  ∃ j m : Nat, v20 = .int .i64 j ∧ v6 = .int .i64 m ∧ k = ns.length - j ∧ j ≤ ns.length ∧ m ≤ l.length ∧ l.drop m = Tr.allGo kind j (ns.drop j) ∧ Below g w1 wr

theorem allGo_len (kind : Int) : ∀ (ns : List Tr.Nd) (i : Nat), (Tr.allGo kind i ns).length ≤ ns.length
  | [], _ => by simp [Tr.allGo]
  | n :: ns, i => by
    have := allGo_len kind ns (i + 1)
    unfold Tr.allGo
    split
    · simp only [List.length_cons]; omega
    · simp only [List.length_cons]; omega
theorem drop_cons {α : Type} {l r : List α} {m : Nat} {x : α} (h : l.drop m = x :: r) : l[m]? = some x ∧ l.drop (m + 1) = r := by
  have hlt : m < l.length := by
    rcases Nat.lt_or_ge m l.length with h1 | h1
    · exact h1
    · rw [List.drop_eq_nil_of_le h1] at h; cases h
  rw [List.drop_eq_getElem_cons hlt] at h
  injection h with h1 h2
  exact ⟨by rw [List.getElem?_eq_getElem hlt, h1], h2⟩
set_option maxRecDepth 100000 in
set_option maxHeartbeats 2000000 in
theorem finds_calls {w : World} {P : Nat → Prop} {vt vn : Value} {t : Tr.T} (h : RdT w P vt vn t) (hP : ∀ k, P k → k < w.heap.size) (kind : Int) :
    Calls Tryd.prog 4 #[.agg #[vt, vn], .int .i64 kind] w fun e w' => e = .returned (.bool true) ∧ Below w.heap.size w w' := by
  obtain ⟨at_, ct, rfl⟩ := h.1.form
  obtain ⟨an, cn, rfl⟩ : ∃ a c, vn = .slice a t.nodes.length c := by
    obtain ⟨kvs, _, h2, _⟩ := h.2
    exact h2.form
  have HH := Lib.hid (And.intro h hP)
  have hb1 : Below w.heap.size w (w.alloc (.cells #[.slice at_ t.toks.length ct, .slice an t.nodes.length cn] 41)) := (Below.refl _ _).alloc (Nat.le_refl _) _
  have HB1 := Lib.hid hb1
  clear h hP hb1
  go_enter Tryd.func4, Tryd.ntmps4
  go_wp2_with fail
  refine (anchor_calls _).mono ?_
  rintro e w1 ⟨rfl, hb1⟩
  have hbx := chk_box hb1
  have c0 := cell_of_heap hbx 0 rfl
  have c1 := cell_of_heap hbx 1 rfl
  have l0 := cell_lt c0
  have HW1 := Lib.hid (And.intro (HB1.out.trans (hb1.mono HB1.out.size)) hbx)
  clear hb1 hbx
  dsimp only
  go_wp2_with fail
  refine (small_calls (HH.out.1.keep (Keeps.of HW1.out.1 HH.out.2)) (fun k hk => Nat.lt_of_lt_of_le (HH.out.2 k hk) HW1.out.1.size)).mono ?_
  rintro e w2 ⟨rfl, hb2⟩
  have hbx := anc_box HW1.out.2 hb2
  have HW2 := Lib.hid (And.intro (HW1.out.1.trans (hb2.mono HW1.out.1.size)) hbx)
  clear hb2 hbx c0 c1 l0
  cases hsm : smallT t
  · clear hsm
    dsimp only
    go_wp2_with fail
    go_ret
    exact ⟨rfl, HW2.out.1⟩
  · have hlen : t.toks.length ≤ 100 ∧ t.nodes.length ≤ 200 := by
      simp only [smallT, Bool.and_eq_true, decide_eq_true_eq] at hsm
      exact ⟨hsm.1.1.1, hsm.1.1.2⟩
    have hn' : (t.nodes.length : Int) ≤ 200 := by omega
    have HLN := Lib.hid hlen
    clear hsm hlen
    have c0 := cell_of_heap HW2.out.2 0 rfl
    have c1 := cell_of_heap HW2.out.2 1 rfl
    have l0 := cell_lt c0
    dsimp only
    go_wp2_with fail
    refine (all_calls (HH.out.1.keep (Keeps.of HW2.out.1 HH.out.2)) (fun k hk => Nat.lt_of_lt_of_le (HH.out.2 k hk) HW2.out.1.size) (by have := HLN.out.2; omega) kind).mono ?_
    rintro e w3 ⟨v, rfl, ho3, hb3⟩
    obtain ⟨l, hl⟩ : ∃ l, Tr.all t kind = l := ⟨_, rfl⟩
    have hl0 : l = Tr.allGo kind 0 t.nodes := hl.symm
    rw [hl] at ho3
    obtain ⟨av, cv, rfl⟩ := ownsRow_form ho3
    have hbx := anc_box HW2.out.2 hb3
    have hll : l.length ≤ 200 := by have := allGo_len kind t.nodes 0; rw [← hl0] at this; have := HLN.out.2; omega
    have hll' : (l.length : Int) ≤ 200 := by omega
    have HW3 := Lib.hid (And.intro (HW2.out.1.trans (hb3.mono HW2.out.1.size)) (And.intro hbx (And.intro ho3 hl0)))
    clear c0 c1 l0 hb3 hbx ho3 hl hl0
    have c0 := cell_of_heap HW3.out.2.1 0 rfl
    have c1 := cell_of_heap HW3.out.2.1 1 rfl
    have l0 := cell_lt c0
    dsimp only
    go_wp2_with fail
    go_loopg [6, 20] t.nodes.length (fun k v6 v20 wr => FiRel w3 kind t.nodes l w3.heap.size k v6 v20 wr)
    case atStart => exact ⟨0, 0, rfl, rfl, rfl, Nat.zero_le _, Nat.zero_le _, by rw [HW3.out.2.2.2]; rfl, Below.refl _ _⟩
    case round =>
      obtain ⟨j, m, rfl, rfl, hk, hj, hm, hd, hb⟩ := hrel
      have HR := Lib.hid (And.intro hk (And.intro hd hb))
      have hm' : (m : Int) ≤ (l.length : Int) := by omega
      clear hk hd hb
      by_cases hlt : j < t.nodes.length
      · have hlt' : (j : Int) < (t.nodes.length : Int) := by omega
        obtain ⟨n, hnj⟩ : ∃ n, t.nodes[j]? = some n := ⟨_, List.getElem?_eq_getElem hlt⟩
        have hbw : Below w.heap.size w wr := HW3.out.1.trans (HR.out.2.2.mono HW3.out.1.size)
        obtain ⟨b, off, c', kv, he, hbB, hrg, hkv⟩ := (HH.out.1.2.keep (Keeps.of hbw HH.out.2)).node hnj
        obtain ⟨rfl, rfl⟩ : an = some ⟨b, off, none⟩ ∧ cn = c' := by
          simp only [Value.slice.injEq] at he
          exact ⟨he.1, he.2.2⟩
        obtain ⟨ka, kc, rfl⟩ := hkv.form
        have HG := Lib.hid hrg
        have HA := Lib.hid (all_step kind hnj)
        clear hrg hnj hkv he hbw hbB
        obtain ⟨nk, ntok, nkids⟩ := n
        simp only at HA HG
        by_cases hkind : nk = kind
        · have hkk : (nk != kind) = false := by simp [hkind]
          have HKI := Lib.hid hkind
          clear hkind
          have hd := HR.out.2.1
          rw [HA.out, if_pos HKI.out] at hd
          obtain ⟨hlm, hdm⟩ := drop_cons hd
          have hmlt : (m : Int) < (l.length : Int) := by have := Tr.get_lt hlm; omega
          obtain ⟨gl, rfl, hcl⟩ := rt_leaf (ownsRow_below HW3.out.2.2.1 HR.out.2.2) hlm
          have HD := Lib.hid hdm
          have lgl := cell_lt hcl
          clear hd hlm hdm
          go_wp2_with (refine wpList_load_mid rfl 38 _ rfl b (off + j * 3) rfl _ _ HG.out Tryd.underlying38 rfl rfl ?_)
          go_roundg (t.nodes.length - (j + 1))
          case measure => have := HR.out.1; omega
          case rel => exact ⟨j + 1, m + 1, by go_num, by go_num, rfl, by omega, by omega, HD.out, HR.out.2.2.alloc HR.out.2.2.size _⟩
        · have hkk : (nk != kind) = true := by simp [hkind]
          have HKI := Lib.hid hkind
          clear hkind
          go_wp2_with (refine wpList_load_mid rfl 38 _ rfl b (off + j * 3) rfl _ _ HG.out Tryd.underlying38 rfl rfl ?_)
          go_roundg (t.nodes.length - (j + 1))
          case measure => have := HR.out.1; omega
          case rel =>
            refine ⟨j + 1, m, by go_num, rfl, rfl, by omega, by omega, ?_, HR.out.2.2.alloc HR.out.2.2.size _⟩
            rw [HR.out.2.1, HA.out, if_neg HKI.out]
      · obtain rfl : j = t.nodes.length := by omega
        have hd := HR.out.2.1
        rw [List.drop_length] at hd
        obtain rfl : m = l.length := by
          have : l.drop m = [] := hd
          rw [List.drop_eq_nil_iff] at this
          omega
        clear hd
        go_wp2_with fail
        go_ret
        exact ⟨rfl, HW3.out.1.trans (HR.out.2.2.mono HW3.out.1.size)⟩
end Go.Proofs.YtfoelgkkoopheaaDoor
