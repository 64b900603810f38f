/- tree.Right: is a tree right? -/
import Derived.Test.YtfoelgkkoopheaaDoorLeaves
import Derived.Test.YtfoelgkkoopheaaDoorRightP
import Derived.Deep.RegionHeld3
namespace Go.Proofs.YtfoelgkkoopheaaDoor
open Go.RowKit

theorem run_make_rowN {P : Program} (t e : TypeId) (i : TypeInfo) (z : Value) (ht : P.underlying t = some (.slice e)) (hi : P.info? e = some i) (hz : i.zero = some z)
    (kl kc : IntKind) (n c : Nat) (hnc : n ≤ c) (hbytes : i.bytes * c ≤ 281474976710656) (h63 : c ≤ 9223372036854775807) (w : World) :
    (Instr.makeSlice t (.int kl (n : Int)) (.int kc (c : Int))).run P w = .ok (.slice (some ⟨w.heap.size, 0, none⟩) n c) (w.alloc (.cells (madeCells z.cells (c * i.size)) e)) := by
  have hb : (i.bytes : Int) * (c : Int) ≤ 281474976710656 := by
    have h : ((i.bytes * c : Nat) : Int) ≤ 281474976710656 := by omega
    rwa [Int.natCast_mul] at h
  have hr := run_make (P := P) w t e i z ht hi hz kl kc n c (by omega) (by omega) hb (by omega)
  simp only [Int.toNat_natCast] at hr
  exact hr
theorem info_bool : (Tryd.prog.info? 4).map (fun i => (i.zero, i.size, i.bytes)) = some (some (.bool false), 1, 1) := by kernel_rfl
theorem made_bools (n : Nat) : madeCells (Value.bool false).cells (n * 1) = (boolCells (List.replicate n false)).toArray := by
  apply Array.ext
  · simp [madeCells, boolCells]
  · intro j h1 h2
    simp [madeCells, boolCells, Value.cells, Nat.mod_one]
theorem make_bools (n : Nat) (hn : n ≤ 1073741824) (w : World) : (Instr.makeSlice 75 (.int .i64 (n : Int)) (.int .i64 (n : Int))).run Tryd.prog w = .ok (.slice (some ⟨w.heap.size, 0, none⟩) n n) (w.alloc (.cells (boolCells (List.replicate n false)).toArray 4)) := by
  obtain ⟨i0, hi, hz0, hz1, hz2⟩ := info_split info_bool
  have h := run_make_rowN (P := Tryd.prog) 75 4 i0 (.bool false) Tryd.underlying75 hi hz0 .i64 .i64 n n (Nat.le_refl _) (by rw [hz2]; omega) (by omega) w
  rw [hz1, made_bools] at h
  exact h

def RtRel (w : World) (vt vn : Value) (t : Tr.T) (nl : Nat) (k : Nat) (v18 : Value) (wr : World) : Prop :=
  ∃ (j : Nat) (kid : List Bool), v18 = .int .i64 j ∧ k = nl - j ∧ j ≤ nl ∧ kid.length = nl ∧ wr.heap[w.heap.size + 1]? = some (.cells (boolCells kid).toArray 4 (0, 0)) ∧ wr.heap[w.heap.size]? = some (.cells #[vt, vn] 41 (0, 0)) ∧
    Below w.heap.size w wr ∧ Tr.rightGo t j (t.nodes.drop j) kid = Tr.rightGo t 0 t.nodes (List.replicate t.nodes.length false)
def RtIn (w : World) (vt vn : Value) (nl : Nat) (kid0 : List Bool) (kids : List Int) (k : Nat) (v31 : Value) (wr : World) : Prop :=
  ∃ (j : Nat) (kid : List Bool), v31 = .int .i64 j ∧ k = kids.length - j ∧ j ≤ kids.length ∧ kid.length = nl ∧ wr.heap[w.heap.size + 1]? = some (.cells (boolCells kid).toArray 4 (0, 0)) ∧ wr.heap[w.heap.size]? = some (.cells #[vt, vn] 41 (0, 0)) ∧
    Below w.heap.size w wr ∧ Tr.marks kid (kids.drop j) = Tr.marks kid0 kids

theorem rt_start (w : World) (vt vn : Value) (t : Tr.T) (nl : Nat) (hnl : t.nodes.length = nl) :
    RtRel w vt vn t nl nl (.int .i64 0) ((w.alloc (.cells #[vt, vn] 41)).alloc (.cells (boolCells (List.replicate nl false)).toArray 4)) := by
  refine ⟨0, List.replicate nl false, rfl, rfl, Nat.zero_le _, by simp, ?_, ?_, ((Below.refl _ _).alloc (Nat.le_refl _) _).alloc (by rw [← size_alloc1]; omega) _, ?_⟩
  · exact new_at _ _ _ (size_alloc1 _ _)
  · rw [Below.heap_alloc _ _ _ (by rw [← size_alloc1]; omega)]
    exact new_at _ _ _ rfl
  · rw [hnl]
    rfl

theorem root_succ (w : World) (vt : Value) (a : Option Addr) (n c : Nat) (hn : n + 1 ≤ 1073741824) :
    Calls Tryd.prog 18 #[.agg #[vt, .slice a (n + 1) c]] w fun e w' => e = .returned (.int .i64 (n : Int)) ∧ w.alloc (.cells #[vt, .slice a (n + 1) c] 41) = w' := by
  refine (root_len w vt a (n + 1) c hn).mono ?_
  rintro e w' ⟨rfl, rfl⟩
  refine ⟨?_, rfl⟩
  rw [show ((n + 1 : Nat) : Int) - 1 = (n : Int) by omega]
theorem rt_contains {w : World} {g m : Nat} {kid : List Bool} (h : w.heap[g]? = some (.cells (boolCells kid).toArray 4 (0, 0))) (hm : m ≤ kid.length) (hn : m ≤ 1073741824) {c : Nat} (hc : m ≤ c := by omega) :
    Calls Tryd.prog 37 #[.slice (some ⟨g, 0, none⟩) m c, .bool false] w fun e w' => e = .returned (.bool ((kid.take m).contains false)) ∧ w = w' := by
  have hl : (kid.take m).length = m := by simp; omega
  refine contains_bool (P := fun _ => True) (v := .slice (some ⟨g, 0, none⟩) m c) (l := kid.take m) ⟨by simp [boolCells], some ⟨g, 0, none⟩, c, by rw [hl], by omega, Or.inr ⟨g, 0, rfl, Or.inr trivial, ?_⟩⟩ (by omega)
  intro j v hj
  rw [Nat.zero_add]
  refine cell_of_heap h j ?_
  have hjm : j < m := by
    have := Tr.get_lt hj
    simp only [boolCells, List.length_map] at this
    omega
  rw [← hj]
  simp [boolCells, hjm]
theorem rt_after {w V w2 : World} {cs cs2 : Array Value} {T T2 : TypeId} (hV : Below w.heap.size w V) (ht : V.heap[w.heap.size]? = some (.cells cs T (0, 0))) (hb : Below (V.alloc (.cells cs2 T2)).drew.heap.size (V.alloc (.cells cs2 T2)).drew w2) :
    Below w.heap.size w w2 ∧ w2.heap[w.heap.size]? = some (.cells cs T (0, 0)) := by
  have hlt := lt_heap ht
  have h2 : Below (V.alloc (.cells cs2 T2)).heap.size (V.alloc (.cells cs2 T2)).drew w2 := hb
  have h3 : Below w.heap.size (V.alloc (.cells cs2 T2)).drew w2 := h2.mono (by rw [← size_alloc1]; omega)
  refine ⟨((hV.alloc hV.size _).drew).trans h3, ?_⟩
  rw [h2.block _ (by rw [← size_alloc1]; omega)]
  show (V.alloc _).heap[w.heap.size]? = _
  rw [Below.heap_alloc _ _ _ hlt]
  exact ht
theorem rt_leaf {w : World} {B n c : Nat} {a : Option Addr} {l : List Int} (h : w.ownsRow B 3 1 (.slice a n c) n (intCells l)) {i : Nat} {x : Int} (hx : l[i]? = some x) : ∃ g, a = some ⟨g, 0, none⟩ ∧ w.cell? ⟨g, i, none⟩ = some (.int .i64 x) := by
  have hlt := Tr.get_lt hx
  have hl := h.1
  simp only [intCells, List.length_map] at hl
  obtain ⟨g, cap, he, _, _⟩ := h.form (by omega)
  simp only [Value.slice.injEq] at he
  obtain ⟨rfl, _, _⟩ := he
  refine ⟨g, rfl, ?_⟩
  have h2 := h.cells (g := g) rfl i (.int .i64 x) (by simp [intCells, hx])
  rwa [Addr.add_mid, Nat.zero_add] at h2
theorem bools_set (l : List Bool) (y : Nat) (v : Bool) : (boolCells (l.set y v)).toArray = (boolCells l).toArray.setIfInBounds y (.bool v) := by
  simp [boolCells, List.map_set]
/-- A kid, read in a later world. -/
theorem rt_kid {w wr w3 : World} {P : Nat → Prop} {vn : Value} {ns : List Tr.Nd} (_h : RdN w P vn ns) {j : Nat} {n : Tr.Nd} (_hn : ns[j]? = some n) {ka : Option Addr} {kc : Nat} (hkv : RdW wr P 1 (.slice ka n.kids.length kc) n.kids.length (intCells n.kids)) (hP : ∀ k, P k → k < w.heap.size) (hb : Below w.heap.size w wr)
    (hkp : Keeps P w w3) {i : Nat} {x : Int} (hx : n.kids[i]? = some x) : ∃ b o, ka = some ⟨b, o, none⟩ ∧ w3.cell? ⟨b, o + i, none⟩ = some (.int .i64 x) := by
  have hlt := Tr.get_lt hx
  have hkp2 : Keeps P wr w3 := fun k hk => (hkp k hk).trans (hb.block k (hP k hk)).symm
  obtain ⟨_, a, c, he, _, hd⟩ := hkv.keep hkp2
  simp only [Value.slice.injEq] at he
  obtain ⟨rfl, _, _⟩ := he
  rcases hd with ⟨_, h0⟩ | ⟨b, o, rfl, _, hr⟩
  · omega
  · exact ⟨b, o, rfl, hr i _ (by simp [intCells, hx])⟩
theorem rt_inner {w wr w2 : World} {x y z : Value} {T T1 T2 : TypeId} {cs tb : Array Value} (hg : wr.heap[w.heap.size + 1]? = some (.cells cs T1 (0, 0))) (ht : wr.heap[w.heap.size]? = some (.cells tb T2 (0, 0))) (hb : Below w.heap.size w wr)
    (hb2 : Below (wr.alloc (.cells #[x, y, z] T)).heap.size (wr.alloc (.cells #[x, y, z] T)) w2) : w2.heap[w.heap.size + 1]? = some (.cells cs T1 (0, 0)) ∧ w2.heap[w.heap.size]? = some (.cells tb T2 (0, 0)) ∧ Below w.heap.size w w2 := by
  have h : Below wr.heap.size wr w2 := ((Below.refl wr.heap.size wr).alloc (Nat.le_refl _) _).trans (hb2.mono (by rw [← size_alloc1]; omega))
  exact ⟨(h.block _ (lt_heap hg)).trans hg, (h.block _ (lt_heap ht)).trans ht, hb.trans (h.mono hb.size)⟩

set_option maxRecDepth 100000 in
set_option maxHeartbeats 2000000 in
theorem right_calls {w : World} {P : Nat → Prop} {vt vn : Value} {t : Tr.T} (h : RdT w P vt vn t) (hP : ∀ k, P k → k < w.heap.size) (hn : t.nodes.length ≤ 1073741823) (ht : t.toks.length ≤ 1073741824) (hkids : ∀ n ∈ t.nodes, n.kids.length ≤ 1073741823) :
    Calls Tryd.prog 19 #[.agg #[vt, vn]] w fun e w' => e = .returned (.bool (Tr.right t)) ∧ Below w.heap.size w w' := by
  obtain ⟨at_, ct, rfl⟩ := h.1.form
  obtain ⟨an, cn, rfl⟩ : ∃ a c, vn = .slice a t.nodes.length c := by
    obtain ⟨kvs, _, h2, _⟩ := h.2
    exact h2.form
  have HH := Lib.hid (And.intro h (And.intro hP (And.intro ht hkids)))
  obtain ⟨nl, hnl⟩ : ∃ nl, t.nodes.length = nl := ⟨_, rfl⟩
  rw [hnl] at HH hn ⊢
  have hn' : (nl : Int) ≤ 1073741823 := by omega
  have hmk := make_bools nl (by omega)
  have HNL := Lib.hid hnl
  have ht' : (t.toks.length : Int) ≤ 1073741824 := by omega
  clear h hP ht hkids hnl
  go_enter Tryd.func19, Tryd.ntmps19
  go_wp2_with fail
  go_loopg [18] nl (fun k v18 wr => RtRel w (.slice at_ t.toks.length ct) (.slice an nl cn) t nl k v18 wr)
  case atStart => exact rt_start _ _ _ _ _ HNL.out
  case round =>
    clear hmk
    obtain ⟨j, kid, rfl, hk, hj, hkl, hg, htb, hb, hgo⟩ := hrel
    have HR := Lib.hid (And.intro hk (And.intro hkl (And.intro hg (And.intro htb (And.intro hb hgo)))))
    by_cases hlt : j < nl
    · have hlt' : (j : Int) < (nl : Int) := by omega
      obtain ⟨n, hnj⟩ : ∃ n, t.nodes[j]? = some n := ⟨_, List.getElem?_eq_getElem (by rw [HNL.out]; exact hlt)⟩
      obtain ⟨b, off, c', kv, he, hbB, hrg, hkv⟩ := (HH.out.1.2.keep (Keeps.of hb HH.out.2.1)).node hnj
      obtain ⟨rfl, rfl⟩ : an = some ⟨b, off, none⟩ ∧ cn = c' := by
        simp only [Value.slice.injEq] at he
        exact ⟨he.1, he.2.2⟩
      have t0 := cell_of_heap htb 0 rfl
      have t1 := cell_of_heap htb 1 rfl
      have l0 := cell_lt t0
      obtain ⟨ka, kc, rfl⟩ := hkv.form
      have hnk := HH.out.2.2.2 n (List.mem_of_getElem? hnj)
      have hba : Below wr.heap.size wr (wr.alloc (.cells #[.int .i64 n.kind, .int .i64 n.tok, .slice ka n.kids.length kc] 38)) := (Below.refl _ _).alloc (Nat.le_refl _) _
      have HF := Lib.hid (formed_calls (at_ := at_) (ct := ct) (vn := .slice (some ⟨b, off, none⟩) nl cn) (t := t) (hkv.keep (Keeps.of hba fun k hk => Nat.lt_of_lt_of_le (HH.out.2.1 k hk) hb.size)) (fun k hk => Nat.lt_of_lt_of_le (Nat.lt_of_lt_of_le (HH.out.2.1 k hk) hb.size) hba.size) (by omega) HH.out.2.2.1 j)
      have HG := Lib.hid hrg
      have HN := Lib.hid hnj
      have HKR : Hid (∀ (w3 : World), Keeps P w w3 → ∀ (i : Nat) (x : Int), n.kids[i]? = some x → ∃ b o, ka = some ⟨b, o, none⟩ ∧ w3.cell? ⟨b, o + i, none⟩ = some (.int .i64 x)) := fun w3 hkp i x hx => rt_kid HH.out.1.2 hnj hkv HH.out.2.1 hb hkp hx
      clear hk hkl hg htb hb hgo hrg hkv hnj hba hnk he
      cases hf : Tr.formed t j n
      · have HF2 := Lib.hid (hf ▸ HF.out)
        have HFF := Lib.hid hf
        clear HF hf
        go_wp2_with (first
          | (refine wpList_load_mid rfl 38 _ rfl b (off + j * 3) rfl _ _ HG.out Tryd.underlying38 rfl rfl ?_)
          | (go_at_call 36; refine HF2.out.mono ?_; rintro e w2 ⟨rfl, hb2⟩; have HB2 := Lib.hid hb2; clear hb2))
        go_ret
        refine ⟨?_, HR.out.2.2.2.2.1.trans (((Below.refl w.heap.size wr).alloc HR.out.2.2.2.2.1.size _).trans (HB2.out.mono (Nat.le_trans HR.out.2.2.2.2.1.size ((Below.refl wr.heap.size wr).alloc (Nat.le_refl _) _).size)))⟩
        rw [Tr.right_none (by rw [← HR.out.2.2.2.2.2, Tr.rightGo_bad HN.out kid HFF.out])]
        rfl
      · have HF2 := Lib.hid (hf ▸ HF.out)
        have HFF := Lib.hid hf
        clear HF hf
        go_wp2_with (first
          | (refine wpList_load_mid rfl 38 _ rfl b (off + j * 3) rfl _ _ HG.out Tryd.underlying38 rfl rfl ?_)
          | (go_at_call 36; refine HF2.out.mono ?_; rintro e w2 ⟨rfl, hb2⟩; have e2 := cell_of_heap (done_node hb2) 2 rfl; have HB2 := Lib.hid hb2; clear hb2))
        have HI := Lib.hid (rt_inner (x := .int .i64 n.kind) (y := .int .i64 n.tok) (z := .slice ka n.kids.length kc) HR.out.2.2.1 HR.out.2.2.2.1 HR.out.2.2.2.2.1 HB2.out)
        have hnk := HH.out.2.2.2 n (List.mem_of_getElem? HN.out)
        have hnk' : (n.kids.length : Int) ≤ 1073741823 := by omega
        clear t0 t1 l0 e2 HG
        generalize wr = w0 at *
        go_loopg [31] n.kids.length (fun k v31 wr => RtIn w (.slice at_ t.toks.length ct) (.slice (some ⟨b, off, none⟩) nl cn) nl kid n.kids k v31 wr)
        case atStart => exact ⟨0, kid, rfl, rfl, Nat.zero_le _, HR.out.2.1, HI.out.1, HI.out.2.1, HI.out.2.2, rfl⟩
        case round =>
          obtain ⟨i, kid2, rfl, hk, hi, hkl, hg, htb, hb, hmk⟩ := hrel
          have HS := Lib.hid (And.intro hk (And.intro hkl (And.intro hg (And.intro htb (And.intro hb hmk)))))
          by_cases hlti : i < n.kids.length
          · have hlti' : (i : Int) < (n.kids.length : Int) := by omega
            obtain ⟨x, hx⟩ : ∃ x, n.kids[i]? = some x := ⟨_, List.getElem?_eq_getElem hlti⟩
            have hxk := Tr.formed_kid HFF.out hx
            obtain ⟨y, rfl⟩ : ∃ y : Nat, x = y := ⟨x.toNat, by omega⟩
            have hyn : y < nl := by omega
            have hyn' : (y : Int) < (nl : Int) := by omega
            obtain ⟨v, hv⟩ : ∃ v, kid2[y]? = some v := ⟨_, List.getElem?_eq_getElem (by omega)⟩
            obtain ⟨bk, ok, rfl, hkr⟩ := HKR.out wr (Keeps.of hb HH.out.2.1) i _ hx
            have cy := cell_of_heap hg y (u := .bool v) (by simp [boolCells, hv])
            have fy := frozen_of_heap hg y
            have HX := Lib.hid (And.intro hx hv)
            clear hk hkl hg htb hb hmk hx hxk hv hyn
            cases v
            · go_wp2
              go_roundg (n.kids.length - (i + 1))
              case measure => have := HS.out.1; omega
              case rel =>
                obtain ⟨_, hkl, hg, htb, hb, hmk⟩ := HS.out
                refine ⟨i + 1, kid2.set y true, by go_num, rfl, by omega, by simpa using hkl, ?_, ?_, hb.setCell (by simp only; omega) _, ?_⟩
                · rw [bools_set]
                  exact setCell_row hg _
                · rw [setCell_ne _ (by omega)]
                  exact htb
                · rw [← hmk, Tr.marks_step HX.out.1 (by simp [HX.out.2])]
                  rfl
            · go_wp2
              go_ret
              refine ⟨?_, HS.out.2.2.2.2.1⟩
              rw [Tr.right_none (by rw [← HR.out.2.2.2.2.2]; exact Tr.rightGo_twice HN.out kid (by rw [← HS.out.2.2.2.2.2]; exact Tr.marks_bad HX.out.1 (by simp [HX.out.2])))]
              rfl
          · obtain rfl : i = n.kids.length := by omega
            go_wp2
            go_roundg (nl - (j + 1))
            case measure => have := HR.out.1; omega
            case rel =>
              obtain ⟨_, hkl, hg, htb, hb, hmk⟩ := HS.out
              refine ⟨j + 1, kid2, by go_num, rfl, by omega, hkl, hg, htb, hb, ?_⟩
              rw [List.drop_length] at hmk
              rw [← HR.out.2.2.2.2.2, Tr.rightGo_step HN.out HFF.out hmk.symm]
    · obtain rfl : j = nl := by omega
      have hall : Tr.rightGo t 0 t.nodes (List.replicate t.nodes.length false) = some kid := by
        rw [← hgo, ← HNL.out, List.drop_length]
        rfl
      have hfa := Tr.right_facts hall
      have hri := Tr.right_some hall
      have t0 := cell_of_heap htb 0 rfl
      have t1 := cell_of_heap htb 1 rfl
      have l0 := cell_lt t0
      have l1 := lt_heap hg
      have HA := Lib.hid (And.intro hfa hri)
      clear hk hg htb hb hgo hall hfa hri
      cases j with
      | zero =>
        go_wp2
        go_ret
        refine ⟨?_, HR.out.2.2.2.2.1⟩
        rw [HA.out.2]
        obtain rfl : kid = [] := List.eq_nil_of_length_eq_zero hkl
        rfl
      | succ m =>
        clear hkl
        have hm' : (m : Int) ≤ 1073741823 := by omega
        have HL : Hid (∀ W : World, Below w.heap.size w W → Calls Tryd.prog 35 #[.agg #[.slice at_ t.toks.length ct, .slice an (m + 1) cn], .int .i64 (m : Int)] W fun e w' => ∃ v, e = .returned v ∧ w'.ownsRow W.heap.size 3 1 v (Tr.leafs t.nodes m).length (intCells (Tr.leafs t.nodes m)) ∧ Below W.heap.size W w') :=
          fun W hW => leaves_calls (HH.out.1.keep (Keeps.of hW HH.out.2.1)) (fun k hk => Nat.lt_of_lt_of_le (HH.out.2.1 k hk) hW.size) HA.out.1.1 m (by rw [HNL.out]; omega) (by rw [HNL.out]; omega) (by have := HA.out.1.2.1 m (by rw [HNL.out]; omega); omega)
        have HC : Hid (∀ W : World, W.heap[w.heap.size + 1]? = some (.cells (boolCells kid).toArray 4 (0, 0)) → Calls Tryd.prog 37 #[.slice (some ⟨w.heap.size + 1, 0, none⟩) m (m + 1), .bool false] W fun e w' => e = .returned (.bool ((kid.take m).contains false)) ∧ W = w') :=
          fun W hW => rt_contains hW (by have := HR.out.2.1; omega) (by omega)
        have HG : Hid (wr.heap[w.heap.size + 1]? = some (.cells (boolCells kid).toArray 4 (0, 0))) := HR.out.2.2.1
        have h10 : ((m : Int) + 1 == 0) = false := by rw [beq_eq_false_iff_ne]; omega
        cases hc : (kid.take m).contains false
        · rw [hc] at HC
          have HCC := Lib.hid hc
          clear hc
          go_wp2_with (go_at_call 18; refine (root_succ _ _ _ _ _ (by omega)).mono ?_; rintro e w2 ⟨rfl, rfl⟩)
          refine (HC.out _ (by rw [Below.heap_alloc _ _ _ (lt_heap HG.out)]; exact HG.out)).mono ?_
          rintro e w2 ⟨rfl, rfl⟩
          dsimp only
          go_wp2_with fail
          have hVb : Below w.heap.size w (wr.alloc (.cells #[.slice at_ t.toks.length ct, .slice an (m + 1) cn] 41)) := HR.out.2.2.2.2.1.alloc HR.out.2.2.2.2.1.size _
          have hVt : (wr.alloc (.cells #[.slice at_ t.toks.length ct, .slice an (m + 1) cn] 41)).heap[w.heap.size]? = some (.cells #[.slice at_ t.toks.length ct, .slice an (m + 1) cn] 41 (0, 0)) := by rw [Below.heap_alloc _ _ _ l0]; exact HR.out.2.2.2.1
          clear t0 t1 l0 l1
          generalize wr.alloc (.cells #[.slice at_ t.toks.length ct, .slice an (m + 1) cn] 41) = V at *
          have t0 := cell_of_heap hVt 0 rfl
          have t1 := cell_of_heap hVt 1 rfl
          have l0 := cell_lt t0
          have HVB := Lib.hid (And.intro hVb hVt)
          clear hVb hVt
          go_region_held3 (fun w' => w'.cell? ⟨w.heap.size, 0, none⟩ = some (.slice at_ t.toks.length ct) ∧ w'.cell? ⟨w.heap.size, 1, none⟩ = some (.slice an (m + 1) cn)) (first | exact ⟨t0, t1⟩ | exact ⟨e20, e21⟩ | go_keep)
            ((first
              | (go_at_call 18; refine (root_succ _ _ _ _ _ (by omega)).mono ?_; rintro e w2 ⟨rfl, rfl⟩)
              | (go_at_call 35; refine (HL.out _ (HVB.out.1.alloc HVB.out.1.size _).drew).mono ?_; rintro e w2 ⟨v2, rfl, ho2, hb2⟩; obtain ⟨a2, c2, rfl⟩ := ownsRow_form ho2; have hb3 := rt_after HVB.out.1 HVB.out.2 hb2; have e20 := cell_of_heap hb3.2 0 rfl; have e21 := cell_of_heap hb3.2 1 rfl; have HO2 := Lib.hid ho2; have HB3 := Lib.hid hb3; clear ho2 hb2 hb3)))
          have HRI : Hid (Tr.right t = (Tr.leafs t.nodes m == (List.range t.toks.length).map fun i : Nat => (i : Int))) := by
            have hq := HA.out.2
            have hk2 := HR.out.2.1
            rw [HNL.out, hk2, show m + 1 - 1 = m from rfl, HCC.out] at hq
            have he : kid.isEmpty = false := by
              cases hkk : kid with
              | nil => rw [hkk] at hk2; simp at hk2
              | cons _ _ => rfl
            rw [he] at hq
            refine Lib.hid ?_
            simpa using hq
          have hlf : (Tr.leafs t.nodes m).length ≤ 1073741823 := by have h1 := Tr.leafs_len t.nodes m; have h2 := HA.out.1.2.1 m (by rw [HNL.out]; omega); omega
          obtain ⟨lf, hlfe⟩ : ∃ lf, Tr.leafs t.nodes m = lf := ⟨_, rfl⟩
          rw [hlfe] at HO2 HRI hlf ⊢
          have hlf' : (lf.length : Int) ≤ 1073741823 := by omega
          clear hlfe HL HC t0 t1
          generalize wr = w0 at *
          go_wp2_with fail
          go_loopg [60] lf.length (fun k v60 wr => ∃ i : Nat, v60 = .int .i64 i ∧ k = lf.length - i ∧ i ≤ lf.length ∧ wr = w2 ∧ ∀ j, j < i → lf[j]? = some (j : Int))
          case atStart => exact ⟨0, rfl, rfl, Nat.zero_le _, rfl, fun j hj => absurd hj (by omega)⟩
          case round =>
            obtain ⟨i, rfl, hk, hi, rfl, hall⟩ := hrel
            have HS := Lib.hid (And.intro hk hall)
            clear hk hall
            by_cases hlt : i < lf.length
            · have hlt' : (i : Int) < (lf.length : Int) := by omega
              obtain ⟨x, hx⟩ : ∃ x, lf[i]? = some x := ⟨_, List.getElem?_eq_getElem hlt⟩
              obtain ⟨g2, rfl, hcx⟩ := rt_leaf HO2.out hx
              have HX := Lib.hid hx
              clear hx
              by_cases hxi : (i : Int) = x
              · subst hxi
                go_wp2_with fail
                refine Handed.intro (lf.length - (i + 1)) ?_ ?_
                · have := HS.out.1; omega
                go_step
                repeat apply Exists.intro
                refine ⟨?_, rfl⟩
                refine ⟨i + 1, by go_num, rfl, by omega, rfl, fun j hj => ?_⟩
                rcases Nat.lt_or_ge j i with h1 | h1
                · exact HS.out.2 j h1
                · rw [show j = i by omega]
                  exact HX.out
              · have hxi' : ((i : Int) != x) = true := by simp [hxi]
                have HXI := Lib.hid hxi
                clear hxi
                go_wp2_with fail
                go_ret
                refine ⟨?_, HB3.out.1⟩
                rw [HRI.out, Tr.range_ne HX.out HXI.out]
                rfl
            · obtain rfl : i = lf.length := by omega
              go_wp2_with fail
              go_ret
              refine ⟨?_, HB3.out.1⟩
              rw [HRI.out, Tr.range_eq HS.out.2]
              rfl
        · rw [hc] at HC
          have HCC := Lib.hid hc
          clear hc
          go_wp2_with (go_at_call 18; refine (root_succ _ _ _ _ _ (by omega)).mono ?_; rintro e w2 ⟨rfl, rfl⟩)
          refine (HC.out _ (by rw [Below.heap_alloc _ _ _ (lt_heap HG.out)]; exact HG.out)).mono ?_
          rintro e w2 ⟨rfl, rfl⟩
          dsimp only
          go_wp2_with fail
          go_ret
          refine ⟨?_, HR.out.2.2.2.2.1.alloc HR.out.2.2.2.2.1.size _⟩
          rw [HA.out.2, HR.out.2.1, show m + 1 - 1 = m from rfl, HCC.out]
          simp
end Go.Proofs.YtfoelgkkoopheaaDoor
