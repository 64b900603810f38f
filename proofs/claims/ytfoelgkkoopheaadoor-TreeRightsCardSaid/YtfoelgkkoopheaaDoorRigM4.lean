/- Contracts and plain laws, in one text. tree.Right: is a tree right? | tree.check: may something be told of a node? | Plain laws of a node's dump. No program in sight. | tree.dump, tree.Dump. | tree.Dump. | The laws' anchor: the document's example. | TreeFinds: the walk. | From a law's walk to its statement: what holds of every law that returns true and turns nothing that was there. | Ranges of memory, one behind another. | A tree that came in, as the walks read it. | What the rows of this seat share: the closed facts, the world in which the listed variables are laid. | Plain law: a text's tokens are the text; at least one stands th -/
import Derived.Test.YtfoelgkkoopheaaDoorRigM3
import Derived.Deep.RegionHeld3
import Derived.Test.YtfoelgkkoopheaaDoorRigM2
import Derived.Test.YtfoelgkkoopheaaDoorRows
import Derived.WalkKit
import Derived.ProofKit
import Derived.OpenShut
import Derived.JoinedCond
import Derived.Deep.Slices
import Derived.Deep.Fields
import Derived.Deep.Grids
import Derived.ChangeSame
import Derived.Lib.SmallJoins
import Derived.Test.YtfoelgkkoopheaaDoorCards
import Derived.Test.YtfoelgkkoopheaaDoorTie
import Derived.Lay
import Derived.LaidLaws
import Derived.MakeChecks
import Derived.SevenTiedAt
/- tree.Right: is a tree right? -/
namespace Go.Proofs.YtfoelgkkoopheaaDoor
open Go.RowKit

theorem run_make_rowN {P : Program} (t e : TypeId) (i : TypeInfo) (z : Value) (ht : P.underlying t = some (.slice e)) (hi : P.info? e = some i) (hz : i.zero = some z)
    (kl kc : IntKind) (n c : Nat) (hnc : n ≤ c) (hbytes : i.bytes * c ≤ 281474976710656) (h63 : c ≤ 9223372036854775807) (w : World) :
    (Instr.makeSlice t (.int kl (n : Int)) (.int kc (c : Int))).run P w = .ok (.slice (some ⟨w.heap.size, 0, none⟩) n c) (w.alloc (.cells (madeCells z.cells (c * i.size)) e)) := by
  have hb : (i.bytes : Int) * (c : Int) ≤ 281474976710656 := by
    have h : ((i.bytes * c : Nat) : Int) ≤ 281474976710656 := by omega
    rwa [Int.natCast_mul] at h
  have hr := run_make (P := P) w t e i z ht hi hz kl kc n c (by omega) (by omega) hb (by omega)
  simp only [Int.toNat_natCast] at hr
  exact hr
theorem info_bool : (Tryd.prog.info? 4).map (fun i => (i.zero, i.size, i.bytes)) = some (some (.bool false), 1, 1) := by kernel_rfl
theorem made_bools (n : Nat) : madeCells (Value.bool false).cells (n * 1) = (boolCells (List.replicate n false)).toArray := by
  apply Array.ext
  · simp [madeCells, boolCells]
  · intro j h1 h2
    simp [madeCells, boolCells, Value.cells, Nat.mod_one]
theorem make_bools (n : Nat) (hn : n ≤ 1073741824) (w : World) : (Instr.makeSlice 75 (.int .i64 (n : Int)) (.int .i64 (n : Int))).run Tryd.prog w = .ok (.slice (some ⟨w.heap.size, 0, none⟩) n n) (w.alloc (.cells (boolCells (List.replicate n false)).toArray 4)) := by
  obtain ⟨i0, hi, hz0, hz1, hz2⟩ := info_split info_bool
  have h := run_make_rowN (P := Tryd.prog) 75 4 i0 (.bool false) Tryd.underlying75 hi hz0 .i64 .i64 n n (Nat.le_refl _) (by rw [hz2]; omega) (by omega) w
  rw [hz1, made_bools] at h
  exact h

def RtRel (w : World) (vt vn : Value) (t : Tr.T) (nl : Nat) (k : Nat) (v18 : Value) (wr : World) : Prop :=
  ∃ (j : Nat) (kid : List Bool), v18 = .int .i64 j ∧ k = nl - j ∧ j ≤ nl ∧ kid.length = nl ∧ wr.heap[w.heap.size + 1]? = some (.cells (boolCells kid).toArray 4 (0, 0)) ∧ wr.heap[w.heap.size]? = some (.cells #[vt, vn] 41 (0, 0)) ∧
    Below w.heap.size w wr ∧ Tr.rightGo t j (t.nodes.drop j) kid = Tr.rightGo t 0 t.nodes (List.replicate t.nodes.length false)
def RtIn (w : World) (vt vn : Value) (nl : Nat) (kid0 : List Bool) (kids : List Int) (k : Nat) (v31 : Value) (wr : World) : Prop :=
  ∃ (j : Nat) (kid : List Bool), v31 = .int .i64 j ∧ k = kids.length - j ∧ j ≤ kids.length ∧ kid.length = nl ∧ wr.heap[w.heap.size + 1]? = some (.cells (boolCells kid).toArray 4 (0, 0)) ∧ wr.heap[w.heap.size]? = some (.cells #[vt, vn] 41 (0, 0)) ∧
    Below w.heap.size w wr ∧ Tr.marks kid (kids.drop j) = Tr.marks kid0 kids

theorem rt_start (w : World) (vt vn : Value) (t : Tr.T) (nl : Nat) (hnl : t.nodes.length = nl) :
    RtRel w vt vn t nl nl (.int .i64 0) ((w.alloc (.cells #[vt, vn] 41)).alloc (.cells (boolCells (List.replicate nl false)).toArray 4)) := by
  refine ⟨0, List.replicate nl false, rfl, rfl, Nat.zero_le _, by simp, ?_, ?_, ((Below.refl _ _).alloc (Nat.le_refl _) _).alloc (by rw [← size_alloc1]; omega) _, ?_⟩
  · exact new_at _ _ _ (size_alloc1 _ _)
  · rw [Below.heap_alloc _ _ _ (by rw [← size_alloc1]; omega)]
    exact new_at _ _ _ rfl
  · rw [hnl]
    rfl

theorem root_succ (w : World) (vt : Value) (a : Option Addr) (n c : Nat) (hn : n + 1 ≤ 1073741824) :
    Calls Tryd.prog 18 #[.agg #[vt, .slice a (n + 1) c]] w fun e w' => e = .returned (.int .i64 (n : Int)) ∧ w.alloc (.cells #[vt, .slice a (n + 1) c] 41) = w' := by
  refine (root_len w vt a (n + 1) c hn).mono ?_
  rintro e w' ⟨rfl, rfl⟩
  refine ⟨?_, rfl⟩
  rw [show ((n + 1 : Nat) : Int) - 1 = (n : Int) by omega]
theorem rt_contains {w : World} {g m : Nat} {kid : List Bool} (h : w.heap[g]? = some (.cells (boolCells kid).toArray 4 (0, 0))) (hm : m ≤ kid.length) (hn : m ≤ 1073741824) {c : Nat} (hc : m ≤ c := by omega) :
    Calls Tryd.prog 37 #[.slice (some ⟨g, 0, none⟩) m c, .bool false] w fun e w' => e = .returned (.bool ((kid.take m).contains false)) ∧ w = w' := by
  have hl : (kid.take m).length = m := by simp; omega
  refine contains_bool (P := fun _ => True) (v := .slice (some ⟨g, 0, none⟩) m c) (l := kid.take m) ⟨by simp [boolCells], some ⟨g, 0, none⟩, c, by rw [hl], by omega, Or.inr ⟨g, 0, rfl, Or.inr trivial, ?_⟩⟩ (by omega)
  intro j v hj
  rw [Nat.zero_add]
  refine cell_of_heap h j ?_
  have hjm : j < m := by
    have := Tr.get_lt hj
    simp only [boolCells, List.length_map] at this
    omega
  rw [← hj]
  simp [boolCells, hjm]
theorem rt_after {w V w2 : World} {cs cs2 : Array Value} {T T2 : TypeId} (hV : Below w.heap.size w V) (ht : V.heap[w.heap.size]? = some (.cells cs T (0, 0))) (hb : Below (V.alloc (.cells cs2 T2)).drew.heap.size (V.alloc (.cells cs2 T2)).drew w2) :
    Below w.heap.size w w2 ∧ w2.heap[w.heap.size]? = some (.cells cs T (0, 0)) := by
  have hlt := lt_heap ht
  have h2 : Below (V.alloc (.cells cs2 T2)).heap.size (V.alloc (.cells cs2 T2)).drew w2 := hb
  have h3 : Below w.heap.size (V.alloc (.cells cs2 T2)).drew w2 := h2.mono (by rw [← size_alloc1]; omega)
  refine ⟨((hV.alloc hV.size _).drew).trans h3, ?_⟩
  rw [h2.block _ (by rw [← size_alloc1]; omega)]
  show (V.alloc _).heap[w.heap.size]? = _
  rw [Below.heap_alloc _ _ _ hlt]
  exact ht
theorem rt_leaf {w : World} {B n c : Nat} {a : Option Addr} {l : List Int} (h : w.ownsRow B 3 1 (.slice a n c) n (intCells l)) {i : Nat} {x : Int} (hx : l[i]? = some x) : ∃ g, a = some ⟨g, 0, none⟩ ∧ w.cell? ⟨g, i, none⟩ = some (.int .i64 x) := by
  have hlt := Tr.get_lt hx
  have hl := h.1
  simp only [intCells, List.length_map] at hl
  obtain ⟨g, cap, he, _, _⟩ := h.form (by omega)
  simp only [Value.slice.injEq] at he
  obtain ⟨rfl, _, _⟩ := he
  refine ⟨g, rfl, ?_⟩
  have h2 := h.cells (g := g) rfl i (.int .i64 x) (by simp [intCells, hx])
  rwa [Addr.add_mid, Nat.zero_add] at h2
theorem bools_set (l : List Bool) (y : Nat) (v : Bool) : (boolCells (l.set y v)).toArray = (boolCells l).toArray.setIfInBounds y (.bool v) := by
  simp [boolCells, List.map_set]
/-- A kid, read in a later world. -/
theorem rt_kid {w wr w3 : World} {P : Nat → Prop} {vn : Value} {ns : List Tr.Nd} (_h : RdN w P vn ns) {j : Nat} {n : Tr.Nd} (_hn : ns[j]? = some n) {ka : Option Addr} {kc : Nat} (hkv : RdW wr P 1 (.slice ka n.kids.length kc) n.kids.length (intCells n.kids)) (hP : ∀ k, P k → k < w.heap.size) (hb : Below w.heap.size w wr)
    (hkp : Keeps P w w3) {i : Nat} {x : Int} (hx : n.kids[i]? = some x) : ∃ b o, ka = some ⟨b, o, none⟩ ∧ w3.cell? ⟨b, o + i, none⟩ = some (.int .i64 x) := by
  have hlt := Tr.get_lt hx
  have hkp2 : Keeps P wr w3 := fun k hk => (hkp k hk).trans (hb.block k (hP k hk)).symm
  obtain ⟨_, a, c, he, _, hd⟩ := hkv.keep hkp2
  simp only [Value.slice.injEq] at he
  obtain ⟨rfl, _, _⟩ := he
  rcases hd with ⟨_, h0⟩ | ⟨b, o, rfl, _, hr⟩
  · omega
  · exact ⟨b, o, rfl, hr i _ (by simp [intCells, hx])⟩
theorem rt_inner {w wr w2 : World} {x y z : Value} {T T1 T2 : TypeId} {cs tb : Array Value} (hg : wr.heap[w.heap.size + 1]? = some (.cells cs T1 (0, 0))) (ht : wr.heap[w.heap.size]? = some (.cells tb T2 (0, 0))) (hb : Below w.heap.size w wr)
    (hb2 : Below (wr.alloc (.cells #[x, y, z] T)).heap.size (wr.alloc (.cells #[x, y, z] T)) w2) : w2.heap[w.heap.size + 1]? = some (.cells cs T1 (0, 0)) ∧ w2.heap[w.heap.size]? = some (.cells tb T2 (0, 0)) ∧ Below w.heap.size w w2 := by
  have h : Below wr.heap.size wr w2 := ((Below.refl wr.heap.size wr).alloc (Nat.le_refl _) _).trans (hb2.mono (by rw [← size_alloc1]; omega))
  exact ⟨(h.block _ (lt_heap hg)).trans hg, (h.block _ (lt_heap ht)).trans ht, hb.trans (h.mono hb.size)⟩

set_option maxRecDepth 100000 in
set_option maxHeartbeats 2000000 in
theorem right_calls {w : World} {P : Nat → Prop} {vt vn : Value} {t : Tr.T} (h : RdT w P vt vn t) (hP : ∀ k, P k → k < w.heap.size) (hn : t.nodes.length ≤ 1073741823) (ht : t.toks.length ≤ 1073741824) (hkids : ∀ n ∈ t.nodes, n.kids.length ≤ 1073741823) :
    Calls Tryd.prog 19 #[.agg #[vt, vn]] w fun e w' => e = .returned (.bool (Tr.right t)) ∧ Below w.heap.size w w' := by
  obtain ⟨at_, ct, rfl⟩ := h.1.form
  obtain ⟨an, cn, rfl⟩ : ∃ a c, vn = .slice a t.nodes.length c := by
    obtain ⟨kvs, _, h2, _⟩ := h.2
    exact h2.form
  have HH := Lib.hid (And.intro h (And.intro hP (And.intro ht hkids)))
  obtain ⟨nl, hnl⟩ : ∃ nl, t.nodes.length = nl := ⟨_, rfl⟩
  rw [hnl] at HH hn ⊢
  have hn' : (nl : Int) ≤ 1073741823 := by omega
  have hmk := make_bools nl (by omega)
  have HNL := Lib.hid hnl
  have ht' : (t.toks.length : Int) ≤ 1073741824 := by omega
  clear h hP ht hkids hnl
  go_enter Tryd.func19, Tryd.ntmps19
  go_wp2_with fail
  go_loopg [18] nl (fun k v18 wr => RtRel w (.slice at_ t.toks.length ct) (.slice an nl cn) t nl k v18 wr)
  case atStart => exact rt_start _ _ _ _ _ HNL.out
  case round =>
    clear hmk
    obtain ⟨j, kid, rfl, hk, hj, hkl, hg, htb, hb, hgo⟩ := hrel
    have HR := Lib.hid (And.intro hk (And.intro hkl (And.intro hg (And.intro htb (And.intro hb hgo)))))
    by_cases hlt : j < nl
    · have hlt' : (j : Int) < (nl : Int) := by omega
      obtain ⟨n, hnj⟩ : ∃ n, t.nodes[j]? = some n := ⟨_, List.getElem?_eq_getElem (by rw [HNL.out]; exact hlt)⟩
      obtain ⟨b, off, c', kv, he, hbB, hrg, hkv⟩ := (HH.out.1.2.keep (Keeps.of hb HH.out.2.1)).node hnj
      obtain ⟨rfl, rfl⟩ : an = some ⟨b, off, none⟩ ∧ cn = c' := by
        simp only [Value.slice.injEq] at he
        exact ⟨he.1, he.2.2⟩
      have t0 := cell_of_heap htb 0 rfl
      have t1 := cell_of_heap htb 1 rfl
      have l0 := cell_lt t0
      obtain ⟨ka, kc, rfl⟩ := hkv.form
      have hnk := HH.out.2.2.2 n (List.mem_of_getElem? hnj)
      have hba : Below wr.heap.size wr (wr.alloc (.cells #[.int .i64 n.kind, .int .i64 n.tok, .slice ka n.kids.length kc] 38)) := (Below.refl _ _).alloc (Nat.le_refl _) _
      have HF := Lib.hid (formed_calls (at_ := at_) (ct := ct) (vn := .slice (some ⟨b, off, none⟩) nl cn) (t := t) (hkv.keep (Keeps.of hba fun k hk => Nat.lt_of_lt_of_le (HH.out.2.1 k hk) hb.size)) (fun k hk => Nat.lt_of_lt_of_le (Nat.lt_of_lt_of_le (HH.out.2.1 k hk) hb.size) hba.size) (by omega) HH.out.2.2.1 j)
      have HG := Lib.hid hrg
      have HN := Lib.hid hnj
      have HKR : Hid (∀ (w3 : World), Keeps P w w3 → ∀ (i : Nat) (x : Int), n.kids[i]? = some x → ∃ b o, ka = some ⟨b, o, none⟩ ∧ w3.cell? ⟨b, o + i, none⟩ = some (.int .i64 x)) := fun w3 hkp i x hx => rt_kid HH.out.1.2 hnj hkv HH.out.2.1 hb hkp hx
      clear hk hkl hg htb hb hgo hrg hkv hnj hba hnk he
      cases hf : Tr.formed t j n
      · have HF2 := Lib.hid (hf ▸ HF.out)
        have HFF := Lib.hid hf
        clear HF hf
        go_wp2_with (first
          | (refine wpList_load_mid rfl 38 _ rfl b (off + j * 3) rfl _ _ HG.out Tryd.underlying38 rfl rfl ?_)
          | (go_at_call 36; refine HF2.out.mono ?_; rintro e w2 ⟨rfl, hb2⟩; have HB2 := Lib.hid hb2; clear hb2))
        go_ret
        refine ⟨?_, HR.out.2.2.2.2.1.trans (((Below.refl w.heap.size wr).alloc HR.out.2.2.2.2.1.size _).trans (HB2.out.mono (Nat.le_trans HR.out.2.2.2.2.1.size ((Below.refl wr.heap.size wr).alloc (Nat.le_refl _) _).size)))⟩
        rw [Tr.right_none (by rw [← HR.out.2.2.2.2.2, Tr.rightGo_bad HN.out kid HFF.out])]
        rfl
      · have HF2 := Lib.hid (hf ▸ HF.out)
        have HFF := Lib.hid hf
        clear HF hf
        go_wp2_with (first
          | (refine wpList_load_mid rfl 38 _ rfl b (off + j * 3) rfl _ _ HG.out Tryd.underlying38 rfl rfl ?_)
          | (go_at_call 36; refine HF2.out.mono ?_; rintro e w2 ⟨rfl, hb2⟩; have e2 := cell_of_heap (done_node hb2) 2 rfl; have HB2 := Lib.hid hb2; clear hb2))
        have HI := Lib.hid (rt_inner (x := .int .i64 n.kind) (y := .int .i64 n.tok) (z := .slice ka n.kids.length kc) HR.out.2.2.1 HR.out.2.2.2.1 HR.out.2.2.2.2.1 HB2.out)
        have hnk := HH.out.2.2.2 n (List.mem_of_getElem? HN.out)
        have hnk' : (n.kids.length : Int) ≤ 1073741823 := by omega
        clear t0 t1 l0 e2 HG
        generalize wr = w0 at *
        go_loopg [31] n.kids.length (fun k v31 wr => RtIn w (.slice at_ t.toks.length ct) (.slice (some ⟨b, off, none⟩) nl cn) nl kid n.kids k v31 wr)
        case atStart => exact ⟨0, kid, rfl, rfl, Nat.zero_le _, HR.out.2.1, HI.out.1, HI.out.2.1, HI.out.2.2, rfl⟩
        case round =>
          obtain ⟨i, kid2, rfl, hk, hi, hkl, hg, htb, hb, hmk⟩ := hrel
          have HS := Lib.hid (And.intro hk (And.intro hkl (And.intro hg (And.intro htb (And.intro hb hmk)))))
          by_cases hlti : i < n.kids.length
          · have hlti' : (i : Int) < (n.kids.length : Int) := by omega
            obtain ⟨x, hx⟩ : ∃ x, n.kids[i]? = some x := ⟨_, List.getElem?_eq_getElem hlti⟩
            have hxk := Tr.formed_kid HFF.out hx
            obtain ⟨y, rfl⟩ : ∃ y : Nat, x = y := ⟨x.toNat, by omega⟩
            have hyn : y < nl := by omega
            have hyn' : (y : Int) < (nl : Int) := by omega
            obtain ⟨v, hv⟩ : ∃ v, kid2[y]? = some v := ⟨_, List.getElem?_eq_getElem (by omega)⟩
            obtain ⟨bk, ok, rfl, hkr⟩ := HKR.out wr (Keeps.of hb HH.out.2.1) i _ hx
            have cy := cell_of_heap hg y (u := .bool v) (by simp [boolCells, hv])
            have fy := frozen_of_heap hg y
            have HX := Lib.hid (And.intro hx hv)
            clear hk hkl hg htb hb hmk hx hxk hv hyn
            cases v
            · go_wp2
              go_roundg (n.kids.length - (i + 1))
              case measure => have := HS.out.1; omega
              case rel =>
                obtain ⟨_, hkl, hg, htb, hb, hmk⟩ := HS.out
                refine ⟨i + 1, kid2.set y true, by go_num, rfl, by omega, by simpa using hkl, ?_, ?_, hb.setCell (by simp only; omega) _, ?_⟩
                · rw [bools_set]
                  exact setCell_row hg _
                · rw [setCell_ne _ (by omega)]
                  exact htb
                · rw [← hmk, Tr.marks_step HX.out.1 (by simp [HX.out.2])]
                  rfl
            · go_wp2
              go_ret
              refine ⟨?_, HS.out.2.2.2.2.1⟩
              rw [Tr.right_none (by rw [← HR.out.2.2.2.2.2]; exact Tr.rightGo_twice HN.out kid (by rw [← HS.out.2.2.2.2.2]; exact Tr.marks_bad HX.out.1 (by simp [HX.out.2])))]
              rfl
          · obtain rfl : i = n.kids.length := by omega
            go_wp2
            go_roundg (nl - (j + 1))
            case measure => have := HR.out.1; omega
            case rel =>
              obtain ⟨_, hkl, hg, htb, hb, hmk⟩ := HS.out
              refine ⟨j + 1, kid2, by go_num, rfl, by omega, hkl, hg, htb, hb, ?_⟩
              rw [List.drop_length] at hmk
              rw [← HR.out.2.2.2.2.2, Tr.rightGo_step HN.out HFF.out hmk.symm]
    · obtain rfl : j = nl := by omega
      have hall : Tr.rightGo t 0 t.nodes (List.replicate t.nodes.length false) = some kid := by
        rw [← hgo, ← HNL.out, List.drop_length]
        rfl
      have hfa := Tr.right_facts hall
      have hri := Tr.right_some hall
      have t0 := cell_of_heap htb 0 rfl
      have t1 := cell_of_heap htb 1 rfl
      have l0 := cell_lt t0
      have l1 := lt_heap hg
      have HA := Lib.hid (And.intro hfa hri)
      clear hk hg htb hb hgo hall hfa hri
      cases j with
      | zero =>
        go_wp2
        go_ret
        refine ⟨?_, HR.out.2.2.2.2.1⟩
        rw [HA.out.2]
        obtain rfl : kid = [] := List.eq_nil_of_length_eq_zero hkl
        rfl
      | succ m =>
        clear hkl
        have hm' : (m : Int) ≤ 1073741823 := by omega
        have HL : Hid (∀ W : World, Below w.heap.size w W → Calls Tryd.prog 35 #[.agg #[.slice at_ t.toks.length ct, .slice an (m + 1) cn], .int .i64 (m : Int)] W fun e w' => ∃ v, e = .returned v ∧ w'.ownsRow W.heap.size 3 1 v (Tr.leafs t.nodes m).length (intCells (Tr.leafs t.nodes m)) ∧ Below W.heap.size W w') :=
          fun W hW => leaves_calls (HH.out.1.keep (Keeps.of hW HH.out.2.1)) (fun k hk => Nat.lt_of_lt_of_le (HH.out.2.1 k hk) hW.size) HA.out.1.1 m (by rw [HNL.out]; omega) (by rw [HNL.out]; omega) (by have := HA.out.1.2.1 m (by rw [HNL.out]; omega); omega)
        have HC : Hid (∀ W : World, W.heap[w.heap.size + 1]? = some (.cells (boolCells kid).toArray 4 (0, 0)) → Calls Tryd.prog 37 #[.slice (some ⟨w.heap.size + 1, 0, none⟩) m (m + 1), .bool false] W fun e w' => e = .returned (.bool ((kid.take m).contains false)) ∧ W = w') :=
          fun W hW => rt_contains hW (by have := HR.out.2.1; omega) (by omega)
        have HG : Hid (wr.heap[w.heap.size + 1]? = some (.cells (boolCells kid).toArray 4 (0, 0))) := HR.out.2.2.1
        have h10 : ((m : Int) + 1 == 0) = false := by rw [beq_eq_false_iff_ne]; omega
        cases hc : (kid.take m).contains false
        · rw [hc] at HC
          have HCC := Lib.hid hc
          clear hc
          go_wp2_with (go_at_call 18; refine (root_succ _ _ _ _ _ (by omega)).mono ?_; rintro e w2 ⟨rfl, rfl⟩)
          refine (HC.out _ (by rw [Below.heap_alloc _ _ _ (lt_heap HG.out)]; exact HG.out)).mono ?_
          rintro e w2 ⟨rfl, rfl⟩
          dsimp only
          go_wp2_with fail
          have hVb : Below w.heap.size w (wr.alloc (.cells #[.slice at_ t.toks.length ct, .slice an (m + 1) cn] 41)) := HR.out.2.2.2.2.1.alloc HR.out.2.2.2.2.1.size _
          have hVt : (wr.alloc (.cells #[.slice at_ t.toks.length ct, .slice an (m + 1) cn] 41)).heap[w.heap.size]? = some (.cells #[.slice at_ t.toks.length ct, .slice an (m + 1) cn] 41 (0, 0)) := by rw [Below.heap_alloc _ _ _ l0]; exact HR.out.2.2.2.1
          clear t0 t1 l0 l1
          generalize wr.alloc (.cells #[.slice at_ t.toks.length ct, .slice an (m + 1) cn] 41) = V at *
          have t0 := cell_of_heap hVt 0 rfl
          have t1 := cell_of_heap hVt 1 rfl
          have l0 := cell_lt t0
          have HVB := Lib.hid (And.intro hVb hVt)
          clear hVb hVt
          go_region_held3 (fun w' => w'.cell? ⟨w.heap.size, 0, none⟩ = some (.slice at_ t.toks.length ct) ∧ w'.cell? ⟨w.heap.size, 1, none⟩ = some (.slice an (m + 1) cn)) (first | exact ⟨t0, t1⟩ | exact ⟨e20, e21⟩ | go_keep)
            ((first
              | (go_at_call 18; refine (root_succ _ _ _ _ _ (by omega)).mono ?_; rintro e w2 ⟨rfl, rfl⟩)
              | (go_at_call 35; refine (HL.out _ (HVB.out.1.alloc HVB.out.1.size _).drew).mono ?_; rintro e w2 ⟨v2, rfl, ho2, hb2⟩; obtain ⟨a2, c2, rfl⟩ := ownsRow_form ho2; have hb3 := rt_after HVB.out.1 HVB.out.2 hb2; have e20 := cell_of_heap hb3.2 0 rfl; have e21 := cell_of_heap hb3.2 1 rfl; have HO2 := Lib.hid ho2; have HB3 := Lib.hid hb3; clear ho2 hb2 hb3)))
          have HRI : Hid (Tr.right t = (Tr.leafs t.nodes m == (List.range t.toks.length).map fun i : Nat => (i : Int))) := by
            have hq := HA.out.2
            have hk2 := HR.out.2.1
            rw [HNL.out, hk2, show m + 1 - 1 = m from rfl, HCC.out] at hq
            have he : kid.isEmpty = false := by
              cases hkk : kid with
              | nil => rw [hkk] at hk2; simp at hk2
              | cons _ _ => rfl
            rw [he] at hq
            refine Lib.hid ?_
            simpa using hq
          have hlf : (Tr.leafs t.nodes m).length ≤ 1073741823 := by have h1 := Tr.leafs_len t.nodes m; have h2 := HA.out.1.2.1 m (by rw [HNL.out]; omega); omega
          obtain ⟨lf, hlfe⟩ : ∃ lf, Tr.leafs t.nodes m = lf := ⟨_, rfl⟩
          rw [hlfe] at HO2 HRI hlf ⊢
          have hlf' : (lf.length : Int) ≤ 1073741823 := by omega
          clear hlfe HL HC t0 t1
          generalize wr = w0 at *
          go_wp2_with fail
          go_loopg [60] lf.length (fun k v60 wr => ∃ i : Nat, v60 = .int .i64 i ∧ k = lf.length - i ∧ i ≤ lf.length ∧ wr = w2 ∧ ∀ j, j < i → lf[j]? = some (j : Int))
          case atStart => exact ⟨0, rfl, rfl, Nat.zero_le _, rfl, fun j hj => absurd hj (by omega)⟩
          case round =>
            obtain ⟨i, rfl, hk, hi, rfl, hall⟩ := hrel
            have HS := Lib.hid (And.intro hk hall)
            clear hk hall
            by_cases hlt : i < lf.length
            · have hlt' : (i : Int) < (lf.length : Int) := by omega
              obtain ⟨x, hx⟩ : ∃ x, lf[i]? = some x := ⟨_, List.getElem?_eq_getElem hlt⟩
              obtain ⟨g2, rfl, hcx⟩ := rt_leaf HO2.out hx
              have HX := Lib.hid hx
              clear hx
              by_cases hxi : (i : Int) = x
              · subst hxi
                go_wp2_with fail
                refine Handed.intro (lf.length - (i + 1)) ?_ ?_
                · have := HS.out.1; omega
                go_step
                repeat apply Exists.intro
                refine ⟨?_, rfl⟩
                refine ⟨i + 1, by go_num, rfl, by omega, rfl, fun j hj => ?_⟩
                rcases Nat.lt_or_ge j i with h1 | h1
                · exact HS.out.2 j h1
                · rw [show j = i by omega]
                  exact HX.out
              · have hxi' : ((i : Int) != x) = true := by simp [hxi]
                have HXI := Lib.hid hxi
                clear hxi
                go_wp2_with fail
                go_ret
                refine ⟨?_, HB3.out.1⟩
                rw [HRI.out, Tr.range_ne HX.out HXI.out]
                rfl
            · obtain rfl : i = lf.length := by omega
              go_wp2_with fail
              go_ret
              refine ⟨?_, HB3.out.1⟩
              rw [HRI.out, Tr.range_eq HS.out.2]
              rfl
        · rw [hc] at HC
          have HCC := Lib.hid hc
          clear hc
          go_wp2_with (go_at_call 18; refine (root_succ _ _ _ _ _ (by omega)).mono ?_; rintro e w2 ⟨rfl, rfl⟩)
          refine (HC.out _ (by rw [Below.heap_alloc _ _ _ (lt_heap HG.out)]; exact HG.out)).mono ?_
          rintro e w2 ⟨rfl, rfl⟩
          dsimp only
          go_wp2_with fail
          go_ret
          refine ⟨?_, HR.out.2.2.2.2.1.alloc HR.out.2.2.2.2.1.size _⟩
          rw [HA.out.2, HR.out.2.1, show m + 1 - 1 = m from rfl, HCC.out]
          simp
end Go.Proofs.YtfoelgkkoopheaaDoor
/- tree.check: may something be told of a node? -/
namespace Go.Proofs.YtfoelgkkoopheaaDoor
open Go.RowKit

def Tr.check (t : Tr.T) (n : Int) : Int := if Tr.right t = false then 10 else if n < 0 ∨ (t.nodes.length : Int) ≤ n then 12 else 0

theorem chk_box {w w2 : World} {cs : Array Value} {T : TypeId} (hb : Below (w.alloc (.cells cs T)).heap.size (w.alloc (.cells cs T)) w2) : w2.heap[w.heap.size]? = some (.cells cs T (0, 0)) := done_node hb
set_option maxRecDepth 100000 in
theorem check_node_calls {w : World} {P : Nat → Prop} {vt vn : Value} {t : Tr.T} (h : RdT w P vt vn t) (hP : ∀ k, P k → k < w.heap.size) (hn : t.nodes.length ≤ 1073741823) (ht : t.toks.length ≤ 1073741824) (hkids : ∀ n ∈ t.nodes, n.kids.length ≤ 1073741823) (n : Int) :
    Calls Tryd.prog 34 #[.agg #[vt, vn], .int .i64 n] w fun e w' => e = .returned (.int .i64 (Tr.check t n)) ∧ Below w.heap.size w w' := by
  have hb1 : Below w.heap.size w (w.alloc (.cells #[vt, vn] 41)) := (Below.refl _ _).alloc (Nat.le_refl _) _
  have HR := Lib.hid (right_calls (h.keep (Keeps.of hb1 hP)) (fun k hk => Nat.lt_of_lt_of_le (hP k hk) hb1.size) hn ht hkids)
  obtain ⟨at_, ct, rfl⟩ := h.1.form
  obtain ⟨an, cn, rfl⟩ : ∃ a c, vn = .slice a t.nodes.length c := by
    obtain ⟨kvs, _, h2, _⟩ := h.2
    exact h2.form
  have HB := Lib.hid hb1
  have hn' : (t.nodes.length : Int) ≤ 1073741823 := by omega
  clear h hP hb1 hn ht hkids
  unfold Tr.check
  cases hr : Tr.right t
  · rw [hr] at HR
    rw [if_pos rfl]
    clear hr
    go_enter Tryd.func34, Tryd.ntmps34
    go_wp2_with (go_at_call 19; refine HR.out.mono ?_; rintro e w2 ⟨rfl, hb2⟩; have HB2 := Lib.hid hb2; clear hb2)
    go_ret
    exact ⟨rfl, HB.out.trans (HB2.out.mono HB.out.size)⟩
  · rw [hr] at HR
    rw [if_neg (by simp)]
    clear hr
    by_cases h1 : n < 0
    · rw [if_pos (Or.inl h1)]
      go_enter Tryd.func34, Tryd.ntmps34
      go_wp2_with (go_at_call 19; refine HR.out.mono ?_; rintro e w2 ⟨rfl, hb2⟩; have hbx := chk_box hb2; have c1 := cell_of_heap hbx 1 rfl; have HB2 := Lib.hid hb2; clear hb2 hbx)
      go_ret
      exact ⟨rfl, HB.out.trans (HB2.out.mono HB.out.size)⟩
    · by_cases h2 : (t.nodes.length : Int) ≤ n
      · rw [if_pos (Or.inr h2)]
        have h1' : 0 ≤ n := by omega
        go_enter Tryd.func34, Tryd.ntmps34
        go_wp2_with (go_at_call 19; refine HR.out.mono ?_; rintro e w2 ⟨rfl, hb2⟩; have hbx := chk_box hb2; have c1 := cell_of_heap hbx 1 rfl; have HB2 := Lib.hid hb2; clear hb2 hbx)
        go_ret
        exact ⟨rfl, HB.out.trans (HB2.out.mono HB.out.size)⟩
      · rw [if_neg (by omega)]
        have h1' : 0 ≤ n := by omega
        have h2' : n < (t.nodes.length : Int) := by omega
        go_enter Tryd.func34, Tryd.ntmps34
        go_wp2_with (go_at_call 19; refine HR.out.mono ?_; rintro e w2 ⟨rfl, hb2⟩; have hbx := chk_box hb2; have c1 := cell_of_heap hbx 1 rfl; have HB2 := Lib.hid hb2; clear hb2 hbx)
        go_ret
        exact ⟨rfl, HB.out.trans (HB2.out.mono HB.out.size)⟩
end Go.Proofs.YtfoelgkkoopheaaDoor
/- Plain laws of a node's dump. No program in sight. -/
namespace Go.Proofs.YtfoelgkkoopheaaDoor.Tr

/-- A node's dump, with so much fuel. -/
def dp (t : T) : Nat → Nat → List UInt8
  | 0, _ => []
  | f + 1, i => match t.nodes[i]? with
    | none => []
    | some n => if n.kind = 19 then (match t.toks[n.tok.toNat]? with | none => [] | some k => (if k.kind = 5 then [36] else []) ++ k.text)
      else [40] ++ Lib.decDigits n.kind.toNat ++ (n.kids.flatMap fun k => [32] ++ dp t f k.toNat) ++ [41]
def dump (t : T) (i : Nat) : List UInt8 := dp t (i + 1) i

theorem dp_fuel {t : T} (h : Low t.nodes) : ∀ (f g i : Nat), i < f → i < g → dp t f i = dp t g i
  | 0, _, _, h1, _ => absurd h1 (by omega)
  | _, 0, _, _, h1 => absurd h1 (by omega)
  | f + 1, g + 1, i, h1, h2 => by
    unfold dp
    cases hn : t.nodes[i]? with
    | none => rfl
    | some n =>
      simp only
      split
      · rfl
      · rw [List.flatMap_def, List.flatMap_def]
        congr 3
        apply List.map_congr_left
        intro k hk
        have := (h i n hn).1 k hk
        rw [dp_fuel h f g k.toNat (by omega) (by omega)]
theorem dump_leaf {t : T} {i : Nat} {n : Nd} {k : Tk} (hn : t.nodes[i]? = some n) (hk : n.kind = 19) (ht : t.toks[n.tok.toNat]? = some k) : dump t i = (if k.kind = 5 then [36] else []) ++ k.text := by
  unfold dump dp
  rw [hn]
  simp only [if_pos hk, ht]
theorem dump_node {t : T} (h : Low t.nodes) {i : Nat} {n : Nd} (hn : t.nodes[i]? = some n) (hk : n.kind ≠ 19) : dump t i = [40] ++ Lib.decDigits n.kind.toNat ++ (n.kids.flatMap fun k => [32] ++ dump t k.toNat) ++ [41] := by
  unfold dump
  conv => lhs; unfold dp
  rw [hn]
  simp only [if_neg hk]
  rw [List.flatMap_def, List.flatMap_def]
  congr 3
  apply List.map_congr_left
  intro k hk
  have := (h i n hn).1 k hk
  rw [dp_fuel h i (k.toNat + 1) k.toNat (by omega) (by omega)]
/-- What stands ahead of the loop's place. -/
def dumpTo (t : T) (n : Nd) (j : Nat) : List UInt8 := [40] ++ Lib.decDigits n.kind.toNat ++ ((n.kids.take j).flatMap fun k => [32] ++ dump t k.toNat)
theorem dumpTo_succ (t : T) {n : Nd} {j : Nat} {k : Int} (h : n.kids[j]? = some k) : dumpTo t n (j + 1) = dumpTo t n j ++ [32] ++ dump t k.toNat := by
  unfold dumpTo
  rw [List.take_add_one, h]
  simp
theorem dumpTo_le (t : T) (n : Nd) (j : Nat) : (dumpTo t n j).length ≤ (dumpTo t n n.kids.length).length := by
  unfold dumpTo
  rw [List.take_length]
  have e : (n.kids.flatMap fun k => [32] ++ dump t k.toNat) = ((n.kids.take j).flatMap fun k => [32] ++ dump t k.toNat) ++ ((n.kids.drop j).flatMap fun k => [32] ++ dump t k.toNat) := by
    rw [← List.flatMap_append, List.take_append_drop]
  rw [e]
  simp only [List.length_append]
  omega
theorem dump_to (t : T) (h : Low t.nodes) {i : Nat} {n : Nd} (hn : t.nodes[i]? = some n) (hk : n.kind ≠ 19) : dump t i = dumpTo t n n.kids.length ++ [41] := by
  rw [dump_node h hn hk]
  unfold dumpTo
  rw [List.take_length]

theorem decDigits_len (k : Nat) (h : k < 100) : (Lib.decDigits k).length ≤ 2 := by
  by_cases h1 : k < 10
  · rw [Lib.decDigits_one h1]
    simp
  · rw [Lib.decDigits_two h1 h]
    simp
theorem formed_kind {t : T} {i : Nat} {n : Nd} (h : formed t i n = true) : 1 ≤ n.kind ∧ n.kind ≤ 19 ∧ (n.kind = 19 → 0 ≤ n.tok ∧ n.tok < (t.toks.length : Int)) := by
  unfold formed at h
  split at h
  · cases h
  · rename_i h1
    refine ⟨by omega, by omega, fun h2 => ?_⟩
    rw [if_pos h2] at h
    simp only [Bool.and_eq_true, decide_eq_true_eq] at h
    exact ⟨h.1.2, h.2⟩
/-- A dump is no longer than its nodes allow. -/
theorem dump_len {t : T} {L : Nat} (hL : ∀ k ∈ t.toks, k.text.length ≤ L) (hf : FormedTo t t.nodes.length) (i : Nat) : i < t.nodes.length → (dump t i).length + 1 ≤ (L + 6) * size t.nodes i := by
  induction i using Nat.strongRecOn with
  | ind i ih =>
    intro hi
    have hl := hf.low
    obtain ⟨n, hn⟩ : ∃ n, t.nodes[i]? = some n := ⟨_, List.getElem?_eq_getElem hi⟩
    have hfn := formed_kind (hf i n hi hn)
    rw [size_node hl hn, Nat.mul_add, Nat.mul_one]
    by_cases hk : n.kind = 19
    · have h2 := hfn.2.2 hk
      obtain ⟨k, hkk⟩ : ∃ k, t.toks[n.tok.toNat]? = some k := ⟨_, List.getElem?_eq_getElem (by omega)⟩
      have h3 := hL k (List.mem_of_getElem? hkk)
      rw [dump_leaf hn hk hkk]
      simp only [List.length_append]
      split <;> simp <;> omega
    · have h2 := decDigits_len n.kind.toNat (by omega)
      have h : ∀ ks : List Int, (∀ k ∈ ks, 0 ≤ k ∧ k < (i : Int)) → (ks.flatMap fun k => [32] ++ dump t k.toNat).length ≤ (L + 6) * (ks.map fun k => size t.nodes k.toNat).sum := by
        intro ks hks
        induction ks with
        | nil => simp
        | cons k ks ihk =>
          have h3 := hks k (by simp)
          have h4 := ih k.toNat (by omega) (by omega)
          have h5 := ihk fun x hx => hks x (by simp [hx])
          simp only [List.flatMap_cons, List.length_append, List.length_cons, List.length_nil, List.map_cons, List.sum_cons, Nat.mul_add] at h5 ⊢
          omega
      have h6 := h n.kids (hl i n hn).1
      rw [dump_node hl hn hk]
      simp only [List.length_append, List.length_cons, List.length_nil] at h6 ⊢
      omega
end Go.Proofs.YtfoelgkkoopheaaDoor.Tr
/- tree.dump, tree.Dump. -/
namespace Go.Proofs.YtfoelgkkoopheaaDoor
open Go.RowKit

def IsB (w : World) (B b : Nat) (l : List UInt8) : Prop := Lib.IsBuilder 83 5 B b (Lib.byteCells l) w
theorem wl_calls {w : World} {B b : Nat} {pre : List UInt8} (h : IsB w B b pre) (l : List UInt8) (hl : pre.length + l.length ≤ 1073741824) (hB : B ≤ w.heap.size) :
    Calls Tryd.prog 52 #[.pointer (some ⟨b, 0, none⟩), .string ⟨l.toArray⟩] w fun e w' => (∃ n, e = .returned (.tuple #[.int .i64 n, .nilIface])) ∧ IsB w' B b (pre ++ l) ∧ Below B w w' ∧ NB b w w' := by
  have hs : (⟨l.toArray⟩ : ByteArray).size = l.length := by simp [ByteArray.size]
  refine (wstr_nb B b (Lib.byteCells pre) ⟨l.toArray⟩ w h (by rw [Lib.byteCells_length, hs]; omega) hB).mono ?_
  rintro e w' ⟨rfl, h1, h2, h3⟩
  refine ⟨⟨_, rfl⟩, ?_, h2, h3⟩
  unfold IsB
  rw [Lib.byteCells_append]
  exact h1
theorem IsB.lt {w : World} {B b : Nat} {l : List UInt8} (h : IsB w B b l) : b < w.heap.size ∧ B ≤ b := by
  rcases h with ⟨h1, v, h2, _⟩ | ⟨h1, v, h2, _⟩
  · exact ⟨lt_heap2 h2, h1⟩
  · exact ⟨lt_heap2 h2, h1⟩
theorem IsB.below {w w' : World} {B b : Nat} {l : List UInt8} (h : IsB w B b l) (hb : Below w.heap.size w w') : IsB w' B b l := isBuilder_below h hb

theorem NB.cells {b k : Nat} {x y : World} (h : NB b x y) {cs : Array Value} {T : TypeId} {fr : Nat × Nat} (hk : x.heap[k]? = some (.cells cs T fr)) (hne : k ≠ b) (hT : T ≠ 5) : y.heap[k]? = some (.cells cs T fr) :=
  h.block k _ hk hne fun cs2 fr2 e => by injection e with _ e2 _; exact hT e2
def DumpSays (w : World) (B b : Nat) (l : List UInt8) (e : Ending) (w' : World) : Prop := e = .returned (.tuple #[]) ∧ IsB w' B b l ∧ Below B w w' ∧ NB b w w'

set_option maxRecDepth 100000 in
set_option maxHeartbeats 2000000 in
theorem dump_leaf_calls {w : World} {P : Nat → Prop} {vt vn : Value} {t : Tr.T} {B b : Nat} {pre : List UInt8} (h : RdT w P vt vn t) (hP : ∀ k, P k → k < B) (hf : Tr.FormedTo t t.nodes.length) (hn : t.nodes.length ≤ 1073741823) (ht : t.toks.length ≤ 1073741823)
    {i : Nat} {n : Tr.Nd} (hi : t.nodes[i]? = some n) (hk : n.kind = 19) (hB : B ≤ w.heap.size) (hbu : IsB w B b pre) (hl : pre.length + (Tr.dump t i).length ≤ 1073741824) :
    Calls Tryd.prog 38 #[.agg #[vt, vn], .pointer (some ⟨b, 0, none⟩), .int .i64 (i : Int)] w (DumpSays w B b (pre ++ Tr.dump t i)) := by
  have hil := Tr.get_lt hi
  have hkt := (Tr.formed_kind (hf i n hil hi)).2.2 hk
  obtain ⟨tk, htk⟩ : ∃ tk, t.toks[n.tok.toNat]? = some tk := ⟨_, List.getElem?_eq_getElem (by omega)⟩
  rw [Tr.dump_leaf hi hk htk] at hl ⊢
  obtain ⟨kind, tok, kids⟩ := n
  simp only at hk hkt htk
  subst hk
  obtain ⟨q, rfl⟩ : ∃ q : Nat, tok = q := ⟨tok.toNat, by omega⟩
  simp only [Int.toNat_natCast] at htk
  obtain ⟨gn, on, cn, kv, rfl, hgn, hrn, hkv⟩ := h.2.node hi
  obtain ⟨gt, ot, ct, rfl, hgt, hrt⟩ := h.1.tok htk
  have hil' : (i : Int) < (t.nodes.length : Int) := by omega
  have hn' : (t.nodes.length : Int) ≤ 1073741823 := by omega
  have ht' : (t.toks.length : Int) ≤ 1073741823 := by omega
  have hqt : (q : Int) < (t.toks.length : Int) := hkt.2
  obtain ⟨ka, kc, rfl⟩ := hkv.form
  obtain ⟨kd, ld, tx, ps⟩ := tk
  have hgn2 := hP _ hgn
  have hgt2 := hP _ hgt
  have HRN : Hid (∀ w2 : World, Below B w w2 → w2.rangeAt gn (on + i * 3) [.int .i64 19, .int .i64 (q : Int), .slice ka kids.length kc]) := fun w2 h2 => rangeAt_same hrn (h2.block _ hgn2)
  have HRT : Hid (∀ w2 : World, Below B w w2 → w2.rangeAt gt (ot + q * 4) [.int .i64 kd, .string ⟨ld.toArray⟩, .string ⟨tx.toArray⟩, .int .i64 ps]) := fun w2 h2 => rangeAt_same hrt (h2.block _ hgt2)
  have HB := Lib.hid hbu
  have HL := Lib.hid hl
  have HBB : Hid (∀ o1 o2 o3 : Obj, Below B w (((w.alloc o1).alloc o2).alloc o3)) := fun o1 o2 o3 => (((Below.refl _ _).alloc hB _).alloc (by rw [← size_alloc1]; omega) _).alloc (by rw [← size_alloc1, ← size_alloc1]; omega) _
  have HBW := Lib.hid hB
  clear hbu hl hrn hrt hkv h hf hi hil hkt htk hP hgn2 hgt2 hgn hgt
  by_cases hk5 : kd = 5
  · subst hk5
    go_enter Tryd.func38, Tryd.ntmps38
    go_wp2_with (first
      | (refine wpList_load_mid rfl 38 _ rfl gn (on + i * 3) rfl _ _ (HRN.out _ ((Below.refl _ _).alloc HBW.out _)) Tryd.underlying38 rfl rfl ?_)
      | (refine wpList_load_mid rfl 34 _ rfl gt (ot + q * 4) rfl _ _ (HRT.out _ (((Below.refl _ _).alloc HBW.out _).alloc (by rw [← size_alloc1]; have := HBW.out; omega) _)) Tryd.underlying34 rfl rfl ?_))
    obtain ⟨W, hW⟩ : ∃ W, ((w.alloc (.cells #[.slice (some ⟨gt, ot, none⟩) t.toks.length ct, .slice (some ⟨gn, on, none⟩) t.nodes.length cn] 41)).alloc (.cells #[.int .i64 19, .int .i64 (q : Int), .slice ka kids.length kc] 38)).alloc (.cells #[.int .i64 5, .string ⟨ld.toArray⟩, .string ⟨tx.toArray⟩, .int .i64 ps] 34) = W := ⟨_, rfl⟩
    have hWB : Below B w W := by rw [← hW]; exact HBB.out _ _ _
    have hWb : Below w.heap.size w W := by rw [← hW]; exact (((Below.refl _ _).alloc (Nat.le_refl _) _).alloc (by rw [← size_alloc1]; omega) _).alloc (by rw [← size_alloc1, ← size_alloc1]; omega) _
    have hWt : W.heap[w.heap.size + 1 + 1]? = some (.cells #[.int .i64 5, .string ⟨ld.toArray⟩, .string ⟨tx.toArray⟩, .int .i64 ps] 34 (0, 0)) := by rw [← hW]; exact new_at _ _ _ (by rw [← size_alloc1, ← size_alloc1])
    have HW := Lib.hid (And.intro hWB (And.intro hWt (And.intro (HB.out.below hWb) hWb)))
    rw [hW]
    clear hW hWB hWb hWt
    refine (wl_calls HW.out.2.2.1 [36] (by have := HL.out; simp at this ⊢; omega) (Nat.le_trans HBW.out HW.out.2.2.2.size)).mono ?_
    rintro e w1 ⟨⟨n1, rfl⟩, hi1, hb1, hn1⟩
    have ht1 := hn1.cells HW.out.2.1 (by have := HB.out.lt; omega) (by decide)
    have d2 := cell_of_heap ht1 2 rfl
    have H1 := Lib.hid (And.intro hi1 (And.intro hb1 hn1))
    clear hi1 hb1 hn1 ht1
    dsimp only
    go_wp2_with fail
    refine (wl_calls H1.out.1 tx (by have := HL.out; simp at this ⊢; omega) (Nat.le_trans (Nat.le_trans HBW.out HW.out.2.2.2.size) H1.out.2.1.size)).mono ?_
    rintro e w2 ⟨⟨n2, rfl⟩, hi2, hb2, hn2⟩
    have H2 := Lib.hid (And.intro hi2 (And.intro hb2 hn2))
    clear hi2 hb2 hn2 d2
    dsimp only
    go_wp2_with fail
    refine bodyPost_ret (results_none rfl _ _ _) rfl ?_
    refine ⟨rfl, by simpa using H2.out.1, (HW.out.1.trans H1.out.2.1).trans H2.out.2.1, ((NB.of HW.out.2.2.2).trans H1.out.2.2).trans H2.out.2.2⟩
  · have hk5' : (kd == 5) = false := by rw [beq_eq_false_iff_ne]; exact hk5
    have HK5 := Lib.hid hk5
    clear hk5
    go_enter Tryd.func38, Tryd.ntmps38
    go_wp2_with (first
      | (refine wpList_load_mid rfl 38 _ rfl gn (on + i * 3) rfl _ _ (HRN.out _ ((Below.refl _ _).alloc HBW.out _)) Tryd.underlying38 rfl rfl ?_)
      | (refine wpList_load_mid rfl 34 _ rfl gt (ot + q * 4) rfl _ _ (HRT.out _ (((Below.refl _ _).alloc HBW.out _).alloc (by rw [← size_alloc1]; have := HBW.out; omega) _)) Tryd.underlying34 rfl rfl ?_))
    obtain ⟨W, hW⟩ : ∃ W, ((w.alloc (.cells #[.slice (some ⟨gt, ot, none⟩) t.toks.length ct, .slice (some ⟨gn, on, none⟩) t.nodes.length cn] 41)).alloc (.cells #[.int .i64 19, .int .i64 (q : Int), .slice ka kids.length kc] 38)).alloc (.cells #[.int .i64 kd, .string ⟨ld.toArray⟩, .string ⟨tx.toArray⟩, .int .i64 ps] 34) = W := ⟨_, rfl⟩
    have hWB : Below B w W := by rw [← hW]; exact HBB.out _ _ _
    have hWb : Below w.heap.size w W := by rw [← hW]; exact (((Below.refl _ _).alloc (Nat.le_refl _) _).alloc (by rw [← size_alloc1]; omega) _).alloc (by rw [← size_alloc1, ← size_alloc1]; omega) _
    have hWt : W.heap[w.heap.size + 1 + 1]? = some (.cells #[.int .i64 kd, .string ⟨ld.toArray⟩, .string ⟨tx.toArray⟩, .int .i64 ps] 34 (0, 0)) := by rw [← hW]; exact new_at _ _ _ (by rw [← size_alloc1, ← size_alloc1])
    have HW := Lib.hid (And.intro hWB (And.intro hWt (And.intro (HB.out.below hWb) hWb)))
    rw [hW]
    clear hW hWB hWb hWt
    refine (wl_calls HW.out.2.2.1 tx (by have := HL.out; rw [if_neg HK5.out] at this; simp at this ⊢; omega) (Nat.le_trans HBW.out HW.out.2.2.2.size)).mono ?_
    rintro e w2 ⟨⟨n2, rfl⟩, hi2, hb2, hn2⟩
    have H2 := Lib.hid (And.intro hi2 (And.intro hb2 hn2))
    clear hi2 hb2 hn2
    dsimp only
    go_wp2_with fail
    refine bodyPost_ret (results_none rfl _ _ _) rfl ?_
    refine ⟨rfl, by simpa using H2.out.1, HW.out.1.trans H2.out.2.1, (NB.of HW.out.2.2.2).trans H2.out.2.2⟩

/-- What the loop over a node's kids keeps. -/
def DpRel (w : World) (vt vn : Value) (t : Tr.T) (n : Tr.Nd) (B b : Nat) (pre : List UInt8) (k : Nat) (v42 : Value) (wr : World) : Prop :=
  ∃ j : Nat, v42 = .int .i64 j ∧ k = n.kids.length - j ∧ j ≤ n.kids.length ∧ IsB wr B b (pre ++ Tr.dumpTo t n j) ∧ Below B w wr ∧ NB b w wr ∧ wr.heap[w.heap.size]? = some (.cells #[vt, vn] 41 (0, 0))

set_option maxRecDepth 100000 in
set_option maxHeartbeats 2000000 in
theorem dump_calls {P : Nat → Prop} {vt vn : Value} {t : Tr.T} {B b : Nat} (hP : ∀ k, P k → k < B) (hf : Tr.FormedTo t t.nodes.length) (hn : t.nodes.length ≤ 1073741823) (ht : t.toks.length ≤ 1073741823) (hkids : ∀ n ∈ t.nodes, n.kids.length ≤ 1073741823) (i : Nat) :
    ∀ (w : World) (pre : List UInt8), i < t.nodes.length → RdT w P vt vn t → B ≤ w.heap.size → IsB w B b pre → pre.length + (Tr.dump t i).length ≤ 1073741824 →
    Calls Tryd.prog 38 #[.agg #[vt, vn], .pointer (some ⟨b, 0, none⟩), .int .i64 (i : Int)] w (DumpSays w B b (pre ++ Tr.dump t i)) := by
  induction i using Nat.strongRecOn with
  | ind i ih =>
  intro w pre hil h hB hbu hl
  obtain ⟨n, hi⟩ : ∃ n, t.nodes[i]? = some n := ⟨_, List.getElem?_eq_getElem hil⟩
  by_cases hk : n.kind = 19
  · exact dump_leaf_calls h hP hf hn ht hi hk hB hbu hl
  · have hlow := hf.low
    have hkd := Tr.formed_kind (hf i n hil hi)
    have hkl := hkids n (List.mem_of_getElem? hi)
    rw [Tr.dump_to t hlow hi hk] at hl ⊢
    have hlw := hlow i n hi
    obtain ⟨gn, on, cn, kv, rfl, hgn, hrn, hkv⟩ := h.2.node hi
    obtain ⟨at_, ct, rfl⟩ := h.1.form
    obtain ⟨ka, kc, rfl⟩ := hkv.form
    obtain ⟨kd, hkde⟩ : ∃ kd : Nat, n.kind = kd := ⟨n.kind.toNat, by omega⟩
    have hkd19 : ((kd : Int) == 19) = false := by rw [beq_eq_false_iff_ne]; omega
    have hil' : (i : Int) < (t.nodes.length : Int) := by omega
    have hn' : (t.nodes.length : Int) ≤ 1073741823 := by omega
    have hkl' : (n.kids.length : Int) ≤ 1073741823 := by omega
    have hgn2 := hP _ hgn
    rw [hkde] at hrn
    have HRN : Hid (∀ w2 : World, Below B w w2 → w2.rangeAt gn (on + i * 3) [.int .i64 (kd : Int), .int .i64 n.tok, .slice ka n.kids.length kc]) := fun w2 h2 => rangeAt_same hrn (h2.block _ hgn2)
    obtain ⟨dg, hdg⟩ : ∃ dg, Lib.decDigits kd = dg := ⟨_, rfl⟩
    have hdl : dg.length ≤ 2 := by rw [← hdg]; exact Tr.decDigits_len kd (by omega)
    have hdl' : (dg.length : Int) ≤ 2 := by omega
    have HIT : Hid (∀ W : World, Calls Tryd.prog 56 #[.int .i64 (kd : Int)] W fun e w' => e = .returned (.string ⟨dg.toArray⟩) ∧ w' = W) := by
      rw [← hdg]
      exact fun W => Tryd.strconv_Itoa_small kd (by omega) W
    have HTO : Hid (Tr.dumpTo t n 0 = [40] ++ dg) := by
      refine Lib.hid ?_
      unfold Tr.dumpTo
      rw [hkde, ← hdg]
      simp
    have HKD := Lib.hid (And.intro hkde hkd)
    have HKV := Lib.hid (And.intro h (And.intro hkv (And.intro hP hlw)))
    have HB := Lib.hid hbu
    have HL := Lib.hid hl
    have HBW := Lib.hid hB
    have HIH := Lib.hid ih
    have HT := Lib.hid (And.intro hi hlow)
    clear hbu hl hrn hkv h hf hi hil hP hgn2 hgn hkde hkd hk ih hlow hlw hkids hdg
    go_enter Tryd.func38, Tryd.ntmps38
    go_wp2_with (first
      | (refine wpList_load_mid rfl 38 _ rfl gn (on + i * 3) rfl _ _ (HRN.out _ ((Below.refl _ _).alloc HBW.out _)) Tryd.underlying38 rfl rfl ?_)
      | (go_at_call 56; refine (HIT.out _).mono ?_; rintro e w' ⟨rfl, rfl⟩))
    obtain ⟨W, hW⟩ : ∃ W, (w.alloc (.cells #[.slice at_ t.toks.length ct, .slice (some ⟨gn, on, none⟩) t.nodes.length cn] 41)).alloc (.cells #[.int .i64 (kd : Int), .int .i64 n.tok, .slice ka n.kids.length kc] 38) = W := ⟨_, rfl⟩
    have hWb : Below w.heap.size w W := by rw [← hW]; exact ((Below.refl _ _).alloc (Nat.le_refl _) _).alloc (by rw [← size_alloc1]; omega) _
    have hWt : W.heap[w.heap.size]? = some (.cells #[.slice at_ t.toks.length ct, .slice (some ⟨gn, on, none⟩) t.nodes.length cn] 41 (0, 0)) := by rw [← hW, Below.heap_alloc _ _ _ (by rw [← size_alloc1]; omega)]; exact new_at _ _ _ rfl
    have hWx : W.heap[w.heap.size + 1]? = some (.cells #[.int .i64 (kd : Int), .int .i64 n.tok, .slice ka n.kids.length kc] 38 (0, 0)) := by rw [← hW]; exact new_at _ _ _ (by rw [← size_alloc1])
    have HW := Lib.hid (And.intro hWb (And.intro hWt (And.intro hWx (And.intro (HB.out.below hWb) (hWb.mono HBW.out)))))
    rw [hW]
    clear hW hWb hWt hWx
    rw [show (⟨#[40]⟩ : ByteArray) = ⟨[40].toArray⟩ from rfl, str_add]
    refine (wl_calls HW.out.2.2.2.1 ([40] ++ dg) ?_ (Nat.le_trans HBW.out HW.out.2.2.2.2.size)).mono ?_
    · have h1 := HL.out
      have h2 := Tr.dumpTo_le t n 0
      rw [HTO.out] at h2
      simp only [List.length_append] at h1 h2 ⊢
      omega
    rintro e w1 ⟨⟨n1, rfl⟩, hi1, hb1, hn1⟩
    have ht1 := hn1.cells HW.out.2.1 (by have := HB.out.lt; omega) (by decide)
    have hx1 := hn1.cells HW.out.2.2.1 (by have := HB.out.lt; omega) (by decide)
    have d2 := cell_of_heap hx1 2 rfl
    have H1 := Lib.hid (And.intro hi1 (And.intro hb1 (And.intro hn1 ht1)))
    clear hi1 hb1 hn1 ht1 hx1
    dsimp only
    go_wp2_with fail
    go_loopg [42] n.kids.length (fun k v42 wr => DpRel w (.slice at_ t.toks.length ct) (.slice (some ⟨gn, on, none⟩) t.nodes.length cn) t n B b pre k v42 wr)
    case atStart =>
      refine ⟨0, rfl, rfl, Nat.zero_le _, ?_, HW.out.2.2.2.2.trans H1.out.2.1, (NB.of HW.out.1).trans H1.out.2.2.1, H1.out.2.2.2⟩
      rw [HTO.out]
      exact H1.out.1
    case round =>
      obtain ⟨j, rfl, hk, hj, hi2, hb2, hn2, ht2⟩ := hrel
      have HR := Lib.hid (And.intro hk (And.intro hi2 (And.intro hb2 (And.intro hn2 ht2))))
      clear hk hi2 hb2 hn2 ht2 d2
      by_cases hlt : j < n.kids.length
      · have hlt' : (j : Int) < (n.kids.length : Int) := by omega
        obtain ⟨x, hx⟩ : ∃ x, n.kids[j]? = some x := ⟨_, List.getElem?_eq_getElem hlt⟩
        have hxi := HKV.out.2.2.2.1 x (List.mem_of_getElem? hx)
        obtain ⟨y, rfl⟩ : ∃ y : Nat, x = y := ⟨x.toNat, by omega⟩
        obtain ⟨bk, ok, rfl, hcell⟩ := rt_kid HKV.out.1.2 HT.out.1 HKV.out.2.1 (fun k hk => Nat.lt_of_lt_of_le (HKV.out.2.2.1 k hk) HBW.out) (Below.refl _ _) (Keeps.of HR.out.2.2.1 HKV.out.2.2.1) hx
        have HX := Lib.hid (And.intro hx hxi)
        have HLJ : Hid (pre.length + (Tr.dumpTo t n j).length + 1 + (Tr.dump t y).length ≤ 1073741824) := by
          refine Lib.hid ?_
          have h1 := HL.out
          have h2 := Tr.dumpTo_le t n (j + 1)
          rw [Tr.dumpTo_succ t hx] at h2
          simp only [List.length_append, List.length_cons, List.length_nil, Int.toNat_natCast] at h1 h2
          omega
        clear hx hxi
        go_wp2_with fail
        refine (wl_calls HR.out.2.1 [32] (by have := HLJ.out; simp only [List.length_append, List.length_cons, List.length_nil]; omega) (Nat.le_trans HBW.out HR.out.2.2.1.size)).mono ?_
        rintro e w3 ⟨⟨n3, rfl⟩, hi3, hb3, hn3⟩
        have ht3 := hn3.cells HR.out.2.2.2.2 (by have := HB.out.lt; omega) (by decide)
        have q0 := cell_of_heap ht3 0 rfl
        have q1 := cell_of_heap ht3 1 rfl
        have H3 := Lib.hid (And.intro hi3 (And.intro hb3 (And.intro hn3 ht3)))
        clear hi3 hb3 hn3 ht3
        dsimp only
        go_wp2_with fail
        refine (HIH.out y (by have := HX.out.2; omega) w3 _ (by have := HX.out.2; omega) (HKV.out.1.keep (Keeps.of (HR.out.2.2.1.trans H3.out.2.1) HKV.out.2.2.1)) (Nat.le_trans HBW.out (HR.out.2.2.1.trans H3.out.2.1).size) H3.out.1 (by have := HLJ.out; simp only [List.length_append, List.length_cons, List.length_nil]; omega)).mono ?_
        rintro e w4 ⟨rfl, hi4, hb4, hn4⟩
        have ht4 := hn4.cells H3.out.2.2.2 (by have := HB.out.lt; omega) (by decide)
        have H4 := Lib.hid (And.intro hi4 (And.intro hb4 (And.intro hn4 ht4)))
        clear hi4 hb4 hn4 ht4 q0 q1 hcell
        dsimp only
        go_wp2_with fail
        refine Handed.intro (n.kids.length - (j + 1)) ?_ ?_
        · have := HR.out.1; omega
        go_step
        repeat apply Exists.intro
        refine ⟨?_, rfl⟩
        refine ⟨j + 1, by go_num, rfl, by omega, ?_, (HR.out.2.2.1.trans H3.out.2.1).trans H4.out.2.1, (HR.out.2.2.2.1.trans H3.out.2.2.1).trans H4.out.2.2.1, H4.out.2.2.2⟩
        have := H4.out.1
        rw [Tr.dumpTo_succ t HX.out.1]
        simpa using this
      · obtain rfl : j = n.kids.length := by omega
        go_wp2_with fail
        refine (wl_calls HR.out.2.1 [41] (by have := HL.out; simp only [List.length_append] at this ⊢; omega) (Nat.le_trans HBW.out HR.out.2.2.1.size)).mono ?_
        rintro e w3 ⟨⟨n3, rfl⟩, hi3, hb3, hn3⟩
        have H3 := Lib.hid (And.intro hi3 (And.intro hb3 hn3))
        clear hi3 hb3 hn3
        dsimp only
        go_wp2_with fail
        refine bodyPost_ret (results_none rfl _ _ _) rfl ?_
        exact ⟨rfl, by simpa using H3.out.1, HR.out.2.2.1.trans H3.out.2.1, HR.out.2.2.2.1.trans H3.out.2.2⟩
end Go.Proofs.YtfoelgkkoopheaaDoor
/- tree.Dump. -/
namespace Go.Proofs.YtfoelgkkoopheaaDoor
open Go.RowKit

theorem check_zero {t : Tr.T} {n : Int} (h : Tr.check t n = 0) : Tr.right t = true ∧ 0 ≤ n ∧ n < (t.nodes.length : Int) := by
  unfold Tr.check at h
  split at h
  · omega
  · rename_i h1
    split at h
    · omega
    · exact ⟨by simpa using h1, by omega, by omega⟩
theorem right_formed {t : Tr.T} (h : Tr.right t = true) : Tr.FormedTo t t.nodes.length := by
  cases hg : Tr.rightGo t 0 t.nodes (List.replicate t.nodes.length false) with
  | none => rw [Tr.right_none hg] at h; cases h
  | some kid => exact Tr.rightGo_formed hg (by simp) (fun j n hj => absurd hj (by omega))

def DumpOut (t : Tr.T) (n : Int) : List UInt8 := if Tr.check t n = 0 then Tr.dump t n.toNat else []

set_option maxRecDepth 100000 in
set_option maxHeartbeats 1000000 in
theorem dump2_calls {w : World} {P : Nat → Prop} {vt vn : Value} {t : Tr.T} (h : RdT w P vt vn t) (hP : ∀ k, P k → k < w.heap.size) (hn : t.nodes.length ≤ 1073741823) (ht : t.toks.length ≤ 1073741823) (hkids : ∀ n ∈ t.nodes, n.kids.length ≤ 1073741823) (n : Int)
    (hl : (DumpOut t n).length ≤ 1073741824) :
    Calls Tryd.prog 21 #[.agg #[vt, vn], .int .i64 n] w fun e w' => e = .returned (.tuple #[.string ⟨(DumpOut t n).toArray⟩, .int .i64 (Tr.check t n)]) ∧ Below w.heap.size w w' := by
  have hb1 : Below w.heap.size w (w.alloc (.cells #[vt, vn] 41)) := (Below.refl _ _).alloc (Nat.le_refl _) _
  have HC := Lib.hid (check_node_calls (h.keep (Keeps.of hb1 hP)) (fun k hk => Nat.lt_of_lt_of_le (hP k hk) hb1.size) hn (by omega) hkids n)
  obtain ⟨at_, ct, rfl⟩ := h.1.form
  obtain ⟨an, cn, rfl⟩ : ∃ a c, vn = .slice a t.nodes.length c := by
    obtain ⟨kvs, _, h2, _⟩ := h.2
    exact h2.form
  have HB := Lib.hid hb1
  have HH := Lib.hid (And.intro h (And.intro hP (And.intro hn (And.intro ht hkids))))
  unfold DumpOut at hl ⊢
  clear h hP hb1 hn ht hkids
  by_cases hc : Tr.check t n = 0
  · rw [if_pos hc] at hl ⊢
    rw [hc] at HC ⊢
    obtain ⟨hr, h0, h1⟩ := check_zero hc
    obtain ⟨i, rfl⟩ : ∃ i : Nat, n = i := ⟨n.toNat, by omega⟩
    rw [Int.toNat_natCast] at hl ⊢
    have HR := Lib.hid (And.intro hr (And.intro h1 hl))
    clear hc hr h0 h1 hl
    go_enter Tryd.func21, Tryd.ntmps21
    go_wp2_with fail
    refine HC.out.mono ?_
    rintro e w2 ⟨rfl, hb2⟩
    have hbx := chk_box hb2
    have c0 := cell_of_heap hbx 0 rfl
    have c1 := cell_of_heap hbx 1 rfl
    have l0 := cell_lt c0
    have hw2 : Below w.heap.size w w2 := HB.out.trans (hb2.mono HB.out.size)
    have HW := Lib.hid (And.intro hw2 hbx)
    clear hb2 hbx hw2
    dsimp only
    go_wp2_with fail
    clear c0 c1 l0
    have hwv : Below w2.heap.size w2 (w2.alloc (.cells #[.pointer none, .slice none 0 0] 83)) := (Below.refl _ _).alloc (Nat.le_refl _) _
    have hbu : IsB (w2.alloc (.cells #[.pointer none, .slice none 0 0] 83)) w2.heap.size w2.heap.size [] := Or.inl ⟨Nat.le_refl _, _, heap_alloc_new _ _, World.ownsRow_nil _ _ _ _, by simp [Value.ownBlock]⟩
    obtain ⟨h, hP, hn, ht, hkids⟩ := HH.out
    have hw0 : Below w.heap.size w (w2.alloc (.cells #[.pointer none, .slice none 0 0] 83)) := HW.out.1.trans (hwv.mono HW.out.1.size)
    refine (dump_calls (B := w2.heap.size) (b := w2.heap.size) (fun k hk => Nat.lt_of_lt_of_le (hP k hk) HW.out.1.size) (right_formed HR.out.1) hn ht hkids i _ [] (by have := HR.out.2.1; omega) (h.keep (Keeps.of hw0 hP)) hwv.size hbu (by simpa using HR.out.2.2)).mono ?_
    rintro e w3 ⟨rfl, hi3, hb3, hn3⟩
    have H3 := Lib.hid (And.intro hi3 (And.intro hb3 (And.intro hw0 hwv)))
    clear h hP hn ht hkids hw0 hwv hbu hi3 hb3 hn3
    dsimp only
    go_wp2_with fail
    refine (Tryd.Builder_String_any w2.heap.size w2.heap.size (Tr.dump t i) _ (by have := H3.out.1; rwa [List.nil_append] at this) (Nat.le_trans H3.out.2.2.2.size H3.out.2.1.size)).mono ?_
    rintro e w4 ⟨rfl, hb4⟩
    have H4 := Lib.hid hb4
    clear hb4
    dsimp only
    go_wp2_with fail
    go_ret2
    exact ⟨rfl, H3.out.2.2.1.trans ((H3.out.2.1.trans H4.out).mono HW.out.1.size)⟩
  · rw [if_neg hc]
    have hc' : (Tr.check t n != 0) = true := by simp [hc]
    generalize Tr.check t n = c at *
    clear hl hc
    go_enter Tryd.func21, Tryd.ntmps21
    go_wp2_with fail
    refine HC.out.mono ?_
    rintro e w2 ⟨rfl, hb2⟩
    have HB2 := Lib.hid hb2
    clear hb2
    dsimp only
    go_wp2_with fail
    go_ret2
    exact ⟨rfl, HB.out.trans (HB2.out.mono HB.out.size)⟩
end Go.Proofs.YtfoelgkkoopheaaDoor
/- The laws' anchor: the document's example. -/
namespace Go.Proofs.YtfoelgkkoopheaaDoor
open Go.RowKit

/-- A token as trees have it. -/
def toTk (t : Lx.Tok) : Tr.Tk := ⟨t.kind, t.lead, t.text, t.pos⟩
theorem toks_cells (l : List Lx.Tok) : toksCells l = tksCells (l.map toTk) := by
  simp only [toksCells, tksCells, List.flatMap_map]
  rfl
theorem Grew.low {w w' : World} {B b : Nat} {vt vn vn' : Value} {t : Tr.T} {used : Nat} (h : Grew w w' b vn vn') (hb : BuildI w B b vt vn t used) : Below B w w' := by
  refine ⟨h.1.os, h.1.tape, h.1.output, h.1.size, fun k hk => h.1.block k ?_ ?_⟩
  · have := hb.base; have := lt_heap hb.cell; omega
  · rintro (e | e)
    · have := hb.base; omega
    · obtain ⟨kvs, _, h2, _⟩ := hb.nodes
      have := (h2.lt k e).1
      omega
theorem rds_new (w : World) (l : List Int) {r : Nat} (hr : r = w.heap.size) : RdS (w.alloc (.cells (intCells l).toArray 3)) (fun k => k = w.heap.size) 1 (.slice (some ⟨r, 0, none⟩) l.length l.length) l.length (intCells l) := by
  subst hr
  refine ⟨by simp [intCells], _, _, rfl, Nat.le_refl _, Or.inr ⟨_, _, rfl, Or.inr rfl, ?_⟩⟩
  intro j v hj
  rw [Nat.zero_add]
  exact cell_of_heap (new_at _ _ _ rfl) j (by simpa using hj)
theorem BuildI.alloc {w : World} {B b : Nat} {vt vn : Value} {t : Tr.T} {used : Nat} (h : BuildI w B b vt vn t used) (o : Obj) : BuildI (w.alloc o) B b vt vn t used :=
  h.keep (by rw [← size_alloc1]; omega) fun k hk _ => Below.heap_alloc _ _ _ hk

def anchorT : Tr.T := ⟨[⟨1, [], [120], 0⟩, ⟨5, [], [], 1⟩], [⟨19, 0, []⟩, ⟨14, -1, [0]⟩, ⟨19, 1, []⟩, ⟨18, -1, [1, 2]⟩]⟩
theorem anchor_lex : Lx.lex [120] = ([⟨1, [], [120], 0⟩, ⟨5, [], [], 1⟩], 0, 0) := by rfl
theorem anchor_right : Tr.right anchorT = true := by rfl
theorem anchor_check : Tr.check anchorT 3 = 0 := by rfl
theorem anchor_dump : DumpOut anchorT 3 = [40, 49, 56, 32, 40, 49, 52, 32, 120, 41, 32, 36, 41] := by
  unfold DumpOut
  rw [anchor_check, if_pos rfl]
  simp [Tr.dump, Tr.dp, anchorT, Lib.decDigits_two]
theorem anchor_whole : wholeOf anchorT.toks = [120] := rfl

/-- All stands but block b and rows of one type. -/
structure NBt (T : TypeId) (b : Nat) (w w' : World) : Prop where
  os : w'.os = w.os
  tape : w'.tape = w.tape
  output : w'.output = w.output
  size : w.heap.size ≤ w'.heap.size
  block : ∀ (k : Nat) (o : Obj), w.heap[k]? = some o → k ≠ b → (∀ cs fr, o ≠ .cells cs T fr) → w'.heap[k]? = some o
theorem NBt.cells {T0 : TypeId} {b k : Nat} {x y : World} (h : NBt T0 b x y) {cs : Array Value} {T : TypeId} {fr : Nat × Nat} (hk : x.heap[k]? = some (.cells cs T fr)) (hne : k ≠ b) (hT : T ≠ T0) : y.heap[k]? = some (.cells cs T fr) :=
  h.block k _ hk hne fun cs2 fr2 e => by injection e with _ e2 _; exact hT e2
theorem NBt.of {T : TypeId} {b : Nat} {x y : World} (h : Below x.heap.size x y) : NBt T b x y :=
  ⟨h.os, h.tape, h.output, h.size, fun i _ hi _ _ => (h.block i (lt_heap hi)).trans hi⟩
theorem NBt.trans {T : TypeId} {b : Nat} {x y z : World} (h : NBt T b x y) (k : NBt T b y z) : NBt T b x z :=
  ⟨k.os.trans h.os, k.tape.trans h.tape, k.output.trans h.output, Nat.le_trans h.size k.size, fun i o hi hb hn => k.block i o (h.block i o hi hb hn) hb hn⟩
theorem Grew.nbt {w w' : World} {B b : Nat} {vt vn vn' : Value} {t : Tr.T} {used : Nat} (h : Grew w w' b vn vn') (hb : BuildI w B b vt vn t used) : NBt 38 b w w' := by
  refine ⟨h.1.os, h.1.tape, h.1.output, h.1.size, fun k o hk hne hn => ?_⟩
  rw [h.1.block k (lt_heap hk) ?_]
  · exact hk
  · rintro (e | e)
    · exact hne e
    · obtain ⟨kvs, _, h2, _⟩ := hb.nodes
      rcases h2.2 with ⟨rfl, _⟩ | ⟨g, cap, cur, rfl, _, hg, _⟩
      · cases e
      · injection e with e
        subst e
        rw [hg] at hk
        injection hk with hk
        exact hn _ _ hk.symm

/-- A builder at block b, made since w. -/
def Anc (w W : World) (b : Nat) (t : Tr.T) (used : Nat) : Prop := ∃ B vt vn, w.heap.size ≤ B ∧ BuildI W B b vt vn t used ∧ Below w.heap.size w W
theorem anc_after {w V w2 : World} {cs cs2 : Array Value} {T T2 : TypeId} (hV : Below w.heap.size w V) (ht : V.heap[w.heap.size]? = some (.cells cs T (0, 0))) (hb : Below (V.alloc (.cells cs2 T2)).drew.heap.size (V.alloc (.cells cs2 T2)).drew w2) :
    Below w.heap.size w w2 ∧ w2.heap[w.heap.size]? = some (.cells cs T (0, 0)) := rt_after hV ht hb
theorem anc_box {w w' : World} {k : Nat} {o : Obj} (h : w.heap[k]? = some o) (hb : Below w.heap.size w w') : w'.heap[k]? = some o := (hb.block k (lt_heap h)).trans h
theorem Anc.alloc {w W : World} {b : Nat} {t : Tr.T} {used : Nat} (h : Anc w W b t used) (o : Obj) : Anc w (W.alloc o) b t used := by
  obtain ⟨B, vt, vn, h1, h2, h3⟩ := h
  exact ⟨B, vt, vn, h1, h2.alloc o, h3.alloc h3.size _⟩
theorem Anc.below {w W : World} {b : Nat} {t : Tr.T} {used : Nat} (h : Anc w W b t used) : Below w.heap.size w W := by
  obtain ⟨B, vt, vn, h1, h2, h3⟩ := h
  exact h3
theorem Anc.lt {w W : World} {b : Nat} {t : Tr.T} {used : Nat} (h : Anc w W b t used) : w.heap.size ≤ b ∧ b < W.heap.size := by
  obtain ⟨B, vt, vn, h1, h2, h3⟩ := h
  exact ⟨Nat.le_trans h1 h2.base, lt_heap h2.cell⟩
/-- What is turned below the builder's base is no concern of its. -/
theorem Anc.past {w W W' : World} {b : Nat} {t : Tr.T} {used : Nat} (h : Anc w W b t used) (hb : Below W.heap.size W W') : Anc w W' b t used := by
  obtain ⟨B, vt, vn, h1, h2, h3⟩ := h
  exact ⟨B, vt, vn, h1, h2.keep hb.size fun k hk _ => hb.block k hk, h3.trans (hb.mono h3.size)⟩
theorem anc_new {w W : World} {P : Nat → Prop} {v : Value} {l : List Tr.Tk} (h : RdS W P 4 v l.length (tksCells l)) (hn : l.length ≤ 1073741824) (hw : Below w.heap.size w W) :
    Calls Tryd.prog 9 #[v] W fun e w' => ∃ b, e = .returned (.pointer (some ⟨b, 0, none⟩)) ∧ Anc w w' b ⟨l, []⟩ 0 ∧ W.heap.size ≤ b ∧ Below W.heap.size W w' := by
  refine (newBuilder_calls h hn).mono ?_
  rintro e w' ⟨b, vt, rfl, h1, h2⟩
  exact ⟨b, rfl, ⟨W.heap.size, vt, _, hw.size, h1, hw.trans (h2.mono hw.size)⟩, h1.base, h2⟩
theorem anc_leaf {w W : World} {b : Nat} {t : Tr.T} {used : Nat} (h : Anc w W b t used) (hn : t.nodes.length ≤ 1073741823) (ht : t.toks.length ≤ 1073741824) (hu : used < t.toks.length) :
    Calls Tryd.prog 11 #[.pointer (some ⟨b, 0, none⟩)] W fun e w' => e = .returned (.int .i64 t.nodes.length) ∧ Anc w w' b ⟨t.toks, t.nodes ++ [⟨19, used, []⟩]⟩ (used + 1) ∧ NBt 38 b W w' := by
  obtain ⟨B, vt, vn, h1, h2, h3⟩ := h
  refine (leaf_calls h2 hn ht (by omega)).mono ?_
  intro e w' hs
  unfold LeafSays at hs
  rw [if_neg (by omega)] at hs
  obtain ⟨vn', rfl, q1, q2⟩ := hs
  exact ⟨rfl, ⟨B, vt, vn', h1, q1, h3.trans ((q2.low h2).mono h1)⟩, q2.nbt h2⟩
theorem anc_leaf_end {w W : World} {b : Nat} {t : Tr.T} (h : Anc w W b t t.toks.length) (hn : t.nodes.length ≤ 1073741823) (ht : t.toks.length ≤ 1073741824) :
    Calls Tryd.prog 11 #[.pointer (some ⟨b, 0, none⟩)] W fun e w' => e = .returned (.int .i64 (-1)) ∧ Anc w w' b t t.toks.length ∧ NBt 38 b W w' := by
  obtain ⟨B, vt, vn, h1, h2, h3⟩ := h
  refine (leaf_calls h2 hn ht (Nat.le_refl _)).mono ?_
  intro e w' hs
  unfold LeafSays at hs
  rw [if_pos rfl] at hs
  obtain ⟨rfl, q1, q2⟩ := hs
  exact ⟨rfl, ⟨B, vt, vn, h1, q1, h3.trans ((q2.low h2).mono h1)⟩, q2.nbt h2⟩
theorem anc_node {w W : World} {b : Nat} {t : Tr.T} {used : Nat} (h : Anc w W b t used) (hn : t.nodes.length ≤ 1073741823) {P : Nat → Prop} {v : Value} {l : List Int} (hk : RdS W P 1 v l.length (intCells l)) (hP : ∀ k, P k → k < W.heap.size) (hl : l.length ≤ 1073741824) (kind : Int) (hok : l.any (badKid t.nodes.length) = false) :
    Calls Tryd.prog 12 #[.pointer (some ⟨b, 0, none⟩), .int .i64 kind, v] W fun e w' => e = .returned (.int .i64 t.nodes.length) ∧ Anc w w' b ⟨t.toks, t.nodes ++ [⟨kind, -1, l⟩]⟩ used ∧ NBt 38 b W w' := by
  obtain ⟨B, vt, vn, h1, h2, h3⟩ := h
  refine (node_calls h2 hn hk hP hl kind).mono ?_
  intro e w' hs
  unfold NodeSays at hs
  rw [if_neg (by simp [hok])] at hs
  obtain ⟨vn', rfl, q1, q2⟩ := hs
  exact ⟨rfl, ⟨B, vt, vn', h1, q1, h3.trans ((q2.low h2).mono h1)⟩, q2.nbt h2⟩
theorem anc_node_bad {w W : World} {b : Nat} {t : Tr.T} {used : Nat} (h : Anc w W b t used) (hn : t.nodes.length ≤ 1073741823) {P : Nat → Prop} {v : Value} {l : List Int} (hk : RdS W P 1 v l.length (intCells l)) (hP : ∀ k, P k → k < W.heap.size) (hl : l.length ≤ 1073741824) (kind : Int) (hok : l.any (badKid t.nodes.length) = true) :
    Calls Tryd.prog 12 #[.pointer (some ⟨b, 0, none⟩), .int .i64 kind, v] W fun e w' => e = .returned (.int .i64 (-1)) ∧ Anc w w' b t used ∧ NBt 38 b W w' := by
  obtain ⟨B, vt, vn, h1, h2, h3⟩ := h
  refine (node_calls h2 hn hk hP hl kind).mono ?_
  intro e w' hs
  unfold NodeSays at hs
  rw [if_pos hok] at hs
  obtain ⟨rfl, q1, q2⟩ := hs
  exact ⟨rfl, ⟨B, vt, vn, h1, q1, h3.trans ((q2.low h2).mono h1)⟩, q2.nbt h2⟩
theorem anc_done {w W : World} {b : Nat} {t : Tr.T} {used : Nat} (h : Anc w W b t used) (hn : t.nodes.length ≤ 1073741823) (ht : t.toks.length ≤ 1073741824) (hkids : ∀ n ∈ t.nodes, n.kids.length ≤ 1073741824) :
    Calls Tryd.prog 13 #[.pointer (some ⟨b, 0, none⟩)] W fun e w' => ∃ vt' vn', e = .returned (.agg #[vt', vn']) ∧ RdT w' (fun k => W.heap.size ≤ k ∧ k < w'.heap.size) vt' vn' t ∧ Below W.heap.size W w' := by
  obtain ⟨B, vt, vn, h1, h2, h3⟩ := h
  exact done_calls h2 hn ht hkids

def anchorToks : List Tr.Tk := [⟨1, [], [120], 0⟩, ⟨5, [], [], 1⟩]

set_option maxRecDepth 100000 in
set_option maxHeartbeats 2000000 in
theorem anchor_calls (w : World) : Calls Tryd.prog 7 #[] w fun e w' => e = .returned (.bool true) ∧ Below w.heap.size w w' := by
  go_enter Tryd.func7, Tryd.ntmps7
  go_wp2_with fail
  rw [show (⟨#[120]⟩ : ByteArray) = ⟨[120].toArray⟩ from rfl]
  refine (lex_calls [120] (by decide) w).mono ?_
  rintro e w1 ⟨v, rfl, ho1, hb1⟩
  rw [anchor_lex] at ho1 ⊢
  rw [toks_cells] at ho1
  obtain ⟨a1, c1, rfl⟩ := ownsRow_form ho1
  have HO1 : Hid (RdS w1 (fun k => k < w1.heap.size) 4 (.slice a1 2 c1) anchorToks.length (tksCells anchorToks)) := (RdS.own ho1).imp fun k hk => hk.2.2
  have HB1 := Lib.hid hb1
  clear ho1 hb1
  dsimp only
  go_wp2_with fail
  have hf1 : Below w1.heap.size w1 (w1.alloc (.cells #[.int .i64 0, .int .i64 0] 27)) := (Below.refl _ _).alloc (Nat.le_refl _) _
  refine (anc_new (HO1.out.keep (Keeps.of hf1 fun k hk => hk)) (by decide) (HB1.out.trans (hf1.mono HB1.out.size))).mono ?_
  rintro e w2 ⟨b, rfl, hA2, _, _⟩
  have HA2 := Lib.hid hA2
  clear hf1 hA2
  dsimp only
  go_wp2_with fail
  refine (anc_leaf HA2.out (by decide) (by decide) (by decide)).mono ?_
  rintro e w3 ⟨rfl, hA3, _⟩
  have HA3 := Lib.hid (hA3.alloc (.cells #[.int .i64 0] 3))
  clear hA3
  dsimp only
  go_wp2_with fail
  refine (anc_node HA3.out (by decide) (l := [0]) (rds_new w3 [0] rfl) (fun k hk => by rw [← size_alloc1]; omega) (by decide) 14 (by decide)).mono ?_
  rintro e w4 ⟨rfl, hA4, _⟩
  have HA4 := Lib.hid hA4
  clear hA4
  dsimp only
  go_wp2_with fail
  refine (anc_leaf HA4.out (by decide) (by decide) (by decide)).mono ?_
  rintro e w5 ⟨rfl, hA5, _⟩
  have HA5 := Lib.hid (hA5.alloc (.cells #[.int .i64 1, .int .i64 2] 3))
  clear hA5
  dsimp only
  go_wp2_with fail
  refine (anc_node HA5.out (by decide) (l := [1, 2]) (rds_new w5 [1, 2] rfl) (fun k hk => by rw [← size_alloc1]; omega) (by decide) 18 (by decide)).mono ?_
  rintro e w6 ⟨rfl, hA6, _⟩
  have HA6 := Lib.hid hA6
  clear hA6
  dsimp only
  go_wp2_with fail
  refine (anc_done HA6.out (by decide) (by decide) (by decide)).mono ?_
  rintro e w7 ⟨vt, vn, rfl, hT7, hb7⟩
  obtain ⟨at_, ct, rfl⟩ : ∃ a c, vt = .slice a 2 c := hT7.1.form
  obtain ⟨an, cn, rfl⟩ : ∃ a c, vn = .slice a 4 c := by
    obtain ⟨kvs, _, h2, _⟩ := hT7.2
    exact h2.form
  have HT7 : Hid (RdT w7 (fun k => w6.heap.size ≤ k ∧ k < w7.heap.size) (.slice at_ 2 ct) (.slice an 4 cn) anchorT) := hT7
  have HB7 : Hid (Below w.heap.size w w7) := HA6.out.below.trans (hb7.mono HA6.out.below.size)
  clear hT7 hb7
  dsimp only
  go_wp2_with fail
  have hv1 : Below w7.heap.size w7 (w7.alloc (.cells #[.slice at_ 2 ct, .slice an 4 cn] 41)) := (Below.refl _ _).alloc (Nat.le_refl _) _
  have hvt : (w7.alloc (.cells #[.slice at_ 2 ct, .slice an 4 cn] 41)).heap[w7.heap.size]? = some (.cells #[.slice at_ 2 ct, .slice an 4 cn] 41 (0, 0)) := new_at _ _ _ rfl
  generalize w7.alloc (.cells #[.slice at_ 2 ct, .slice an 4 cn] 41) = V at *
  have HRt : Hid (∀ W : World, Calls Tryd.prog 18 #[.agg #[.slice at_ 2 ct, .slice an 4 cn]] W fun e w' => e = .returned (.int .i64 3) ∧ W.alloc (.cells #[.slice at_ 2 ct, .slice an 4 cn] 41) = w') := fun W => root_succ W _ _ 3 _ (by decide)
  have HD : Hid (∀ W : World, Below w7.heap.size w7 W → Calls Tryd.prog 21 #[.agg #[.slice at_ 2 ct, .slice an 4 cn], .int .i64 3] W fun e w' => e = .returned (.tuple #[.string ⟨#[40, 49, 56, 32, 40, 49, 52, 32, 120, 41, 32, 36, 41]⟩, .int .i64 0]) ∧ Below W.heap.size W w') := by
    intro W hW
    have h := dump2_calls (HT7.out.keep (Keeps.of hW fun k hk => hk.2)) (fun k hk => Nat.lt_of_lt_of_le hk.2 hW.size) (by decide) (by decide) (by decide) 3 (by rw [anchor_dump]; decide)
    rw [anchor_dump, anchor_check] at h
    exact h
  have HRi : Hid (∀ W : World, Below w7.heap.size w7 W → Calls Tryd.prog 19 #[.agg #[.slice at_ 2 ct, .slice an 4 cn]] W fun e w' => e = .returned (.bool true) ∧ Below W.heap.size W w') := by
    intro W hW
    have h := right_calls (HT7.out.keep (Keeps.of hW fun k hk => hk.2)) (fun k hk => Nat.lt_of_lt_of_le hk.2 hW.size) (by decide) (by decide) (by decide)
    rw [anchor_right] at h
    exact h
  have HSh : Hid (∀ W : World, Below w7.heap.size w7 W → Calls Tryd.prog 14 #[.agg #[.slice at_ 2 ct, .slice an 4 cn]] W fun e w' => e = .returned (.string ⟨#[120]⟩) ∧ Below W.heap.size W w') := by
    intro W hW
    have h := show_calls (vn := .slice an 4 cn) (HT7.out.1.keep (Keeps.of hW fun k hk => hk.2)) (fun k hk => Nat.lt_of_lt_of_le hk.2 hW.size) (by decide) (by decide)
    rw [anchor_whole] at h
    exact h
  have t0 := cell_of_heap hvt 0 rfl
  have t1 := cell_of_heap hvt 1 rfl
  have l0 := cell_lt t0
  have HV := Lib.hid (And.intro hv1 hvt)
  clear hv1 hvt
  go_region_held3 (fun w' => w'.cell? ⟨w7.heap.size, 0, none⟩ = some (.slice at_ 2 ct) ∧ w'.cell? ⟨w7.heap.size, 1, none⟩ = some (.slice an 4 cn)) (first | exact ⟨t0, t1⟩ | exact ⟨e20, e21⟩ | go_keep)
    ((first
      | (go_at_call 18; refine (HRt.out _).mono ?_; rintro e w2 ⟨rfl, rfl⟩)
      | (go_at_call 21; refine (HD.out _ (HV.out.1.alloc HV.out.1.size _).drew).mono ?_; rintro e w8 ⟨rfl, hb8⟩; have hb9 := anc_after HV.out.1 HV.out.2 hb8; have e20 := cell_of_heap hb9.2 0 rfl; have e21 := cell_of_heap hb9.2 1 rfl; have HB9 := Lib.hid hb9; clear hb8 hb9)))
  clear t0 t1 l0
  go_wp2_with fail
  refine (HRi.out _ HB9.out.1).mono ?_
  rintro e w9 ⟨rfl, hb9⟩
  have hbx := anc_box HB9.out.2 hb9
  have e30 := cell_of_heap hbx 0 rfl
  have e31 := cell_of_heap hbx 1 rfl
  have HB10 := Lib.hid (And.intro hb9 hbx)
  clear hb9 hbx e20 e21
  dsimp only
  go_wp2_with fail
  refine (HSh.out _ (HB9.out.1.trans (HB10.out.1.mono HB9.out.1.size))).mono ?_
  rintro e w10 ⟨rfl, hb10⟩
  have HB11 := Lib.hid hb10
  clear hb10
  dsimp only
  go_wp2_with fail
  go_ret
  exact ⟨by simp, HB7.out.trans ((HB9.out.1.trans ((HB10.out.1.trans (HB11.out.mono HB10.out.1.size)).mono HB9.out.1.size)).mono HB7.out.size)⟩
end Go.Proofs.YtfoelgkkoopheaaDoor
/- TreeFinds: the walk. -/
namespace Go.Proofs.YtfoelgkkoopheaaDoor
open Go.RowKit

def FiRel (w1 : World) (kind : Int) (ns : List Tr.Nd) (l : List Int) (g : Nat) (k : Nat) (v6 v20 : Value) (wr : World) : Prop :=
  ∃ j m : Nat, v20 = .int .i64 j ∧ v6 = .int .i64 m ∧ k = ns.length - j ∧ j ≤ ns.length ∧ m ≤ l.length ∧ l.drop m = Tr.allGo kind j (ns.drop j) ∧ Below g w1 wr

theorem allGo_len (kind : Int) : ∀ (ns : List Tr.Nd) (i : Nat), (Tr.allGo kind i ns).length ≤ ns.length
  | [], _ => by simp [Tr.allGo]
  | n :: ns, i => by
    have := allGo_len kind ns (i + 1)
    unfold Tr.allGo
    split
    · simp only [List.length_cons]; omega
    · simp only [List.length_cons]; omega
theorem drop_cons {α : Type} {l r : List α} {m : Nat} {x : α} (h : l.drop m = x :: r) : l[m]? = some x ∧ l.drop (m + 1) = r := by
  have hlt : m < l.length := by
    rcases Nat.lt_or_ge m l.length with h1 | h1
    · exact h1
    · rw [List.drop_eq_nil_of_le h1] at h; cases h
  rw [List.drop_eq_getElem_cons hlt] at h
  injection h with h1 h2
  exact ⟨by rw [List.getElem?_eq_getElem hlt, h1], h2⟩
set_option maxRecDepth 100000 in
set_option maxHeartbeats 2000000 in
theorem finds_calls {w : World} {P : Nat → Prop} {vt vn : Value} {t : Tr.T} (h : RdT w P vt vn t) (hP : ∀ k, P k → k < w.heap.size) (kind : Int) :
    Calls Tryd.prog 4 #[.agg #[vt, vn], .int .i64 kind] w fun e w' => e = .returned (.bool true) ∧ Below w.heap.size w w' := by
  obtain ⟨at_, ct, rfl⟩ := h.1.form
  obtain ⟨an, cn, rfl⟩ : ∃ a c, vn = .slice a t.nodes.length c := by
    obtain ⟨kvs, _, h2, _⟩ := h.2
    exact h2.form
  have HH := Lib.hid (And.intro h hP)
  have hb1 : Below w.heap.size w (w.alloc (.cells #[.slice at_ t.toks.length ct, .slice an t.nodes.length cn] 41)) := (Below.refl _ _).alloc (Nat.le_refl _) _
  have HB1 := Lib.hid hb1
  clear h hP hb1
  go_enter Tryd.func4, Tryd.ntmps4
  go_wp2_with fail
  refine (anchor_calls _).mono ?_
  rintro e w1 ⟨rfl, hb1⟩
  have hbx := chk_box hb1
  have c0 := cell_of_heap hbx 0 rfl
  have c1 := cell_of_heap hbx 1 rfl
  have l0 := cell_lt c0
  have HW1 := Lib.hid (And.intro (HB1.out.trans (hb1.mono HB1.out.size)) hbx)
  clear hb1 hbx
  dsimp only
  go_wp2_with fail
  refine (small_calls (HH.out.1.keep (Keeps.of HW1.out.1 HH.out.2)) (fun k hk => Nat.lt_of_lt_of_le (HH.out.2 k hk) HW1.out.1.size)).mono ?_
  rintro e w2 ⟨rfl, hb2⟩
  have hbx := anc_box HW1.out.2 hb2
  have HW2 := Lib.hid (And.intro (HW1.out.1.trans (hb2.mono HW1.out.1.size)) hbx)
  clear hb2 hbx c0 c1 l0
  cases hsm : smallT t
  · clear hsm
    dsimp only
    go_wp2_with fail
    go_ret
    exact ⟨rfl, HW2.out.1⟩
  · have hlen : t.toks.length ≤ 100 ∧ t.nodes.length ≤ 200 := by
      simp only [smallT, Bool.and_eq_true, decide_eq_true_eq] at hsm
      exact ⟨hsm.1.1.1, hsm.1.1.2⟩
    have hn' : (t.nodes.length : Int) ≤ 200 := by omega
    have HLN := Lib.hid hlen
    clear hsm hlen
    have c0 := cell_of_heap HW2.out.2 0 rfl
    have c1 := cell_of_heap HW2.out.2 1 rfl
    have l0 := cell_lt c0
    dsimp only
    go_wp2_with fail
    refine (all_calls (HH.out.1.keep (Keeps.of HW2.out.1 HH.out.2)) (fun k hk => Nat.lt_of_lt_of_le (HH.out.2 k hk) HW2.out.1.size) (by have := HLN.out.2; omega) kind).mono ?_
    rintro e w3 ⟨v, rfl, ho3, hb3⟩
    obtain ⟨l, hl⟩ : ∃ l, Tr.all t kind = l := ⟨_, rfl⟩
    have hl0 : l = Tr.allGo kind 0 t.nodes := hl.symm
    rw [hl] at ho3
    obtain ⟨av, cv, rfl⟩ := ownsRow_form ho3
    have hbx := anc_box HW2.out.2 hb3
    have hll : l.length ≤ 200 := by have := allGo_len kind t.nodes 0; rw [← hl0] at this; have := HLN.out.2; omega
    have hll' : (l.length : Int) ≤ 200 := by omega
    have HW3 := Lib.hid (And.intro (HW2.out.1.trans (hb3.mono HW2.out.1.size)) (And.intro hbx (And.intro ho3 hl0)))
    clear c0 c1 l0 hb3 hbx ho3 hl hl0
    have c0 := cell_of_heap HW3.out.2.1 0 rfl
    have c1 := cell_of_heap HW3.out.2.1 1 rfl
    have l0 := cell_lt c0
    dsimp only
    go_wp2_with fail
    go_loopg [6, 20] t.nodes.length (fun k v6 v20 wr => FiRel w3 kind t.nodes l w3.heap.size k v6 v20 wr)
    case atStart => exact ⟨0, 0, rfl, rfl, rfl, Nat.zero_le _, Nat.zero_le _, by rw [HW3.out.2.2.2]; rfl, Below.refl _ _⟩
    case round =>
      obtain ⟨j, m, rfl, rfl, hk, hj, hm, hd, hb⟩ := hrel
      have HR := Lib.hid (And.intro hk (And.intro hd hb))
      have hm' : (m : Int) ≤ (l.length : Int) := by omega
      clear hk hd hb
      by_cases hlt : j < t.nodes.length
      · have hlt' : (j : Int) < (t.nodes.length : Int) := by omega
        obtain ⟨n, hnj⟩ : ∃ n, t.nodes[j]? = some n := ⟨_, List.getElem?_eq_getElem hlt⟩
        have hbw : Below w.heap.size w wr := HW3.out.1.trans (HR.out.2.2.mono HW3.out.1.size)
        obtain ⟨b, off, c', kv, he, hbB, hrg, hkv⟩ := (HH.out.1.2.keep (Keeps.of hbw HH.out.2)).node hnj
        obtain ⟨rfl, rfl⟩ : an = some ⟨b, off, none⟩ ∧ cn = c' := by
          simp only [Value.slice.injEq] at he
          exact ⟨he.1, he.2.2⟩
        obtain ⟨ka, kc, rfl⟩ := hkv.form
        have HG := Lib.hid hrg
        have HA := Lib.hid (all_step kind hnj)
        clear hrg hnj hkv he hbw hbB
        obtain ⟨nk, ntok, nkids⟩ := n
        simp only at HA HG
        by_cases hkind : nk = kind
        · have hkk : (nk != kind) = false := by simp [hkind]
          have HKI := Lib.hid hkind
          clear hkind
          have hd := HR.out.2.1
          rw [HA.out, if_pos HKI.out] at hd
          obtain ⟨hlm, hdm⟩ := drop_cons hd
          have hmlt : (m : Int) < (l.length : Int) := by have := Tr.get_lt hlm; omega
          obtain ⟨gl, rfl, hcl⟩ := rt_leaf (ownsRow_below HW3.out.2.2.1 HR.out.2.2) hlm
          have HD := Lib.hid hdm
          have lgl := cell_lt hcl
          clear hd hlm hdm
          go_wp2_with (refine wpList_load_mid rfl 38 _ rfl b (off + j * 3) rfl _ _ HG.out Tryd.underlying38 rfl rfl ?_)
          go_roundg (t.nodes.length - (j + 1))
          case measure => have := HR.out.1; omega
          case rel => exact ⟨j + 1, m + 1, by go_num, by go_num, rfl, by omega, by omega, HD.out, HR.out.2.2.alloc HR.out.2.2.size _⟩
        · have hkk : (nk != kind) = true := by simp [hkind]
          have HKI := Lib.hid hkind
          clear hkind
          go_wp2_with (refine wpList_load_mid rfl 38 _ rfl b (off + j * 3) rfl _ _ HG.out Tryd.underlying38 rfl rfl ?_)
          go_roundg (t.nodes.length - (j + 1))
          case measure => have := HR.out.1; omega
          case rel =>
            refine ⟨j + 1, m, by go_num, rfl, rfl, by omega, by omega, ?_, HR.out.2.2.alloc HR.out.2.2.size _⟩
            rw [HR.out.2.1, HA.out, if_neg HKI.out]
      · obtain rfl : j = t.nodes.length := by omega
        have hd := HR.out.2.1
        rw [List.drop_length] at hd
        obtain rfl : m = l.length := by
          have : l.drop m = [] := hd
          rw [List.drop_eq_nil_iff] at this
          omega
        clear hd
        go_wp2_with fail
        go_ret
        exact ⟨rfl, HW3.out.1.trans (HR.out.2.2.mono HW3.out.1.size)⟩
end Go.Proofs.YtfoelgkkoopheaaDoor
/- From a law's walk to its statement: what holds of every law that returns true and turns nothing that was there. -/
namespace Go.Proofs.YtfoelgkkoopheaaDoor
open Go.ChangeShapes Go.WideShapes Go.ChangeAt Go.RowKit

/-- The arguments read as they did. -/
theorem trodAll_below {H : Type} {enc : TypeId × Value → H} {P : Program} {W W' : World} (hl : laidOutB P = true) (hb : Below W.heap.size W W') :
    ∀ (ts : List TypeId) (vs : List Value) (ds : List (DataW H)) (p : List MemPlace), (ts.all fun t => P.readableRec t && decide (t < P.types.size)) = true →
      DataW.TrodAll enc P W 0 (fun _ => true) true ts vs ds p → (∀ x ∈ p, x.block < W.heap.size) →
      DataW.TrodAll enc P W' 0 (fun b => decide (b < W.heap.size)) true ts vs ds p
  | [], [], [], _, _, h, _ => h
  | t :: ts, v :: vs, d :: ds, ps, hr, h, hlt => by
    obtain ⟨p, q, h1, h2, rfl⟩ := h
    simp only [List.all_cons, Bool.and_eq_true, decide_eq_true_eq] at hr
    exact ⟨p, q, Below.trod hl hr.1.1 hr.1.2 h1 hb (fun x hx => hlt x (List.mem_append_left _ hx)),
      trodAll_below hl hb ts vs ds q hr.2 h2 (fun x hx => hlt x (List.mem_append_right _ hx)), rfl⟩
  | [], [], _ :: _, _, _, h, _ => h.elim
  | [], _ :: _, _, _, _, h, _ => by cases h
  | _ :: _, [], _, _, _, h, _ => by cases h
  | _ :: _, _ :: _, [], _, _, h, _ => by cases h

/-- What 'post' asks of a law. -/
theorem law_post {H : Type} {enc : TypeId × Value → H} {P : Program} {f : Func} {s : ChangeSpec} {W W' : World} {args : Array Value} {ds gs : List (DataW H)} {before : List MemPlace} {tb : TypeId}
    (hl : laidOutB P = true) (hr : (f.params.toList.all fun t => P.readableRec t && decide (t < P.types.size)) = true) (hres : f.resultTypes = #[tb]) (htb : P.underlying tb = some .bool) (hv : s.vars = [])
    (hs : (s.fn H ds).results = [.lit (.bool true)] ∧ (s.fn H ds).args = ds ∧ (s.fn H ds).vars = [])
    (hW : DataW.Whole enc P f.params.toList s.vars false W args.toList ds gs before) (hb : Below W.heap.size W W') :
    s.post enc P f false true false false W args (.bool true) W' := by
  have hW' := hW
  have hlt := hW.lt
  obtain ⟨p, q, hA, hV, rfl, hfz, hnd⟩ := hW
  rw [hv] at hV
  obtain ⟨rfl, rfl⟩ := trodVars_none hV
  refine ⟨ds, [], p ++ [], [], p, [], hW', ?_, ?_, ?_, hb.frame _, fun h => by cases h⟩
  · rw [List.append_nil, hs.1, hres]
    exact trodAll_cons_mk (shut_bool htb _) trodAll_mk0
  · rw [List.append_nil, hs.2.1]
    exact trodAll_below hl hb _ _ _ _ hr hA (fun x hx => hlt x (List.mem_append_left _ hx))
  · rw [List.append_nil, hs.2.2, hv]
    exact rfl

/-- What a law's walk is to give, for arguments as they come in. -/
def LawWalk {H : Type} (enc : TypeId × Value → H) (P : Program) (fid : FuncId) (f : Func) (W : World) (args : Array Value) (ds : List (DataW H)) : Prop :=
  (∀ (base : Nat), (∀ (j : Nat) t v, f.params[j]? = some t → args[j]? = some v → Value.okWide P W .any base t v) → ∀ p : List MemPlace, DataW.TrodAll enc P W 0 (fun _ => true) true f.params.toList args.toList ds p →
    (∀ x ∈ p, x.block < W.heap.size) → Calls P fid args W fun e W' => e = .returned (.bool true) ∧ Below W.heap.size W W')

theorem law_contract {H : Type} {enc : TypeId × Value → H} {P : Program} {fid : FuncId} {f : Func} {s : ChangeSpec} {W : World} {args : Array Value} {ds gs : List (DataW H)} {before : List MemPlace} {tb : TypeId} {base : Nat}
    (hl : laidOutB P = true) (hr : (f.params.toList.all fun t => P.readableRec t && decide (t < P.types.size)) = true) (hres : f.resultTypes = #[tb]) (htb : P.underlying tb = some .bool) (hv : s.vars = [])
    (hs : (s.fn H ds).results = [.lit (.bool true)] ∧ (s.fn H ds).args = ds ∧ (s.fn H ds).vars = [])
    (hval : ∀ (j : Nat) t v, f.params[j]? = some t → args[j]? = some v → Value.okWide P W .any base t v)
    (hW : DataW.Whole enc P f.params.toList s.vars false W args.toList ds gs before) (h : LawWalk enc P fid f W args ds) :
    Calls P fid args W fun e W' => ∃ v, e = .returned v ∧ s.post enc P f false true false false W args v W' := by
  have hlt := hW.lt
  obtain ⟨p, q, hA, hV, hp, _⟩ := id hW
  refine (h base hval p hA (fun x hx => hlt x (by rw [hp]; exact List.mem_append_left _ hx))).mono fun e W' ⟨he, hb⟩ => ?_
  exact ⟨_, he, law_post hl hr hres htb hv hs hW hb⟩
end Go.Proofs.YtfoelgkkoopheaaDoor
/- Ranges of memory, one behind another. -/
namespace Go.Proofs.YtfoelgkkoopheaaDoor
open Go.RowKit

theorem list_of {α : Type} {p : Nat → α → Prop} : ∀ (n : Nat), (∀ i, i < n → ∃ x, p i x) → ∃ l : List α, l.length = n ∧ ∀ i x, l[i]? = some x → p i x
  | 0, _ => ⟨[], rfl, fun i x h => by simp at h⟩
  | n + 1, h => by
    obtain ⟨l, hl, hp⟩ := list_of n fun i hi => h i (by omega)
    obtain ⟨x, hx⟩ := h n (by omega)
    refine ⟨l ++ [x], by simp [hl], fun i y hy => ?_⟩
    rcases Nat.lt_or_ge i n with h1 | h1
    · rw [List.getElem?_append_left (by omega)] at hy
      exact hp i y hy
    · have := Tr.get_lt hy
      simp only [List.length_append, List.length_cons, List.length_nil] at this
      obtain rfl : i = n := by omega
      rw [List.getElem?_append_right (by omega), hl, Nat.sub_self] at hy
      simp only [List.getElem?_cons_zero, Option.some.injEq] at hy
      rw [← hy]
      exact hx
theorem rangeAt_append {w : World} {b off : Nat} {xs ys : List Value} (h : w.rangeAt b off xs) (k : w.rangeAt b (off + xs.length) ys) : w.rangeAt b off (xs ++ ys) := by
  intro j v hj
  rcases Nat.lt_or_ge j xs.length with h1 | h1
  · rw [List.getElem?_append_left h1] at hj
    exact h j v hj
  · rw [List.getElem?_append_right h1] at hj
    have := k (j - xs.length) v hj
    rw [show off + xs.length + (j - xs.length) = off + j by omega] at this
    exact this
theorem rangeAt_flat {w : World} {b s : Nat} {α : Type} {f : α → List Value} (hf : ∀ x, (f x).length = s) : ∀ {l : List α} {off : Nat}, (∀ i x, l[i]? = some x → w.rangeAt b (off + i * s) (f x)) → w.rangeAt b off (l.flatMap f)
  | [], _, _ => rangeAt_nil _ _ _
  | y :: l, off, h => by
    rw [List.flatMap_cons]
    refine rangeAt_append (by simpa using h 0 y rfl) ?_
    rw [hf]
    refine rangeAt_flat hf fun i x hx => ?_
    have := h (i + 1) x (by simpa using hx)
    rw [show off + s + i * s = off + (i + 1) * s by rw [Nat.add_mul]; omega]
    exact this

end Go.Proofs.YtfoelgkkoopheaaDoor
/- A tree that came in, as the walks read it. -/
namespace Go.Proofs.YtfoelgkkoopheaaDoor
open Go.ChangeShapes Go.WideShapes Go.ChangeAt Go.RowKit Go.Deep Go.Joins

section
variable {H : Type} {enc : TypeId × Value → H} {P : Program} {w : World} {base : Nat} {spare : Nat → Bool} {held : Bool}
/-- An argument that is a slice of structs of fields of one cell. -/
theorem open_slice_fields {t e : TypeId} {fs : Array Field} {fuel : Nat} {cs : List Value} {x : DataW H × List MemPlace} (ht : P.underlying t = some (.slice e)) (he : P.underlying e = some (.struct fs))
    (hone : oneCellFields P fs = true) (hC : P.cellsOf e = fs.size) (h : DataW.trod enc P w base spare held fuel t cs = some x) :
    (cs = [.slice none 0 0] ∧ x = (.nil, [])) ∨
    ∃ (a : Addr) (len cap m : Nat), cs = [.slice (some a) len cap] ∧ len ≤ cap ∧ cap ≤ maxLen ∧ m = (if spare a.block then cap else len) ∧
      ∀ i, i < m → ∃ (n : Nat), ∀ (j : Nat) (f : Field), fs[j]? = some f → ∃ (v : Value) (y : DataW H × List MemPlace), w.cell? (a.add (i * fs.size + j)) = some v ∧ DataW.trod enc P w base spare held n f.type [v] = some y := by
  rcases open_slice ht h with h0 | ⟨a, len, cap, m, n, D, Pl, hcs, hb, hl, hm, hmm, hx, hi⟩
  · exact .inl h0
  · refine .inr ⟨a, len, cap, m, hcs, hl, hm, hmm, fun i him => ?_⟩
    obtain ⟨cs', hc, ht'⟩ := hi i him
    rw [hC] at hc
    obtain ⟨ys, n', hn', hy, hlen, hyl, hf⟩ := DataW.trod_struct he ht'
    obtain ⟨_, hcl, hat⟩ := World.cells?_some hc
    refine ⟨n', fun j f hj => ?_⟩
    obtain ⟨ho, hk⟩ := hone_of hone j f hj
    have hjl : j < fs.size := (Array.getElem?_eq_some_iff.1 hj).1
    have hcell := hat j hjl
    have hv : cs'[j]? = some (cs'[j]'(by omega)) := List.getElem?_eq_getElem (by omega)
    have h1 := hf j f hj
    rw [ho, hk] at h1
    have hone' : (cs'.drop j).take 1 = [cs'[j]'(by omega)] := by
      rw [List.drop_eq_getElem_cons (by omega)]
      rfl
    rw [hone'] at h1
    have hys : ys[j]? = some (ys[j]'(by omega)) := List.getElem?_eq_getElem (by omega)
    exact ⟨_, _, by rw [← Go.Deep.add_add, hcell, hv], h1.trans hys⟩
end

theorem cell_spot {w : World} {a : Addr} {v : Value} (h : w.cell? a = some v) : a.spot = none := by
  unfold World.cell? at h
  split at h
  · cases hs : a.spot with
    | none => rfl
    | some x => simp [hs] at h
  · simp at h
theorem addr_none {a : Addr} (h : a.spot = none) : a = ⟨a.block, a.off, none⟩ := by cases a; simp at h; subst h; rfl
/-- A slice's place where the argument is as it should be. -/
theorem okWide_spot {P : Program} {w : World} {r : Reach} {b0 : Nat} {t e : TypeId} {a : Addr} {len cap : Nat} (ht : P.underlying t = some (.slice e)) (h : Cell.okWide P w r b0 t (.slice (some a) len cap)) : a.spot = none := by
  unfold Cell.okWide at h
  rw [ht] at h
  simp only [Cell.ok, ht] at h
  exact h.2.2.2.1

theorem cellsTok : Tryd.prog.cellsOf 34 = 4 := by kernel_rfl
theorem cellsNode : Tryd.prog.cellsOf 38 = 3 := by kernel_rfl
theorem cellsTree : Tryd.prog.cellsOf 41 = 2 := by kernel_rfl
theorem cellsInt : Tryd.prog.cellsOf 3 = 1 := by kernel_rfl

section
variable {H : Type} {enc : TypeId × Value → H} {w : World} {held : Bool}
theorem trod_one_int {fuel : Nat} {v : Value} {y : DataW H × List MemPlace} (h : DataW.trod enc Tryd.prog w 0 (fun _ => true) held fuel 3 [v] = some y) : ∃ n, v = .int .i64 n := by
  obtain ⟨n, hc, _, _⟩ := DataW.trod_int Tryd.underlying3 h
  simp only [List.cons.injEq, and_true] at hc
  exact ⟨n, hc⟩
theorem trod_one_string {fuel : Nat} {v : Value} {y : DataW H × List MemPlace} (h : DataW.trod enc Tryd.prog w 0 (fun _ => true) held fuel 9 [v] = some y) : ∃ l : List UInt8, v = .string ⟨l.toArray⟩ := by
  obtain ⟨s, hc, _, _⟩ := DataW.trod_string Tryd.underlying9 h
  simp only [List.cons.injEq, and_true] at hc
  exact ⟨s.data.toList, by rw [hc]⟩
/-- Ints that came in. -/
theorem open_kids {fuel : Nat} {v : Value} {y : DataW H × List MemPlace} (h : DataW.trod enc Tryd.prog w 0 (fun _ => true) held fuel 22 [v] = some y) : ∃ l : List Int, RdW w (fun k => k < w.heap.size) 1 v l.length (intCells l) := by
  rcases open_ints Tryd.underlying22 Tryd.underlying3 cellsInt h with ⟨hcs, _⟩ | ⟨a, len, cap, zs, hcs, _, hl, hm, hzl, _, hcell, _⟩
  · simp only [List.cons.injEq, and_true] at hcs
    subst hcs
    exact ⟨[], (RdS.nil _ _ _).weak⟩
  · simp only [List.cons.injEq, and_true] at hcs
    subst hcs
    simp only [if_true] at hzl
    have hlen : (zs.take len).length = len := by simp; omega
    refine ⟨zs.take len, by simp [intCells], some a, cap, by rw [hlen], by omega, ?_⟩
    rw [hlen]
    by_cases h0 : len = 0
    · exact Or.inl ⟨h0, h0⟩
    · have hc0 := hcell 0 (by omega)
      have hs := cell_spot hc0
      have hs' : a.spot = none := by simpa [Addr.add] using hs
      have ha := addr_none hs'
      refine Or.inr ⟨a.block, a.off, by rw [← ha], Or.inr ?_, ?_⟩
      · rw [ha, Addr.add_mid] at hc0
        exact cell_lt hc0
      · intro j u hj
        have hjl := Tr.get_lt hj
        simp only [intCells, List.length_map, hlen] at hjl
        have hcj := hcell j (by omega)
        rw [ha, Addr.add_mid] at hcj
        rw [hcj, ← hj]
        have h2 : zs[j]? = some (zs[j]'(by omega)) := List.getElem?_eq_getElem (by omega)
        simp [intCells, hjl, h2]
theorem open_toks {fuel : Nat} {v : Value} {y : DataW H × List MemPlace} (h : DataW.trod enc Tryd.prog w 0 (fun _ => true) held fuel 24 [v] = some y) (hsp : ∀ a n c, v = .slice (some a) n c → a.spot = none) :
    ∃ l : List Tr.Tk, RdS w (fun k => k < w.heap.size) 4 v l.length (tksCells l) := by
  rcases open_slice_fields Tryd.underlying24 Tryd.underlying34 (by kernel_rfl) cellsTok h with ⟨hcs, _⟩ | ⟨a, len, cap, m, hcs, hl, hm, hmm, hf⟩
  · simp only [List.cons.injEq, and_true] at hcs
    subst hcs
    exact ⟨[], RdS.nil _ _ _⟩
  · simp only [List.cons.injEq, and_true] at hcs
    subst hcs
    simp only [if_true] at hmm
    subst hmm
    have ha := addr_none (hsp a len m rfl)
    obtain ⟨l, hll, hlp⟩ := list_of (p := fun i (k : Tr.Tk) => w.rangeAt a.block (a.off + i * 4) (tkCells k)) len fun i hi => by
      obtain ⟨n, hn⟩ := hf i (by omega)
      obtain ⟨v0, y0, c0, t0⟩ := hn 0 _ rfl
      obtain ⟨v1, y1, c1, t1⟩ := hn 1 _ rfl
      obtain ⟨v2, y2, c2, t2⟩ := hn 2 _ rfl
      obtain ⟨v3, y3, c3, t3⟩ := hn 3 _ rfl
      obtain ⟨k0, rfl⟩ := trod_one_int t0
      obtain ⟨k1, rfl⟩ := trod_one_string t1
      obtain ⟨k2, rfl⟩ := trod_one_string t2
      obtain ⟨k3, rfl⟩ := trod_one_int t3
      refine ⟨⟨k0, k1, k2, k3⟩, fun j u hj => ?_⟩
      rw [ha, Addr.add_mid] at c0 c1 c2 c3
      match j, hj with
      | 0, hj => simp only [tkCells, List.getElem?_cons_zero, Option.some.injEq] at hj; subst hj; simpa using c0
      | 1, hj => simp only [tkCells, List.getElem?_cons_succ, List.getElem?_cons_zero, Option.some.injEq] at hj; subst hj; simpa [Nat.add_assoc] using c1
      | 2, hj => simp only [tkCells, List.getElem?_cons_succ, List.getElem?_cons_zero, Option.some.injEq] at hj; subst hj; simpa [Nat.add_assoc] using c2
      | 3, hj => simp only [tkCells, List.getElem?_cons_succ, List.getElem?_cons_zero, Option.some.injEq] at hj; subst hj; simpa [Nat.add_assoc] using c3
      | j + 4, hj => simp [tkCells] at hj
    have hr := rangeAt_flat (f := tkCells) (s := 4) (fun _ => rfl) (off := a.off) hlp
    refine ⟨l, by rw [tksCells, flatMap_len (f := tkCells) (s := 4) (fun _ => rfl)], some a, m, by rw [hll], by omega, Or.inr ⟨a.block, a.off, by rw [← ha], ?_, hr⟩⟩
    rcases Nat.eq_zero_or_pos l.length with h0 | h0
    · exact Or.inl h0
    · refine Or.inr ?_
      obtain ⟨k, hk⟩ : ∃ k, l[0]? = some k := ⟨_, List.getElem?_eq_getElem h0⟩
      exact cell_lt (hlp 0 k hk 0 _ rfl)
theorem open_nodes {fuel : Nat} {v : Value} {y : DataW H × List MemPlace} (h : DataW.trod enc Tryd.prog w 0 (fun _ => true) held fuel 32 [v] = some y) (hsp : ∀ a n c, v = .slice (some a) n c → a.spot = none) :
    ∃ l : List Tr.Nd, RdN w (fun k => k < w.heap.size) v l := by
  rcases open_slice_fields Tryd.underlying32 Tryd.underlying38 (by kernel_rfl) cellsNode h with ⟨hcs, _⟩ | ⟨a, len, cap, m, hcs, hl, hm, hmm, hf⟩
  · simp only [List.cons.injEq, and_true] at hcs
    subst hcs
    exact ⟨[], [], rfl, RdS.nil _ _ _, fun i n kv hi => by simp at hi⟩
  · simp only [List.cons.injEq, and_true] at hcs
    subst hcs
    simp only [if_true] at hmm
    subst hmm
    have ha := addr_none (hsp a len m rfl)
    obtain ⟨l, hll, hlp⟩ := list_of (p := fun i (k : Tr.Nd × Value) => w.rangeAt a.block (a.off + i * 3) (ndCells k) ∧ RdW w (fun k => k < w.heap.size) 1 k.2 k.1.kids.length (intCells k.1.kids)) len fun i hi => by
      obtain ⟨n, hn⟩ := hf i (by omega)
      obtain ⟨v0, y0, c0, t0⟩ := hn 0 _ rfl
      obtain ⟨v1, y1, c1, t1⟩ := hn 1 _ rfl
      obtain ⟨v2, y2, c2, t2⟩ := hn 2 _ rfl
      obtain ⟨k0, rfl⟩ := trod_one_int t0
      obtain ⟨k1, rfl⟩ := trod_one_int t1
      obtain ⟨k2, hk2⟩ := open_kids t2
      refine ⟨(⟨k0, k1, k2⟩, v2), fun j u hj => ?_, hk2⟩
      rw [ha, Addr.add_mid] at c0 c1 c2
      match j, hj with
      | 0, hj => simp only [ndCells, List.getElem?_cons_zero, Option.some.injEq] at hj; subst hj; simpa using c0
      | 1, hj => simp only [ndCells, List.getElem?_cons_succ, List.getElem?_cons_zero, Option.some.injEq] at hj; subst hj; simpa [Nat.add_assoc] using c1
      | 2, hj => simp only [ndCells, List.getElem?_cons_succ, List.getElem?_cons_zero, Option.some.injEq] at hj; subst hj; simpa [Nat.add_assoc] using c2
      | j + 3, hj => simp [ndCells] at hj
    have hr := rangeAt_flat (f := ndCells) (s := 3) (fun _ => rfl) (off := a.off) fun i x hx => (hlp i x hx).1
    have hz : (l.map (·.1)).zip (l.map (·.2)) = l := by
      rw [List.zip_map']
      simp
    refine ⟨l.map (·.1), l.map (·.2), by simp, ⟨?_, some a, m, by simp [hll], by simp; omega, Or.inr ⟨a.block, a.off, by rw [← ha], ?_, by rw [hz]; exact hr⟩⟩, fun i n kv hi hkv => ?_⟩
    · rw [hz, flatMap_len (f := ndCells) (s := 3) (fun _ => rfl), List.length_map]
    · rw [List.length_map]
      rcases Nat.eq_zero_or_pos l.length with h0 | h0
      · exact Or.inl h0
      · refine Or.inr ?_
        obtain ⟨k, hk⟩ : ∃ k, l[0]? = some k := ⟨_, List.getElem?_eq_getElem h0⟩
        exact cell_lt ((hlp 0 k hk).1 0 _ rfl)
    · rw [List.getElem?_map] at hi hkv
      cases hx : l[i]? with
      | none => rw [hx] at hi; cases hi
      | some x =>
        rw [hx] at hi hkv
        simp only [Option.map_some, Option.some.injEq] at hi hkv
        subst hi hkv
        exact (hlp i x hx).2
theorem okWide_row_cell {P : Program} {r : Reach} {b0 : Nat} {t : TypeId} {cs : Array Value} {ts : List TypeId} (h : Row.okWide P w r b0 t cs) (hts : P.cellTypes P.depth t = some ts) {i : Nat} {v : Value} (hi : cs[i]? = some v) {u : TypeId} (hu : ts[i % ts.length]? = some u) : Cell.okWide P w r b0 u v := by
  obtain ⟨ts', h1, _, h2⟩ := h
  rw [hts] at h1
  obtain rfl := Option.some.inj h1
  obtain ⟨u', hu', hc⟩ := h2 i v hi
  rw [hu] at hu'
  obtain rfl := Option.some.inj hu'
  exact hc
set_option maxRecDepth 100000 in
theorem open_tree {r : Reach} {b0 : Nat} {v : Value} {d : DataW H} {p : List MemPlace} (hv : Value.okWide Tryd.prog w r b0 41 v) (h : DataW.Trod enc Tryd.prog w 0 (fun _ => true) held 41 v d p) :
    ∃ vt vn t, v = .agg #[vt, vn] ∧ RdT w (fun k => k < w.heap.size) vt vn t := by
  have hv2 := hv
  obtain ⟨v0, v1, y0, y1, n, rfl, _, _, h0, h1⟩ := open_agg2 Tryd.underlying41 (by kernel_rfl) cellsTree hv h
  unfold Value.okWide at hv2
  rw [Tryd.underlying41] at hv2
  obtain ⟨cs, hcs, _, hrow⟩ := hv2
  injection hcs with hcs
  subst hcs
  have hct : Tryd.prog.cellTypes Tryd.prog.depth 41 = some [24, 32] := by kernel_rfl
  obtain ⟨toks, ht⟩ := open_toks h0 fun a n c e => by
    subst e
    exact okWide_spot Tryd.underlying24 (okWide_row_cell hrow hct (i := 0) rfl rfl)
  obtain ⟨nodes, hn⟩ := open_nodes h1 fun a n c e => by
    subst e
    exact okWide_spot Tryd.underlying32 (okWide_row_cell hrow hct (i := 1) rfl rfl)
  exact ⟨v0, v1, ⟨toks, nodes⟩, rfl, ht, hn⟩
end
end Go.Proofs.YtfoelgkkoopheaaDoor
/- What the rows of this seat share: the closed facts, the world in which the listed variables are laid. -/
namespace Go.Proofs.YtfoelgkkoopheaaDoor
open Go.ChangeShapes Go.WideShapes Go.ChangeAt Go.RowKit Go.Deep

theorem own : ownKnob Tryd.prog.godebug = none := by kernel_rfl
theorem laidOut : laidOutB Tryd.prog = true := by kernel_rfl
/-- Two arguments. -/
theorem trodAll_two' {H : Type} {enc : TypeId × Value → H} {P : Program} {w : World} {base : Nat} {spare : Nat → Bool} {held : Bool} {t0 t1 : TypeId} {args : Array Value} {ds : List (DataW H)} {ps : List MemPlace} (h : DataW.TrodAll enc P w base spare held (#[t0, t1] : Array TypeId).toList args.toList ds ps) :
    ∃ v0 v1 d0 d1 p0 p1, DataW.Trod enc P w base spare held t0 v0 d0 p0 ∧ DataW.Trod enc P w base spare held t1 v1 d1 p1 ∧ args = #[v0, v1] ∧ ds = [d0, d1] ∧ ps = p0 ++ p1 := by
  obtain ⟨v, v', d, d', p, p', h1, h2, h3, h4, h5⟩ := trodAll_two h
  exact ⟨v, v', d, d', p, p', h4, h5, h1, h2, h3⟩
/-- What the rows list. -/
def theLaid : List (String × DataW Unit) := Rows.treeFindsRow.laid
theorem laid_plain (w : World) : laidMetH Tryd.prog theLaid w = laidMet Tryd.prog theLaid w := MakeChecks.laidMetH_plain _ _ _ (by kernel_rfl)
set_option maxRecDepth 100000 in
theorem laid_met (os : Os) (args : Array Value) : laidMet Tryd.prog theLaid ((World.laidAll Tryd.prog os theLaid).forCall (fun _ _ => 0) ⟨#[], args, []⟩).memory := laidMet_laidAll _ (by kernel_rfl) (by kernel_rfl)
end Go.Proofs.YtfoelgkkoopheaaDoor
/- Plain law: a text's tokens are the text; at least one stands there, the last one the end. No program in sight. -/
namespace Go.Proofs.YtfoelgkkoopheaaDoor.Lx

/-- The text of tokens. -/
def whole (l : List Tok) : List UInt8 := l.flatMap fun t => t.lead ++ t.text
theorem lexGo_whole : ∀ (n : Nat) (r : List UInt8) (p : Nat) (acc : List Tok), r.length < n → (lexGo n r p acc).2.1 = 0 → whole (lexGo n r p acc).1 = whole acc ++ r ∧ acc.length < (lexGo n r p acc).1.length ∧ (lexGo n r p acc).1.length ≤ acc.length + r.length + 1
  | 0, _, _, _, h, _ => absurd h (by omega)
  | n + 1, r, p, acc, h, hz => by
    have hb := between_take r
    by_cases he : (token (r.drop (between r).length)).2.2 = 0
    · have ht := token_text (r.drop (between r).length) he
      by_cases hk : (token (r.drop (between r).length)).1 = 5
      · rw [lexGo_end he hk]
        have h1 := ht.2.1 hk
        rw [h1] at hb
        have h2 : (token (r.drop (between r).length)).2.1 = [] := by
          have h3 := ht.1
          rw [h1] at h3 ⊢
          exact List.prefix_nil.1 h3
        have hb1 : between r = r := by
          have := hb.1
          rw [hb.2, List.append_nil] at this
          exact this
        refine ⟨?_, by simp, by simp⟩
        simp only [whole, List.flatMap_append, List.flatMap_cons, List.flatMap_nil, List.append_nil, h2]
        rw [hb1]
      · rw [lexGo_on he hk] at hz ⊢
        have h3 := ht.2.2 hk
        have h4 := ht.1.length_le
        simp only [List.length_drop] at h4
        have ih := lexGo_whole n _ _ _ (by simp only [List.length_drop]; omega) hz
        obtain ⟨i1, i2, i3⟩ := ih
        refine ⟨?_, ?_, ?_⟩
        · rw [i1]
          simp only [whole, List.flatMap_append, List.flatMap_cons, List.flatMap_nil, List.append_nil, List.append_assoc]
          congr 1
          obtain ⟨y, hy⟩ := ht.1
          have h5 : (token (r.drop (between r).length)).2.1 ++ (r.drop (between r).length).drop (token (r.drop (between r).length)).2.1.length = r.drop (between r).length := by
            generalize (token (r.drop (between r).length)).2.1 = z at hy
            rw [← hy]
            simp
          rw [h5]
          have := hb.1
          rw [hb.2] at this
          exact this
        · simp only [List.length_append, List.length_cons, List.length_nil] at i2
          omega
        · simp only [List.length_append, List.length_cons, List.length_nil, List.length_drop] at i3
          omega
    · rw [lexGo_bad he] at hz
      exact absurd hz he
theorem lex_whole {l : List UInt8} (h : (lex l).2.1 = 0) : whole (lex l).1 = l ∧ 0 < (lex l).1.length ∧ (lex l).1.length ≤ l.length + 1 := by
  unfold lex at h ⊢
  split at h
  · exact absurd h (by simp)
  · rename_i hs
    rw [if_neg hs]
    have := lexGo_whole (l.length + 1) l 0 [] (by omega) h
    simpa [whole] using this
end Go.Proofs.YtfoelgkkoopheaaDoor.Lx
namespace Go.Proofs.YtfoelgkkoopheaaDoor
theorem whole_toTk (l : List Lx.Tok) : wholeOf (l.map toTk) = Lx.whole l := by
  simp only [wholeOf, Lx.whole, List.flatMap_map]
  rfl
end Go.Proofs.YtfoelgkkoopheaaDoor
