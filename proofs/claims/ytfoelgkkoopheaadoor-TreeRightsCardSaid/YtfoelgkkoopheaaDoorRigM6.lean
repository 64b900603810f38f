/- Contracts and plain laws, in one text. The document's forms: the walk. | The document's Right: the walk. | tree.Span: the walk. | The document's Text: the walk. | The document's digits: the walk. | The document's Dump: the walk. | TreeRights: the walk. -/
import Derived.Test.YtfoelgkkoopheaaDoorRigM5
import Derived.Laws.ResultCell
import Derived.Deep.QuietTactic
import Derived.BigQuiet
import Derived.Laws.BytesString
import Derived.Deep.RegionWith
import Derived.Test.YtfoelgkkoopheaaDoorRigM4
import Derived.Test.YtfoelgkkoopheaaDoorRigM3
import Derived.Laws.StructEq
/- The document's forms: the walk. -/
namespace Go.Proofs.YtfoelgkkoopheaaDoor
open Go.RowKit

theorem made_ints (n : Nat) : madeCells (Value.int .i64 0).cells (n * 1) = (intCells (List.replicate n 0)).toArray := by
  apply Array.ext
  · simp [madeCells, intCells]
  · intro j h1 h2
    simp [madeCells, intCells, Value.cells, Nat.mod_one]
theorem make_ints (n : Nat) (hn : n ≤ 1073741824) (w : World) : (Instr.makeSlice 22 (.int .i64 (n : Int)) (.int .i64 (n : Int))).run Tryd.prog w = .ok (.slice (some ⟨w.heap.size, 0, none⟩) n n) (w.alloc (.cells (intCells (List.replicate n 0)).toArray 3)) := by
  obtain ⟨i0, hi, hz0, hz1, hz2⟩ := info_split info_int
  have h := run_make_rowN (P := Tryd.prog) 22 3 i0 (.int .i64 0) Tryd.underlying22 hi hz0 .i64 .i64 n n (Nat.le_refl _) (by rw [hz2]; omega) (by omega) w
  rw [hz1, made_ints] at h
  exact h
theorem ints_set (l : List Int) (y : Nat) (v : Int) : (intCells (l.set y v)).toArray = (intCells l).toArray.setIfInBounds y (.int .i64 v) := by
  simp [intCells, List.map_set]
/-- All counts are small. -/
def Small (times : List Int) (B : Nat) : Prop := ∀ x ∈ times, 0 ≤ x ∧ x ≤ (B : Int)
theorem Small.set {times : List Int} {B y : Nat} (h : Small times B) (hy : y < times.length) : Small (times.set y (times.getD y 0 + 1)) (B + 1) := by
  intro x hx
  rcases List.mem_or_eq_of_mem_set hx with hx | rfl
  · have := h x hx; omega
  · have := h (times.getD y 0) (by simp [List.getD, List.getElem?_eq_getElem hy])
    omega
theorem Small.mono {times : List Int} {B C : Nat} (h : Small times B) (hc : B ≤ C) : Small times C := fun x hx => by have := h x hx; omega

def FoRel (w : World) (vt vn : Value) (t : Tr.T) (nl : Nat) (k : Nat) (v4 : Value) (wr : World) : Prop :=
  ∃ (j : Nat) (times : List Int), v4 = .int .i64 j ∧ k = nl - j ∧ j ≤ nl ∧ times.length = nl ∧ Small times (100 * j) ∧ wr.heap[w.heap.size + 1]? = some (.cells (intCells times).toArray 3 (0, 0)) ∧ wr.heap[w.heap.size]? = some (.cells #[vt, vn] 54 (0, 0)) ∧
    Below w.heap.size w wr ∧ Tr.formsGo t j (t.nodes.drop j) times = Tr.formsGo t 0 t.nodes (List.replicate t.nodes.length 0)
def FoIn (w : World) (c : Nat) (d1 : Array Value) (vt vn : Value) (nl m : Nat) (t0 : List Int) (kids : List Int) (k : Nat) (v6 : Value) (wr : World) : Prop :=
  ∃ (j : Nat) (times : List Int), v6 = .int .i64 j ∧ k = kids.length - j ∧ j ≤ kids.length ∧ times.length = nl ∧ Small times (100 * m + j) ∧ wr.heap[w.heap.size + 1]? = some (.cells (intCells times).toArray 3 (0, 0)) ∧ wr.heap[w.heap.size]? = some (.cells #[vt, vn] 54 (0, 0)) ∧
    wr.heap[c]? = some (.cells d1 79 (0, 0)) ∧ Below w.heap.size w wr ∧ Tr.cnt m (kids.drop j) times = Tr.cnt m kids t0

theorem fo_start (w : World) (vt vn : Value) (t : Tr.T) (nl : Nat) (hnl : t.nodes.length = nl) :
    FoRel w vt vn t nl nl (.int .i64 0) ((w.alloc (.cells #[vt, vn] 54)).alloc (.cells (intCells (List.replicate nl 0)).toArray 3)) := by
  refine ⟨0, List.replicate nl 0, rfl, rfl, Nat.zero_le _, by simp, ?_, ?_, ?_, ((Below.refl _ _).alloc (Nat.le_refl _) _).alloc (by rw [← size_alloc1]; omega) _, ?_⟩
  · intro x hx
    rw [List.mem_replicate] at hx
    omega
  · exact new_at _ _ _ (size_alloc1 _ _)
  · rw [Below.heap_alloc _ _ _ (by rw [← size_alloc1]; omega)]
    exact new_at _ _ _ rfl
  · rw [hnl]
    rfl
theorem formsGo_bad {t : Tr.T} {j : Nat} {n : Tr.Nd} (h : t.nodes[j]? = some n) (times : List Int) (hf : Tr.okNode t n = false) : Tr.formsGo t j (t.nodes.drop j) times = none := by
  rw [Tr.drop_get h]
  simp [Tr.formsGo, hf]
theorem formsGo_kid {t : Tr.T} {j : Nat} {n : Tr.Nd} (h : t.nodes[j]? = some n) (times : List Int) (hf : Tr.cnt j n.kids times = none) : Tr.formsGo t j (t.nodes.drop j) times = none := by
  rw [Tr.drop_get h]
  unfold Tr.formsGo
  rw [hf]
  simp
theorem formsGo_step {t : Tr.T} {j : Nat} {n : Tr.Nd} (h : t.nodes[j]? = some n) {times x : List Int} (ho : Tr.okNode t n = true) (hf : Tr.cnt j n.kids times = some x) : Tr.formsGo t j (t.nodes.drop j) times = Tr.formsGo t (j + 1) (t.nodes.drop (j + 1)) x := by
  rw [Tr.drop_get h]
  conv => lhs; unfold Tr.formsGo
  rw [hf, if_pos ho]
theorem forms_none {t : Tr.T} (h : Tr.formsGo t 0 t.nodes (List.replicate t.nodes.length 0) = none) : Tr.forms t = false := by
  unfold Tr.forms
  rw [h]
theorem cnt_hit {m j : Nat} {ks times : List Int} {k : Int} (h : ks[j]? = some k) (hb : Tr.badK m k = true) : Tr.cnt m (ks.drop j) times = none := by
  rw [Tr.drop_get h]
  simp [Tr.cnt, hb]
theorem cnt_step {m j : Nat} {ks times : List Int} {k : Int} (h : ks[j]? = some k) (hb : Tr.badK m k = false) : Tr.cnt m (ks.drop j) times = Tr.cnt m (ks.drop (j + 1)) (times.set k.toNat (times.getD k.toNat 0 + 1)) := by
  rw [Tr.drop_get h]
  conv => lhs; unfold Tr.cnt
  rw [if_neg (by simp [hb])]

set_option maxRecDepth 100000 in
set_option maxHeartbeats 4000000 in
theorem forms_calls {w : World} {P : Nat → Prop} {vt vn : Value} {t : Tr.T} (h : RdT w P vt vn t) (hP : ∀ k, P k → k < w.heap.size) (hn : t.nodes.length ≤ 1000000) (ht : t.toks.length ≤ 1073741824) (hkids : ∀ n ∈ t.nodes, n.kids.length ≤ 100) :
    Calls Tryd.prog 40 #[.agg #[vt, vn]] w fun e w' => e = .returned (.bool (Tr.forms t)) ∧ Below w.heap.size w w' := by
  obtain ⟨at_, ct, rfl⟩ := h.1.form
  obtain ⟨an, cn, rfl⟩ : ∃ a c, vn = .slice a t.nodes.length c := by
    obtain ⟨kvs, _, h2, _⟩ := h.2
    exact h2.form
  have HH := Lib.hid (And.intro h (And.intro hP (And.intro ht hkids)))
  obtain ⟨nl, hnl⟩ : ∃ nl, t.nodes.length = nl := ⟨_, rfl⟩
  rw [hnl] at HH hn ⊢
  have hn' : (nl : Int) ≤ 1000000 := by omega
  have hmk := make_ints nl (by omega)
  have HNL := Lib.hid hnl
  have ht' : (t.toks.length : Int) ≤ 1073741824 := by omega
  clear h hP ht hkids hnl
  go_enter Tryd.func40, Tryd.ntmps40
  go_wp2_with fail
  go_loopg [4] nl (fun k v4 wr => FoRel w (.slice at_ t.toks.length ct) (.slice an nl cn) t nl k v4 wr)
  case atStart => exact fo_start _ _ _ _ _ HNL.out
  case round =>
    clear hmk
    obtain ⟨j, times, rfl, hk, hj, hkl, hsm, hg, htb, hb, hgo⟩ := hrel
    have HR := Lib.hid (And.intro hk (And.intro hkl (And.intro hsm (And.intro hg (And.intro htb (And.intro hb hgo))))))
    by_cases hlt : j < nl
    · have hlt' : (j : Int) < (nl : Int) := by omega
      obtain ⟨n, hnj⟩ : ∃ n, t.nodes[j]? = some n := ⟨_, List.getElem?_eq_getElem (by rw [HNL.out]; exact hlt)⟩
      obtain ⟨b, off, c', kv, he, hbB, hrg, hkv⟩ := (HH.out.1.2.keep (Keeps.of hb HH.out.2.1)).node hnj
      obtain ⟨rfl, rfl⟩ : an = some ⟨b, off, none⟩ ∧ cn = c' := by
        simp only [Value.slice.injEq] at he
        exact ⟨he.1, he.2.2⟩
      have t0 := cell_of_heap htb 0 rfl
      have t1 := cell_of_heap htb 1 rfl
      have l0 := cell_lt t0
      obtain ⟨ka, kc, rfl⟩ := hkv.form
      have hnk := HH.out.2.2.2 n (List.mem_of_getElem? hnj)
      obtain ⟨V, hV⟩ : ∃ V, wr.alloc (.cells #[.int .i64 n.kind, .int .i64 n.tok, .slice ka n.kids.length kc] 79) = V := ⟨_, rfl⟩
      have hba : Below wr.heap.size wr V := by rw [← hV]; exact (Below.refl _ _).alloc (Nat.le_refl _) _
      have hx1 : V.heap[wr.heap.size]? = some (.cells #[.int .i64 n.kind, .int .i64 n.tok, .slice ka n.kids.length kc] 79 (0, 0)) := by rw [← hV]; exact heap_alloc_new _ _
      have d0 := cell_of_heap hx1 0 rfl
      have d1 := cell_of_heap hx1 1 rfl
      have d2 := cell_of_heap hx1 2 rfl
      have t0' := cell_of_heap (anc_box htb hba) 0 rfl
      have HKV := Lib.hid (hkv.keep (Keeps.of hba fun k hk => Nat.lt_of_lt_of_le (HH.out.2.1 k hk) hb.size))
      have HVV := Lib.hid (And.intro hba (And.intro hx1 (And.intro (anc_box htb hba) (anc_box hg hba))))
      have HG := Lib.hid hrg
      have HN := Lib.hid (And.intro hnj hnk)
      have hnk' : (n.kids.length : Int) ≤ 100 := by omega
      have hszc : w.heap.size + 1 < wr.heap.size := lt_heap hg
      clear hk hkl hsm hg htb hb hgo hrg hkv hnj hba hnk he hx1
      cases hf : Tr.okNode t n
      · have hbd := HR.out.2.2.2.2.2.1.trans (HVV.out.1.mono HR.out.2.2.2.2.2.1.size)
        have HBD := Lib.hid hbd
        have HFN : Tr.forms t = false := forms_none (by rw [← HR.out.2.2.2.2.2.2]; exact formsGo_bad HN.out.1 times hf)
        have HF := Lib.hid HFN
        obtain ⟨nk, nt, nks⟩ := n
        simp only [Tr.okNode] at hf hnk' HG hV d0 d1 d2
        have m0 : wr.cell? ⟨b, off + j * 3, none⟩ = some (.int .i64 nk) := HG.out 0 _ rfl
        have m1 : wr.cell? ⟨b, off + j * 3 + 1, none⟩ = some (.int .i64 nt) := HG.out 1 _ rfl
        have m2 : wr.cell? ⟨b, off + j * 3 + 2, none⟩ = some (.slice ka nks.length kc) := HG.out 2 _ rfl
        clear HFN hbd HN HVV HKV HG
        by_cases q1 : nk < 1
        · have p1 : decide (nk < 1) = true := decide_eq_true q1
          clear hf q1
          go_wp2_with fail
          go_ret
          exact ⟨by rw [HF.out]; rfl, HBD.out⟩
        · have p1 : decide (nk < 1) = false := decide_eq_false q1
          by_cases q2 : 19 < nk
          · have p2 : decide (19 < nk) = true := decide_eq_true q2
            clear hf q1 q2
            go_wp2_with fail
            go_ret
            exact ⟨by rw [HF.out]; rfl, HBD.out⟩
          · have p2 : decide (19 < nk) = false := decide_eq_false q2
            by_cases q3 : nk = 19
            · subst q3
              clear p1 p2 q1 q2
              by_cases q4 : 0 < nks.length
              · have p4 : decide (0 < nks.length) = true := decide_eq_true q4
                clear hf q4
                go_wp2_with fail
                go_ret
                exact ⟨by rw [HF.out]; rfl, HBD.out⟩
              · have p4 : decide (0 < nks.length) = false := decide_eq_false q4
                by_cases q5 : nt < 0
                · have p5 : decide (nt < 0) = true := decide_eq_true q5
                  clear hf q4 q5
                  go_wp2_with fail
                  go_ret
                  exact ⟨by rw [HF.out]; rfl, HBD.out⟩
                · have p5 : decide (nt < 0) = false := decide_eq_false q5
                  have p6 : decide ((t.toks.length : Int) ≤ nt) = true := by simp [q4, q5] at hf; simpa using hf
                  clear hf q4 q5
                  go_wp2_with fail
                  go_ret
                  exact ⟨by rw [HF.out]; rfl, HBD.out⟩
            · have p3 : (nk == 19) = false := by simp [q3]
              have p4 : (nk != 19) = true := by simp [q3]
              have p5 : (nt != -1) = true := by simp [q1, q2, q3] at hf; simp [hf]
              clear hf q1 q2 q3
              go_wp2_with fail
              go_ret
              exact ⟨by rw [HF.out]; rfl, HBD.out⟩
      · have m0 : wr.cell? ⟨b, off + j * 3, none⟩ = some (.int .i64 n.kind) := HG.out 0 _ rfl
        have m1 : wr.cell? ⟨b, off + j * 3 + 1, none⟩ = some (.int .i64 n.tok) := HG.out 1 _ rfl
        have m2 : wr.cell? ⟨b, off + j * 3 + 2, none⟩ = some (.slice ka n.kids.length kc) := HG.out 2 _ rfl
        have HOK := Lib.hid hf
        have hokf : (¬ n.kind < 1 ∧ ¬ 19 < n.kind) ∧ ((n.kind = 19 ∧ n.kids.length = 0 ∧ ¬ n.tok < 0 ∧ ¬ (t.toks.length : Int) ≤ n.tok) ∨ (n.kind ≠ 19 ∧ n.tok = -1)) := by
          simp only [Tr.okNode, Bool.not_eq_true', Bool.or_eq_false_iff, Bool.and_eq_false_iff, decide_eq_false_iff_not, beq_eq_false_iff_ne, bne_eq_false_iff_eq] at hf
          omega
        obtain ⟨⟨q1, q2⟩, q3⟩ := hokf
        have p1 : decide (n.kind < 1) = false := decide_eq_false q1
        have p2 : decide (19 < n.kind) = false := decide_eq_false q2
        obtain ⟨nk, nt, nks⟩ := n
        dsimp only at *
        have HI : Hid (V.heap[w.heap.size + 1]? = some (.cells (intCells times).toArray 3 (0, 0)) ∧ V.heap[w.heap.size]? = some (.cells #[.slice at_ t.toks.length ct, .slice (some ⟨b, off, none⟩) nl cn] 54 (0, 0)) ∧ V.heap[wr.heap.size]? = some (.cells #[.int .i64 nk, .int .i64 nt, .slice ka nks.length kc] 79 (0, 0)) ∧ Below w.heap.size w V) := Lib.hid ⟨HVV.out.2.2.2, HVV.out.2.2.1, HVV.out.2.1, HR.out.2.2.2.2.2.1.trans (HVV.out.1.mono HR.out.2.2.2.2.2.1.size)⟩
        rcases q3 with ⟨r1, r2, r3, r4⟩ | ⟨r1, r2⟩
        · subst r1
          have p0 : decide (0 < nks.length) = false := decide_eq_false (by omega)
          have p5 : decide (nt < 0) = false := decide_eq_false r3
          have p6 : decide ((t.toks.length : Int) ≤ nt) = false := decide_eq_false r4
          clear hf q1 q2 p1 p2 r2 r3 r4 HG
          go_wp2_with fail
          clear m0 m1 m2 t0 t1 d0 d1 d2 t0' hV
          have HP0 := Lib.hid HH.out.2.1
          generalize wr = w0 at *
          go_loopg [6] nks.length (fun k v6 wr => FoIn w w0.heap.size #[.int .i64 19, .int .i64 nt, .slice ka nks.length kc] (.slice at_ t.toks.length ct) (.slice (some ⟨b, off, none⟩) nl cn) nl j times nks k v6 wr)
          case atStart => exact ⟨0, times, rfl, rfl, Nat.zero_le _, HR.out.2.1, by simpa using HR.out.2.2.1, HI.out.1, HI.out.2.1, HI.out.2.2.1, HI.out.2.2.2, rfl⟩
          case round =>
            obtain ⟨i, tm, rfl, hk, hi, hkl, hsm, hg, htb, hxb, hb, hct⟩ := hrel
            have HS := Lib.hid (And.intro hk (And.intro hkl (And.intro hsm (And.intro hg (And.intro htb (And.intro hxb (And.intro hb hct)))))))
            have e1 := cell_of_heap htb 1 rfl
            have e2 := cell_of_heap hxb 2 rfl
            by_cases hlti : i < nks.length
            · have hlti' : (i : Int) < (nks.length : Int) := by omega
              obtain ⟨x, hx⟩ : ∃ x, nks[i]? = some x := ⟨_, List.getElem?_eq_getElem hlti⟩
              obtain ⟨bk, ok, ck, hek, hPk, hcell⟩ := rdw_kid (HKV.out.keep (w' := wr) (fun k hk => (hb.block k (HP0.out k hk)).trans (HI.out.2.2.2.block k (HP0.out k hk)).symm)) hx
              obtain ⟨rfl, rfl⟩ : ka = some ⟨bk, ok, none⟩ ∧ kc = ck := by
                simp only [Value.slice.injEq] at hek
                exact ⟨hek.1, hek.2.2⟩
              have HX := Lib.hid hx
              clear hk htb hxb hb hct hx hek hPk
              by_cases b1 : x < 0
              · have b1' : decide (x < 0) = true := decide_eq_true b1
                have HF := Lib.hid (forms_none (t := t) (by rw [← HR.out.2.2.2.2.2.2]; exact formsGo_kid HN.out.1 times (by rw [← HS.out.2.2.2.2.2.2.2]; exact cnt_hit HX.out (by simp [Tr.badK, b1]))))
                clear hg hkl hsm b1
                go_wp2_with fail
                go_ret
                exact ⟨by rw [HF.out]; rfl, HS.out.2.2.2.2.2.2.1⟩
              · have b1' : decide (x < 0) = false := decide_eq_false b1
                by_cases b2 : (j : Int) ≤ x
                · have b2' : decide ((j : Int) ≤ x) = true := decide_eq_true b2
                  have HF := Lib.hid (forms_none (t := t) (by rw [← HR.out.2.2.2.2.2.2]; exact formsGo_kid HN.out.1 times (by rw [← HS.out.2.2.2.2.2.2.2]; exact cnt_hit HX.out (by simp [Tr.badK, b2]))))
                  clear hg hkl hsm b1 b2
                  go_wp2_with fail
                  go_ret
                  exact ⟨by rw [HF.out]; rfl, HS.out.2.2.2.2.2.2.1⟩
                · have b2' : decide ((j : Int) ≤ x) = false := decide_eq_false b2
                  obtain ⟨y, rfl⟩ : ∃ y : Nat, x = y := ⟨x.toNat, by omega⟩
                  have b3' : decide (j ≤ y) = false := decide_eq_false (by omega)
                  have hyn : y < tm.length := by omega
                  have hyn' : (y : Int) < (nl : Int) := by omega
                  obtain ⟨v, hv⟩ : ∃ v, tm[y]? = some v := ⟨_, List.getElem?_eq_getElem hyn⟩
                  have hvd : tm.getD y 0 = v := by simp [List.getD, hv]
                  have hvb := hsm v (List.mem_of_getElem? hv)
                  have hv1 : v ≤ 1000000000 := by omega
                  have hv2 : -1 ≤ v := by omega
                  have cy := cell_of_heap hg y (u := .int .i64 v) (by simp [intCells, hv])
                  have fy := frozen_of_heap hg y
                  have HY := Lib.hid (And.intro hyn hvd)
                  have hbk : Tr.badK j ((y : Nat) : Int) = false := by simp [Tr.badK]; omega
                  have HBK := Lib.hid hbk
                  clear hg hkl hsm b1 b2 hv hyn hvd hvb hbk
                  go_wp2_with fail
                  go_roundg (nks.length - (i + 1))
                  case measure => have := HS.out.1; omega
                  case rel =>
                    obtain ⟨_, hkl, hsm, hg, htb, hxb, hb, hct⟩ := HS.out
                    have h1 := hsm.set HY.out.1
                    rw [HY.out.2] at h1
                    refine ⟨i + 1, tm.set y (v + 1), by go_num, rfl, by omega, by simpa using hkl, h1, ?_, ?_, ?_, hb.setCell (by simp only; omega) _, ?_⟩
                    · rw [ints_set]
                      exact setCell_row hg _
                    · rw [setCell_ne _ (by omega)]
                      exact htb
                    · rw [setCell_ne _ (by omega)]
                      exact hxb
                    · rw [← hct, cnt_step HX.out HBK.out, Int.toNat_natCast, HY.out.2]
            · obtain rfl : i = nks.length := by omega
              have hct2 : Tr.cnt j nks times = some tm := by
                rw [← hct, List.drop_length]
                rfl
              have HC := Lib.hid (formsGo_step (t := t) HN.out.1 HOK.out hct2)
              have HN2 := Lib.hid hnk'
              clear hk hkl hsm hg htb hxb hb hct hct2
              go_wp2_with fail
              go_roundg (nl - (j + 1))
              case measure => have := HR.out.1; omega
              case rel =>
                obtain ⟨_, hkl, hsm, hg, htb, hxb, hb, hct⟩ := HS.out
                exact ⟨j + 1, tm, by go_num, rfl, by omega, hkl, hsm.mono (by have := HN2.out; omega), hg, htb, hb, by rw [← HC.out]; exact HR.out.2.2.2.2.2.2⟩
        · have p3 : (nk == 19) = false := by simp [r1]
          have p4 : (nk != 19) = true := by simp [r1]
          subst r2
          clear hf q1 q2 r1 HG
          go_wp2_with fail
          clear m0 m1 m2 t0 t1 d0 d1 d2 t0' hV
          have HP0 := Lib.hid HH.out.2.1
          generalize wr = w0 at *
          go_loopg [6] nks.length (fun k v6 wr => FoIn w w0.heap.size #[.int .i64 nk, .int .i64 (-1), .slice ka nks.length kc] (.slice at_ t.toks.length ct) (.slice (some ⟨b, off, none⟩) nl cn) nl j times nks k v6 wr)
          case atStart => exact ⟨0, times, rfl, rfl, Nat.zero_le _, HR.out.2.1, by simpa using HR.out.2.2.1, HI.out.1, HI.out.2.1, HI.out.2.2.1, HI.out.2.2.2, rfl⟩
          case round =>
            obtain ⟨i, tm, rfl, hk, hi, hkl, hsm, hg, htb, hxb, hb, hct⟩ := hrel
            have HS := Lib.hid (And.intro hk (And.intro hkl (And.intro hsm (And.intro hg (And.intro htb (And.intro hxb (And.intro hb hct)))))))
            have e1 := cell_of_heap htb 1 rfl
            have e2 := cell_of_heap hxb 2 rfl
            by_cases hlti : i < nks.length
            · have hlti' : (i : Int) < (nks.length : Int) := by omega
              obtain ⟨x, hx⟩ : ∃ x, nks[i]? = some x := ⟨_, List.getElem?_eq_getElem hlti⟩
              obtain ⟨bk, ok, ck, hek, hPk, hcell⟩ := rdw_kid (HKV.out.keep (w' := wr) (fun k hk => (hb.block k (HP0.out k hk)).trans (HI.out.2.2.2.block k (HP0.out k hk)).symm)) hx
              obtain ⟨rfl, rfl⟩ : ka = some ⟨bk, ok, none⟩ ∧ kc = ck := by
                simp only [Value.slice.injEq] at hek
                exact ⟨hek.1, hek.2.2⟩
              have HX := Lib.hid hx
              clear hk htb hxb hb hct hx hek hPk
              by_cases b1 : x < 0
              · have b1' : decide (x < 0) = true := decide_eq_true b1
                have HF := Lib.hid (forms_none (t := t) (by rw [← HR.out.2.2.2.2.2.2]; exact formsGo_kid HN.out.1 times (by rw [← HS.out.2.2.2.2.2.2.2]; exact cnt_hit HX.out (by simp [Tr.badK, b1]))))
                clear hg hkl hsm b1
                go_wp2_with fail
                go_ret
                exact ⟨by rw [HF.out]; rfl, HS.out.2.2.2.2.2.2.1⟩
              · have b1' : decide (x < 0) = false := decide_eq_false b1
                by_cases b2 : (j : Int) ≤ x
                · have b2' : decide ((j : Int) ≤ x) = true := decide_eq_true b2
                  have HF := Lib.hid (forms_none (t := t) (by rw [← HR.out.2.2.2.2.2.2]; exact formsGo_kid HN.out.1 times (by rw [← HS.out.2.2.2.2.2.2.2]; exact cnt_hit HX.out (by simp [Tr.badK, b2]))))
                  clear hg hkl hsm b1 b2
                  go_wp2_with fail
                  go_ret
                  exact ⟨by rw [HF.out]; rfl, HS.out.2.2.2.2.2.2.1⟩
                · have b2' : decide ((j : Int) ≤ x) = false := decide_eq_false b2
                  obtain ⟨y, rfl⟩ : ∃ y : Nat, x = y := ⟨x.toNat, by omega⟩
                  have b3' : decide (j ≤ y) = false := decide_eq_false (by omega)
                  have hyn : y < tm.length := by omega
                  have hyn' : (y : Int) < (nl : Int) := by omega
                  obtain ⟨v, hv⟩ : ∃ v, tm[y]? = some v := ⟨_, List.getElem?_eq_getElem hyn⟩
                  have hvd : tm.getD y 0 = v := by simp [List.getD, hv]
                  have hvb := hsm v (List.mem_of_getElem? hv)
                  have hv1 : v ≤ 1000000000 := by omega
                  have hv2 : -1 ≤ v := by omega
                  have cy := cell_of_heap hg y (u := .int .i64 v) (by simp [intCells, hv])
                  have fy := frozen_of_heap hg y
                  have HY := Lib.hid (And.intro hyn hvd)
                  have hbk : Tr.badK j ((y : Nat) : Int) = false := by simp [Tr.badK]; omega
                  have HBK := Lib.hid hbk
                  clear hg hkl hsm b1 b2 hv hyn hvd hvb hbk
                  go_wp2_with fail
                  go_roundg (nks.length - (i + 1))
                  case measure => have := HS.out.1; omega
                  case rel =>
                    obtain ⟨_, hkl, hsm, hg, htb, hxb, hb, hct⟩ := HS.out
                    have h1 := hsm.set HY.out.1
                    rw [HY.out.2] at h1
                    refine ⟨i + 1, tm.set y (v + 1), by go_num, rfl, by omega, by simpa using hkl, h1, ?_, ?_, ?_, hb.setCell (by simp only; omega) _, ?_⟩
                    · rw [ints_set]
                      exact setCell_row hg _
                    · rw [setCell_ne _ (by omega)]
                      exact htb
                    · rw [setCell_ne _ (by omega)]
                      exact hxb
                    · rw [← hct, cnt_step HX.out HBK.out, Int.toNat_natCast, HY.out.2]
            · obtain rfl : i = nks.length := by omega
              have hct2 : Tr.cnt j nks times = some tm := by
                rw [← hct, List.drop_length]
                rfl
              have HC := Lib.hid (formsGo_step (t := t) HN.out.1 HOK.out hct2)
              have HN2 := Lib.hid hnk'
              clear hk hkl hsm hg htb hxb hb hct hct2
              go_wp2_with fail
              go_roundg (nl - (j + 1))
              case measure => have := HR.out.1; omega
              case rel =>
                obtain ⟨_, hkl, hsm, hg, htb, hxb, hb, hct⟩ := HS.out
                exact ⟨j + 1, tm, by go_num, rfl, by omega, hkl, hsm.mono (by have := HN2.out; omega), hg, htb, hb, by rw [← HC.out]; exact HR.out.2.2.2.2.2.2⟩
    · obtain rfl : j = nl := by omega
      have hfin : Tr.formsGo t 0 t.nodes (List.replicate t.nodes.length 0) = some times := by
        rw [← hgo, List.drop_eq_nil_of_le (by rw [HNL.out]; exact Nat.le_refl _)]
        rfl
      have hfo : Tr.forms t = ((times.take (j - 1)).all (· == 1) && decide (0 < j)) := by
        unfold Tr.forms
        rw [hfin, HNL.out]
      have HFO := Lib.hid (And.intro hfo (And.intro hkl (And.intro hg hb)))
      have t1 := cell_of_heap htb 1 rfl
      clear hk hkl hsm hg htb hb hgo hfin hfo
      go_wp2_with fail
      generalize wr = w0 at *
      go_loopg [7] j (fun k v7 wr => ∃ i : Nat, v7 = .int .i64 i ∧ k = j - i ∧ i ≤ j ∧ (∀ m, m < i → times[m]? = some 1) ∧ wr = w0)
      case atStart => exact ⟨0, rfl, rfl, Nat.zero_le _, fun m hm => absurd hm (by omega), rfl⟩
      case round =>
        obtain ⟨i, rfl, hk, hi, hone, rfl⟩ := hrel
        have HS := Lib.hid (And.intro hk hone)
        clear hk hone
        by_cases hlti : i + 1 < j
        · have hlti' : (i : Int) + 1 < (j : Int) := by omega
          have hlti2 : (i : Int) < (j : Int) := by omega
          obtain ⟨v, hv⟩ : ∃ v, times[i]? = some v := ⟨_, List.getElem?_eq_getElem (by have := HFO.out.2.1; omega)⟩
          have cy := cell_of_heap HFO.out.2.2.1 i (u := .int .i64 v) (by simp [intCells, hv])
          by_cases hv1 : v = 1
          · subst hv1
            have HV1 := Lib.hid hv
            clear hv
            go_wp2_with fail
            go_roundg (j - (i + 1))
            case measure => have := HS.out.1; omega
            case rel =>
              refine ⟨i + 1, by go_num, rfl, by omega, fun m hm => ?_, rfl⟩
              by_cases e : m = i
              · rw [e]; exact HV1.out
              · exact HS.out.2 m (by omega)
          · have hv2 : (v != 1) = true := by simp [hv1]
            have HF : Hid (Tr.forms t = false) := by
              refine Lib.hid ?_
              rw [HFO.out.1]
              have : (times.take (j - 1)).all (· == 1) = false := by
                rw [List.all_eq_false]
                refine ⟨v, List.mem_of_getElem? (i := i) ?_, by simp [hv1]⟩
                rw [List.getElem?_take, if_pos (by omega), hv]
              rw [this]
              rfl
            clear hv hv1
            go_wp2_with fail
            go_ret
            exact ⟨by rw [HF.out]; rfl, HFO.out.2.2.2⟩
        · have hlti' : decide ((i : Int) + 1 < (j : Int)) = false := decide_eq_false (by omega)
          have HF : Hid (Tr.forms t = decide (0 < j)) := by
            refine Lib.hid ?_
            rw [HFO.out.1]
            have : (times.take (j - 1)).all (· == 1) = true := by
              rw [List.all_eq_true]
              intro x hx
              obtain ⟨m, hm⟩ := List.mem_iff_getElem?.1 hx
              rw [List.getElem?_take] at hm
              split at hm
              · have := HS.out.2 m (by omega)
                rw [this] at hm
                injection hm with hm
                simp [← hm]
              · cases hm
            rw [this, Bool.true_and]
          go_wp2_with fail
          go_ret
          refine ⟨?_, HFO.out.2.2.2⟩
          rw [HF.out]
          simp
end Go.Proofs.YtfoelgkkoopheaaDoor
/- The document's Right: the walk. -/
namespace Go.Proofs.YtfoelgkkoopheaaDoor
open Go.RowKit

set_option maxRecDepth 100000 in
set_option maxHeartbeats 2000000 in
theorem rright_calls {w : World} {P : Nat → Prop} {vt vn : Value} {t : Tr.T} (h : RdT w P vt vn t) (hP : ∀ k, P k → k < w.heap.size) (hn : t.nodes.length ≤ 1000000) (ht : t.toks.length ≤ 1073741823) (hkids : ∀ n ∈ t.nodes, n.kids.length ≤ 100) :
    Calls Tryd.prog 23 #[.agg #[vt, vn]] w fun e w' => e = .returned (.bool (Tr.right t)) ∧ Below w.heap.size w w' := by
  obtain ⟨at_, ct, rfl⟩ := h.1.form
  obtain ⟨an, cn, rfl⟩ : ∃ a c, vn = .slice a t.nodes.length c := by
    obtain ⟨kvs, _, h2, _⟩ := h.2
    exact h2.form
  have hb1 : Below w.heap.size w (w.alloc (.cells #[.slice at_ t.toks.length ct, .slice an t.nodes.length cn] 54)) := (Below.refl _ _).alloc (Nat.le_refl _) _
  have hbx : (w.alloc (.cells #[.slice at_ t.toks.length ct, .slice an t.nodes.length cn] 54)).heap[w.heap.size]? = some (.cells #[.slice at_ t.toks.length ct, .slice an t.nodes.length cn] 54 (0, 0)) := heap_alloc_new _ _
  have HF := Lib.hid (forms_calls (h.keep (Keeps.of hb1 hP)) (fun k hk => Nat.lt_of_lt_of_le (hP k hk) hb1.size) hn (by omega) hkids)
  have HH := Lib.hid (And.intro h (And.intro hP (And.intro hn (And.intro ht hkids))))
  have HB := Lib.hid (And.intro hb1 hbx)
  have hn' : (t.nodes.length : Int) ≤ 1000000 := by omega
  have ht' : (t.toks.length : Int) ≤ 1073741823 := by omega
  clear h hP hn ht hkids hb1 hbx
  cases hf : Tr.forms t
  · have HR : Hid (Tr.right t = false) := Lib.hid (by rw [Tr.right_forms, hf]; rfl)
    rw [hf] at HF
    clear hf
    go_enter Tryd.func23, Tryd.ntmps23
    go_wp2_with fail
    refine HF.out.mono ?_
    rintro e w1 ⟨rfl, hb1⟩
    have HB1 := Lib.hid hb1
    clear hb1
    dsimp only
    go_wp2_with fail
    go_ret
    exact ⟨by rw [HR.out]; rfl, HB.out.1.trans (HB1.out.mono HB.out.1.size)⟩
  · obtain ⟨kid, hkid⟩ := Tr.forms_right hf
    have hfa := Tr.right_facts hkid
    have hpos : 0 < t.nodes.length := by
      unfold Tr.forms at hf
      split at hf
      · cases hf
      · simp only [Bool.and_eq_true, decide_eq_true_eq] at hf
        exact hf.2
    have hpos' : 0 < (t.nodes.length : Int) := by omega
    have hrf := Tr.right_forms t
    rw [hf, Bool.true_and] at hrf
    rw [hf] at HF
    obtain ⟨m, hm⟩ : ∃ m, t.nodes.length = m + 1 := ⟨t.nodes.length - 1, by omega⟩
    have HLV : Hid (∀ W : World, Below w.heap.size w W → Calls Tryd.prog 41 #[.agg #[.slice at_ t.toks.length ct, .slice an t.nodes.length cn], .int .i64 ((t.nodes.length : Int) - 1)] W fun e w' => ∃ v, e = .returned v ∧ w'.ownsRow W.heap.size 3 1 v (Tr.leafs t.nodes m).length (intCells (Tr.leafs t.nodes m)) ∧ Below W.heap.size W w') := by
      refine Lib.hid fun W hW => ?_
      have := rleaves_calls (P := P) (vt := .slice at_ t.toks.length ct) (vn := .slice an t.nodes.length cn) hfa.1 hfa.2.1 (by have := HH.out.2.2.1; omega) (fun n hn => by have := HH.out.2.2.2.2 n hn; omega) m (by omega) W (HH.out.1.keep (Keeps.of hW HH.out.2.1)) (fun k hk => Nat.lt_of_lt_of_le (HH.out.2.1 k hk) hW.size)
      rwa [show (m : Int) = (t.nodes.length : Int) - 1 by omega] at this
    have hll : (Tr.leafs t.nodes m).length ≤ 1000000 := by
      have := Tr.leafs_len t.nodes m
      have := hfa.2.1 m (by omega)
      have := HH.out.2.2.1
      omega
    rw [show t.nodes.length - 1 = m by omega] at hrf
    obtain ⟨l, hl⟩ : ∃ l, Tr.leafs t.nodes m = l := ⟨_, rfl⟩
    rw [hl] at HLV hll hrf
    have HRF := Lib.hid hrf
    have hll' : (l.length : Int) ≤ 1000000 := by omega
    clear hf hkid hfa hpos hrf hm hl hll
    go_enter Tryd.func23, Tryd.ntmps23
    go_wp2_with fail
    refine HF.out.mono ?_
    rintro e w1 ⟨rfl, hb1⟩
    have hbx := anc_box HB.out.2 hb1
    have c0 := cell_of_heap hbx 0 rfl
    have c1 := cell_of_heap hbx 1 rfl
    have l0 := cell_lt c0
    have H1 := Lib.hid (And.intro (HB.out.1.trans (hb1.mono HB.out.1.size)) hbx)
    clear hb1 hbx
    dsimp only
    go_wp2_with fail
    refine (HLV.out w1 H1.out.1).mono ?_
    rintro e w2 ⟨v, rfl, ho2, hb2⟩
    obtain ⟨a2, c2, rfl⟩ := ownsRow_form ho2
    have hbx := anc_box H1.out.2 hb2
    have H2 := Lib.hid (And.intro (H1.out.1.trans (hb2.mono H1.out.1.size)) ho2)
    clear c0 c1 l0 hb2 ho2
    have c0 := cell_of_heap hbx 0 rfl
    clear hbx
    dsimp only
    by_cases hln : l.length = t.toks.length
    · have hln' : ((l.length : Int) != (t.toks.length : Int)) = false := by simp [hln]
      have HLN := Lib.hid hln
      clear hln
      go_wp2_with fail
      go_loopg [4] l.length (fun k v4 wr => ∃ i : Nat, v4 = .int .i64 i ∧ k = l.length - i ∧ i ≤ l.length ∧ (∀ m, m < i → l[m]? = some (m : Int)) ∧ wr = w2)
      case atStart => exact ⟨0, rfl, rfl, Nat.zero_le _, fun m hm => absurd hm (by omega), rfl⟩
      case round =>
        obtain ⟨i, rfl, hk, hi, hone, rfl⟩ := hrel
        have HS := Lib.hid (And.intro hk hone)
        clear hk hone
        by_cases hlti : i < l.length
        · have hlti' : (i : Int) < (l.length : Int) := by omega
          obtain ⟨x, hx⟩ : ∃ x, l[i]? = some x := ⟨_, List.getElem?_eq_getElem hlti⟩
          obtain ⟨g2, rfl, hcx⟩ := rt_leaf_any H2.out.2 hx (by omega)
          by_cases hxi : x = (i : Int)
          · subst hxi
            have hne : ((i : Int) != (i : Int)) = false := by simp
            have HX := Lib.hid hx
            clear hx
            go_wp2_with fail
            go_roundg (l.length - (i + 1))
            case measure => have := HS.out.1; omega
            case rel =>
              refine ⟨i + 1, by go_num, rfl, by omega, fun m hm => ?_, rfl⟩
              by_cases e : m = i
              · rw [e]; exact HX.out
              · exact HS.out.2 m (by omega)
          · have hne : (x != (i : Int)) = true := by simp [hxi]
            have HX : Hid (Tr.right t = false) := Lib.hid (by rw [HRF.out]; exact Tr.range_ne hx fun e => hxi e.symm)
            clear hx hxi
            go_wp2_with fail
            go_ret
            exact ⟨by rw [HX.out]; rfl, H2.out.1⟩
        · obtain rfl : i = l.length := by omega
          have HX : Hid (Tr.right t = true) := Lib.hid (by
            rw [HRF.out, Tr.range_eq HS.out.2]
            exact decide_eq_true (by have := HLN.out; omega))
          go_wp2_with fail
          go_ret
          exact ⟨by rw [HX.out]; rfl, H2.out.1⟩
    · have hln' : ((l.length : Int) != (t.toks.length : Int)) = true := by simp; omega
      have HX : Hid (Tr.right t = false) := by
        refine Lib.hid ?_
        rw [HRF.out, beq_eq_false_iff_ne]
        intro e
        have := congrArg List.length e
        simp at this
        exact hln this
      clear hln
      go_wp2_with fail
      go_ret
      exact ⟨by rw [HX.out]; rfl, H2.out.1⟩
end Go.Proofs.YtfoelgkkoopheaaDoor
/- tree.Span: the walk. -/
namespace Go.Proofs.YtfoelgkkoopheaaDoor
open Go.RowKit

theorem results_cell_row_tmp {P : Program} {fn : Func} {p u : Tmp} {ty : TypeId} (h : fn.results = #[.cell p ty, .tmp u]) (tmps : Array Value) (w : World) (g : Nat) (t : TypeId) (cs : Array Value) (fr : Nat × Nat) (d : TypeDesc)
    (hp : tmps.getD p undef = .pointer (some ⟨g, 0, none⟩)) (hg : w.heap[g]? = some (.cells cs t fr))
    (hu : P.underlying ty = some d) (hd : (match d with | .struct _ | .array _ _ => true | _ => false) = true) (hi : (P.info? ty).map (·.size) = some cs.size) {x : Value} (hx : tmps.getD u undef = x) :
    (results fn tmps).run P w = .ok (.tuple #[.agg cs, x]) w := by
  rw [results_cell_tmp h, hp, hx]
  simp [asAddr, run_loadVar_row w g t ty cs fr d hg hu hd hi]

/-- Where the token of a place begins, behind its lead. -/
def spanAt (toks : List Tr.Tk) (a : Nat) : Nat := (wholeOf (toks.take a)).length + (match toks[a]? with | some k => k.lead.length | none => 0)
def SpanCode (t : Tr.T) (n : Int) : Int := if Tr.check t n = 0 then (if TextOut t n = [] then 14 else 0) else Tr.check t n
def SpanOut (t : Tr.T) (n : Int) : Int × Int :=
  if Tr.check t n = 0 then (match Tr.leafs t.nodes n.toNat with | [] => (0, 0) | a :: _ => if TextOut t n = [] then (0, 0) else (spanAt t.toks a.toNat, spanAt t.toks a.toNat + (TextOut t n).length)) else (0, 0)

theorem span_take {toks : List Tr.Tk} {j : Nat} {k : Tr.Tk} (h : toks[j]? = some k) : (wholeOf (toks.take (j + 1))).length = (wholeOf (toks.take j)).length + (k.lead.length + k.text.length) := by
  rw [List.take_add_one, h]
  simp [wholeOf]
theorem span_take_le (toks : List Tr.Tk) (j : Nat) : (wholeOf (toks.take j)).length ≤ (wholeOf toks).length := by
  conv => rhs; rw [← List.take_append_drop j toks]
  simp only [wholeOf, List.flatMap_append, List.length_append]
  omega

set_option maxRecDepth 100000 in
set_option maxHeartbeats 2000000 in
theorem span_calls {w : World} {P : Nat → Prop} {vt vn : Value} {t : Tr.T} (h : RdT w P vt vn t) (hP : ∀ k, P k → k < w.heap.size) (hn : t.nodes.length ≤ 1073741823) (ht : t.toks.length ≤ 1073741823) (hkids : ∀ n ∈ t.nodes, n.kids.length ≤ 1073741823) (n : Int)
    (hl : (wholeOf t.toks).length ≤ 1073741824) :
    Calls Tryd.prog 22 #[.agg #[vt, vn], .int .i64 n] w fun e w' => e = .returned (.tuple #[.agg #[.int .i64 (SpanOut t n).1, .int .i64 (SpanOut t n).2], .int .i64 (SpanCode t n)]) ∧ Below w.heap.size w w' := by
  obtain ⟨at_, ct, rfl⟩ := h.1.form
  obtain ⟨an, cn, rfl⟩ : ∃ a c, vn = .slice a t.nodes.length c := by
    obtain ⟨kvs, _, h2, _⟩ := h.2
    exact h2.form
  have HTX : Hid (∀ W : World, Below w.heap.size w W → Calls Tryd.prog 17 #[.agg #[.slice at_ t.toks.length ct, .slice an t.nodes.length cn], .int .i64 n] W fun e w' => e = .returned (.tuple #[.string ⟨(TextOut t n).toArray⟩, .int .i64 (Tr.check t n)]) ∧ Below W.heap.size W w') :=
    fun W hW => text_calls (h.keep (Keeps.of hW hP)) (fun k hk => Nat.lt_of_lt_of_le (hP k hk) hW.size) hn ht hkids n hl
  have HH := Lib.hid (And.intro h (And.intro hP (And.intro hn (And.intro ht (And.intro hkids hl)))))
  clear h hP hn ht hkids hl
  obtain ⟨V, hV⟩ : ∃ V, (w.alloc (.cells #[.slice at_ t.toks.length ct, .slice an t.nodes.length cn] 41)).alloc (.cells #[.int .i64 0, .int .i64 0] 57) = V := ⟨_, rfl⟩
  have hv : Below w.heap.size w V := by rw [← hV]; exact ((Below.refl _ _).alloc (Nat.le_refl _) _).alloc (by rw [← size_alloc1]; omega) _
  have hv1 : V.heap[w.heap.size]? = some (.cells #[.slice at_ t.toks.length ct, .slice an t.nodes.length cn] 41 (0, 0)) := by
    rw [← hV, Below.heap_alloc _ _ _ (by rw [← size_alloc1]; omega)]
    exact heap_alloc_new _ _
  have hv2 : V.heap[w.heap.size + 1]? = some (.cells #[.int .i64 0, .int .i64 0] 57 (0, 0)) := by
    rw [← hV]
    exact new_at _ _ _ (by rw [← size_alloc1])
  have c0 := cell_of_heap hv1 0 rfl
  have c1 := cell_of_heap hv1 1 rfl
  have l0 := cell_lt c0
  have HV := Lib.hid (And.intro hv (And.intro hv1 hv2))
  clear hv hv1 hv2
  by_cases hc : Tr.check t n = 0
  · unfold SpanOut SpanCode
    rw [if_pos hc, if_pos hc]
    rw [hc] at HTX
    obtain ⟨hr, h0, h1⟩ := check_zero hc
    obtain ⟨i, rfl⟩ : ∃ i : Nat, n = i := ⟨n.toNat, by omega⟩
    rw [Int.toNat_natCast]
    have hil : i < t.nodes.length := by omega
    obtain ⟨a, hrun, hroom⟩ := Tr.leafs_run hr hil
    have hfa := Tr.right_all hr
    have hsz : Tr.size t.nodes i ≤ 1073741823 := by
      cases hg : Tr.rightGo t 0 t.nodes (List.replicate t.nodes.length false) with
      | none => rw [Tr.right_none hg] at hr; cases hr
      | some kid => have := (Tr.right_facts hg).2.1 i hil; have := HH.out.2.2.1; omega
    have HLV : Hid (∀ W : World, Below w.heap.size w W → Calls Tryd.prog 35 #[.agg #[.slice at_ t.toks.length ct, .slice an t.nodes.length cn], .int .i64 (i : Int)] W fun e w' => ∃ v, e = .returned v ∧ w'.ownsRow W.heap.size 3 1 v (Tr.leafs t.nodes i).length (intCells (Tr.leafs t.nodes i)) ∧ Below W.heap.size W w') :=
      fun W hW => leaves_calls (HH.out.1.keep (Keeps.of hW HH.out.2.1)) (fun k hk => Nat.lt_of_lt_of_le (HH.out.2.1 k hk) hW.size) hfa.1 i hil (by have := HH.out.2.2.1; omega) hsz
    have htx : TextOut t (i : Int) = textAt t.toks (Tr.leafs t.nodes i) := by unfold TextOut; rw [if_pos hc, Int.toNat_natCast]
    obtain ⟨tx, htx2⟩ : ∃ tx, TextOut t (i : Int) = tx := ⟨_, rfl⟩
    rw [htx2] at HTX htx ⊢
    obtain ⟨l, hle⟩ : ∃ l, Tr.leafs t.nodes i = l := ⟨_, rfl⟩
    rw [hle] at HLV hrun hroom htx ⊢
    clear hc hr h0 h1 hil hfa hsz hle htx2
    have HTT := Lib.hid htx
    clear htx
    by_cases he : tx = []
    · subst he
      rw [if_pos rfl]
      have e0 : (match l with | [] => ((0 : Int), (0 : Int)) | a :: _ => if ([] : List UInt8) = [] then (0, 0) else ((spanAt t.toks a.toNat : Int), (spanAt t.toks a.toNat : Int) + ([] : List UInt8).length)) = (0, 0) := by
        cases l with
        | nil => rfl
        | cons x r => simp
      rw [e0]
      clear e0
      go_enter Tryd.func22, Tryd.ntmps22
      go_wp2_with fail
      clear hV
      refine (HTX.out _ HV.out.1).mono ?_
      rintro e w2 ⟨rfl, hb2⟩
      have HW := Lib.hid (And.intro hb2 (And.intro (anc_box HV.out.2.1 hb2) (anc_box HV.out.2.2 hb2)))
      clear hb2 c0 c1 l0
      dsimp only
      go_wp2_with (refine wpList_store_row rfl 57 _ _ rfl 57 (w.heap.size + 1) _ _ rfl HW.out.2.2 rfl rfl rfl (by simp [Value.oneCell']) ?_)
      refine bodyPost_ret (v := _) (results_cell_row_tmp rfl _ _ (w.heap.size + 1) _ _ _ _ rfl (setRow_at HW.out.2.2) Tryd.underlying57 rfl rfl rfl) rfl ?_
      exact ⟨rfl, below_setRow (HV.out.1.trans (HW.out.1.mono HV.out.1.size)) (Nat.le_succ _) _⟩
    · rw [if_neg he]
      cases l with
      | nil => exact absurd HTT.out he
      | cons x r =>
        have hx0 : x = (a : Int) := by
          have := congrArg (fun z => z[0]?) hrun
          simpa using this
        subst hx0
        simp only [List.length_cons] at HLV hroom
        have HE := Lib.hid he
        have hne : tx.isEmpty = false := by
          cases tx with
          | nil => exact absurd rfl he
          | cons _ _ => rfl
        simp only [if_neg he, Int.toNat_natCast]
        clear hrun he
        go_enter Tryd.func22, Tryd.ntmps22
        go_wp2_with fail
        clear hV
        refine (HTX.out _ HV.out.1).mono ?_
        rintro e w2 ⟨rfl, hb2⟩
        have HW := Lib.hid (And.intro hb2 (And.intro (anc_box HV.out.2.1 hb2) (anc_box HV.out.2.2 hb2)))
        clear hb2 c0 c1 l0
        have c0 := cell_of_heap HW.out.2.1 0 rfl
        have c1 := cell_of_heap HW.out.2.1 1 rfl
        have l0 := cell_lt c0
        dsimp only
        go_wp2_with fail
        refine (HLV.out w2 (HV.out.1.trans (HW.out.1.mono HV.out.1.size))).mono ?_
        rintro e w3 ⟨v3, rfl, ho3, hb3⟩
        obtain ⟨a3, c3, rfl⟩ := ownsRow_form ho3
        obtain ⟨g3, rfl, hc0⟩ := rt_leaf_any ho3 (i := 0) (x := (a : Int)) rfl (by omega)
        have HW3 := Lib.hid (And.intro (HV.out.1.trans (HW.out.1.mono HV.out.1.size)) (And.intro hb3 (And.intro (anc_box HW.out.2.1 hb3) (anc_box HW.out.2.2 hb3))))
        clear c0 c1 l0 hb3 ho3
        have c0 := cell_of_heap HW3.out.2.2.1 0 rfl
        have l0 := cell_lt c0
        have lg := cell_lt hc0
        have hroom' : (a : Int) + 1 ≤ (t.toks.length : Int) := by omega
        have htl : (t.toks.length : Int) ≤ 1073741823 := by have := HH.out.2.2.2.1; omega
        obtain ⟨k0, hk0⟩ : ∃ k0, t.toks[a]? = some k0 := ⟨_, List.getElem?_eq_getElem (by omega)⟩
        obtain ⟨bt, ot, ct', het, hPt, hrg0⟩ := (HH.out.1.1.keep (Keeps.of (HW3.out.1.trans (HW3.out.2.1.mono HW3.out.1.size)) HH.out.2.1)).tok hk0
        obtain ⟨rfl, rfl⟩ : at_ = some ⟨bt, ot, none⟩ ∧ ct = ct' := by
          simp only [Value.slice.injEq] at het
          exact ⟨het.1, het.2.2⟩
        have htc : (t.toks.length : Int) ≤ (ct : Int) := by
          obtain ⟨_, _, _, he, hc, _⟩ := HH.out.1.1
          simp only [Value.slice.injEq] at he
          omega
        have w7' : (0 : Int) ≤ (a : Int) := by omega
        have w9' : (a : Int) ≤ (ct : Int) := by omega
        have HK := Lib.hid (And.intro hk0 (And.intro hPt hrg0))
        clear hk0 hPt hrg0 het
        dsimp only
        go_wp2_with fail
        go_loopg [8, 37] a (fun k v8 v37 wr => ∃ j : Nat, v37 = .int .i64 j ∧ v8 = .int .i64 ((wholeOf (t.toks.take j)).length : Nat) ∧ k = a - j ∧ j ≤ a ∧ Below w3.heap.size w3 wr)
        case atStart => exact ⟨0, rfl, by simp [wholeOf], rfl, Nat.zero_le _, Below.refl _ _⟩
        case round =>
          obtain ⟨j, rfl, rfl, hk, hj, hb⟩ := hrel
          have hb0 : Below w.heap.size w wr := (HW3.out.1.trans (HW3.out.2.1.mono HW3.out.1.size)).trans (hb.mono (HW3.out.1.trans (HW3.out.2.1.mono HW3.out.1.size)).size)
          have HB := Lib.hid (And.intro hk (And.intro hb hb0))
          have hx := anc_box HW3.out.2.2.1 hb
          have d0 := cell_of_heap hx 0 rfl
          have ld := cell_lt d0
          clear hk hb hb0 hx c0 l0
          by_cases hlt : j < a
          · have hlt' : (j : Int) < (a : Int) := by omega
            obtain ⟨k, hk⟩ : ∃ k, t.toks[j]? = some k := ⟨_, List.getElem?_eq_getElem (by omega)⟩
            obtain ⟨bt', ot', ct', het, hPt, hrg⟩ := (HH.out.1.1.keep (Keeps.of HB.out.2.2 HH.out.2.1)).tok hk
            obtain ⟨rfl, rfl⟩ : bt = bt' ∧ ot = ot' := by
              simp only [Value.slice.injEq, Option.some.injEq, Addr.mk.injEq] at het
              exact ⟨het.1.1, het.1.2.1⟩
            have hst := span_take hk
            have hle := span_take_le t.toks (j + 1)
            have hll := HH.out.2.2.2.2.2
            obtain ⟨kk, kl, kt, kp⟩ := k
            dsimp only at hst hrg
            obtain ⟨L, hL⟩ : ∃ L, (wholeOf (t.toks.take j)).length = L := ⟨_, rfl⟩
            rw [hL] at hst ⊢
            have hsum : (L : Int) + ((kl.length : Int) + (kt.length : Int)) ≤ 1073741824 := by omega
            have HG := Lib.hid hrg
            have HS := Lib.hid hst
            clear hk het hPt hrg hst hle hll hL
            go_wp2_with (refine wpList_load_mid rfl 34 _ rfl bt (ot + j * 4) rfl _ _ HG.out Tryd.underlying34 rfl rfl ?_)
            go_roundg (a - (j + 1))
            case measure => have := HB.out.1; omega
            case rel => exact ⟨j + 1, by go_num, by rw [HS.out]; go_num, rfl, by omega, HB.out.2.1.alloc HB.out.2.1.size _⟩
          · obtain rfl : j = a := by omega
            have hrg := rangeAt_same HK.out.2.2 (HB.out.2.1.block _ (Nat.lt_of_lt_of_le (HH.out.2.1 _ HK.out.2.1) (HW3.out.1.trans (HW3.out.2.1.mono HW3.out.1.size)).size))
            have hsp : spanAt t.toks j = (wholeOf (t.toks.take j)).length + k0.lead.length := by
              unfold spanAt
              rw [HK.out.1]
            have hst := span_take HK.out.1
            have hle := span_take_le t.toks (j + 1)
            have hll := HH.out.2.2.2.2.2
            have hx2 := anc_box HW3.out.2.2.2 HB.out.2.1
            obtain ⟨kk, kl, kt, kp⟩ := k0
            dsimp only at hst hrg hsp
            have s1 : wr.cell? ⟨bt, ot + j * 4 + 1, none⟩ = some (.string ⟨kl.toArray⟩) := hrg 1 _ rfl
            obtain ⟨L, hL⟩ : ∃ L, (wholeOf (t.toks.take j)).length = L := ⟨_, rfl⟩
            rw [hL] at hst hsp ⊢
            have htxl : tx.length ≤ 1073741824 := by
              rw [HTT.out]
              unfold textAt
              simp only
              have q1 := whole_clear_len ((t.toks.drop j).take (r.length + 1))
              have q2 := whole_part_len t.toks j (r.length + 1)
              simp only [Int.toNat_natCast]
              omega
            have hsum : (L : Int) + (kl.length : Int) ≤ 1073741824 := by omega
            have htxl' : (tx.length : Int) ≤ 1073741824 := by omega
            have HX2 := Lib.hid hx2
            have HSP := Lib.hid hsp
            clear hrg hsp hst hle hll hx2 hL htxl
            go_wp2_with (refine wpList_store_row rfl 57 _ _ rfl 57 (w.heap.size + 1) _ _ rfl HX2.out rfl rfl rfl (by simp [Value.oneCell']) ?_)
            refine bodyPost_ret (v := _) (results_cell_row_tmp rfl _ _ (w.heap.size + 1) _ _ _ _ rfl (setRow_at HX2.out) Tryd.underlying57 rfl rfl rfl) rfl ?_
            refine ⟨?_, below_setRow HB.out.2.2 (Nat.le_succ _) _⟩
            rw [HSP.out]
            simp
  · unfold SpanOut SpanCode
    rw [if_neg hc, if_neg hc]
    obtain ⟨cc, hcc⟩ : ∃ cc, Tr.check t n = cc := ⟨_, rfl⟩
    rw [hcc] at HTX hc ⊢
    have hne : (cc != 0) = true := by simp [hc]
    clear hcc hc
    go_enter Tryd.func22, Tryd.ntmps22
    go_wp2_with fail
    clear hV
    refine (HTX.out _ HV.out.1).mono ?_
    rintro e w2 ⟨rfl, hb2⟩
    have HW := Lib.hid (And.intro hb2 (And.intro (anc_box HV.out.2.1 hb2) (anc_box HV.out.2.2 hb2)))
    clear hb2 c0 c1 l0
    dsimp only
    go_wp2_with (refine wpList_store_row rfl 57 _ _ rfl 57 (w.heap.size + 1) _ _ rfl HW.out.2.2 rfl rfl rfl (by simp [Value.oneCell']) ?_)
    refine bodyPost_ret (v := _) (results_cell_row_tmp rfl _ _ (w.heap.size + 1) _ _ _ _ rfl (setRow_at HW.out.2.2) Tryd.underlying57 rfl rfl rfl) rfl ?_
    exact ⟨rfl, below_setRow (HV.out.1.trans (HW.out.1.mono HV.out.1.size)) (Nat.le_succ _) _⟩
end Go.Proofs.YtfoelgkkoopheaaDoor
/- The document's Text: the walk. -/
namespace Go.Proofs.YtfoelgkkoopheaaDoor
open Go.RowKit

/-- The text from a place on, of so many tokens. -/
def txTo (toks : List Tr.Tk) (a q : Nat) : List UInt8 := wholeOf (clearLead ((toks.drop a).take q))
theorem clear_snoc {x : List Tr.Tk} {k : Tr.Tk} (h : x ≠ []) : clearLead (x ++ [k]) = clearLead x ++ [k] := by
  cases x with
  | nil => exact absurd rfl h
  | cons y l => rfl
theorem txTo_succ {toks : List Tr.Tk} {a q : Nat} {k : Tr.Tk} (hq : 0 < q) (h : toks[a + q]? = some k) : txTo toks a (q + 1) = txTo toks a q ++ (k.lead ++ k.text) := by
  have hlt := Tr.get_lt h
  unfold txTo
  rw [List.take_add_one, List.getElem?_drop, h]
  simp only [Option.toList_some]
  rw [clear_snoc]
  · simp [wholeOf]
  · intro e
    have := congrArg List.length e
    simp only [List.length_take, List.length_drop, List.length_nil] at this
    omega
theorem txTo_one {toks : List Tr.Tk} {a : Nat} {k : Tr.Tk} (h : toks[a]? = some k) : txTo toks a 1 = k.text := by
  unfold txTo
  rw [Tr.drop_get h]
  simp [clearLead, wholeOf]
theorem txTo_le (toks : List Tr.Tk) (a q : Nat) : (txTo toks a q).length ≤ (wholeOf toks).length := by
  unfold txTo
  have q1 := whole_clear_len ((toks.drop a).take q)
  have q2 := whole_part_len toks a q
  omega
/-- Where a node's text begins, by the document. -/
def refAt (t : Tr.T) (i : Nat) : Int := match Tr.leafs t.nodes i with | [] => 0 | a :: _ => (spanAt t.toks a.toNat : Int)
theorem below_drewN' {B : Nat} {w w' : World} (h : Below B w w') (n : Nat) : Below B w (w'.drewN n) := ⟨h.os, h.tape, h.output, h.size, h.block⟩

set_option maxRecDepth 100000 in
set_option maxHeartbeats 2000000 in
theorem rtext_calls {w : World} {P : Nat → Prop} {vt vn : Value} {t : Tr.T} (h : RdT w P vt vn t) (hP : ∀ k, P k → k < w.heap.size) (hn : t.nodes.length ≤ 1000000) (ht : t.toks.length ≤ 1000000) (hkids : ∀ n ∈ t.nodes, n.kids.length ≤ 100) (hl : (wholeOf t.toks).length ≤ 1000000000) (hr : Tr.right t = true) {i : Nat} (hi : i < t.nodes.length) :
    Calls Tryd.prog 24 #[.agg #[vt, vn], .int .i64 i] w fun e w' => e = .returned (.tuple #[.string ⟨(textAt t.toks (Tr.leafs t.nodes i)).toArray⟩, .int .i64 (refAt t i)]) ∧ Below w.heap.size w w' := by
  obtain ⟨at_, ct, rfl⟩ := h.1.form
  obtain ⟨an, cn, rfl⟩ : ∃ a c, vn = .slice a t.nodes.length c := by
    obtain ⟨kvs, _, h2, _⟩ := h.2
    exact h2.form
  obtain ⟨a, hrun, hroom⟩ := Tr.leafs_run hr hi
  have hfa := Tr.right_all hr
  have hsz : ∀ j, j < t.nodes.length → Tr.size t.nodes j ≤ j + 1 := by
    cases hg : Tr.rightGo t 0 t.nodes (List.replicate t.nodes.length false) with
    | none => rw [Tr.right_none hg] at hr; cases hr
    | some kid => exact (Tr.right_facts hg).2.1
  have hb1 : Below w.heap.size w (w.alloc (.cells #[.slice at_ t.toks.length ct, .slice an t.nodes.length cn] 54)) := (Below.refl _ _).alloc (Nat.le_refl _) _
  have hbx : (w.alloc (.cells #[.slice at_ t.toks.length ct, .slice an t.nodes.length cn] 54)).heap[w.heap.size]? = some (.cells #[.slice at_ t.toks.length ct, .slice an t.nodes.length cn] 54 (0, 0)) := heap_alloc_new _ _
  have HLV := Lib.hid (rleaves_calls (P := P) hfa.1 hsz (by omega) (fun n hn => by have := hkids n hn; omega) i hi _ (h.keep (Keeps.of hb1 hP)) (fun k hk => Nat.lt_of_lt_of_le (hP k hk) hb1.size))
  have HH := Lib.hid (And.intro h (And.intro hP hl))
  have HB := Lib.hid (And.intro hb1 hbx)
  have ht' : (t.toks.length : Int) ≤ 1000000 := by omega
  unfold refAt
  obtain ⟨l, hle⟩ : ∃ l, Tr.leafs t.nodes i = l := ⟨_, rfl⟩
  rw [hle] at HLV hrun hroom ⊢
  clear h hP hn ht hkids hl hr hi hfa hsz hb1 hbx hle
  cases l with
  | nil =>
    simp only [List.length_nil] at HLV
    go_enter Tryd.func24, Tryd.ntmps24
    go_wp2_with fail
    refine HLV.out.mono ?_
    rintro e w1 ⟨v, rfl, ho1, hb1⟩
    obtain ⟨a1, c1, rfl⟩ := ownsRow_form ho1
    have HB1 := Lib.hid hb1
    clear ho1 hb1
    dsimp only
    go_wp2_with fail
    go_ret2
    exact ⟨rfl, HB.out.1.trans (HB1.out.mono HB.out.1.size)⟩
  | cons x r =>
    obtain ⟨m, hm⟩ : ∃ m, r.length = m := ⟨_, rfl⟩
    have hxl : (x :: r).length = m + 1 := by simp [hm]
    have HM := Lib.hid hm
    rw [hxl] at HLV hroom hrun
    have hx0 : x = (a : Int) := by
      have := congrArg (fun z => z[0]?) hrun
      simpa using this
    subst hx0
    have hym : ((a : Int) :: r)[m]? = some ((a : Int) + (m : Int)) := by
      have := congrArg (fun z => z[m]?) hrun
      simpa using this
    have htx : textAt t.toks ((a : Int) :: r) = txTo t.toks a (m + 1) := by
      unfold textAt txTo
      simp only
      rw [hm, Int.toNat_natCast]
    simp only [Int.toNat_natCast]
    rw [htx]
    obtain ⟨k0, hk0⟩ : ∃ k0, t.toks[a]? = some k0 := ⟨_, List.getElem?_eq_getElem (by omega)⟩
    have hroom' : (a : Int) + (m : Int) + 1 ≤ (t.toks.length : Int) := by omega
    have HK0 := Lib.hid hk0
    clear hrun hm hxl htx hk0
    go_enter Tryd.func24, Tryd.ntmps24
    go_wp2_with fail
    refine HLV.out.mono ?_
    rintro e w1 ⟨v, rfl, ho1, hb1⟩
    obtain ⟨a1, c1, rfl⟩ := ownsRow_form ho1
    obtain ⟨g1, rfl, hc0⟩ := rt_leaf_any ho1 (i := 0) (x := (a : Int)) rfl (by omega)
    obtain ⟨g1', hg1, hcm⟩ := rt_leaf_any ho1 hym (by omega)
    obtain rfl : g1' = g1 := by injection hg1 with e; injection e with e; exact e.symm
    have hbx := anc_box HB.out.2 hb1
    have H1 := Lib.hid (And.intro (HB.out.1.trans (hb1.mono HB.out.1.size)) hbx)
    have lg := cell_lt hc0
    have HC := Lib.hid (And.intro hc0 hcm)
    clear ho1 hb1 hg1 hbx hym hcm hc0
    dsimp only
    go_wp2_with fail
    go_loopg [7, 8] a (fun k v7 v8 wr => ∃ j : Nat, v8 = .int .i64 j ∧ v7 = .int .i64 ((wholeOf (t.toks.take j)).length : Nat) ∧ k = a - j ∧ j ≤ a ∧ Below w1.heap.size w1 wr)
    case atStart => exact ⟨0, rfl, by simp [wholeOf], rfl, Nat.zero_le _, Below.refl _ _⟩
    case round =>
      obtain ⟨j, rfl, rfl, hk, hj, hb⟩ := hrel
      have hx := anc_box H1.out.2 hb
      have d0 := cell_of_heap hx 0 rfl
      have ld := cell_lt d0
      have e0 := (hb.cell (p := ⟨g1', 0, none⟩) lg).trans HC.out.1
      have em := (hb.cell (p := ⟨g1', m, none⟩) lg).trans HC.out.2
      have HBB := Lib.hid (And.intro hk (And.intro hb (H1.out.1.trans (hb.mono H1.out.1.size))))
      clear hk hb hx
      by_cases hlt : j < a
      · have hlt' : (j : Int) < (a : Int) := by omega
        obtain ⟨k, hk⟩ : ∃ k, t.toks[j]? = some k := ⟨_, List.getElem?_eq_getElem (by omega)⟩
        obtain ⟨bt, ot, ct', het, hPt, hrg⟩ := (HH.out.1.1.keep (Keeps.of HBB.out.2.2 HH.out.2.1)).tok hk
        obtain ⟨rfl, rfl⟩ : at_ = some ⟨bt, ot, none⟩ ∧ ct = ct' := by
          simp only [Value.slice.injEq] at het
          exact ⟨het.1, het.2.2⟩
        have hst := span_take hk
        have hle := span_take_le t.toks (j + 1)
        have hll := HH.out.2.2
        obtain ⟨kk, kl, kt, kp⟩ := k
        dsimp only at hst hrg
        have s1 : wr.cell? ⟨bt, ot + j * 4 + 1, none⟩ = some (.string ⟨kl.toArray⟩) := hrg 1 _ rfl
        have s2 : wr.cell? ⟨bt, ot + j * 4 + 2, none⟩ = some (.string ⟨kt.toArray⟩) := hrg 2 _ rfl
        obtain ⟨L, hL⟩ : ∃ L, (wholeOf (t.toks.take j)).length = L := ⟨_, rfl⟩
        rw [hL] at hst ⊢
        have hs1 : IntKind.i64.wrap ((kl.length : Int) + (kt.length : Int)) = (kl.length : Int) + (kt.length : Int) := IntWalk.i64_in _ (by omega)
        have hs2 : IntKind.i64.wrap ((L : Int) + ((kl.length : Int) + (kt.length : Int))) = (L : Int) + ((kl.length : Int) + (kt.length : Int)) := IntWalk.i64_in _ (by omega)
        have hjt : (j : Int) < (t.toks.length : Int) := by omega
        have HS := Lib.hid hst
        clear hk het hPt hrg hst hle hll hL
        go_wp2_with fail
        go_quiet (fail)
        go_wp2_with fail
        go_roundg (a - (j + 1))
        case measure => have := HBB.out.1; omega
        case rel => exact ⟨j + 1, by go_num, by rw [HS.out]; go_num, rfl, by omega, below_drewN' HBB.out.2.1 _⟩
      · obtain rfl : j = a := by omega
        obtain ⟨bt, ot, ct', het, hPt, hrg⟩ := (HH.out.1.1.keep (Keeps.of HBB.out.2.2 HH.out.2.1)).tok HK0.out
        obtain ⟨rfl, rfl⟩ : at_ = some ⟨bt, ot, none⟩ ∧ ct = ct' := by
          simp only [Value.slice.injEq] at het
          exact ⟨het.1, het.2.2⟩
        have hst := span_take HK0.out
        have hle := span_take_le t.toks (j + 1)
        have hll := HH.out.2.2
        have hsp : spanAt t.toks j = (wholeOf (t.toks.take j)).length + k0.lead.length := by
          unfold spanAt
          rw [HK0.out]
        have htx1 := txTo_one HK0.out
        obtain ⟨kk, kl, kt, kp⟩ := k0
        dsimp only at hst hrg hsp htx1
        have s1 : wr.cell? ⟨bt, ot + j * 4 + 1, none⟩ = some (.string ⟨kl.toArray⟩) := hrg 1 _ rfl
        have s2 : wr.cell? ⟨bt, ot + j * 4 + 2, none⟩ = some (.string ⟨kt.toArray⟩) := hrg 2 _ rfl
        obtain ⟨L, hL⟩ : ∃ L, (wholeOf (t.toks.take j)).length = L := ⟨_, rfl⟩
        rw [hL] at hst hsp ⊢
        have hs2 : IntKind.i64.wrap ((L : Int) + (kl.length : Int)) = (L : Int) + (kl.length : Int) := IntWalk.i64_in _ (by omega)
        have hjt : (j : Int) < (t.toks.length : Int) := by omega
        have HSP := Lib.hid (And.intro hsp htx1)
        clear het hPt hrg hst hle hll hL hsp htx1
        go_wp2_with fail
        go_quiet (fail)
        go_wp2_with fail
        go_quiet (fail)
        go_wp2_with fail
        rw [← HSP.out.2]
        have HW1 := Lib.hid HBB.out.2.1
        clear s1 s2 d0 ld e0 em hs2
        generalize wr = w0 at *
        go_loopg [9, 10] m (fun k v9 v10 wr => ∃ p q : Nat, p = j + q ∧ 1 ≤ q ∧ q ≤ m + 1 ∧ v10 = .int .i64 p ∧ v9 = .string ⟨(txTo t.toks j q).toArray⟩ ∧ k = m + 1 - q ∧ Below w1.heap.size w1 wr)
        case atStart => exact ⟨j + 1, 1, rfl, Nat.le_refl _, by omega, by simp, rfl, rfl, by first | exact below_drewN' HW1.out _ | exact below_drewN' (below_drewN' HW1.out _) _⟩
        case round =>
          obtain ⟨p, q, hp, hq1, hq2, rfl, rfl, hk, hb⟩ := hrel
          have hx := anc_box H1.out.2 hb
          have d0 := cell_of_heap hx 0 rfl
          have ld := cell_lt d0
          have em := (hb.cell (p := ⟨g1', m, none⟩) lg).trans HC.out.2
          have HB2 := Lib.hid (And.intro hk (And.intro hb (H1.out.1.trans (hb.mono H1.out.1.size))))
          have hmm : (m : Int) + 1 - 1 = (m : Int) := by omega
          clear hk hb hx
          by_cases hlt : q ≤ m
          · have hlt' : (p : Int) ≤ (j : Int) + (m : Int) := by omega
            obtain ⟨k, hk⟩ : ∃ k, t.toks[p]? = some k := ⟨_, List.getElem?_eq_getElem (by omega)⟩
            obtain ⟨bt', ot', ct', het, hPt, hrg⟩ := (HH.out.1.1.keep (Keeps.of HB2.out.2.2 HH.out.2.1)).tok hk
            obtain ⟨rfl, rfl⟩ : bt = bt' ∧ ot = ot' := by
              simp only [Value.slice.injEq, Option.some.injEq, Addr.mk.injEq] at het
              exact ⟨het.1.1, het.1.2.1⟩
            have hst := txTo_succ (by omega : 0 < q) (by rw [← hp]; exact hk)
            have hle := txTo_le t.toks j (q + 1)
            have hll := HH.out.2.2
            obtain ⟨kk, kl', kt', kp⟩ := k
            dsimp only at hst hrg
            rw [hst] at hle
            simp only [List.length_append] at hle
            have s1 : wr.cell? ⟨bt, ot + p * 4 + 1, none⟩ = some (.string ⟨kl'.toArray⟩) := hrg 1 _ rfl
            have s2 : wr.cell? ⟨bt, ot + p * 4 + 2, none⟩ = some (.string ⟨kt'.toArray⟩) := hrg 2 _ rfl
            have hpt : (p : Int) < (t.toks.length : Int) := by omega
            obtain ⟨S, hS⟩ : ∃ S, txTo t.toks j q = S := ⟨_, rfl⟩
            rw [hS] at hst hle ⊢
            have hle1 : (kl'.length : Int) + (kt'.length : Int) ≤ 1073741824 := by omega
            have hle2 : (S.length : Int) + ((kl'.length : Int) + (kt'.length : Int)) ≤ 1073741824 := by omega
            have HS := Lib.hid hst
            have HPQ := Lib.hid hp
            clear hk het hPt hrg hst hle hll hS hp
            go_wp2_with fail
            go_quiet (fail)
            go_wp2_with fail
            go_roundg (m + 1 - (q + 1))
            case measure => have := HB2.out.1; omega
            case rel => exact ⟨p + 1, q + 1, by have := HPQ.out; omega, by omega, by omega, by go_num, by rw [HS.out, ← str_add, ← str_add], rfl, below_drewN' HB2.out.2.1 _⟩
          · have hlt' : decide ((p : Int) ≤ (j : Int) + (m : Int)) = false := decide_eq_false (by omega)
            obtain rfl : q = m + 1 := by omega
            clear hp
            go_wp2_with fail
            go_ret2
            refine ⟨?_, HB2.out.2.2⟩
            rw [HSP.out.1]
            simp
end Go.Proofs.YtfoelgkkoopheaaDoor
/- The document's digits: the walk. -/
namespace Go.Proofs.YtfoelgkkoopheaaDoor
open Go.RowKit

theorem conv_lit (v : Nat) (W : World) {b : Nat} (h : W.heap[b]? = some (.cells #[.int .u8 (v : Int)] 5 (0, 0))) : (convert 81 9 (.slice (some ⟨b, 0, none⟩) 1 1)).run Tryd.prog W = .ok (.string ⟨#[UInt8.ofNat v]⟩) W := by
  rw [run_convert_bytes_string (P := Tryd.prog) W 81 9 5 (some ⟨b, 0, none⟩) 1 1 Tryd.underlying81 Tryd.underlying5 Tryd.underlying9]
  have hl := run_loadCells_list (P := Tryd.prog) W ⟨b, 0, none⟩ [.int .u8 (v : Int)] (fun j u hj => by
    rw [Addr.add_mid, Nat.zero_add]
    refine cell_of_heap h j ?_
    simpa using hj)
  rw [run_bytesToString (P := Tryd.prog) W ⟨b, 0, none⟩ 1 1 [(v : Int)] hl]
  simp only [List.foldl_cons, List.foldl_nil, Int.toNat_natCast]
  rfl
theorem conv_at (v : Nat) (w : World) {b : Nat} {n : Int} (e : n = (v : Int)) {u : UInt8} (hu : UInt8.ofNat v = u) (h : w.heap[b]? = some (.cells #[.int .u8 n] 5 (0, 0))) : (convert 81 9 (.slice (some ⟨b, 0, none⟩) 1 1)).run Tryd.prog w = .ok (.string ⟨#[u]⟩) w := by
  subst e hu
  exact conv_lit v w h
set_option maxRecDepth 100000 in
theorem rdig1 (w : World) : Calls Tryd.prog 42 #[.int .i64 1] w fun e w' => e = .returned (.string ⟨#[49]⟩) ∧ Below w.heap.size w w' := by
  have hcv := conv_at 49 (w.alloc (.cells #[.int .u8 49] 5)) (n := 49) (u := 49) rfl rfl (heap_alloc_new _ _)
  go_enter Tryd.func42, Tryd.ntmps42
  go_wp2_with fail
  go_ret
  exact ⟨rfl, (Below.refl _ _).alloc (Nat.le_refl _) _⟩
set_option maxRecDepth 100000 in
theorem rdig2 (w : World) : Calls Tryd.prog 42 #[.int .i64 2] w fun e w' => e = .returned (.string ⟨#[50]⟩) ∧ Below w.heap.size w w' := by
  have hcv := conv_at 50 (w.alloc (.cells #[.int .u8 50] 5)) (n := 50) (u := 50) rfl rfl (heap_alloc_new _ _)
  go_enter Tryd.func42, Tryd.ntmps42
  go_wp2_with fail
  go_ret
  exact ⟨rfl, (Below.refl _ _).alloc (Nat.le_refl _) _⟩
set_option maxRecDepth 100000 in
theorem rdig3 (w : World) : Calls Tryd.prog 42 #[.int .i64 3] w fun e w' => e = .returned (.string ⟨#[51]⟩) ∧ Below w.heap.size w w' := by
  have hcv := conv_at 51 (w.alloc (.cells #[.int .u8 51] 5)) (n := 51) (u := 51) rfl rfl (heap_alloc_new _ _)
  go_enter Tryd.func42, Tryd.ntmps42
  go_wp2_with fail
  go_ret
  exact ⟨rfl, (Below.refl _ _).alloc (Nat.le_refl _) _⟩
set_option maxRecDepth 100000 in
theorem rdig4 (w : World) : Calls Tryd.prog 42 #[.int .i64 4] w fun e w' => e = .returned (.string ⟨#[52]⟩) ∧ Below w.heap.size w w' := by
  have hcv := conv_at 52 (w.alloc (.cells #[.int .u8 52] 5)) (n := 52) (u := 52) rfl rfl (heap_alloc_new _ _)
  go_enter Tryd.func42, Tryd.ntmps42
  go_wp2_with fail
  go_ret
  exact ⟨rfl, (Below.refl _ _).alloc (Nat.le_refl _) _⟩
set_option maxRecDepth 100000 in
theorem rdig5 (w : World) : Calls Tryd.prog 42 #[.int .i64 5] w fun e w' => e = .returned (.string ⟨#[53]⟩) ∧ Below w.heap.size w w' := by
  have hcv := conv_at 53 (w.alloc (.cells #[.int .u8 53] 5)) (n := 53) (u := 53) rfl rfl (heap_alloc_new _ _)
  go_enter Tryd.func42, Tryd.ntmps42
  go_wp2_with fail
  go_ret
  exact ⟨rfl, (Below.refl _ _).alloc (Nat.le_refl _) _⟩
set_option maxRecDepth 100000 in
theorem rdig6 (w : World) : Calls Tryd.prog 42 #[.int .i64 6] w fun e w' => e = .returned (.string ⟨#[54]⟩) ∧ Below w.heap.size w w' := by
  have hcv := conv_at 54 (w.alloc (.cells #[.int .u8 54] 5)) (n := 54) (u := 54) rfl rfl (heap_alloc_new _ _)
  go_enter Tryd.func42, Tryd.ntmps42
  go_wp2_with fail
  go_ret
  exact ⟨rfl, (Below.refl _ _).alloc (Nat.le_refl _) _⟩
set_option maxRecDepth 100000 in
theorem rdig7 (w : World) : Calls Tryd.prog 42 #[.int .i64 7] w fun e w' => e = .returned (.string ⟨#[55]⟩) ∧ Below w.heap.size w w' := by
  have hcv := conv_at 55 (w.alloc (.cells #[.int .u8 55] 5)) (n := 55) (u := 55) rfl rfl (heap_alloc_new _ _)
  go_enter Tryd.func42, Tryd.ntmps42
  go_wp2_with fail
  go_ret
  exact ⟨rfl, (Below.refl _ _).alloc (Nat.le_refl _) _⟩
set_option maxRecDepth 100000 in
theorem rdig8 (w : World) : Calls Tryd.prog 42 #[.int .i64 8] w fun e w' => e = .returned (.string ⟨#[56]⟩) ∧ Below w.heap.size w w' := by
  have hcv := conv_at 56 (w.alloc (.cells #[.int .u8 56] 5)) (n := 56) (u := 56) rfl rfl (heap_alloc_new _ _)
  go_enter Tryd.func42, Tryd.ntmps42
  go_wp2_with fail
  go_ret
  exact ⟨rfl, (Below.refl _ _).alloc (Nat.le_refl _) _⟩
set_option maxRecDepth 100000 in
theorem rdig9 (w : World) : Calls Tryd.prog 42 #[.int .i64 9] w fun e w' => e = .returned (.string ⟨#[57]⟩) ∧ Below w.heap.size w w' := by
  have hcv := conv_at 57 (w.alloc (.cells #[.int .u8 57] 5)) (n := 57) (u := 57) rfl rfl (heap_alloc_new _ _)
  go_enter Tryd.func42, Tryd.ntmps42
  go_wp2_with fail
  go_ret
  exact ⟨rfl, (Below.refl _ _).alloc (Nat.le_refl _) _⟩
set_option maxRecDepth 100000 in
theorem rdig10 (w : World) : Calls Tryd.prog 42 #[.int .i64 10] w fun e w' => e = .returned (.string ⟨#[49, 48]⟩) ∧ Below w.heap.size w w' := by
  have hw1 : IntKind.i64.wrap 1 = 1 := by decide
  have hw2 : IntKind.i64.wrap 48 = 48 := by decide
  have hw3 : IntKind.u8.wrap 48 = 48 := by decide
  have hcv := conv_at 48 ((w.alloc (.cells #[.int .u8 48] 5)).drew) (n := 48) (u := 48) rfl rfl (heap_alloc_new w _)
  go_enter Tryd.func42, Tryd.ntmps42
  go_wp2_with fail
  go_region_with
    ((go_at_call 42; refine (rdig1 _).mono ?_; rintro e w2 ⟨rfl, hb2⟩; have hcvA := conv_at 48 (w2.alloc (.cells #[.int .u8 48] 5)) (n := 48) (u := 48) rfl rfl (heap_alloc_new _ _); try have hcvB := conv_at 48 w2 (n := 48) (u := 48) (b := w.heap.size) rfl rfl ((hb2.block _ (lt_heap (heap_alloc_new w _))).trans (heap_alloc_new w _))))
  all_goals go_wp2_with fail
  all_goals go_ret
  all_goals first
    | exact ⟨rfl, ((Below.drew (Below.refl _ _)).trans hb2).alloc hb2.size _⟩
    | exact ⟨rfl, (((Below.refl w.heap.size w).alloc (Nat.le_refl _) _).drew).trans (hb2.mono (Nat.le_of_lt (lt_heap (heap_alloc_new w _))))⟩
set_option maxRecDepth 100000 in
theorem rdig11 (w : World) : Calls Tryd.prog 42 #[.int .i64 11] w fun e w' => e = .returned (.string ⟨#[49, 49]⟩) ∧ Below w.heap.size w w' := by
  have hw1 : IntKind.i64.wrap 1 = 1 := by decide
  have hw2 : IntKind.i64.wrap 49 = 49 := by decide
  have hw3 : IntKind.u8.wrap 49 = 49 := by decide
  have hcv := conv_at 49 ((w.alloc (.cells #[.int .u8 49] 5)).drew) (n := 49) (u := 49) rfl rfl (heap_alloc_new w _)
  go_enter Tryd.func42, Tryd.ntmps42
  go_wp2_with fail
  go_region_with
    ((go_at_call 42; refine (rdig1 _).mono ?_; rintro e w2 ⟨rfl, hb2⟩; have hcvA := conv_at 49 (w2.alloc (.cells #[.int .u8 49] 5)) (n := 49) (u := 49) rfl rfl (heap_alloc_new _ _); try have hcvB := conv_at 49 w2 (n := 49) (u := 49) (b := w.heap.size) rfl rfl ((hb2.block _ (lt_heap (heap_alloc_new w _))).trans (heap_alloc_new w _))))
  all_goals go_wp2_with fail
  all_goals go_ret
  all_goals first
    | exact ⟨rfl, ((Below.drew (Below.refl _ _)).trans hb2).alloc hb2.size _⟩
    | exact ⟨rfl, (((Below.refl w.heap.size w).alloc (Nat.le_refl _) _).drew).trans (hb2.mono (Nat.le_of_lt (lt_heap (heap_alloc_new w _))))⟩
set_option maxRecDepth 100000 in
theorem rdig12 (w : World) : Calls Tryd.prog 42 #[.int .i64 12] w fun e w' => e = .returned (.string ⟨#[49, 50]⟩) ∧ Below w.heap.size w w' := by
  have hw1 : IntKind.i64.wrap 1 = 1 := by decide
  have hw2 : IntKind.i64.wrap 50 = 50 := by decide
  have hw3 : IntKind.u8.wrap 50 = 50 := by decide
  have hcv := conv_at 50 ((w.alloc (.cells #[.int .u8 50] 5)).drew) (n := 50) (u := 50) rfl rfl (heap_alloc_new w _)
  go_enter Tryd.func42, Tryd.ntmps42
  go_wp2_with fail
  go_region_with
    ((go_at_call 42; refine (rdig1 _).mono ?_; rintro e w2 ⟨rfl, hb2⟩; have hcvA := conv_at 50 (w2.alloc (.cells #[.int .u8 50] 5)) (n := 50) (u := 50) rfl rfl (heap_alloc_new _ _); try have hcvB := conv_at 50 w2 (n := 50) (u := 50) (b := w.heap.size) rfl rfl ((hb2.block _ (lt_heap (heap_alloc_new w _))).trans (heap_alloc_new w _))))
  all_goals go_wp2_with fail
  all_goals go_ret
  all_goals first
    | exact ⟨rfl, ((Below.drew (Below.refl _ _)).trans hb2).alloc hb2.size _⟩
    | exact ⟨rfl, (((Below.refl w.heap.size w).alloc (Nat.le_refl _) _).drew).trans (hb2.mono (Nat.le_of_lt (lt_heap (heap_alloc_new w _))))⟩
set_option maxRecDepth 100000 in
theorem rdig13 (w : World) : Calls Tryd.prog 42 #[.int .i64 13] w fun e w' => e = .returned (.string ⟨#[49, 51]⟩) ∧ Below w.heap.size w w' := by
  have hw1 : IntKind.i64.wrap 1 = 1 := by decide
  have hw2 : IntKind.i64.wrap 51 = 51 := by decide
  have hw3 : IntKind.u8.wrap 51 = 51 := by decide
  have hcv := conv_at 51 ((w.alloc (.cells #[.int .u8 51] 5)).drew) (n := 51) (u := 51) rfl rfl (heap_alloc_new w _)
  go_enter Tryd.func42, Tryd.ntmps42
  go_wp2_with fail
  go_region_with
    ((go_at_call 42; refine (rdig1 _).mono ?_; rintro e w2 ⟨rfl, hb2⟩; have hcvA := conv_at 51 (w2.alloc (.cells #[.int .u8 51] 5)) (n := 51) (u := 51) rfl rfl (heap_alloc_new _ _); try have hcvB := conv_at 51 w2 (n := 51) (u := 51) (b := w.heap.size) rfl rfl ((hb2.block _ (lt_heap (heap_alloc_new w _))).trans (heap_alloc_new w _))))
  all_goals go_wp2_with fail
  all_goals go_ret
  all_goals first
    | exact ⟨rfl, ((Below.drew (Below.refl _ _)).trans hb2).alloc hb2.size _⟩
    | exact ⟨rfl, (((Below.refl w.heap.size w).alloc (Nat.le_refl _) _).drew).trans (hb2.mono (Nat.le_of_lt (lt_heap (heap_alloc_new w _))))⟩
set_option maxRecDepth 100000 in
theorem rdig14 (w : World) : Calls Tryd.prog 42 #[.int .i64 14] w fun e w' => e = .returned (.string ⟨#[49, 52]⟩) ∧ Below w.heap.size w w' := by
  have hw1 : IntKind.i64.wrap 1 = 1 := by decide
  have hw2 : IntKind.i64.wrap 52 = 52 := by decide
  have hw3 : IntKind.u8.wrap 52 = 52 := by decide
  have hcv := conv_at 52 ((w.alloc (.cells #[.int .u8 52] 5)).drew) (n := 52) (u := 52) rfl rfl (heap_alloc_new w _)
  go_enter Tryd.func42, Tryd.ntmps42
  go_wp2_with fail
  go_region_with
    ((go_at_call 42; refine (rdig1 _).mono ?_; rintro e w2 ⟨rfl, hb2⟩; have hcvA := conv_at 52 (w2.alloc (.cells #[.int .u8 52] 5)) (n := 52) (u := 52) rfl rfl (heap_alloc_new _ _); try have hcvB := conv_at 52 w2 (n := 52) (u := 52) (b := w.heap.size) rfl rfl ((hb2.block _ (lt_heap (heap_alloc_new w _))).trans (heap_alloc_new w _))))
  all_goals go_wp2_with fail
  all_goals go_ret
  all_goals first
    | exact ⟨rfl, ((Below.drew (Below.refl _ _)).trans hb2).alloc hb2.size _⟩
    | exact ⟨rfl, (((Below.refl w.heap.size w).alloc (Nat.le_refl _) _).drew).trans (hb2.mono (Nat.le_of_lt (lt_heap (heap_alloc_new w _))))⟩
set_option maxRecDepth 100000 in
theorem rdig15 (w : World) : Calls Tryd.prog 42 #[.int .i64 15] w fun e w' => e = .returned (.string ⟨#[49, 53]⟩) ∧ Below w.heap.size w w' := by
  have hw1 : IntKind.i64.wrap 1 = 1 := by decide
  have hw2 : IntKind.i64.wrap 53 = 53 := by decide
  have hw3 : IntKind.u8.wrap 53 = 53 := by decide
  have hcv := conv_at 53 ((w.alloc (.cells #[.int .u8 53] 5)).drew) (n := 53) (u := 53) rfl rfl (heap_alloc_new w _)
  go_enter Tryd.func42, Tryd.ntmps42
  go_wp2_with fail
  go_region_with
    ((go_at_call 42; refine (rdig1 _).mono ?_; rintro e w2 ⟨rfl, hb2⟩; have hcvA := conv_at 53 (w2.alloc (.cells #[.int .u8 53] 5)) (n := 53) (u := 53) rfl rfl (heap_alloc_new _ _); try have hcvB := conv_at 53 w2 (n := 53) (u := 53) (b := w.heap.size) rfl rfl ((hb2.block _ (lt_heap (heap_alloc_new w _))).trans (heap_alloc_new w _))))
  all_goals go_wp2_with fail
  all_goals go_ret
  all_goals first
    | exact ⟨rfl, ((Below.drew (Below.refl _ _)).trans hb2).alloc hb2.size _⟩
    | exact ⟨rfl, (((Below.refl w.heap.size w).alloc (Nat.le_refl _) _).drew).trans (hb2.mono (Nat.le_of_lt (lt_heap (heap_alloc_new w _))))⟩
set_option maxRecDepth 100000 in
theorem rdig16 (w : World) : Calls Tryd.prog 42 #[.int .i64 16] w fun e w' => e = .returned (.string ⟨#[49, 54]⟩) ∧ Below w.heap.size w w' := by
  have hw1 : IntKind.i64.wrap 1 = 1 := by decide
  have hw2 : IntKind.i64.wrap 54 = 54 := by decide
  have hw3 : IntKind.u8.wrap 54 = 54 := by decide
  have hcv := conv_at 54 ((w.alloc (.cells #[.int .u8 54] 5)).drew) (n := 54) (u := 54) rfl rfl (heap_alloc_new w _)
  go_enter Tryd.func42, Tryd.ntmps42
  go_wp2_with fail
  go_region_with
    ((go_at_call 42; refine (rdig1 _).mono ?_; rintro e w2 ⟨rfl, hb2⟩; have hcvA := conv_at 54 (w2.alloc (.cells #[.int .u8 54] 5)) (n := 54) (u := 54) rfl rfl (heap_alloc_new _ _); try have hcvB := conv_at 54 w2 (n := 54) (u := 54) (b := w.heap.size) rfl rfl ((hb2.block _ (lt_heap (heap_alloc_new w _))).trans (heap_alloc_new w _))))
  all_goals go_wp2_with fail
  all_goals go_ret
  all_goals first
    | exact ⟨rfl, ((Below.drew (Below.refl _ _)).trans hb2).alloc hb2.size _⟩
    | exact ⟨rfl, (((Below.refl w.heap.size w).alloc (Nat.le_refl _) _).drew).trans (hb2.mono (Nat.le_of_lt (lt_heap (heap_alloc_new w _))))⟩
set_option maxRecDepth 100000 in
theorem rdig17 (w : World) : Calls Tryd.prog 42 #[.int .i64 17] w fun e w' => e = .returned (.string ⟨#[49, 55]⟩) ∧ Below w.heap.size w w' := by
  have hw1 : IntKind.i64.wrap 1 = 1 := by decide
  have hw2 : IntKind.i64.wrap 55 = 55 := by decide
  have hw3 : IntKind.u8.wrap 55 = 55 := by decide
  have hcv := conv_at 55 ((w.alloc (.cells #[.int .u8 55] 5)).drew) (n := 55) (u := 55) rfl rfl (heap_alloc_new w _)
  go_enter Tryd.func42, Tryd.ntmps42
  go_wp2_with fail
  go_region_with
    ((go_at_call 42; refine (rdig1 _).mono ?_; rintro e w2 ⟨rfl, hb2⟩; have hcvA := conv_at 55 (w2.alloc (.cells #[.int .u8 55] 5)) (n := 55) (u := 55) rfl rfl (heap_alloc_new _ _); try have hcvB := conv_at 55 w2 (n := 55) (u := 55) (b := w.heap.size) rfl rfl ((hb2.block _ (lt_heap (heap_alloc_new w _))).trans (heap_alloc_new w _))))
  all_goals go_wp2_with fail
  all_goals go_ret
  all_goals first
    | exact ⟨rfl, ((Below.drew (Below.refl _ _)).trans hb2).alloc hb2.size _⟩
    | exact ⟨rfl, (((Below.refl w.heap.size w).alloc (Nat.le_refl _) _).drew).trans (hb2.mono (Nat.le_of_lt (lt_heap (heap_alloc_new w _))))⟩
set_option maxRecDepth 100000 in
theorem rdig18 (w : World) : Calls Tryd.prog 42 #[.int .i64 18] w fun e w' => e = .returned (.string ⟨#[49, 56]⟩) ∧ Below w.heap.size w w' := by
  have hw1 : IntKind.i64.wrap 1 = 1 := by decide
  have hw2 : IntKind.i64.wrap 56 = 56 := by decide
  have hw3 : IntKind.u8.wrap 56 = 56 := by decide
  have hcv := conv_at 56 ((w.alloc (.cells #[.int .u8 56] 5)).drew) (n := 56) (u := 56) rfl rfl (heap_alloc_new w _)
  go_enter Tryd.func42, Tryd.ntmps42
  go_wp2_with fail
  go_region_with
    ((go_at_call 42; refine (rdig1 _).mono ?_; rintro e w2 ⟨rfl, hb2⟩; have hcvA := conv_at 56 (w2.alloc (.cells #[.int .u8 56] 5)) (n := 56) (u := 56) rfl rfl (heap_alloc_new _ _); try have hcvB := conv_at 56 w2 (n := 56) (u := 56) (b := w.heap.size) rfl rfl ((hb2.block _ (lt_heap (heap_alloc_new w _))).trans (heap_alloc_new w _))))
  all_goals go_wp2_with fail
  all_goals go_ret
  all_goals first
    | exact ⟨rfl, ((Below.drew (Below.refl _ _)).trans hb2).alloc hb2.size _⟩
    | exact ⟨rfl, (((Below.refl w.heap.size w).alloc (Nat.le_refl _) _).drew).trans (hb2.mono (Nat.le_of_lt (lt_heap (heap_alloc_new w _))))⟩
theorem rdigits_calls (k : Nat) (h1 : 1 ≤ k) (h : k ≤ 18) (w : World) : Calls Tryd.prog 42 #[.int .i64 (k : Int)] w fun e w' => e = .returned (.string ⟨(Lib.decDigits k).toArray⟩) ∧ Below w.heap.size w w' := by
  have hc : k = 1 ∨ k = 2 ∨ k = 3 ∨ k = 4 ∨ k = 5 ∨ k = 6 ∨ k = 7 ∨ k = 8 ∨ k = 9 ∨ k = 10 ∨ k = 11 ∨ k = 12 ∨ k = 13 ∨ k = 14 ∨ k = 15 ∨ k = 16 ∨ k = 17 ∨ k = 18 := by omega
  rcases hc with rfl | rfl | rfl | rfl | rfl | rfl | rfl | rfl | rfl | rfl | rfl | rfl | rfl | rfl | rfl | rfl | rfl | rfl
  · rw [Lib.decDigits_one (by decide)]; exact rdig1 w
  · rw [Lib.decDigits_one (by decide)]; exact rdig2 w
  · rw [Lib.decDigits_one (by decide)]; exact rdig3 w
  · rw [Lib.decDigits_one (by decide)]; exact rdig4 w
  · rw [Lib.decDigits_one (by decide)]; exact rdig5 w
  · rw [Lib.decDigits_one (by decide)]; exact rdig6 w
  · rw [Lib.decDigits_one (by decide)]; exact rdig7 w
  · rw [Lib.decDigits_one (by decide)]; exact rdig8 w
  · rw [Lib.decDigits_one (by decide)]; exact rdig9 w
  · rw [Lib.decDigits_two (by decide) (by decide)]; exact rdig10 w
  · rw [Lib.decDigits_two (by decide) (by decide)]; exact rdig11 w
  · rw [Lib.decDigits_two (by decide) (by decide)]; exact rdig12 w
  · rw [Lib.decDigits_two (by decide) (by decide)]; exact rdig13 w
  · rw [Lib.decDigits_two (by decide) (by decide)]; exact rdig14 w
  · rw [Lib.decDigits_two (by decide) (by decide)]; exact rdig15 w
  · rw [Lib.decDigits_two (by decide) (by decide)]; exact rdig16 w
  · rw [Lib.decDigits_two (by decide) (by decide)]; exact rdig17 w
  · rw [Lib.decDigits_two (by decide) (by decide)]; exact rdig18 w
end Go.Proofs.YtfoelgkkoopheaaDoor
/- The document's Dump: the walk. -/
namespace Go.Proofs.YtfoelgkkoopheaaDoor
open Go.RowKit

/-- What is held at the loop. -/
def RDp (w : World) (d0 d1 : Array Value) (t : Tr.T) (n : Tr.Nd) (k : Nat) (v6 v7 : Value) (wr : World) : Prop :=
  ∃ (j : Nat), v7 = .int .i64 j ∧ v6 = .string ⟨(Tr.dumpTo t n j).toArray⟩ ∧ k = n.kids.length - j ∧ j ≤ n.kids.length ∧
    wr.heap[w.heap.size]? = some (.cells d0 54 (0, 0)) ∧ wr.heap[w.heap.size + 1]? = some (.cells d1 79 (0, 0)) ∧ Below w.heap.size w wr

set_option maxRecDepth 100000 in
set_option maxHeartbeats 2000000 in
theorem rdump_calls {P : Nat → Prop} {vt vn : Value} {t : Tr.T} (hf : Tr.FormedTo t t.nodes.length) (hn : t.nodes.length ≤ 1073741823) (ht : t.toks.length ≤ 1073741823) (hkids : ∀ n ∈ t.nodes, n.kids.length ≤ 1073741823) (hdl : ∀ j, j < t.nodes.length → (Tr.dump t j).length ≤ 1073741000) (i : Nat) : i < t.nodes.length → ∀ (w : World), RdT w P vt vn t → (∀ k, P k → k < w.heap.size) →
    Calls Tryd.prog 25 #[.agg #[vt, vn], .int .i64 i] w fun e w' => e = .returned (.string ⟨(Tr.dump t i).toArray⟩) ∧ Below w.heap.size w w' := by
  induction i using Nat.strongRecOn with
  | ind i ih =>
    intro hi w h hP
    have hlow := hf.low
    obtain ⟨at_, ct, rfl⟩ := h.1.form
    obtain ⟨an, cn, rfl⟩ : ∃ a c, vn = .slice a t.nodes.length c := by
      obtain ⟨kvs, _, h2, _⟩ := h.2
      exact h2.form
    obtain ⟨n, hnj⟩ : ∃ n, t.nodes[i]? = some n := ⟨_, List.getElem?_eq_getElem hi⟩
    have hfk := Tr.formed_kind (hf i n hi hnj)
    have hb1 : Below w.heap.size w (w.alloc (.cells #[.slice at_ t.toks.length ct, .slice an t.nodes.length cn] 54)) := (Below.refl _ _).alloc (Nat.le_refl _) _
    obtain ⟨b, off, c', kv, he, hbB, hrg, hkv⟩ := (h.2.keep (Keeps.of hb1 hP)).node hnj
    obtain ⟨rfl, rfl⟩ : an = some ⟨b, off, none⟩ ∧ cn = c' := by
      simp only [Value.slice.injEq] at he
      exact ⟨he.1, he.2.2⟩
    obtain ⟨ka, kc, rfl⟩ := hkv.form
    have hlw := hlow i n hnj
    obtain ⟨V, hV⟩ : ∃ V, (w.alloc (.cells #[.slice at_ t.toks.length ct, .slice (some ⟨b, off, none⟩) t.nodes.length cn] 54)).alloc (.cells #[.int .i64 n.kind, .int .i64 n.tok, .slice ka n.kids.length kc] 79) = V := ⟨_, rfl⟩
    have hv : Below w.heap.size w V := by rw [← hV]; exact ((Below.refl _ _).alloc (Nat.le_refl _) _).alloc (by rw [← size_alloc1]; omega) _
    have hv1 : V.heap[w.heap.size]? = some (.cells #[.slice at_ t.toks.length ct, .slice (some ⟨b, off, none⟩) t.nodes.length cn] 54 (0, 0)) := by
      rw [← hV, Below.heap_alloc _ _ _ (by rw [← size_alloc1]; omega)]
      exact heap_alloc_new _ _
    have hv2 : V.heap[w.heap.size + 1]? = some (.cells #[.int .i64 n.kind, .int .i64 n.tok, .slice ka n.kids.length kc] 79 (0, 0)) := by
      rw [← hV]
      exact new_at _ _ _ (by rw [← size_alloc1])
    have HV := Lib.hid (And.intro hv (And.intro hv1 hv2))
    have HG := Lib.hid hrg
    have HH := Lib.hid (And.intro h (And.intro hP (And.intro hf (And.intro hn (And.intro ht hdl)))))
    have HIH := Lib.hid ih
    have HN := Lib.hid (And.intro hnj (And.intro hlw (hdl i hi)))
    have hi' : (i : Int) < (t.nodes.length : Int) := by omega
    have hn' : (t.nodes.length : Int) ≤ 1073741823 := by omega
    have ht' : (t.toks.length : Int) ≤ 1073741823 := by omega
    have hkl' : (n.kids.length : Int) ≤ 1073741823 := by have := hkids n (List.mem_of_getElem? hnj); omega
    have c0 := cell_of_heap hv1 0 rfl
    have c1 := cell_of_heap hv1 1 rfl
    have d0 := cell_of_heap hv2 0 rfl
    have d1 := cell_of_heap hv2 1 rfl
    have d2 := cell_of_heap hv2 2 rfl
    have hkvw : RdW w P 1 (.slice ka n.kids.length kc) n.kids.length (intCells n.kids) := hkv.keep fun k hk => (hb1.block k (hP k hk)).symm
    have HKV := Lib.hid hkvw
    clear hkids hv hv1 hv2 hrg h hP ih hlw hlow hdl he hbB hkv hkvw hb1
    by_cases hk : n.kind = 19
    · have hkt := hfk.2.2 hk
      obtain ⟨tk, htk⟩ : ∃ tk, t.toks[n.tok.toNat]? = some tk := ⟨_, List.getElem?_eq_getElem (by omega)⟩
      have hdm := Tr.dump_leaf hnj hk htk
      have hdle := HN.out.2.2
      rw [hdm] at hdle ⊢
      have hk1 : (n.kind == 19) = true := by simp [hk]
      obtain ⟨q, hq⟩ : ∃ q : Nat, n.tok = q := ⟨n.tok.toNat, by omega⟩
      rw [hq] at hkt d1 htk hV HV HG
      simp only [Int.toNat_natCast] at htk
      have hqt := hkt.2
      obtain ⟨gt, ot, ct', het, hgt, hrt⟩ := (HH.out.1.1.keep (Keeps.of HV.out.1 HH.out.2.1)).tok htk
      obtain ⟨rfl, rfl⟩ : at_ = some ⟨gt, ot, none⟩ ∧ ct = ct' := by
        simp only [Value.slice.injEq] at het
        exact ⟨het.1, het.2.2⟩
      obtain ⟨kd, ld, tx, ps⟩ := tk
      simp only at hrt hdle ⊢
      have s0 : V.cell? ⟨gt, ot + q * 4, none⟩ = some (.int .i64 kd) := hrt 0 _ rfl
      have s2 : V.cell? ⟨gt, ot + q * 4 + 2, none⟩ = some (.string ⟨tx.toArray⟩) := hrt 2 _ rfl
      clear hnj hk hfk hdm hf hrt htk hgt het hkt hn ht hq
      by_cases hk5 : kd = 5
      · subst hk5
        rw [if_pos rfl] at hdle ⊢
        have hdle' : 1 + (tx.length : Int) ≤ 1073741824 := by simp only [List.length_append, List.length_cons, List.length_nil] at hdle; omega
        clear hdle
        go_enter Tryd.func25, Tryd.ntmps25
        go_wp2_with (refine wpList_load_mid rfl 79 _ rfl b (off + i * 3) rfl _ _ HG.out Tryd.underlying79 rfl rfl ?_)
        go_ret
        exact ⟨congrArg (fun z => Ending.returned (.string z)) (str_add [36] tx), HV.out.1⟩
      · have hk5' : (kd == 5) = false := by rw [beq_eq_false_iff_ne]; exact hk5
        rw [if_neg hk5] at hdle ⊢
        clear hdle hk5
        go_enter Tryd.func25, Tryd.ntmps25
        go_wp2_with (refine wpList_load_mid rfl 79 _ rfl b (off + i * 3) rfl _ _ HG.out Tryd.underlying79 rfl rfl ?_)
        go_ret
        exact ⟨rfl, HV.out.1⟩
    · have hk1 : (n.kind == 19) = false := by simp [hk]
      have hdm := Tr.dump_to t hf.low hnj hk
      have hdle := HN.out.2.2
      rw [hdm] at hdle ⊢
      obtain ⟨kd, hkde⟩ : ∃ kd : Nat, n.kind = kd := ⟨n.kind.toNat, by omega⟩
      have hkd : kd ≤ 18 := by omega
      have hd0 : Tr.dumpTo t n 0 = [40] ++ Lib.decDigits kd := by simp [Tr.dumpTo, hkde]
      have hdl2 : ((Lib.decDigits kd).length : Int) ≤ 2 := by have := Tr.decDigits_len kd (by omega); omega
      rw [hkde] at hk1 HG d0 hV HV
      have HD := Lib.hid (And.intro hdle (And.intro hd0 (And.intro (show 1 ≤ kd by omega) hkd)))
      clear hnj hk hdm hdle hfk hd0 hf hn ht hkd hkde
      go_enter Tryd.func25, Tryd.ntmps25
      go_wp2_with (refine wpList_load_mid rfl 79 _ rfl b (off + i * 3) rfl _ _ HG.out Tryd.underlying79 rfl rfl ?_)
      clear hV
      refine (rdigits_calls kd (by have := HD.out.2.2.1; omega) (by have := HD.out.2.2.2; omega) V).mono ?_
      rintro e w1 ⟨rfl, hb1⟩
      have HW1 := Lib.hid (And.intro (HV.out.1.trans (hb1.mono HV.out.1.size)) (And.intro (anc_box HV.out.2.1 hb1) (anc_box HV.out.2.2 hb1)))
      clear c0 c1 d0 d1 d2 hb1
      dsimp only
      go_wp2_with fail
      go_loopg [6, 7] n.kids.length (fun k v6 v7 wr => RDp w #[.slice at_ t.toks.length ct, .slice (some ⟨b, off, none⟩) t.nodes.length cn] #[.int .i64 kd, .int .i64 n.tok, .slice ka n.kids.length kc] t n k v6 v7 wr)
      case atStart =>
        refine ⟨0, rfl, ?_, rfl, Nat.zero_le _, HW1.out.2.1, HW1.out.2.2, HW1.out.1⟩
        rw [HD.out.2.1, ← str_add]
      case round =>
        obtain ⟨j, rfl, rfl, hk, hj, hx0, hx1, hb⟩ := hrel
        have HR := Lib.hid (And.intro hk (And.intro hx0 (And.intro hx1 hb)))
        have e0 := cell_of_heap hx0 0 rfl
        have e1 := cell_of_heap hx0 1 rfl
        have e2 := cell_of_heap hx1 2 rfl
        clear hk hx0 hx1 hb
        by_cases hlt : j < n.kids.length
        · have hlt' : (j : Int) < (n.kids.length : Int) := by omega
          obtain ⟨k, hkj⟩ : ∃ k, n.kids[j]? = some k := ⟨_, List.getElem?_eq_getElem hlt⟩
          have hk0 := HN.out.2.1.1 k (List.mem_of_getElem? hkj)
          obtain ⟨m, rfl⟩ : ∃ m : Nat, k = m := ⟨k.toNat, by omega⟩
          have hmi : m < i := by omega
          have hbw := HR.out.2.2.2
          obtain ⟨bk, ok, ck, hek, hPk, hcell⟩ := rdw_kid (HKV.out.keep (Keeps.of hbw HH.out.2.1)) hkj
          obtain ⟨rfl, rfl⟩ : ka = some ⟨bk, ok, none⟩ ∧ kc = ck := by
            simp only [Value.slice.injEq] at hek
            exact ⟨hek.1, hek.2.2⟩
          have hih := HIH.out m hmi (by omega) wr.drew (HH.out.1.keep (Keeps.of (hbw.trans ((Below.refl _ _).drew)) HH.out.2.1)) (fun q hq => Nat.lt_of_lt_of_le (HH.out.2.1 q hq) hbw.size)
          have HI := Lib.hid hih
          have hsu := Tr.dumpTo_succ t hkj
          rw [Int.toNat_natCast] at hsu
          have hle := Tr.dumpTo_le t n (j + 1)
          have hle2 := HD.out.1
          rw [hsu] at hle
          simp only [List.length_append, List.length_cons, List.length_nil] at hle hle2
          have HSU := Lib.hid hsu
          obtain ⟨S, hS⟩ : ∃ S, Tr.dumpTo t n j = S := ⟨_, rfl⟩
          obtain ⟨D, hD⟩ : ∃ D, Tr.dump t m = D := ⟨_, rfl⟩
          rw [hS] at hle HSU ⊢
          rw [hD] at hle HSU HI
          have hle' : (S.length : Int) + (1 + (D.length : Int)) ≤ 1073741824 := by omega
          have l0 := cell_lt e0
          have l2 := cell_lt e2
          have lk := cell_lt hcell
          clear hkj hk0 hbw hPk hih hek hsu hle hle2 hS hD
          go_wp2_with fail
          go_region_with
            ((go_at_call 25; refine HI.out.mono ?_; rintro e w4 ⟨rfl, hb4⟩; have f0 := (hb4.cell (p := ⟨w.heap.size, 0, none⟩) l0).trans e0; have f1 := (hb4.cell (p := ⟨w.heap.size, 1, none⟩) l0).trans e1; have f2 := (hb4.cell (p := ⟨w.heap.size + 1, 2, none⟩) l2).trans e2; have f3 := (hb4.cell (p := ⟨bk, ok + j, none⟩) lk).trans hcell; have H4 := Lib.hid ((Below.drew (Below.refl _ _)).trans hb4); clear hb4))
          all_goals
            go_wp2_with fail
            go_roundg (n.kids.length - (j + 1))
            case measure => have := HR.out.1; omega
            case rel =>
              refine ⟨j + 1, by go_num, ?_, rfl, by omega, anc_box HR.out.2.1 H4.out, anc_box HR.out.2.2.1 H4.out, HR.out.2.2.2.trans (H4.out.mono HR.out.2.2.2.size)⟩
              rw [HSU.out, List.append_assoc, ← str_add, ← str_add]
        · obtain rfl : j = n.kids.length := by omega
          have hle := HD.out.1
          simp only [List.length_append, List.length_cons, List.length_nil] at hle
          have hle' : ((Tr.dumpTo t n n.kids.length).length : Int) + 1 ≤ 1073741824 := by omega
          go_wp2_with fail
          go_ret
          exact ⟨congrArg (fun z => Ending.returned (.string z)) (str_add (Tr.dumpTo t n n.kids.length) [41]), HR.out.2.2.2⟩
end Go.Proofs.YtfoelgkkoopheaaDoor
/- TreeRights: the walk. -/
namespace Go.Proofs.YtfoelgkkoopheaaDoor
open Go.RowKit

theorem small_whole : ∀ {l : List Tr.Tk}, (∀ k ∈ l, k.lead.length ≤ 100 ∧ k.text.length ≤ 100) → (wholeOf l).length ≤ 200 * l.length
  | [], _ => by simp [wholeOf]
  | k :: l, h => by
    have h1 := h k (by simp)
    have h2 := small_whole (l := l) fun x hx => h x (by simp [hx])
    simp only [wholeOf, List.flatMap_cons, List.length_append, List.length_cons] at h2 ⊢
    omega
/-- What a small tree is good for. -/
theorem small_facts {t : Tr.T} (h : smallT t = true) : t.toks.length ≤ 100 ∧ t.nodes.length ≤ 200 ∧ (∀ n ∈ t.nodes, n.kids.length ≤ 100) ∧ (∀ k ∈ t.toks, k.text.length ≤ 100) ∧ (wholeOf t.toks).length ≤ 20000 := by
  simp only [smallT, Bool.and_eq_true, decide_eq_true_eq, List.all_eq_true] at h
  obtain ⟨⟨⟨h1, h2⟩, h3⟩, h4⟩ := h
  have h5 : ∀ k ∈ t.toks, k.lead.length ≤ 100 ∧ k.text.length ≤ 100 := fun k hk => by
    have := h3 k hk
    simpa [smallTok] using this
  refine ⟨h1, h2, fun n hn => ?_, fun k hk => (h5 k hk).2, ?_⟩
  · have := h4 n hn
    simpa [smallNd] using this
  · have := small_whole h5
    omega
theorem right_formedTo {t : Tr.T} (h : Tr.right t = true) : Tr.FormedTo t t.nodes.length := by
  cases hg : Tr.rightGo t 0 t.nodes (List.replicate t.nodes.length false) with
  | none => rw [Tr.right_none hg] at h; cases h
  | some kid => exact Tr.rightGo_formed hg (by simp) (fun j n hj => absurd hj (by omega))
theorem small_dump {t : Tr.T} (h : smallT t = true) (hr : Tr.right t = true) {i : Nat} (hi : i < t.nodes.length) : (Tr.dump t i).length ≤ 100000 := by
  have hs := small_facts h
  have h1 := Tr.dump_len hs.2.2.2.1 (right_formedTo hr) i hi
  have h2 : Tr.size t.nodes i ≤ i + 1 := by
    cases hg : Tr.rightGo t 0 t.nodes (List.replicate t.nodes.length false) with
    | none => rw [Tr.right_none hg] at hr; cases hr
    | some kid => exact (Tr.right_facts hg).2.1 i hi
  have h3 : (100 + 6) * Tr.size t.nodes i ≤ (100 + 6) * 200 := Nat.mul_le_mul_left _ (by omega)
  omega
theorem small_dumpOut {t : Tr.T} (h : smallT t = true) (n : Int) : (DumpOut t n).length ≤ 1073741824 := by
  unfold DumpOut
  split
  · rename_i hc
    obtain ⟨hr, h0, h1⟩ := check_zero hc
    have := small_dump h hr (i := n.toNat) (by omega)
    omega
  · simp
end Go.Proofs.YtfoelgkkoopheaaDoor
