/- made.SmallTree. -/
import Derived.Test.YtfoelgkkoopheaaDoorWhole
import Derived.Test.YtfoelgkkoopheaaDoorBool
namespace Go.Proofs.YtfoelgkkoopheaaDoor
open Go.RowKit

def smallTok (k : Tr.Tk) : Bool := decide (k.lead.length ≤ 100) && decide (k.text.length ≤ 100)
def smallNd (n : Tr.Nd) : Bool := decide (n.kids.length ≤ 100)
def smallT (t : Tr.T) : Bool := decide (t.toks.length ≤ 100) && decide (t.nodes.length ≤ 200) && t.toks.all smallTok && t.nodes.all smallNd

theorem RdS.tok {w : World} {P : Nat → Prop} {vt : Value} {l : List Tr.Tk} (h : RdS w P 4 vt l.length (tksCells l)) {i : Nat} {k : Tr.Tk} (hi : l[i]? = some k) :
    ∃ b off c, vt = .slice (some ⟨b, off, none⟩) l.length c ∧ P b ∧ w.rangeAt b (off + i * 4) [.int .i64 k.kind, .string ⟨k.lead.toArray⟩, .string ⟨k.text.toArray⟩, .int .i64 k.pos] := by
  obtain ⟨h2, a, c, rfl, hc, h4⟩ := h
  have hlt : i < l.length := by
    rcases Nat.lt_or_ge i l.length with h | h
    · exact h
    · rw [List.getElem?_eq_none h] at hi; cases hi
  rcases h4 with ⟨_, h4⟩ | ⟨b, off, rfl, h5, h6⟩
  · omega
  · exact ⟨b, off, c, rfl, h5.resolve_left (by omega), rangeAt_piece (f := tkCells) (s := 4) (fun _ => rfl) h6 hi⟩

theorem take_all_get {α : Type} {p : α → Bool} {l : List α} {j : Nat} {x : α} (h : (l.take j).all p = true) (hx : l[j]? = some x) (hp : p x = true) : (l.take (j + 1)).all p = true := by
  rw [List.take_add_one, hx, List.all_append, h]
  simp [hp]
theorem not_all_get {α : Type} {p : α → Bool} {l : List α} {j : Nat} {x : α} (hx : l[j]? = some x) (hp : p x = false) : l.all p = false := by
  rw [List.all_eq_false]
  exact ⟨x, List.mem_of_getElem? hx, by simp [hp]⟩

theorem small_size {w wr : World} {o : Obj} (h : Below (w.heap.size + 1) (w.alloc o) wr) : w.heap.size + 1 ≤ wr.heap.size := by
  have := h.size
  rwa [← size_alloc1] at this
theorem small_below {w wr : World} {o : Obj} (h : Below (w.heap.size + 1) (w.alloc o) wr) : Below w.heap.size w wr := ((Below.refl w.heap.size w).alloc (Nat.le_refl _) o).trans (h.mono (Nat.le_succ _))
theorem small_keep {w wr : World} {o : Obj} {P : Nat → Prop} (h : Below (w.heap.size + 1) (w.alloc o) wr) (hP : ∀ k, P k → k < w.heap.size) : Keeps P w wr := Keeps.of (small_below h) hP

theorem small_box {w wr : World} {cs : Array Value} {T : TypeId} (h : Below (w.heap.size + 1) (w.alloc (.cells cs T)) wr) : wr.heap[w.heap.size]? = some (.cells cs T (0, 0)) := by
  rw [h.block _ (by omega)]
  exact heap_alloc_new _ _

set_option maxRecDepth 100000 in
set_option maxHeartbeats 1000000 in
theorem small_calls {w : World} {P : Nat → Prop} {vt vn : Value} {t : Tr.T} (h : RdT w P vt vn t) (hP : ∀ k, P k → k < w.heap.size) :
    Calls Tryd.prog 15 #[.agg #[vt, vn]] w fun e w' => e = .returned (.bool (smallT t)) ∧ Below w.heap.size w w' := by
  obtain ⟨toks, ns⟩ := t
  have HH := Lib.hid (And.intro h hP)
  obtain ⟨at_, ct, rfl⟩ := h.1.form
  obtain ⟨an, cn, rfl⟩ : ∃ a c, vn = .slice a ns.length c := by
    obtain ⟨kvs, _, h2, _⟩ := h.2
    exact h2.form
  clear h hP
  simp only at HH
  have HB := Lib.hid (show ∀ o : Obj, Below w.heap.size w (w.alloc o) from fun o => (Below.refl _ _).alloc (Nat.le_refl _) o)
  by_cases h1 : 100 < toks.length
  · have h1' : 100 < (toks.length : Int) := by omega
    have e : smallT ⟨toks, ns⟩ = false := by simp [smallT]; omega
    rw [e]
    go_enter Tryd.func15, Tryd.ntmps15
    go_wp2
    go_ret
    exact ⟨rfl, HB.out _⟩
  · have h1' : (toks.length : Int) ≤ 100 := by omega
    by_cases h2 : 200 < ns.length
    · have h2' : 200 < (ns.length : Int) := by omega
      have e : smallT ⟨toks, ns⟩ = false := by simp [smallT]; omega
      rw [e]
      go_enter Tryd.func15, Tryd.ntmps15
      go_wp2
      go_ret
      exact ⟨rfl, HB.out _⟩
    · have h2' : (ns.length : Int) ≤ 200 := by omega
      have HS := Lib.hid (show smallT ⟨toks, ns⟩ = (toks.all smallTok && ns.all smallNd) from by simp [smallT, show toks.length ≤ 100 by omega, show ns.length ≤ 200 by omega])
      go_enter Tryd.func15, Tryd.ntmps15
      go_wp2
      go_loopg [20] toks.length (fun k v20 wr => ∃ j : Nat, v20 = .int .i64 j ∧ k = toks.length - j ∧ j ≤ toks.length ∧ Below (w.heap.size + 1) (w.alloc (.cells #[.slice at_ toks.length ct, .slice an ns.length cn] 41)) wr ∧ (toks.take j).all smallTok = true)
      case atStart => exact ⟨0, rfl, rfl, Nat.zero_le _, Below.refl _ _, by simp⟩
      case round =>
        obtain ⟨j, rfl, hk, hj, hb, hall⟩ := hrel
        have HR := Lib.hid (And.intro hk (And.intro hb hall))
        clear hk hb hall
        by_cases hlt : j < toks.length
        · have hlt' : (j : Int) < (toks.length : Int) := by omega
          obtain ⟨tk, htk⟩ : ∃ tk, toks[j]? = some tk := ⟨_, List.getElem?_eq_getElem hlt⟩
          obtain ⟨g, o, c', he, hg, hrg⟩ := (HH.out.1.1.keep (small_keep HR.out.2.1 HH.out.2)).tok htk
          simp only [Value.slice.injEq, true_and] at he
          obtain ⟨rfl, rfl⟩ := he
          have HG := Lib.hid hrg
          have HT := Lib.hid htk
          clear hrg htk hg
          obtain ⟨kd, ld, tx, ps⟩ := tk
          by_cases q1 : 100 < ld.length
          · have q1' : 100 < (ld.length : Int) := by omega
            go_wp2_with (refine wpList_load_mid rfl 34 _ rfl g (o + j * 4) rfl _ _ HG.out Tryd.underlying34 rfl rfl ?_)
            go_ret
            refine ⟨?_, small_below (HR.out.2.1.alloc (small_size HR.out.2.1) _)⟩
            rw [HS.out, not_all_get HT.out (by simp [smallTok]; omega)]
            rfl
          · have q1' : (ld.length : Int) ≤ 100 := by omega
            by_cases q2 : 100 < tx.length
            · have q2' : 100 < (tx.length : Int) := by omega
              go_wp2_with (refine wpList_load_mid rfl 34 _ rfl g (o + j * 4) rfl _ _ HG.out Tryd.underlying34 rfl rfl ?_)
              go_ret
              refine ⟨?_, small_below (HR.out.2.1.alloc (small_size HR.out.2.1) _)⟩
              rw [HS.out, not_all_get HT.out (by simp [smallTok]; omega)]
              rfl
            · have q2' : (tx.length : Int) ≤ 100 := by omega
              go_wp2_with (refine wpList_load_mid rfl 34 _ rfl g (o + j * 4) rfl _ _ HG.out Tryd.underlying34 rfl rfl ?_)
              go_roundg (toks.length - (j + 1))
              case measure => have := HR.out.1; omega
              case rel => exact ⟨j + 1, by go_num, rfl, by omega, HR.out.2.1.alloc (small_size HR.out.2.1) _, take_all_get HR.out.2.2 HT.out (by simp [smallTok]; omega)⟩
        · obtain rfl : j = toks.length := by omega
          have hbox := small_box HR.out.2.1
          have d1 := cell_of_heap hbox 1 rfl
          have hat : toks.all smallTok = true := by have := HR.out.2.2; rwa [List.take_length] at this
          have HAT := Lib.hid hat
          have HB0 := Lib.hid HR.out.2.1
          clear hbox hat HR
          generalize wr = w0 at *
          go_wp2_with fail
          go_loopg [38] ns.length (fun k v38 wr => ∃ j : Nat, v38 = .int .i64 j ∧ k = ns.length - j ∧ j ≤ ns.length ∧ Below w0.heap.size w0 wr ∧ (ns.take j).all smallNd = true)
          case atStart => exact ⟨0, rfl, rfl, Nat.zero_le _, Below.refl _ _, by simp⟩
          case round =>
            obtain ⟨j, rfl, hk, hj, hb, hall⟩ := hrel
            have HR := Lib.hid (And.intro hk (And.intro hb hall))
            clear hk hb hall
            by_cases hlt : j < ns.length
            · have hlt' : (j : Int) < (ns.length : Int) := by omega
              obtain ⟨n, hnj⟩ : ∃ n, ns[j]? = some n := ⟨_, List.getElem?_eq_getElem hlt⟩
              obtain ⟨g, o, c', kv, he, hg, hrg, hkv⟩ := ((HH.out.1.2.keep (small_keep HB0.out HH.out.2)).keep (Keeps.of HR.out.2.1 fun k hk => Nat.lt_of_lt_of_le (HH.out.2 k hk) (Nat.le_trans (Nat.le_succ _) (small_size HB0.out)))).node hnj
              simp only [Value.slice.injEq, true_and] at he
              obtain ⟨rfl, rfl⟩ := he
              obtain ⟨ka, kc, rfl⟩ := hkv.form
              have HG := Lib.hid hrg
              have HT := Lib.hid hnj
              clear hrg hnj hg hkv
              obtain ⟨kd, tk, kids⟩ := n
              simp only at HG
              by_cases q1 : 100 < kids.length
              · have q1' : 100 < (kids.length : Int) := by omega
                go_wp2_with (refine wpList_load_mid rfl 38 _ rfl g (o + j * 3) rfl _ _ HG.out Tryd.underlying38 rfl rfl ?_)
                go_ret
                refine ⟨?_, (small_below HB0.out).trans ((HR.out.2.1.alloc HR.out.2.1.size _).mono (Nat.le_trans (Nat.le_succ _) (small_size HB0.out)))⟩
                rw [HS.out, not_all_get (l := ns) HT.out (by simp [smallNd]; omega)]
                simp
              · have q1' : (kids.length : Int) ≤ 100 := by omega
                go_wp2_with (refine wpList_load_mid rfl 38 _ rfl g (o + j * 3) rfl _ _ HG.out Tryd.underlying38 rfl rfl ?_)
                go_roundg (ns.length - (j + 1))
                case measure => have := HR.out.1; omega
                case rel => exact ⟨j + 1, by go_num, rfl, by omega, HR.out.2.1.alloc HR.out.2.1.size _, take_all_get HR.out.2.2 HT.out (by simp [smallNd]; omega)⟩
            · obtain rfl : j = ns.length := by omega
              go_wp2
              go_ret
              refine ⟨?_, (small_below HB0.out).trans (HR.out.2.1.mono (Nat.le_trans (Nat.le_succ _) (small_size HB0.out)))⟩
              have := HR.out.2.2
              rw [List.take_length] at this
              rw [HS.out, HAT.out, this]
              rfl
end Go.Proofs.YtfoelgkkoopheaaDoor
