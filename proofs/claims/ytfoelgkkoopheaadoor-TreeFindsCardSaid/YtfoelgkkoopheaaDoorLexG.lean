/- lex: a text's tokens. -/
import Derived.Test.YtfoelgkkoopheaaDoorLexF
import Derived.Test.YtfoelgkkoopheaaDoorLexP
namespace Go.Proofs.YtfoelgkkoopheaaDoor
open Go.RowKit

/-- A token as it stands in memory; and tokens. -/
def tokCells (t : Lx.Tok) : List Value := [.int .i64 t.kind, .string ⟨t.lead.toArray⟩, .string ⟨t.text.toArray⟩, .int .i64 t.pos]
def toksCells (ts : List Lx.Tok) : List Value := ts.flatMap tokCells
theorem toksCells_len (ts : List Lx.Tok) : (toksCells ts).length = ts.length * 4 := by
  induction ts with
  | nil => rfl
  | cons t ts ih => simp only [toksCells, List.flatMap_cons, List.length_append, List.length_cons] at ih ⊢; rw [ih]; simp [tokCells]; omega
theorem toksCells_snoc (ts : List Lx.Tok) (t : Lx.Tok) : toksCells (ts ++ [t]) = toksCells ts ++ tokCells t := by simp [toksCells]

theorem info_tok : (Tryd.prog.info? 34).map (fun i => (i.zero, i.size, i.bytes)) = some (some (.agg #[.int .i64 0, .string ⟨#[]⟩, .string ⟨#[]⟩, .int .i64 0]), 4, 48) := by kernel_rfl
theorem info_split {P : Program} {t : TypeId} {z : Option Value} {n m : Nat} (h : (P.info? t).map (fun i => (i.zero, i.size, i.bytes)) = some (z, n, m)) : ∃ i, P.info? t = some i ∧ i.zero = z ∧ i.size = n ∧ i.bytes = m := by
  cases hq : P.info? t with
  | none => rw [hq] at h; cases h
  | some i =>
    rw [hq] at h
    simp only [Option.map_some, Option.some.injEq, Prod.mk.injEq] at h
    exact ⟨i, rfl, h⟩

def LexSays (l : List UInt8) (w : World) (e : Ending) (w' : World) : Prop :=
  ∃ v, e = .returned (.tuple #[v, .agg #[.int .i64 (Lx.lex l).2.1, .int .i64 (Lx.lex l).2.2]]) ∧ w'.ownsRow w.heap.size 34 4 v (Lx.lex l).1.length (toksCells (Lx.lex l).1) ∧ Below w.heap.size w w'

def LexRel (l : List UInt8) (w : World) (k : Nat) (v4 v5 : Value) (wr : World) : Prop :=
  ∃ (j : Nat) (acc : List Lx.Tok) (a : Option Addr) (c : Nat), v5 = .int .i64 j ∧ k = l.length - j ∧ j ≤ l.length ∧ acc.length ≤ j ∧ v4 = .slice a acc.length c ∧
    wr.ownsRow (w.heap.size + 1) 34 4 (.slice a acc.length c) acc.length (toksCells acc) ∧
    Below (w.heap.size + 1) (w.alloc (.cells #[.int .i64 0, .int .i64 0] 27)) wr ∧
    Lx.lexGo ((l.drop j).length + 1) (l.drop j) j acc = Lx.lexGo (l.length + 1) l 0 []

theorem ownsRow_form {w : World} {base : Nat} {e : TypeId} {size : Nat} {v : Value} {n : Nat} {xs : List Value} (h : w.ownsRow base e size v n xs) : ∃ a c, v = .slice a n c := by
  obtain ⟨_, ⟨rfl, rfl⟩ | ⟨g, cap, cur, rfl, _⟩⟩ := h
  · exact ⟨none, 0, rfl⟩
  · exact ⟨_, cap, rfl⟩

theorem lex_fault {w wr w1 w2 : World} {cs : Array Value} {T : TypeId} (h : Below (w.heap.size + 1) (w.alloc (.cells cs T)) wr) (h1 : Below wr.heap.size wr w1) (h2 : Below w1.heap.size w1 w2) :
    w2.heap[w.heap.size]? = some (.cells cs T (0, 0)) ∧ Below w.heap.size w w2 := by
  have hs := h.size
  rw [← size_alloc1] at hs
  have h3 := (h.trans (h1.mono hs)).trans (h2.mono (Nat.le_trans hs h1.size))
  refine ⟨by rw [h3.block _ (by omega)]; exact heap_alloc_new _ _, ?_⟩
  exact ((Below.refl w.heap.size w).alloc (Nat.le_refl _) _).trans (h3.mono (by omega))

theorem lex_base {w w2 : World} {cs : Array Value} {T : TypeId} (h : w2.heap[w.heap.size]? = some (.cells cs T (0, 0)) ∧ Below w.heap.size w w2) : w.heap.size + 1 ≤ w2.heap.size := by
  rcases Nat.lt_or_ge w.heap.size w2.heap.size with h1 | h1
  · exact h1
  · rw [Array.getElem?_eq_none h1] at h; cases h.1

theorem lex_step {w wr w1 w2 w3 : World} {cs : Array Value} {T T2 : TypeId} {e n m : Nat} {v : Value} {xs : List Value} {news : Array Value} (h : Below (w.heap.size + 1) (w.alloc (.cells cs T)) wr) (h1 : Below wr.heap.size wr w1) (h2 : Below w1.heap.size w1 w2)
    (ho : wr.ownsRow (w.heap.size + 1) e m v n xs) (hg : (w2.alloc (.cells news T2)).grownBy w3 v.ownBlock) :
    Below (w.heap.size + 1) (w.alloc (.cells cs T)) w3 ∧ w3.heap[w.heap.size]? = some (.cells cs T (0, 0)) ∧ Below w.heap.size w w3 := by
  have hs := h.size
  rw [← size_alloc1] at hs
  have h3 := (h.trans (h1.mono hs)).trans (h2.mono (Nat.le_trans hs h1.size))
  have hs3 := h3.size
  rw [← size_alloc1] at hs3
  have h4 := h3.alloc hs3 (.cells news T2)
  have h5 := h4.grown hg (by rw [← size_alloc1]; omega) (fun k hk => (ho.lt k hk).1)
  refine ⟨h5, by rw [h5.block _ (by omega)]; exact heap_alloc_new _ _, ?_⟩
  exact ((Below.refl w.heap.size w).alloc (Nat.le_refl _) _).trans (h5.mono (by omega))

set_option maxRecDepth 100000 in
set_option maxHeartbeats 1000000 in
theorem lex_calls (l : List UInt8) (hl : l.length ≤ 1073741824) (w : World) :
    Calls Tryd.prog 8 #[.string ⟨l.toArray⟩] w fun e w' => LexSays l w e w' := by
  by_cases hbig : 65536 < l.length
  · have hbig' : 65536 < (l.length : Int) := by omega
    have HE := Lib.hid (show Lx.lex l = ([], 11, 0) from by unfold Lx.lex; rw [if_pos hbig])
    go_enter Tryd.func8, Tryd.ntmps8
    go_wp2
    refine bodyPost_ret (results_tmp_row rfl _ _ w.heap.size _ _ _ _ rfl (heap_alloc_new _ _) Tryd.underlying27 rfl rfl) rfl ?_
    refine ⟨_, by rw [HE.out]; rfl, ?_, (Below.refl _ _).alloc (Nat.le_refl _) _⟩
    rw [HE.out]
    exact World.ownsRow_nil _ _ _ _
  · have hbig' : ¬ 65536 < (l.length : Int) := by omega
    have HE := Lib.hid (show Lx.lex l = Lx.lexGo (l.length + 1) l 0 [] from by unfold Lx.lex; rw [if_neg hbig])
    go_enter Tryd.func8, Tryd.ntmps8
    go_wp2
    go_loopg [4, 5] l.length (fun k v4 v5 wr => LexRel l w k v4 v5 wr)
    case atStart => exact ⟨0, [], none, 0, rfl, rfl, Nat.zero_le _, Nat.le_refl _, rfl, World.ownsRow_nil _ _ _ _, Below.refl _ _, rfl⟩
    case round =>
      obtain ⟨j, acc, a, c, rfl, hk, hj, hacc, rfl, hown, hb, hlex⟩ := hrel
      have hr : (l.drop j).length ≤ 1073741824 := by simp; omega
      have hbl := Lx.between_len (l.drop j)
      obtain ⟨ld, hld⟩ : ∃ x, Lx.between (l.drop j) = x := ⟨_, rfl⟩
      have HB1 := fun w => Lib.hid (hld ▸ between_calls (l.drop j) hr w)
      rw [hld] at hbl
      have hp : j + ld.length ≤ l.length := by rw [List.length_drop] at hbl; omega
      clear hbl
      have hp' : (j : Int) + (ld.length : Int) ≤ (l.length : Int) := by omega
      have hj' : (j : Int) ≤ (l.length : Int) := by omega
      have hdd : (l.drop j).drop ld.length = l.drop (j + ld.length) := by rw [List.drop_drop]
      have htl := token_calls (l.drop (j + ld.length)) (by simp; omega)
      have htt := Lx.token_text (l.drop (j + ld.length))
      have hbad := @Lx.lexGo_bad (l.drop j).length j (l.drop j) acc
      have hend := @Lx.lexGo_end (l.drop j).length j (l.drop j) acc
      have hon := @Lx.lexGo_on (l.drop j).length j (l.drop j) acc
      unfold TokSays at htl
      rw [hld, hdd] at hbad hend hon
      obtain ⟨⟨kd, tx, er⟩, hT⟩ : ∃ q, Lx.token (l.drop (j + ld.length)) = q := ⟨_, rfl⟩
      rw [hT] at htl htt hbad hend hon
      simp only [] at htl htt hbad hend hon
      have HT1 := fun w => Lib.hid (htl w)
      have HX1 := Lib.hid (show (⟨l.toArray⟩ : ByteArray).extract j l.length = ⟨(l.drop j).toArray⟩ from by rw [tx_extract, List.take_of_length_le (by simp)])
      have HX2 := Lib.hid (show (⟨l.toArray⟩ : ByteArray).extract (j + ld.length) l.length = ⟨(l.drop (j + ld.length)).toArray⟩ from by rw [tx_extract, List.take_of_length_le (by simp)])
      have HH := Lib.hid (And.intro hk (And.intro hown (And.intro hb hlex)))
      have HTT := Lib.hid htt
      have HLB := Lib.hid hbad
      have HLE := Lib.hid hend
      have HLO := Lib.hid hon
      clear hld hT htl htt hbad hend hon hk hown hb hlex hdd
      by_cases he : er = 0
      · subst he
        obtain ⟨hpre, hkz, hkn⟩ := HTT.out rfl
        have htx := hpre.length_le
        rw [List.length_drop] at htx
        have htx' : (j : Int) + (ld.length : Int) + (tx.length : Int) ≤ (l.length : Int) := by omega
        have HPRE := Lib.hid hpre
        have HKN := Lib.hid hkn
        clear hpre hkz hkn
        obtain ⟨i0, hi, hz0, hz1, hz2⟩ := info_split info_tok
        have Hi := Lib.hid hi
        have Hz0 := Lib.hid hz0
        have Hz1 := Lib.hid hz1
        have Hz2 := Lib.hid hz2
        have HAC := Lib.hid hacc
        clear hi hz0 hz1 hz2 hacc htx
        have hn : acc.length ≤ 1073741824 := by have := HAC.out; omega
        have HN := Lib.hid hn
        clear hn
        have HTC := Lib.hid (show toksCells acc ++ [.int .i64 kd, .string ⟨ld.toArray⟩, .string ⟨tx.toArray⟩, .int .i64 ((j : Int) + (ld.length : Int))] = toksCells (acc ++ [⟨kd, ld, tx, j + ld.length⟩]) from by rw [toksCells_snoc]; simp [tokCells])
        by_cases hk : kd = 5
        · have hk' : ((kd : Int) == 5) = true := by simp; omega
          have HKD := Lib.hid hk
          clear hk
          go_wp2_with (first
            | (go_at_call 26; rw [HX1.out]; refine (HB1 _).out.mono ?_; rintro e w1 ⟨rfl, hb1⟩; have HC1 := Lib.hid hb1; clear hb1)
            | (go_at_call 27; rw [HX2.out]; refine (HT1 _).out.mono ?_; rintro e w2 ⟨rfl, hb2⟩; have HC2 := Lib.hid hb2; clear hb2; have HF := Lib.hid (lex_fault HH.out.2.2.1 HC1.out HC2.out))
            | (at_builtin; refine wpList_append_one rfl _ _ 24 rfl (w.heap.size + 1) 34 34 i0 (.agg #[.int .i64 0, .string ⟨#[]⟩, .string ⟨#[]⟩, .int .i64 0]) 4 48 Tryd.underlying24 Hi.out Hz0.out Hz1.out Hz2.out rfl (by decide) _ acc.length (toksCells acc) rfl (ownsRow_below (ownsRow_below HH.out.2.1 HC1.out) HC2.out) 1 [.int .i64 kd, .string ⟨ld.toArray⟩, .string ⟨tx.toArray⟩, .int .i64 ((j : Int) + (ld.length : Int))] rfl rfl (by simp [Value.oneCell']) HN.out (by decide) (lex_base HF.out) ?_))
          intro v3 w3 hown3 hg3
          obtain ⟨a3, c3, rfl⟩ := ownsRow_form hown3
          have H3 := Lib.hid (lex_step HH.out.2.2.1 HC1.out HC2.out HH.out.2.1 hg3)
          have HO := Lib.hid hown3
          clear hown3 hg3
          go_wp2_with (refine wpList_store_row rfl 27 _ _ rfl 27 w.heap.size _ _ rfl H3.out.2.1 rfl rfl rfl (by simp [Value.oneCell']) ?_)
          refine bodyPost_ret (results_tmp_row rfl _ _ w.heap.size _ _ _ _ rfl (setRow_at H3.out.2.1) Tryd.underlying27 rfl rfl) rfl ?_
          have e1 : Lx.lex l = (acc ++ [⟨kd, ld, tx, j + ld.length⟩], 0, 0) := by rw [HE.out, ← HH.out.2.2.2]; exact HLE.out (by first | trivial | rfl) HKD.out
          have hb := H3.out.2.2
          have ho := HO.out
          refine ⟨.slice a3 (acc.length + 1) c3, by rw [e1]; rfl, ?_, below_setRow hb (Nat.le_refl _) _⟩
          rw [e1, ← HTC.out, List.length_append]
          exact ownsRow_low (ownsRow_setRow ho (Nat.lt_succ_self _) _) (Nat.le_succ _)
        · have hk' : ((kd : Int) == 5) = false := by simp; omega
          have HKD := Lib.hid hk
          clear hk
          go_wp2_with (first
            | (go_at_call 26; rw [HX1.out]; refine (HB1 _).out.mono ?_; rintro e w1 ⟨rfl, hb1⟩; have HC1 := Lib.hid hb1; clear hb1)
            | (go_at_call 27; rw [HX2.out]; refine (HT1 _).out.mono ?_; rintro e w2 ⟨rfl, hb2⟩; have HC2 := Lib.hid hb2; clear hb2; have HF := Lib.hid (lex_fault HH.out.2.2.1 HC1.out HC2.out))
            | (at_builtin; refine wpList_append_one rfl _ _ 24 rfl (w.heap.size + 1) 34 34 i0 (.agg #[.int .i64 0, .string ⟨#[]⟩, .string ⟨#[]⟩, .int .i64 0]) 4 48 Tryd.underlying24 Hi.out Hz0.out Hz1.out Hz2.out rfl (by decide) _ acc.length (toksCells acc) rfl (ownsRow_below (ownsRow_below HH.out.2.1 HC1.out) HC2.out) 1 [.int .i64 kd, .string ⟨ld.toArray⟩, .string ⟨tx.toArray⟩, .int .i64 ((j : Int) + (ld.length : Int))] rfl rfl (by simp [Value.oneCell']) HN.out (by decide) (lex_base HF.out) ?_))
          intro v3 w3 hown3 hg3
          obtain ⟨a3, c3, rfl⟩ := ownsRow_form hown3
          have H3 := Lib.hid (lex_step HH.out.2.2.1 HC1.out HC2.out HH.out.2.1 hg3)
          have HO := Lib.hid hown3
          clear hown3 hg3
          go_wp2
          go_roundg (l.length - (j + ld.length + tx.length))
          case measure =>
            have h1 := HH.out.1
            have h2 := HKN.out HKD.out
            omega
          case rel =>
            have h2 := HKN.out HKD.out
            have h4 := HAC.out
            refine ⟨j + ld.length + tx.length, acc ++ [⟨kd, ld, tx, j + ld.length⟩], a3, c3, by go_num, rfl, by omega, by simp; omega, by simp, ?_, H3.out.1, ?_⟩
            · rw [← HTC.out, List.length_append]
              exact HO.out
            · rw [← HH.out.2.2.2]
              refine Eq.trans ?_ (HLO.out (by first | trivial | rfl) HKD.out).symm
              rw [List.drop_drop]
              exact Lx.lexGo_fuel _ _ _ _ _ (Nat.lt_succ_self _) (by simp; omega)
      · have he' : ((er : Int) == 0) = false := by simp; omega
        have he2 : (er : Int) ≠ 0 := by omega
        go_wp2_with (first
          | (go_at_call 26; rw [HX1.out]; refine (HB1 _).out.mono ?_; rintro e w1 ⟨rfl, hb1⟩; have HC1 := Lib.hid hb1; clear hb1)
          | (go_at_call 27; rw [HX2.out]; refine (HT1 _).out.mono ?_; rintro e w2 ⟨rfl, hb2⟩; have HC2 := Lib.hid hb2; clear hb2; have HF := Lib.hid (lex_fault HH.out.2.2.1 HC1.out HC2.out))
          | (refine wpList_store_row rfl 27 _ _ rfl 27 w.heap.size _ _ rfl HF.out.1 rfl rfl rfl (by simp [Value.oneCell']) ?_))
        refine bodyPost_ret (results_tmp_row rfl _ _ w.heap.size _ _ _ _ rfl (setRow_at HF.out.1) Tryd.underlying27 rfl rfl) rfl ?_
        have e1 : Lx.lex l = ([], er, j + ld.length) := by rw [HE.out, ← HH.out.2.2.2]; exact HLB.out he
        refine ⟨_, by rw [e1]; simp; rfl, ?_, below_setRow HF.out.2 (Nat.le_refl _) _⟩
        rw [e1]
        exact World.ownsRow_nil _ _ _ _
end Go.Proofs.YtfoelgkkoopheaaDoor
