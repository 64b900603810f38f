/- Contracts and plain laws, in one text. parse: a level's signs; parts and rows; unary; negation, factor: the walks. | parse: unary, factor, negation, formula: the walks. | parse: list: the walk, at each of the functions that it is handed. -/
import Derived.Test.YtpkhdlnlkeehhaaGreatDoorPlmM10
import Derived.Test.YtpkhdlnlkeehhaaGreatDoorPlmM6
/- parse: a level's signs; parts and rows; unary; negation, factor: the walks. -/
namespace Go.Proofs.YtpkhdlnlkeehhaaGreatDoor
open Go.RowKit

theorem rds_newS (w : World) (l : List (List UInt8)) {r : Nat} (hr : r = w.heap.size) : RdS (w.alloc (.cells (strCells l).toArray 9)) (fun k => k = w.heap.size) 1 (.slice (some ⟨r, 0, none⟩) l.length l.length) l.length (strCells l) := by
  subst hr
  refine ⟨by simp [strCells], _, _, rfl, Nat.le_refl _, Or.inr ⟨_, _, rfl, Or.inr rfl, ?_⟩⟩
  intro j v hj
  rw [Nat.zero_add]
  exact cell_of_heap (new_at _ _ _ rfl) j (by simpa using hj)
def SignsSay (ts : List (List UInt8)) (W : World) (e : Ending) (W' : World) : Prop := ∃ v, e = .returned v ∧ RdS W' (fun k => W.heap.size ≤ k ∧ k < W'.heap.size) 1 v ts.length (strCells ts) ∧ Below W.heap.size W W'
theorem signs_say (W : World) (l : List (List UInt8)) : SignsSay l W (.returned (.slice (some ⟨W.heap.size, 0, none⟩) l.length l.length)) (W.alloc (.cells (strCells l).toArray 9)) :=
  ⟨_, rfl, (rds_newS W l rfl).imp fun k hk => ⟨by omega, by rw [hk, ← size_alloc1]; omega⟩, (Below.refl _ _).alloc (Nat.le_refl _) _⟩
theorem signs0_calls (W : World) : Calls Tryz.prog 116 #[.int .i64 0] W (SignsSay Ps.sOr W) := by
  go_enter Tryz.func116, Tryz.ntmps116
  go_wp2
  go_ret
  exact signs_say W Ps.sOr
theorem signs1_calls (W : World) : Calls Tryz.prog 116 #[.int .i64 1] W (SignsSay Ps.sAnd W) := by
  go_enter Tryz.func116, Tryz.ntmps116
  go_wp2
  go_ret
  exact signs_say W Ps.sAnd
theorem signs2_calls (W : World) : Calls Tryz.prog 116 #[.int .i64 2] W (SignsSay Ps.sCmp W) := by
  go_enter Tryz.func116, Tryz.ntmps116
  go_wp2
  go_ret
  exact signs_say W Ps.sCmp
theorem signs3_calls (W : World) : Calls Tryz.prog 116 #[.int .i64 3] W (SignsSay Ps.sSum W) := by
  go_enter Tryz.func116, Tryz.ntmps116
  go_wp2
  go_ret
  exact signs_say W Ps.sSum
theorem signs4_calls (W : World) : Calls Tryz.prog 116 #[.int .i64 4] W (SignsSay Ps.sMul W) := by
  go_enter Tryz.func116, Tryz.ntmps116
  go_wp2
  go_ret
  exact signs_say W Ps.sMul

section
variable {w0 : World} {p b : Nat} {tk : List Tr.Tk} {dp : Int}
/-- What is known of a function of the parser's: at any state, in any world. -/
def Knows (w0 : World) (p b : Nat) (tk : List Tr.Tk) (dp : Int) (k : FuncId) (args : Array Value) (f : Ps.F) : Prop :=
  ∀ (Q : Nat → Prop) (W : World) (s : Ps.St), Up Q W → PI Q w0 W p b tk dp s → Pc.Inv tk s → Calls Tryz.prog k args W (Does Q w0 p b tk dp (f s) W)

set_option maxRecDepth 100000 in
set_option maxHeartbeats 2000000 in
theorem prow_calls (ht : Pc.Toks tk) (hl : tk.length ≤ 1000000) {lv : Int} (hlv : (lv == 2) = false) {ts : List (List UInt8)} (hts : ts.length ≤ 1000) (hsg : ∀ W, Calls Tryz.prog 116 #[.int .i64 lv] W (SignsSay ts W)) {n : Int} {f : Ps.F} {g : Pr.G} (hf : Pc.Sim tk f g)
    (hpart : Knows w0 p b tk dp 115 #[.pointer (some ⟨p, 0, none⟩), .int .i64 lv, .int .i64 n] f) :
    Knows w0 p b tk dp 98 #[.pointer (some ⟨p, 0, none⟩), .int .i64 lv, .int .i64 n] (Ps.row tk f ts false) := by
  intro Q W s hQ h hi
  have H := Lib.hid (And.intro ht (And.intro hl (And.intro hts (And.intro hsg (And.intro hf hpart)))))
  have HI := Lib.hid (And.intro h (And.intro hi hQ))
  have HO := Lib.hid ((Pc.Og.nil hi).then hf)
  clear ht hl hts hsg hf hpart h hi hQ
  go_enter Tryz.func98, Tryz.ntmps98
  go_wp2_with fail
  refine (H.out.2.2.2.2.2 Q W s HI.out.2.2 HI.out.1 HI.out.2.1).mono ?_
  rintro e W1 ⟨rfl, h1, h2⟩
  have H1 := Lib.hid (And.intro h1 (h2))
  clear h1 h2
  dsimp only
  go_wp2_with fail
  go_loopg [7] tk.length (fun k v7 wr => ∃ (a : Int) (s1 : Ps.St), v7 = .int .i64 a ∧ PI Q w0 wr p b tk dp s1 ∧ Pc.Og tk s1 [a] ∧ (s1.e = 0 → tk.length ≤ k + s1.used) ∧ Ps.rowGo tk f ts false k a s1 = Ps.row tk f ts false s ∧ FrT PTs W wr)
  case atStart => exact ⟨_, _, rfl, H1.out.1, HO.out, fun _ => Nat.le_add_right _ _, rfl, H1.out.2⟩
  case round =>
    obtain ⟨a, s1, rfl, hp, hog, hfu, hgo, hfr⟩ := hrel
    have HR := Lib.hid (And.intro hp (And.intro hog (And.intro hfu (And.intro hgo hfr))))
    have hok := pok_calls hp
    by_cases he : s1.e = 0
    · rw [decide_eq_true he] at hok
      have HOK := Lib.hid hok
      have HE := Lib.hid he
      clear hp hog hfu hgo hfr hok he
      by_cases hn : Ps.nextB tk ts s1.used = true
      · have HN := Lib.hid hn
        clear hn
        go_wp2_with fail
        refine (HOK.out).mono ?_
        rintro e W2 ⟨rfl, rfl⟩
        dsimp only
        go_wp2_with fail
        refine (H.out.2.2.2.1 _).mono ?_
        rintro e W3 ⟨v3, rfl, hr3, hb3⟩
        obtain ⟨a3, c3, rfl⟩ := hr3.form
        have hnx := pnext_calls (HR.out.1.past hb3) (Pc.inv_room HR.out.2.1.inv H.out.2.1) hr3 (fun k hk => hk.2) H.out.2.2.1
        rw [HN.out] at hnx
        have HNX := Lib.hid hnx
        have H3 := Lib.hid hb3
        clear hr3 hb3 hnx
        dsimp only
        go_wp2_with fail
        refine HNX.out.mono ?_
        rintro e W4 ⟨rfl, hb4⟩
        have H4 := Lib.hid (H3.out.trans (hb4.mono H3.out.size))
        have c0 := (HR.out.1.past H4.out).c0
        clear hb4
        dsimp only
        go_wp2_with fail
        refine (pleaf_calls (HR.out.1.past H4.out) (Pc.inv_room HR.out.2.1.inv H.out.2.1)).mono ?_
        rintro e W5 ⟨rfl, h5, g5⟩
        have hol := HR.out.2.1.leaf H.out.1 HE.out (Pc.next_kind HN.out)
        have H5 := Lib.hid (And.intro h5 (And.intro ((FrT.of H4.out).trans g5) hol))
        clear h5 g5 hol c0
        dsimp only
        go_wp2_with fail
        refine (H.out.2.2.2.2.2 Q _ _ (HI.out.2.2.frt (HR.out.2.2.2.2.trans H5.out.2.1)) H5.out.1 H5.out.2.2.1.inv).mono ?_
        rintro e W6 ⟨rfl, h6, g6⟩
        have hon := ((H5.out.2.2.1.then H.out.2.2.2.2.1).node (k := 10) (by decide) (fun _ => by simp))
        have H6 := Lib.hid (And.intro h6 (And.intro (H5.out.2.1.trans g6) hon))
        clear h6 g6 hon
        dsimp only
        go_wp2_with fail
        have hal : Below W6.heap.size W6 (W6.alloc (.cells (intCells [a, (Ps.leaf tk s1).1, (f (Ps.leaf tk s1).2).1]).toArray 3)) := (Below.refl _ _).alloc (Nat.le_refl _) _
        refine (pnode_calls (l := [a, (Ps.leaf tk s1).1, (f (Ps.leaf tk s1).2).1]) (H6.out.1.past hal) (Pc.inv_room (H5.out.2.2.1.then H.out.2.2.2.2.1).inv H.out.2.1) (rds_new W6 _ rfl) (fun k hk => by rw [hk, ← size_alloc1]; omega) (by simp) (HI.out.2.2.frt ((HR.out.2.2.2.2.trans H6.out.2.1).trans (FrT.of hal))) 10).mono ?_
        rintro e W7 ⟨rfl, h7, g7⟩
        have H7 := Lib.hid (And.intro h7 (H6.out.2.1.trans ((FrT.of hal).trans g7)))
        clear h7 g7 hal
        dsimp only
        go_wp2_with fail
        obtain ⟨m, hm⟩ : ∃ m, gk = m + 1 := ⟨gk - 1, by have q1 := HR.out.2.2.1 HE.out; have q2 := HR.out.2.1.inv.1; omega⟩
        go_roundg m
        case measure => omega
        case rel =>
          have hgo := HR.out.2.2.2.1
          rw [hm] at hgo
          unfold Ps.rowGo at hgo
          rw [if_pos ⟨HE.out, HN.out⟩, if_neg (by simp)] at hgo
          refine ⟨_, _, rfl, H7.out.1, H6.out.2.2, fun he7 => ?_, hgo, HR.out.2.2.2.2.trans H7.out.2⟩
          have q1 := HR.out.2.2.1 HE.out
          have q2 := Pc.leaf_used HR.out.2.1.inv
          have q3 : (f (Ps.leaf tk s1).2).2.e = 0 := by
            by_cases h0 : (f (Ps.leaf tk s1).2).2.e = 0
            · exact h0
            · rw [Pc.node_dead h0] at he7
              exact absurd he7 h0
          have q4 := Pc.SimL.used H.out.2.2.2.2.1 H5.out.2.2.1.inv H5.out.2.2.2 q3
          have q5 := Pc.node_used 10 [a, (Ps.leaf tk s1).1, (f (Ps.leaf tk s1).2).1] (f (Ps.leaf tk s1).2).2
          rw [q5]
          simp only [Pc.lift] at q4
          omega
      · rw [Bool.not_eq_true] at hn
        have HN := Lib.hid hn
        clear hn
        go_wp2_with fail
        refine (HOK.out).mono ?_
        rintro e W2 ⟨rfl, rfl⟩
        dsimp only
        go_wp2_with fail
        refine (H.out.2.2.2.1 _).mono ?_
        rintro e W3 ⟨v3, rfl, hr3, hb3⟩
        obtain ⟨a3, c3, rfl⟩ := hr3.form
        have hnx := pnext_calls (HR.out.1.past hb3) (Pc.inv_room HR.out.2.1.inv H.out.2.1) hr3 (fun k hk => hk.2) H.out.2.2.1
        rw [HN.out] at hnx
        have HNX := Lib.hid hnx
        have H3 := Lib.hid hb3
        clear hr3 hb3 hnx
        dsimp only
        go_wp2_with fail
        refine HNX.out.mono ?_
        rintro e W4 ⟨rfl, hb4⟩
        have H4 := Lib.hid (H3.out.trans (hb4.mono H3.out.size))
        clear hb4
        dsimp only
        go_wp2_with fail
        go_ret
        have hgo := HR.out.2.2.2.1
        have e1 : ∀ m, Ps.rowGo tk f ts false m a s1 = (a, s1) := by
          intro m
          cases m with
          | zero => rfl
          | succ m => unfold Ps.rowGo; rw [if_neg (by rw [HN.out]; simp)]
        rw [e1] at hgo
        rw [← hgo]
        exact ⟨rfl, HR.out.1.past H4.out, HR.out.2.2.2.2.trans (FrT.of H4.out)⟩
    · rw [decide_eq_false he] at hok
      have HOK := Lib.hid hok
      have HE := Lib.hid he
      clear hp hog hfu hgo hfr hok he
      go_wp2_with fail
      refine (HOK.out).mono ?_
      rintro e W2 ⟨rfl, rfl⟩
      dsimp only
      go_wp2_with fail
      go_ret
      have hgo := HR.out.2.2.2.1
      have e1 : ∀ m, Ps.rowGo tk f ts false m a s1 = (a, s1) := by
        intro m
        cases m with
        | zero => rfl
        | succ m => unfold Ps.rowGo; rw [if_neg (by simp [HE.out])]
      rw [e1] at hgo
      rw [← hgo]
      exact ⟨rfl, HR.out.1, HR.out.2.2.2.2⟩

set_option maxRecDepth 100000 in
set_option maxHeartbeats 2000000 in
theorem prow_once (ht : Pc.Toks tk) (hl : tk.length ≤ 1000000) {ts : List (List UInt8)} (hts : ts.length ≤ 1000) (hsg : ∀ W, Calls Tryz.prog 116 #[.int .i64 2] W (SignsSay ts W)) {n : Int} {f : Ps.F} {g : Pr.G} (hf : Pc.Sim tk f g)
    (hpart : Knows w0 p b tk dp 115 #[.pointer (some ⟨p, 0, none⟩), .int .i64 2, .int .i64 n] f) :
    Knows w0 p b tk dp 98 #[.pointer (some ⟨p, 0, none⟩), .int .i64 2, .int .i64 n] (Ps.row tk f ts true) := by
  intro Q W s hQ h hi
  have H := Lib.hid (And.intro ht (And.intro hl (And.intro hts (And.intro hsg (And.intro hf hpart)))))
  have HI := Lib.hid (And.intro h (And.intro hi hQ))
  have HO := Lib.hid ((Pc.Og.nil hi).then hf)
  clear ht hl hts hsg hf hpart h hi hQ
  go_enter Tryz.func98, Tryz.ntmps98
  go_wp2_with fail
  refine (H.out.2.2.2.2.2 Q W s HI.out.2.2 HI.out.1 HI.out.2.1).mono ?_
  rintro e W1 ⟨rfl, h1, h2⟩
  have H1 := Lib.hid (And.intro h1 (h2))
  clear h1 h2
  dsimp only
  go_wp2_with fail
  go_loopg [7] tk.length (fun k v7 wr => ∃ (a : Int) (s1 : Ps.St), v7 = .int .i64 a ∧ PI Q w0 wr p b tk dp s1 ∧ Pc.Og tk s1 [a] ∧ (s1.e = 0 → tk.length ≤ k + s1.used) ∧ Ps.rowGo tk f ts true k a s1 = Ps.row tk f ts true s ∧ FrT PTs W wr)
  case atStart => exact ⟨_, _, rfl, H1.out.1, HO.out, fun _ => Nat.le_add_right _ _, rfl, H1.out.2⟩
  case round =>
    obtain ⟨a, s1, rfl, hp, hog, hfu, hgo, hfr⟩ := hrel
    have HR := Lib.hid (And.intro hp (And.intro hog (And.intro hfu (And.intro hgo hfr))))
    have hok := pok_calls hp
    by_cases he : s1.e = 0
    · rw [decide_eq_true he] at hok
      have HOK := Lib.hid hok
      have HE := Lib.hid he
      clear hp hog hfu hgo hfr hok he
      by_cases hn : Ps.nextB tk ts s1.used = true
      · have HN := Lib.hid hn
        clear hn
        go_wp2_with fail
        refine (HOK.out).mono ?_
        rintro e W2 ⟨rfl, rfl⟩
        dsimp only
        go_wp2_with fail
        refine (H.out.2.2.2.1 _).mono ?_
        rintro e W3 ⟨v3, rfl, hr3, hb3⟩
        obtain ⟨a3, c3, rfl⟩ := hr3.form
        have hnx := pnext_calls (HR.out.1.past hb3) (Pc.inv_room HR.out.2.1.inv H.out.2.1) hr3 (fun k hk => hk.2) H.out.2.2.1
        rw [HN.out] at hnx
        have HNX := Lib.hid hnx
        have H3 := Lib.hid hb3
        clear hr3 hb3 hnx
        dsimp only
        go_wp2_with fail
        refine HNX.out.mono ?_
        rintro e W4 ⟨rfl, hb4⟩
        have H4 := Lib.hid (H3.out.trans (hb4.mono H3.out.size))
        have c0 := (HR.out.1.past H4.out).c0
        clear hb4
        dsimp only
        go_wp2_with fail
        refine (pleaf_calls (HR.out.1.past H4.out) (Pc.inv_room HR.out.2.1.inv H.out.2.1)).mono ?_
        rintro e W5 ⟨rfl, h5, g5⟩
        have hol := HR.out.2.1.leaf H.out.1 HE.out (Pc.next_kind HN.out)
        have H5 := Lib.hid (And.intro h5 (And.intro ((FrT.of H4.out).trans g5) hol))
        clear h5 g5 hol c0
        dsimp only
        go_wp2_with fail
        refine (H.out.2.2.2.2.2 Q _ _ (HI.out.2.2.frt (HR.out.2.2.2.2.trans H5.out.2.1)) H5.out.1 H5.out.2.2.1.inv).mono ?_
        rintro e W6 ⟨rfl, h6, g6⟩
        have hon := ((H5.out.2.2.1.then H.out.2.2.2.2.1).node (k := 10) (by decide) (fun _ => by simp))
        have H6 := Lib.hid (And.intro h6 (And.intro (H5.out.2.1.trans g6) hon))
        clear h6 g6 hon
        dsimp only
        go_wp2_with fail
        have hal : Below W6.heap.size W6 (W6.alloc (.cells (intCells [a, (Ps.leaf tk s1).1, (f (Ps.leaf tk s1).2).1]).toArray 3)) := (Below.refl _ _).alloc (Nat.le_refl _) _
        refine (pnode_calls (l := [a, (Ps.leaf tk s1).1, (f (Ps.leaf tk s1).2).1]) (H6.out.1.past hal) (Pc.inv_room (H5.out.2.2.1.then H.out.2.2.2.2.1).inv H.out.2.1) (rds_new W6 _ rfl) (fun k hk => by rw [hk, ← size_alloc1]; omega) (by simp) (HI.out.2.2.frt ((HR.out.2.2.2.2.trans H6.out.2.1).trans (FrT.of hal))) 10).mono ?_
        rintro e W7 ⟨rfl, h7, g7⟩
        have H7 := Lib.hid (And.intro h7 (H6.out.2.1.trans ((FrT.of hal).trans g7)))
        clear h7 g7 hal
        dsimp only
        go_wp2_with fail
        go_ret
        obtain ⟨m, hm⟩ : ∃ m, gk = m + 1 := ⟨gk - 1, by have q1 := HR.out.2.2.1 HE.out; have q2 := HR.out.2.1.inv.1; omega⟩
        have hgo := HR.out.2.2.2.1
        rw [hm] at hgo
        unfold Ps.rowGo at hgo
        rw [if_pos ⟨HE.out, HN.out⟩, if_pos rfl] at hgo
        rw [← hgo]
        exact ⟨rfl, H7.out.1, HR.out.2.2.2.2.trans H7.out.2⟩
      · rw [Bool.not_eq_true] at hn
        have HN := Lib.hid hn
        clear hn
        go_wp2_with fail
        refine (HOK.out).mono ?_
        rintro e W2 ⟨rfl, rfl⟩
        dsimp only
        go_wp2_with fail
        refine (H.out.2.2.2.1 _).mono ?_
        rintro e W3 ⟨v3, rfl, hr3, hb3⟩
        obtain ⟨a3, c3, rfl⟩ := hr3.form
        have hnx := pnext_calls (HR.out.1.past hb3) (Pc.inv_room HR.out.2.1.inv H.out.2.1) hr3 (fun k hk => hk.2) H.out.2.2.1
        rw [HN.out] at hnx
        have HNX := Lib.hid hnx
        have H3 := Lib.hid hb3
        clear hr3 hb3 hnx
        dsimp only
        go_wp2_with fail
        refine HNX.out.mono ?_
        rintro e W4 ⟨rfl, hb4⟩
        have H4 := Lib.hid (H3.out.trans (hb4.mono H3.out.size))
        clear hb4
        dsimp only
        go_wp2_with fail
        go_ret
        have hgo := HR.out.2.2.2.1
        have e1 : ∀ m, Ps.rowGo tk f ts true m a s1 = (a, s1) := by
          intro m
          cases m with
          | zero => rfl
          | succ m => unfold Ps.rowGo; rw [if_neg (by rw [HN.out]; simp)]
        rw [e1] at hgo
        rw [← hgo]
        exact ⟨rfl, HR.out.1.past H4.out, HR.out.2.2.2.2.trans (FrT.of H4.out)⟩
    · rw [decide_eq_false he] at hok
      have HOK := Lib.hid hok
      have HE := Lib.hid he
      clear hp hog hfu hgo hfr hok he
      go_wp2_with fail
      refine (HOK.out).mono ?_
      rintro e W2 ⟨rfl, rfl⟩
      dsimp only
      go_wp2_with fail
      go_ret
      have hgo := HR.out.2.2.2.1
      have e1 : ∀ m, Ps.rowGo tk f ts true m a s1 = (a, s1) := by
        intro m
        cases m with
        | zero => rfl
        | succ m => unfold Ps.rowGo; rw [if_neg (by simp [HE.out])]
      rw [e1] at hgo
      rw [← hgo]
      exact ⟨rfl, HR.out.1, HR.out.2.2.2.2⟩

/-- A part that is a row of the next level. -/
theorem ppart_row {lv : Int} (h1 : (lv == 1) = false) (h4 : (lv == 4) = false) (hb : 0 ≤ lv ∧ lv ≤ 3) {n : Int} {f : Ps.F} (hr : Knows w0 p b tk dp 98 #[.pointer (some ⟨p, 0, none⟩), .int .i64 (lv + 1), .int .i64 n] f) :
    Knows w0 p b tk dp 115 #[.pointer (some ⟨p, 0, none⟩), .int .i64 lv, .int .i64 n] f := by
  intro Q W s hQ h hi
  obtain ⟨b1, b2⟩ := hb
  have HC := Lib.hid (hr Q W s hQ h hi)
  clear h hi hr hQ
  go_enter Tryz.func115, Tryz.ntmps115
  go_wp2_with fail
  refine (HC.out).mono ?_
  rintro e W1 ⟨rfl, h1, h2⟩
  have H1 := Lib.hid (And.intro h1 (h2))
  clear h1 h2
  dsimp only
  go_wp2_with fail
  go_ret
  exact ⟨rfl, H1.out.1, H1.out.2⟩
theorem ppart_neg {n : Int} {f : Ps.F} (hr : Knows w0 p b tk dp 132 #[.pointer (some ⟨p, 0, none⟩), .int .i64 n] f) :
    Knows w0 p b tk dp 115 #[.pointer (some ⟨p, 0, none⟩), .int .i64 1, .int .i64 n] f := by
  intro Q W s hQ h hi
  have HC := Lib.hid (hr Q W s hQ h hi)
  clear h hi hr hQ
  go_enter Tryz.func115, Tryz.ntmps115
  go_wp2_with fail
  refine (HC.out).mono ?_
  rintro e W1 ⟨rfl, h1, h2⟩
  have H1 := Lib.hid (And.intro h1 (h2))
  clear h1 h2
  dsimp only
  go_wp2_with fail
  go_ret
  exact ⟨rfl, H1.out.1, H1.out.2⟩
theorem ppart_fac {n : Int} {f : Ps.F} (hr : Knows w0 p b tk dp 133 #[.pointer (some ⟨p, 0, none⟩), .int .i64 n] f) :
    Knows w0 p b tk dp 115 #[.pointer (some ⟨p, 0, none⟩), .int .i64 4, .int .i64 n] f := by
  intro Q W s hQ h hi
  have HC := Lib.hid (hr Q W s hQ h hi)
  clear h hi hr hQ
  go_enter Tryz.func115, Tryz.ntmps115
  go_wp2_with fail
  refine (HC.out).mono ?_
  rintro e W1 ⟨rfl, h1, h2⟩
  have H1 := Lib.hid (And.intro h1 (h2))
  clear h1 h2
  dsimp only
  go_wp2_with fail
  go_ret
  exact ⟨rfl, H1.out.1, H1.out.2⟩
end
end Go.Proofs.YtpkhdlnlkeehhaaGreatDoor
/- parse: unary, factor, negation, formula: the walks. -/
namespace Go.Proofs.YtpkhdlnlkeehhaaGreatDoor
open Go.RowKit

section
variable {w0 : World} {p b : Nat} {tk : List Tr.Tk} {dp : Int}
set_option maxRecDepth 100000 in
set_option maxHeartbeats 2000000 in
theorem punary_fac (ht : Pc.Toks tk) (hl : tk.length ≤ 1000000) {n : Int} {d : Nat} (hn0 : 0 ≤ n) (hn1 : n ≤ 300) (hd : n + 1 + d = dp + 1) {f : Ps.F} {g : Pr.G} (hf : d ≠ 0 → Pc.Sim tk f g) (hk : d ≠ 0 → Knows w0 p b tk dp 133 #[.pointer (some ⟨p, 0, none⟩), .int .i64 (n + 1)] f)
    {Q : Nat → Prop} {W : World} {s : Ps.St} (hQ : Up Q W) (h : PI Q w0 W p b tk dp s) (hi : Pc.Inv tk s) (he : s.e = 0) (h5 : (Ps.peek tk s.used).kind ≠ 5) :
    Calls Tryz.prog 142 #[.pointer (some ⟨p, 0, none⟩), .int .i64 n, .func (.func 133) #[.pointer (some ⟨p, 0, none⟩)] #[]] W (Does Q w0 p b tk dp (Ps.unary tk d f s) W) := by
  have HI := Lib.hid (And.intro h (And.intro hi hQ))
  have HL := Lib.hid hl
  have hlf := (Pc.Og.nil hi).leaf ht he h5
  have hde := hlf.2
  have c0 := h.c0
  have HF := Lib.hid (And.intro hd (And.intro hf (And.intro hk hlf)))
  have hun : Ps.unary tk d f s = if (Ps.deep tk d (Ps.leaf tk s).2).e = 0 then Ps.node 11 [(Ps.leaf tk s).1, (f (Ps.deep tk d (Ps.leaf tk s).2)).1] (f (Ps.deep tk d (Ps.leaf tk s).2)).2 else (0, Ps.deep tk d (Ps.leaf tk s).2) := rfl
  have hw1 := Pc.inv_room hlf.1.inv hl
  have HLF := Lib.hid (pleaf_calls h (Pc.inv_room hi hl))
  rw [hun]
  have HDP := Lib.hid (fun (V : World) hV => pdeep_calls (Q := Q) (W := V) (p := p) (b := b) (w0 := w0) hV hw1 hd)
  by_cases hz : d = 0
  · have hds : (Ps.deep tk d (Ps.leaf tk s).2).e ≠ 0 := by
      unfold Ps.deep Ps.fail
      rw [if_pos hz, if_pos hde]
      show (23 : Int) ≠ 0
      decide
    have hdb : decide ((Ps.deep tk d (Ps.leaf tk s).2).e ≠ 0) = true := decide_eq_true hds
    rw [if_neg hds]
    rw [hdb] at HDP
    clear hQ h hi hl hlf hde hun hw1 hd hf hk ht he h5 hz hds hdb
    go_enter Tryz.func142, Tryz.ntmps142
    go_wp2_with fail
    refine (HLF.out).mono ?_
    rintro e W1 ⟨rfl, h1, g1⟩
    have H1 := Lib.hid (And.intro h1 (g1))
    clear h1 g1 c0
    dsimp only
    go_wp2_with fail
    refine (HDP.out _ H1.out.1).mono ?_
    rintro e W2 ⟨rfl, h2, g2⟩
    have H2 := Lib.hid (And.intro h2 (g2))
    clear h2 g2
    dsimp only
    go_wp2_with fail
    go_ret
    exact ⟨rfl, H2.out.1, H1.out.2.trans H2.out.2⟩
  · have hds : Ps.deep tk d (Ps.leaf tk s).2 = (Ps.leaf tk s).2 := by unfold Ps.deep; rw [if_neg hz]
    have hdb : decide ((Ps.leaf tk s).2.e ≠ 0) = false := decide_eq_false (by simp [hde])
    rw [hds] at HDP ⊢
    rw [hdb] at HDP
    rw [if_pos hde]
    have HZ := Lib.hid hz
    clear hQ h hi hl hlf hde hun hw1 hd hf hk ht he h5 hz hds hdb
    go_enter Tryz.func142, Tryz.ntmps142
    go_wp2_with fail
    refine (HLF.out).mono ?_
    rintro e W1 ⟨rfl, h1, g1⟩
    have H1 := Lib.hid (And.intro h1 (g1))
    clear h1 g1 c0
    dsimp only
    go_wp2_with fail
    refine (HDP.out _ H1.out.1).mono ?_
    rintro e W2 ⟨rfl, h2, g2⟩
    have H2 := Lib.hid (And.intro h2 (g2))
    clear h2 g2
    dsimp only
    go_wp2_with fail
    refine (HF.out.2.2.1 HZ.out Q _ _ (HI.out.2.2.frt (H1.out.2.trans H2.out.2)) H2.out.1 HF.out.2.2.2.1.inv).mono ?_
    rintro e W3 ⟨rfl, h3, g3⟩
    have H3 := Lib.hid (And.intro h3 g3)
    clear h3 g3
    dsimp only
    go_wp2_with fail
    have hal : Below W3.heap.size W3 (W3.alloc (.cells (intCells [(Ps.leaf tk s).1, (f (Ps.leaf tk s).2).1]).toArray 3)) := (Below.refl _ _).alloc (Nat.le_refl _) _
    refine (pnode_calls (l := [(Ps.leaf tk s).1, (f (Ps.leaf tk s).2).1]) (H3.out.1.past hal) (Pc.inv_room (HF.out.2.2.2.1.then (HF.out.2.1 HZ.out)).inv HL.out) (rds_new W3 _ rfl) (fun k hk => by rw [hk, ← size_alloc1]; omega) (by simp) (HI.out.2.2.frt (((H1.out.2.trans H2.out.2).trans H3.out.2).trans (FrT.of hal))) 11).mono ?_
    rintro e W4 ⟨rfl, h4, g4⟩
    have H4 := Lib.hid (And.intro h4 (((H1.out.2.trans H2.out.2).trans H3.out.2).trans ((FrT.of hal).trans g4)))
    clear h4 g4 hal
    dsimp only
    go_wp2_with fail
    go_ret
    exact ⟨rfl, H4.out.1, H4.out.2⟩
set_option maxRecDepth 100000 in
set_option maxHeartbeats 2000000 in
theorem punary_neg (ht : Pc.Toks tk) (hl : tk.length ≤ 1000000) {n : Int} {d : Nat} (hn0 : 0 ≤ n) (hn1 : n ≤ 300) (hd : n + 1 + d = dp + 1) {f : Ps.F} {g : Pr.G} (hf : d ≠ 0 → Pc.Sim tk f g) (hk : d ≠ 0 → Knows w0 p b tk dp 132 #[.pointer (some ⟨p, 0, none⟩), .int .i64 (n + 1)] f)
    {Q : Nat → Prop} {W : World} {s : Ps.St} (hQ : Up Q W) (h : PI Q w0 W p b tk dp s) (hi : Pc.Inv tk s) (he : s.e = 0) (h5 : (Ps.peek tk s.used).kind ≠ 5) :
    Calls Tryz.prog 142 #[.pointer (some ⟨p, 0, none⟩), .int .i64 n, .func (.func 132) #[.pointer (some ⟨p, 0, none⟩)] #[]] W (Does Q w0 p b tk dp (Ps.unary tk d f s) W) := by
  have HI := Lib.hid (And.intro h (And.intro hi hQ))
  have HL := Lib.hid hl
  have hlf := (Pc.Og.nil hi).leaf ht he h5
  have hde := hlf.2
  have c0 := h.c0
  have HF := Lib.hid (And.intro hd (And.intro hf (And.intro hk hlf)))
  have hun : Ps.unary tk d f s = if (Ps.deep tk d (Ps.leaf tk s).2).e = 0 then Ps.node 11 [(Ps.leaf tk s).1, (f (Ps.deep tk d (Ps.leaf tk s).2)).1] (f (Ps.deep tk d (Ps.leaf tk s).2)).2 else (0, Ps.deep tk d (Ps.leaf tk s).2) := rfl
  have hw1 := Pc.inv_room hlf.1.inv hl
  have HLF := Lib.hid (pleaf_calls h (Pc.inv_room hi hl))
  rw [hun]
  have HDP := Lib.hid (fun (V : World) hV => pdeep_calls (Q := Q) (W := V) (p := p) (b := b) (w0 := w0) hV hw1 hd)
  by_cases hz : d = 0
  · have hds : (Ps.deep tk d (Ps.leaf tk s).2).e ≠ 0 := by
      unfold Ps.deep Ps.fail
      rw [if_pos hz, if_pos hde]
      show (23 : Int) ≠ 0
      decide
    have hdb : decide ((Ps.deep tk d (Ps.leaf tk s).2).e ≠ 0) = true := decide_eq_true hds
    rw [if_neg hds]
    rw [hdb] at HDP
    clear hQ h hi hl hlf hde hun hw1 hd hf hk ht he h5 hz hds hdb
    go_enter Tryz.func142, Tryz.ntmps142
    go_wp2_with fail
    refine (HLF.out).mono ?_
    rintro e W1 ⟨rfl, h1, g1⟩
    have H1 := Lib.hid (And.intro h1 (g1))
    clear h1 g1 c0
    dsimp only
    go_wp2_with fail
    refine (HDP.out _ H1.out.1).mono ?_
    rintro e W2 ⟨rfl, h2, g2⟩
    have H2 := Lib.hid (And.intro h2 (g2))
    clear h2 g2
    dsimp only
    go_wp2_with fail
    go_ret
    exact ⟨rfl, H2.out.1, H1.out.2.trans H2.out.2⟩
  · have hds : Ps.deep tk d (Ps.leaf tk s).2 = (Ps.leaf tk s).2 := by unfold Ps.deep; rw [if_neg hz]
    have hdb : decide ((Ps.leaf tk s).2.e ≠ 0) = false := decide_eq_false (by simp [hde])
    rw [hds] at HDP ⊢
    rw [hdb] at HDP
    rw [if_pos hde]
    have HZ := Lib.hid hz
    clear hQ h hi hl hlf hde hun hw1 hd hf hk ht he h5 hz hds hdb
    go_enter Tryz.func142, Tryz.ntmps142
    go_wp2_with fail
    refine (HLF.out).mono ?_
    rintro e W1 ⟨rfl, h1, g1⟩
    have H1 := Lib.hid (And.intro h1 (g1))
    clear h1 g1 c0
    dsimp only
    go_wp2_with fail
    refine (HDP.out _ H1.out.1).mono ?_
    rintro e W2 ⟨rfl, h2, g2⟩
    have H2 := Lib.hid (And.intro h2 (g2))
    clear h2 g2
    dsimp only
    go_wp2_with fail
    refine (HF.out.2.2.1 HZ.out Q _ _ (HI.out.2.2.frt (H1.out.2.trans H2.out.2)) H2.out.1 HF.out.2.2.2.1.inv).mono ?_
    rintro e W3 ⟨rfl, h3, g3⟩
    have H3 := Lib.hid (And.intro h3 g3)
    clear h3 g3
    dsimp only
    go_wp2_with fail
    have hal : Below W3.heap.size W3 (W3.alloc (.cells (intCells [(Ps.leaf tk s).1, (f (Ps.leaf tk s).2).1]).toArray 3)) := (Below.refl _ _).alloc (Nat.le_refl _) _
    refine (pnode_calls (l := [(Ps.leaf tk s).1, (f (Ps.leaf tk s).2).1]) (H3.out.1.past hal) (Pc.inv_room (HF.out.2.2.2.1.then (HF.out.2.1 HZ.out)).inv HL.out) (rds_new W3 _ rfl) (fun k hk => by rw [hk, ← size_alloc1]; omega) (by simp) (HI.out.2.2.frt (((H1.out.2.trans H2.out.2).trans H3.out.2).trans (FrT.of hal))) 11).mono ?_
    rintro e W4 ⟨rfl, h4, g4⟩
    have H4 := Lib.hid (And.intro h4 (((H1.out.2.trans H2.out.2).trans H3.out.2).trans ((FrT.of hal).trans g4)))
    clear h4 g4 hal
    dsimp only
    go_wp2_with fail
    go_ret
    exact ⟨rfl, H4.out.1, H4.out.2⟩

set_option maxRecDepth 100000 in
set_option maxHeartbeats 2000000 in
theorem pfactor_calls (ht : Pc.Toks tk) (hl : tk.length ≤ 1000000) {n : Int} {d : Nat} (hn0 : 0 ≤ n) (hn1 : n ≤ 300) (hd : n + 1 + d = dp + 1) {lo : Ps.Lv} {glo : Pr.Lv} (hs : Pc.SimV tk d lo glo) (hk : d ≠ 0 → Knows w0 p b tk dp 133 #[.pointer (some ⟨p, 0, none⟩), .int .i64 (n + 1)] lo.fa)
    (ha : Knows w0 p b tk dp 143 #[.pointer (some ⟨p, 0, none⟩), .int .i64 n] (Ps.atom tk lo.ex)) :
    Knows w0 p b tk dp 133 #[.pointer (some ⟨p, 0, none⟩), .int .i64 n] (Ps.factor tk d lo) := by
  intro Q W s hQ h hi
  have hok := pok_calls h
  have HU := Lib.hid (fun (V : World) hq hV he h5 => punary_fac (Q := Q) (W := V) (s := s) ht hl hn0 hn1 hd (fun z => (hs.rest z).2.2) hk hq hV hi he h5)
  have HA := Lib.hid (fun (V : World) hq hV => ha Q V s hq hV hi)
  have HQ := Lib.hid hQ
  have HNX := Lib.hid (fun (V : World) (hV : PI Q w0 V p b tk dp s) {P v} hv hP => pnext_calls (ts := [[45]]) (P := P) (v := v) hV (Pc.inv_room hi hl) hv hP (by simp))
  have HP := Lib.hid h
  unfold Ps.factor
  by_cases he : s.e = 0
  · rw [decide_eq_true he] at hok
    have HOK := Lib.hid hok
    have hal : Below W.heap.size W (W.alloc (.cells (strCells [[45]]).toArray 9)) := (Below.refl _ _).alloc (Nat.le_refl _) _
    have hnx := HNX.out _ (h.past hal) (rds_newS W [[45]] rfl) (fun k hk => by rw [hk, ← size_alloc1]; omega)
    by_cases hn : Ps.nextB tk [[45]] s.used = true
    · rw [if_pos ⟨he, hn⟩]
      rw [hn] at hnx
      have HN := Lib.hid hnx
      have HE := Lib.hid (And.intro he (And.intro (Pc.next_kind hn) hal))
      clear hQ h hi hl hs hk ha ht hd hok he hn hnx hal HNX
      go_enter Tryz.func133, Tryz.ntmps133
      go_wp2_with fail
      refine (HOK.out).mono ?_
      rintro e W1 ⟨rfl, rfl⟩
      dsimp only
      go_wp2_with fail
      refine HN.out.mono ?_
      rintro e W2 ⟨rfl, hb2⟩
      have H2 := Lib.hid (HE.out.2.2.trans (hb2.mono HE.out.2.2.size))
      clear hb2
      dsimp only
      go_wp2_with fail
      refine (HU.out _ (HQ.out.size H2.out.size) (HP.out.past H2.out) HE.out.1 HE.out.2.1).mono ?_
      rintro e W3 ⟨rfl, h3, g3⟩
      have H3 := Lib.hid (And.intro h3 ((FrT.of H2.out).trans g3))
      clear h3 g3
      dsimp only
      go_wp2_with fail
      go_ret
      exact ⟨rfl, H3.out.1, H3.out.2⟩
    · rw [if_neg (by simp [hn])]
      rw [Bool.not_eq_true] at hn
      rw [hn] at hnx
      have HN := Lib.hid hnx
      have HE := Lib.hid hal
      clear hQ h hi hl hs hk ha ht hd hok he hn hnx hal HNX HU
      go_enter Tryz.func133, Tryz.ntmps133
      go_wp2_with fail
      refine (HOK.out).mono ?_
      rintro e W1 ⟨rfl, rfl⟩
      dsimp only
      go_wp2_with fail
      refine HN.out.mono ?_
      rintro e W2 ⟨rfl, hb2⟩
      have H2 := Lib.hid (HE.out.trans (hb2.mono HE.out.size))
      clear hb2
      dsimp only
      go_wp2_with fail
      refine (HA.out _ (HQ.out.size H2.out.size) (HP.out.past H2.out)).mono ?_
      rintro e W3 ⟨rfl, h3, g3⟩
      have H3 := Lib.hid (And.intro h3 ((FrT.of H2.out).trans g3))
      clear h3 g3
      dsimp only
      go_wp2_with fail
      go_ret
      exact ⟨rfl, H3.out.1, H3.out.2⟩
  · rw [decide_eq_false he] at hok
    have HOK := Lib.hid hok
    rw [if_neg (by simp [he])]
    clear hQ h hi hl hs hk ha ht hd hok he HNX HU
    go_enter Tryz.func133, Tryz.ntmps133
    go_wp2_with fail
    refine (HOK.out).mono ?_
    rintro e W1 ⟨rfl, rfl⟩
    dsimp only
    go_wp2_with fail
    refine (HA.out _ HQ.out HP.out).mono ?_
    rintro e W3 ⟨rfl, h3, g3⟩
    have H3 := Lib.hid (And.intro h3 g3)
    clear h3 g3
    dsimp only
    go_wp2_with fail
    go_ret
    exact ⟨rfl, H3.out.1, H3.out.2⟩

set_option maxRecDepth 100000 in
set_option maxHeartbeats 2000000 in
theorem pnegation_calls (ht : Pc.Toks tk) (hl : tk.length ≤ 1000000) {n : Int} {d : Nat} (hn0 : 0 ≤ n) (hn1 : n ≤ 300) (hd : n + 1 + d = dp + 1) {lo : Ps.Lv} {glo : Pr.Lv} (hs : Pc.SimV tk d lo glo) (hk : d ≠ 0 → Knows w0 p b tk dp 132 #[.pointer (some ⟨p, 0, none⟩), .int .i64 (n + 1)] lo.ne)
    (ha : Knows w0 p b tk dp 98 #[.pointer (some ⟨p, 0, none⟩), .int .i64 2, .int .i64 n] (Ps.comparison tk d lo)) :
    Knows w0 p b tk dp 132 #[.pointer (some ⟨p, 0, none⟩), .int .i64 n] (Ps.negation tk d lo) := by
  intro Q W s hQ h hi
  have hok := pok_calls h
  have HU := Lib.hid (fun (V : World) hq hV he h5 => punary_neg (Q := Q) (W := V) (s := s) ht hl hn0 hn1 hd (fun z => (hs.rest z).2.1) hk hq hV hi he h5)
  have HA := Lib.hid (fun (V : World) hq hV => ha Q V s hq hV hi)
  have HQ := Lib.hid hQ
  have HNX := Lib.hid (fun (V : World) (hV : PI Q w0 V p b tk dp s) {P v} hv hP => pnext_calls (ts := [Ps.tNot]) (P := P) (v := v) hV (Pc.inv_room hi hl) hv hP (by simp))
  have HP := Lib.hid h
  unfold Ps.negation
  by_cases he : s.e = 0
  · rw [decide_eq_true he] at hok
    have HOK := Lib.hid hok
    have hal : Below W.heap.size W (W.alloc (.cells (strCells [Ps.tNot]).toArray 9)) := (Below.refl _ _).alloc (Nat.le_refl _) _
    have hnx := HNX.out _ (h.past hal) (rds_newS W [Ps.tNot] rfl) (fun k hk => by rw [hk, ← size_alloc1]; omega)
    by_cases hn : Ps.nextB tk [Ps.tNot] s.used = true
    · rw [if_pos ⟨he, hn⟩]
      rw [hn] at hnx
      have HN := Lib.hid hnx
      have HE := Lib.hid (And.intro he (And.intro (Pc.next_kind hn) hal))
      clear hQ h hi hl hs hk ha ht hd hok he hn hnx hal HNX
      go_enter Tryz.func132, Tryz.ntmps132
      go_wp2_with fail
      refine (HOK.out).mono ?_
      rintro e W1 ⟨rfl, rfl⟩
      dsimp only
      go_wp2_with fail
      refine HN.out.mono ?_
      rintro e W2 ⟨rfl, hb2⟩
      have H2 := Lib.hid (HE.out.2.2.trans (hb2.mono HE.out.2.2.size))
      clear hb2
      dsimp only
      go_wp2_with fail
      refine (HU.out _ (HQ.out.size H2.out.size) (HP.out.past H2.out) HE.out.1 HE.out.2.1).mono ?_
      rintro e W3 ⟨rfl, h3, g3⟩
      have H3 := Lib.hid (And.intro h3 ((FrT.of H2.out).trans g3))
      clear h3 g3
      dsimp only
      go_wp2_with fail
      go_ret
      exact ⟨rfl, H3.out.1, H3.out.2⟩
    · rw [if_neg (by simp [hn])]
      rw [Bool.not_eq_true] at hn
      rw [hn] at hnx
      have HN := Lib.hid hnx
      have HE := Lib.hid hal
      clear hQ h hi hl hs hk ha ht hd hok he hn hnx hal HNX HU
      go_enter Tryz.func132, Tryz.ntmps132
      go_wp2_with fail
      refine (HOK.out).mono ?_
      rintro e W1 ⟨rfl, rfl⟩
      dsimp only
      go_wp2_with fail
      refine HN.out.mono ?_
      rintro e W2 ⟨rfl, hb2⟩
      have H2 := Lib.hid (HE.out.trans (hb2.mono HE.out.size))
      clear hb2
      dsimp only
      go_wp2_with fail
      refine (HA.out _ (HQ.out.size H2.out.size) (HP.out.past H2.out)).mono ?_
      rintro e W3 ⟨rfl, h3, g3⟩
      have H3 := Lib.hid (And.intro h3 ((FrT.of H2.out).trans g3))
      clear h3 g3
      dsimp only
      go_wp2_with fail
      go_ret
      exact ⟨rfl, H3.out.1, H3.out.2⟩
  · rw [decide_eq_false he] at hok
    have HOK := Lib.hid hok
    rw [if_neg (by simp [he])]
    clear hQ h hi hl hs hk ha ht hd hok he HNX HU
    go_enter Tryz.func132, Tryz.ntmps132
    go_wp2_with fail
    refine (HOK.out).mono ?_
    rintro e W1 ⟨rfl, rfl⟩
    dsimp only
    go_wp2_with fail
    refine (HA.out _ HQ.out HP.out).mono ?_
    rintro e W3 ⟨rfl, h3, g3⟩
    have H3 := Lib.hid (And.intro h3 g3)
    clear h3 g3
    dsimp only
    go_wp2_with fail
    go_ret
    exact ⟨rfl, H3.out.1, H3.out.2⟩

set_option maxRecDepth 100000 in
set_option maxHeartbeats 2000000 in
theorem pformula_calls (ht : Pc.Toks tk) (hl : tk.length ≤ 1000000) {n : Int} {d : Nat} (hn0 : 0 ≤ n) (hn1 : n ≤ 300) (hd : n + 1 + d = dp + 1) {lo : Ps.Lv} {glo : Pr.Lv} (hs : Pc.SimV tk d lo glo) (hk : d ≠ 0 → Knows w0 p b tk dp 81 #[.pointer (some ⟨p, 0, none⟩), .int .i64 (n + 1)] lo.fo)
    (ha : Knows w0 p b tk dp 98 #[.pointer (some ⟨p, 0, none⟩), .int .i64 0, .int .i64 n] (Ps.disjunction tk d lo)) :
    Knows w0 p b tk dp 81 #[.pointer (some ⟨p, 0, none⟩), .int .i64 n] (Ps.formula tk d lo) := by
  intro Q W s hQ h hi
  have hsj : Pc.Sim tk (Ps.disjunction tk d lo) (Pr.or tk d glo) := Pc.sim_row ht (Pc.sim_row ht (Pc.sim_negation ht hs) Ps.sAnd) Ps.sOr
  have hog := (Pc.Og.nil hi).then hsj
  have HA := Lib.hid (ha Q W s hQ h hi)
  have HQ := Lib.hid hQ
  have HL := Lib.hid (And.intro ht (And.intro hl (And.intro hd (And.intro hs hk))))
  have hfo : Ps.formula tk d lo s = if (Ps.disjunction tk d lo s).2.e = 0 ∧ Ps.nextB tk [[61, 62]] (Ps.disjunction tk d lo s).2.used = true then (if (Ps.deep tk d (Ps.leaf tk (Ps.disjunction tk d lo s).2).2).e = 0 then Ps.node 10 [(Ps.disjunction tk d lo s).1, (Ps.leaf tk (Ps.disjunction tk d lo s).2).1, (lo.fo (Ps.deep tk d (Ps.leaf tk (Ps.disjunction tk d lo s).2).2)).1] (lo.fo (Ps.deep tk d (Ps.leaf tk (Ps.disjunction tk d lo s).2).2)).2 else (0, Ps.deep tk d (Ps.leaf tk (Ps.disjunction tk d lo s).2).2)) else Ps.disjunction tk d lo s := rfl
  rw [hfo]
  obtain ⟨r, hr⟩ : ∃ r, Ps.disjunction tk d lo s = r := ⟨_, rfl⟩
  obtain ⟨a, s1⟩ := r
  rw [hr] at HA hog ⊢
  simp only [List.nil_append] at hog
  have HO := Lib.hid hog
  clear hQ h hi hl hs hk ha ht hd hsj hfo hr hog
  dsimp only at HA HO ⊢
  by_cases he : s1.e = 0
  · by_cases hn : Ps.nextB tk [[61, 62]] s1.used = true
    · rw [if_pos ⟨he, hn⟩]
      have hlf := HO.out.leaf HL.out.1 he (Pc.next_kind hn)
      have hde := hlf.2
      have HE := Lib.hid (And.intro he (And.intro hn hlf))
      have hw1 := Pc.inv_room hlf.1.inv HL.out.2.1
      have HDP := Lib.hid (fun (V : World) hV => pdeep_calls (Q := Q) (W := V) (p := p) (b := b) (w0 := w0) hV hw1 HL.out.2.2.1)
      clear he hn hlf hw1
      by_cases hz : d = 0
      · have hds : (Ps.deep tk d (Ps.leaf tk s1).2).e ≠ 0 := by
          unfold Ps.deep Ps.fail
          rw [if_pos hz, if_pos hde]
          show (23 : Int) ≠ 0
          decide
        have hdb : decide ((Ps.deep tk d (Ps.leaf tk s1).2).e ≠ 0) = true := decide_eq_true hds
        rw [if_neg hds]
        rw [hdb] at HDP
        clear hde hz hds hdb
        go_enter Tryz.func81, Tryz.ntmps81
        go_wp2_with fail
        refine (HA.out).mono ?_
        rintro e W1 ⟨rfl, h1, g1⟩
        have H1 := Lib.hid (And.intro h1 (g1))
        clear h1 g1
        have hok := pok_calls H1.out.1
        rw [decide_eq_true HE.out.1] at hok
        have HOK := Lib.hid hok
        clear hok
        dsimp only
        go_wp2_with fail
        refine (HOK.out).mono ?_
        rintro e W2 ⟨rfl, rfl⟩
        dsimp only
        go_wp2_with fail
        have hal : Below W1.heap.size W1 (W1.alloc (.cells (strCells [[61, 62]]).toArray 9)) := (Below.refl _ _).alloc (Nat.le_refl _) _
        have hnx := pnext_calls (ts := [[61, 62]]) (H1.out.1.past hal) (Pc.inv_room HO.out.inv HL.out.2.1) (rds_newS W1 [[61, 62]] rfl) (fun k hk => by rw [hk, ← size_alloc1]; omega) (by simp)
        rw [HE.out.2.1] at hnx
        refine hnx.mono ?_
        rintro e W3 ⟨rfl, hb3⟩
        have H3 := Lib.hid (hal.trans (hb3.mono hal.size))
        clear hb3 hnx hal
        have c0 := (H1.out.1.past H3.out).c0
        dsimp only
        go_wp2_with fail
        refine (pleaf_calls (H1.out.1.past H3.out) (Pc.inv_room HO.out.inv HL.out.2.1)).mono ?_
        rintro e W4 ⟨rfl, h4, g4⟩
        have H4 := Lib.hid (And.intro h4 (H1.out.2.trans ((FrT.of H3.out).trans g4)))
        clear h4 g4 c0
        dsimp only
        go_wp2_with fail
        refine (HDP.out _ H4.out.1).mono ?_
        rintro e W5 ⟨rfl, h5, g5⟩
        have H5 := Lib.hid (And.intro h5 (g5))
        clear h5 g5
        dsimp only
        go_wp2_with fail
        go_ret
        exact ⟨rfl, H5.out.1, H4.out.2.trans H5.out.2⟩
      · have hds : Ps.deep tk d (Ps.leaf tk s1).2 = (Ps.leaf tk s1).2 := by unfold Ps.deep; rw [if_neg hz]
        have hdb : decide ((Ps.leaf tk s1).2.e ≠ 0) = false := decide_eq_false (by simp [hde])
        rw [hds] at HDP ⊢
        rw [hdb] at HDP
        rw [if_pos hde]
        have HZ := Lib.hid hz
        clear hde hz hds hdb
        go_enter Tryz.func81, Tryz.ntmps81
        go_wp2_with fail
        refine (HA.out).mono ?_
        rintro e W1 ⟨rfl, h1, g1⟩
        have H1 := Lib.hid (And.intro h1 (g1))
        clear h1 g1
        have hok := pok_calls H1.out.1
        rw [decide_eq_true HE.out.1] at hok
        have HOK := Lib.hid hok
        clear hok
        dsimp only
        go_wp2_with fail
        refine (HOK.out).mono ?_
        rintro e W2 ⟨rfl, rfl⟩
        dsimp only
        go_wp2_with fail
        have hal : Below W1.heap.size W1 (W1.alloc (.cells (strCells [[61, 62]]).toArray 9)) := (Below.refl _ _).alloc (Nat.le_refl _) _
        have hnx := pnext_calls (ts := [[61, 62]]) (H1.out.1.past hal) (Pc.inv_room HO.out.inv HL.out.2.1) (rds_newS W1 [[61, 62]] rfl) (fun k hk => by rw [hk, ← size_alloc1]; omega) (by simp)
        rw [HE.out.2.1] at hnx
        refine hnx.mono ?_
        rintro e W3 ⟨rfl, hb3⟩
        have H3 := Lib.hid (hal.trans (hb3.mono hal.size))
        clear hb3 hnx hal
        have c0 := (H1.out.1.past H3.out).c0
        dsimp only
        go_wp2_with fail
        refine (pleaf_calls (H1.out.1.past H3.out) (Pc.inv_room HO.out.inv HL.out.2.1)).mono ?_
        rintro e W4 ⟨rfl, h4, g4⟩
        have H4 := Lib.hid (And.intro h4 (H1.out.2.trans ((FrT.of H3.out).trans g4)))
        clear h4 g4 c0
        dsimp only
        go_wp2_with fail
        refine (HDP.out _ H4.out.1).mono ?_
        rintro e W5 ⟨rfl, h5, g5⟩
        have H5 := Lib.hid (And.intro h5 (g5))
        clear h5 g5
        dsimp only
        go_wp2_with fail
        refine (HL.out.2.2.2.2 HZ.out Q _ _ (HQ.out.frt (H4.out.2.trans H5.out.2)) H5.out.1 HE.out.2.2.1.inv).mono ?_
        rintro e W6 ⟨rfl, h6, g6⟩
        have H6 := Lib.hid (And.intro h6 (H4.out.2.trans (H5.out.2.trans g6)))
        clear h6 g6
        dsimp only
        go_wp2_with fail
        have hal : Below W6.heap.size W6 (W6.alloc (.cells (intCells [a, (Ps.leaf tk s1).1, (lo.fo (Ps.leaf tk s1).2).1]).toArray 3)) := (Below.refl _ _).alloc (Nat.le_refl _) _
        refine (pnode_calls (l := [a, (Ps.leaf tk s1).1, (lo.fo (Ps.leaf tk s1).2).1]) (H6.out.1.past hal) (Pc.inv_room (HE.out.2.2.1.then (HL.out.2.2.2.1.rest HZ.out).1).inv HL.out.2.1) (rds_new W6 _ rfl) (fun k hk => by rw [hk, ← size_alloc1]; omega) (by simp) (HQ.out.frt (H6.out.2.trans (FrT.of hal))) 10).mono ?_
        rintro e W7 ⟨rfl, h7, g7⟩
        have H7 := Lib.hid (And.intro h7 (H6.out.2.trans ((FrT.of hal).trans g7)))
        clear h7 g7 hal
        dsimp only
        go_wp2_with fail
        go_ret
        exact ⟨rfl, H7.out.1, H7.out.2⟩
    · rw [if_neg (by simp [hn])]
      rw [Bool.not_eq_true] at hn
      have HE := Lib.hid (And.intro he (And.intro hn hn))
      clear he hn
      go_enter Tryz.func81, Tryz.ntmps81
      go_wp2_with fail
      refine (HA.out).mono ?_
      rintro e W1 ⟨rfl, h1, g1⟩
      have H1 := Lib.hid (And.intro h1 (g1))
      clear h1 g1
      have hok := pok_calls H1.out.1
      rw [decide_eq_true HE.out.1] at hok
      have HOK := Lib.hid hok
      clear hok
      dsimp only
      go_wp2_with fail
      refine (HOK.out).mono ?_
      rintro e W2 ⟨rfl, rfl⟩
      dsimp only
      go_wp2_with fail
      have hal : Below W1.heap.size W1 (W1.alloc (.cells (strCells [[61, 62]]).toArray 9)) := (Below.refl _ _).alloc (Nat.le_refl _) _
      have hnx := pnext_calls (ts := [[61, 62]]) (H1.out.1.past hal) (Pc.inv_room HO.out.inv HL.out.2.1) (rds_newS W1 [[61, 62]] rfl) (fun k hk => by rw [hk, ← size_alloc1]; omega) (by simp)
      rw [HE.out.2.1] at hnx
      refine hnx.mono ?_
      rintro e W3 ⟨rfl, hb3⟩
      have H3 := Lib.hid (hal.trans (hb3.mono hal.size))
      clear hb3 hnx hal
      dsimp only
      go_wp2_with fail
      go_ret
      exact ⟨rfl, H1.out.1.past H3.out, H1.out.2.trans (FrT.of H3.out)⟩
  · rw [if_neg (by simp [he])]
    have HE := Lib.hid he
    clear he
    go_enter Tryz.func81, Tryz.ntmps81
    go_wp2_with fail
    refine (HA.out).mono ?_
    rintro e W1 ⟨rfl, h1, g1⟩
    have H1 := Lib.hid (And.intro h1 (g1))
    clear h1 g1
    have hok := pok_calls H1.out.1
    rw [decide_eq_false HE.out] at hok
    have HOK := Lib.hid hok
    clear hok
    dsimp only
    go_wp2_with fail
    refine (HOK.out).mono ?_
    rintro e W2 ⟨rfl, rfl⟩
    dsimp only
    go_wp2_with fail
    go_ret
    exact ⟨rfl, H1.out.1, H1.out.2⟩
end
end Go.Proofs.YtpkhdlnlkeehhaaGreatDoor
/- parse: list: the walk, at each of the functions that it is handed. -/
namespace Go.Proofs.YtpkhdlnlkeehhaaGreatDoor
open Go.RowKit

theorem info_int2 : (Tryz.prog.info? 3).map (fun i => (i.zero, i.size, i.bytes)) = some (some (.int .i64 0), 1, 8) := by kernel_rfl
section
variable {w0 : World} {p b : Nat} {tk : List Tr.Tk} {dp : Int}
/-- .. where some of the caller's stands. -/
def KnowsB (Box : World → Prop) (w0 : World) (p b : Nat) (tk : List Tr.Tk) (dp : Int) (k : FuncId) (args : Array Value) (f : Ps.F) : Prop :=
  ∀ (Q : Nat → Prop) (W : World) (s : Ps.St), Up Q W → PI Q w0 W p b tk dp s → Pc.Inv tk s → Box W → Calls Tryz.prog k args W (Does Q w0 p b tk dp (f s) W)
/-- What list gives: a row of its own. -/
def Lists (Q : Nat → Prop) (w0 : World) (p b : Nat) (tk : List Tr.Tk) (dp : Int) (r : List Int × Ps.St) (W : World) (e : Ending) (W' : World) : Prop :=
  ∃ v, e = .returned v ∧ W'.ownsRow W.heap.size 3 1 v r.1.length (intCells r.1) ∧ PI (Off Q v) w0 W' p b tk dp r.2 ∧ FrT PTs W W'
theorem listGo_dead {f : Ps.F} {s : Ps.St} (he : s.e ≠ 0) (m : Nat) (ks : List Int) : Ps.listGo tk f m ks s = (ks, s) := by
  cases m with
  | zero => unfold Ps.listGo; rw [Pc.fail_dead he]
  | succ m => unfold Ps.listGo; rw [if_neg he]
theorem own_new (w : World) (l : List Int) (hl : l.length ≤ 1000) : (w.alloc (.cells (intCells l).toArray 3)).ownsRow w.heap.size 3 1 (.slice (some ⟨w.heap.size, 0, none⟩) l.length l.length) l.length (intCells l) := by
  refine ⟨by simp [intCells], Or.inr ⟨w.heap.size, l.length, (intCells l).toArray, rfl, Nat.le_refl _, heap_alloc_new _ _, Nat.le_refl _, by unfold maxLen; omega, by simp [intCells], by rw [Nat.mul_one]; exact List.take_of_length_le (by simp [intCells])⟩⟩

def ListRel (Q : Nat → Prop) (w0 W : World) (p b : Nat) (tk : List Tr.Tk) (dp : Int) (f : Ps.F) (s : Ps.St) (k : Nat) (v5 v6 : Value) (wr : World) : Prop :=
  ∃ (ks : List Int) (a : Option Addr) (c j : Nat) (s1 : Ps.St), v5 = .slice a ks.length c ∧ v6 = .int .i64 j ∧ 1 ≤ j ∧ j ≤ 9 ∧ k = 9 - j ∧ ks.length ≤ 2 * j ∧ wr.ownsRow W.heap.size 3 1 (.slice a ks.length c) ks.length (intCells ks) ∧
    PI (Off Q (.slice a ks.length c)) w0 wr p b tk dp s1 ∧ Pc.Inv tk s1 ∧ Ps.listGo tk f (9 - j) ks s1 = Ps.list tk f s ∧ FrT PTs W wr

set_option maxRecDepth 100000 in
set_option maxHeartbeats 4000000 in
theorem plist_param (ht : Pc.Toks tk) (hl : tk.length ≤ 1000000) {f : Ps.F} {g : Pr.G} (hf : Pc.Sim tk f g) {Box : World → Prop} (hbox : ∀ V V', Box V → FrT PTs V V' → Box V')
    (hone : KnowsB Box w0 p b tk dp 65 #[.pointer (some ⟨p, 0, none⟩)] f) :
    ∀ (Q : Nat → Prop) (W : World) (s : Ps.St), Up Q W → PI Q w0 W p b tk dp s → Pc.Inv tk s → Box W →
      Calls Tryz.prog 64 #[.pointer (some ⟨p, 0, none⟩), .func (.func 65) #[.pointer (some ⟨p, 0, none⟩)] #[]] W (Lists Q w0 p b tk dp (Ps.list tk f s) W) := by
  intro Q W s hQ h hi hB
  have H := Lib.hid (And.intro ht (And.intro hl (And.intro hf (And.intro hbox hone))))
  have HI := Lib.hid (And.intro h (And.intro hi (And.intro hQ hB)))
  have hal : Below W.heap.size W (W.alloc (.cells (strCells [[41]]).toArray 9)) := (Below.refl _ _).alloc (Nat.le_refl _) _
  have hnx := pnext_calls (ts := [[41]]) (h.past hal) (Pc.inv_room hi hl) (rds_newS W [[41]] rfl) (fun k hk => by rw [hk, ← size_alloc1]; omega) (by simp)
  have hdef : Ps.list tk f s = if Ps.nextB tk [[41]] s.used = true then ([], s) else Ps.listGo tk f 8 [] s := rfl
  by_cases hn : Ps.nextB tk [[41]] s.used = true
  · rw [if_pos hn] at hdef
    rw [hdef]
    rw [hn] at hnx
    have HN := Lib.hid (And.intro hnx hal)
    clear ht hl hf hbox hone hQ h hi hB hal hnx hdef hn
    go_enter Tryz.func64, Tryz.ntmps64
    go_wp2_with fail
    refine HN.out.1.mono ?_
    rintro e W2 ⟨rfl, hb2⟩
    have H2 := Lib.hid (HN.out.2.trans (hb2.mono HN.out.2.size))
    clear hb2
    dsimp only
    go_wp2_with fail
    go_ret
    exact ⟨_, rfl, World.ownsRow_nil _ _ _ _, (HI.out.1.past H2.out).imp fun k _ hq => ⟨hq, by simp [Value.ownBlock]⟩, FrT.of H2.out⟩
  · rw [if_neg hn] at hdef
    rw [Bool.not_eq_true] at hn
    rw [hn] at hnx
    have HN := Lib.hid (And.intro hnx (And.intro hal hdef))
    obtain ⟨i0, hii, hz0, hz1, hz2⟩ := info_split info_int2
    have Hi := Lib.hid hii
    have Hz0 := Lib.hid hz0
    have Hz1 := Lib.hid hz1
    have Hz2 := Lib.hid hz2
    clear hii hz0 hz1 hz2
    clear ht hl hf hbox hone hQ h hi hB hal hnx hdef hn
    go_enter Tryz.func64, Tryz.ntmps64
    go_wp2_with fail
    refine HN.out.1.mono ?_
    rintro e W2 ⟨rfl, hb2⟩
    have H2 := Lib.hid (HN.out.2.1.trans (hb2.mono HN.out.2.1.size))
    clear hb2
    dsimp only
    go_wp2_with fail
    go_loopg [5, 6] 8 (fun k v5 v6 wr => ListRel Q w0 W p b tk dp f s k v5 v6 wr)
    case atStart => exact ⟨[], none, 0, 1, s, rfl, rfl, Nat.le_refl _, by omega, rfl, by simp, World.ownsRow_nil _ _ _ _, (HI.out.1.past H2.out).imp fun k _ hq => ⟨hq, by simp [Value.ownBlock]⟩, HI.out.2.1, HN.out.2.2.symm, FrT.of H2.out⟩
    case round =>
      obtain ⟨ks, a, c, j, s1, rfl, rfl, hj1, hj9, hk, hkl, hown, hp, hin, hgo, hfr⟩ := hrel
      have hj1' : (1 : Int) ≤ (j : Int) := by omega
      have hj9' : (j : Int) ≤ 9 := by omega
      have hok := pok_calls hp
      have HR := Lib.hid (And.intro hk (And.intro hkl (And.intro hown (And.intro hp (And.intro hin (And.intro hgo hfr))))))
      clear hk hkl hown hp hin hgo hfr
      by_cases he : s1.e = 0
      · rw [decide_eq_true he] at hok
        have HOK := Lib.hid hok
        have HE := Lib.hid he
        clear hok he
        by_cases hj : j = 9
        · subst hj
          go_wp2_with fail
          refine (HOK.out).mono ?_
          rintro e W3 ⟨rfl, rfl⟩
          dsimp only
          go_wp2_with fail
          refine (pfail_calls HR.out.2.2.2.1 (Pc.inv_room HR.out.2.2.2.2.1 H.out.2.1) 15).mono ?_
          rintro e W4 ⟨rfl, h4, g4⟩
          have H4 := Lib.hid (And.intro h4 g4)
          clear h4 g4
          dsimp only
          go_wp2_with fail
          go_ret
          have hgo := HR.out.2.2.2.2.2.1
          have e1 : Ps.listGo tk f (9 - 9) ks s1 = (ks, Ps.fail tk 15 s1) := rfl
          rw [e1] at hgo
          rw [← hgo]
          exact ⟨_, rfl, ownsRow_frt HR.out.2.2.1 H4.out.2 (by decide), H4.out.1, HR.out.2.2.2.2.2.2.trans H4.out.2⟩
        · have hj8 : (j : Int) ≤ 8 := by omega
          have HJ := Lib.hid hj
          clear hj
          go_wp2_with fail
          refine (HOK.out).mono ?_
          rintro e W3 ⟨rfl, rfl⟩
          dsimp only
          go_wp2_with fail
          refine (H.out.2.2.2.2 _ _ _ (Off.up (HI.out.2.2.1.frt HR.out.2.2.2.2.2.2) HR.out.2.2.1) HR.out.2.2.2.1 HR.out.2.2.2.2.1 (H.out.2.2.2.1 _ _ HI.out.2.2.2 HR.out.2.2.2.2.2.2)).mono ?_
          rintro e W4 ⟨rfl, h4, g4⟩
          have hi4 := ((Pc.Og.nil HR.out.2.2.2.2.1).then H.out.2.2.1).inv
          have ho4 := ownsRow_frt HR.out.2.2.1 g4 (by decide)
          have H4 := Lib.hid (And.intro h4 (And.intro (HR.out.2.2.2.2.2.2.trans g4) (And.intro hi4 ho4)))
          clear h4 g4 hi4 ho4
          obtain ⟨⟨x, s2⟩, hx⟩ : ∃ r, f s1 = r := ⟨_, rfl⟩
          rw [hx] at H4 ⊢
          have HX := Lib.hid hx
          clear hx
          dsimp only at H4 ⊢
          go_wp2_with (at_builtin; refine wpList_append_row rfl _ _ 41 rfl W.heap.size 3 i0 (.int .i64 0) 1 8 Tryz.underlying41 Hi.out Hz0.out Hz1.out Hz2.out rfl (by decide) _ ks.length (intCells ks) rfl (H4.out.2.2.2.alloc _) rfl (rds_new W4 [x] rfl) (ints_one _) (by have := HR.out.2.1; unfold maxLen; simp; omega) (by have := HR.out.2.1; simp; omega) (Nat.le_trans H4.out.2.1.size (Nat.le_of_lt (by rw [← size_alloc1]; omega))) ?_)
          intro a5 c5 W5 ho5 hg5 hat5
          have hal : Below W4.heap.size W4 (W4.alloc (.cells (intCells [x]).toArray 3)) := (Below.refl _ _).alloc (Nat.le_refl _) _
          have hp5 := (H4.out.1.past hal).appended (H4.out.2.2.2.alloc _) HI.out.1.below.size hg5 (v3 := .slice a5 (ks.length + 1) c5) (by rw [← size_alloc1]; exact hat5)
          have hf5 : FrT PTs W W5 := (H4.out.2.1.trans (FrT.of hal)).grown hg5 (fun k hk => (H4.out.2.2.2.lt k hk).1)
          have hks : intCells ks ++ intCells [x] = intCells (ks ++ [x]) := by simp [intCells]
          rw [hks] at ho5
          have H5 := Lib.hid (And.intro ho5 (And.intro hp5 hf5))
          have hok5 := pok_calls hp5
          clear ho5 hg5 hat5 hal hp5 hf5 hks
          by_cases he2 : s2.e = 0
          · rw [decide_eq_true he2] at hok5
            have HOK5 := Lib.hid hok5
            have HE2 := Lib.hid he2
            clear hok5 he2
            have hal2 : Below W5.heap.size W5 (W5.alloc (.cells (strCells [[44]]).toArray 9)) := (Below.refl _ _).alloc (Nat.le_refl _) _
            have hnx2 := pnext_calls (ts := [[44]]) (H5.out.2.1.past hal2) (Pc.inv_room H4.out.2.2.1 H.out.2.1) (rds_newS W5 [[44]] rfl) (fun k hk => by rw [hk, ← size_alloc1]; omega) (by simp)
            by_cases hn2 : Ps.nextB tk [[44]] s2.used = true
            · rw [hn2] at hnx2
              have HN2 := Lib.hid (And.intro hnx2 (And.intro hal2 hn2))
              clear hnx2 hal2 hn2
              go_wp2_with fail
              refine (HOK5.out).mono ?_
              rintro e W6 ⟨rfl, rfl⟩
              dsimp only
              go_wp2_with fail
              refine HN2.out.1.mono ?_
              rintro e W7 ⟨rfl, hb7⟩
              have H7 := Lib.hid (HN2.out.2.1.trans (hb7.mono HN2.out.2.1.size))
              have d0 := (H5.out.2.1.past H7.out).c0
              clear hb7
              dsimp only
              go_wp2_with fail
              refine (pleaf_calls (H5.out.2.1.past H7.out) (Pc.inv_room H4.out.2.2.1 H.out.2.1)).mono ?_
              rintro e W8 ⟨rfl, h8, g8⟩
              have hi8 := ((Pc.Og.nil H4.out.2.2.1).leaf H.out.1 HE2.out (Pc.next_kind HN2.out.2.2)).1.inv
              have g58 := (FrT.of H7.out).trans g8
              have H8 := Lib.hid (And.intro h8 (And.intro (H5.out.2.2.trans g58) (And.intro hi8 (ownsRow_frt H5.out.1 g58 (by decide)))))
              clear h8 g8 hi8 g58 d0
              dsimp only
              obtain ⟨⟨y, s3⟩, hy⟩ : ∃ r, Ps.leaf tk s2 = r := ⟨_, rfl⟩
              rw [hy] at H8 ⊢
              have HY := Lib.hid hy
              clear hy
              dsimp only at H8 ⊢
              go_wp2_with (at_builtin; refine wpList_append_row rfl _ _ 41 rfl W.heap.size 3 i0 (.int .i64 0) 1 8 Tryz.underlying41 Hi.out Hz0.out Hz1.out Hz2.out rfl (by decide) _ _ (intCells (ks ++ [x])) rfl (H8.out.2.2.2.alloc _) rfl (rds_new W8 [y] rfl) (ints_one _) (by have := HR.out.2.1; unfold maxLen; simp; omega) (by have := HR.out.2.1; simp; omega) (Nat.le_trans H8.out.2.1.size (Nat.le_of_lt (by rw [← size_alloc1]; omega))) ?_)
              intro a9 c9 W9 ho9 hg9 hat9
              have hal9 : Below W8.heap.size W8 (W8.alloc (.cells (intCells [y]).toArray 3)) := (Below.refl _ _).alloc (Nat.le_refl _) _
              have hp9 := (H8.out.1.past hal9).appended (H8.out.2.2.2.alloc _) HI.out.1.below.size hg9 (v3 := .slice a9 (ks.length + 1 + 1) c9) (by rw [← size_alloc1]; exact hat9)
              have hf9 : FrT PTs W W9 := (H8.out.2.1.trans (FrT.of hal9)).grown hg9 (fun k hk => (H8.out.2.2.2.lt k hk).1)
              have hks : intCells (ks ++ [x]) ++ intCells [y] = intCells (ks ++ [x, y]) := by simp [intCells]
              rw [hks] at ho9
              have H9 := Lib.hid (And.intro ho9 (And.intro hp9 hf9))
              clear ho9 hg9 hat9 hal9 hp9 hf9 hks
              go_wp2_with fail
              go_roundg (9 - (j + 1))
              case measure => have := HR.out.1; have := HJ.out; omega
              case rel =>
                have hgo := HR.out.2.2.2.2.2.1
                have hj := HJ.out
                obtain ⟨m, hm⟩ : ∃ m, 9 - j = m + 1 := ⟨8 - j, by omega⟩
                have e9 : 9 - (j + 1) = m := by omega
                rw [hm] at hgo
                unfold Ps.listGo at hgo
                rw [if_pos HE.out, HX.out] at hgo
                simp only at hgo
                rw [if_pos ⟨HE2.out, HN2.out.2.2⟩, HY.out] at hgo
                have q1 : (ks ++ [x, y]).length = ks.length + 1 + 1 := by simp
                refine ⟨ks ++ [x, y], a9, c9, j + 1, s3, by rw [q1], by go_num, by omega, by omega, rfl, by have := HR.out.2.1; simp; omega, by rw [q1]; exact H9.out.1, by rw [q1]; exact H9.out.2.1, H8.out.2.2.1, by rw [e9]; exact hgo, H9.out.2.2⟩
            · rw [Bool.not_eq_true] at hn2
              rw [hn2] at hnx2
              have HN2 := Lib.hid (And.intro hnx2 (And.intro hal2 hn2))
              clear hnx2 hal2 hn2
              go_wp2_with fail
              refine (HOK5.out).mono ?_
              rintro e W6 ⟨rfl, rfl⟩
              dsimp only
              go_wp2_with fail
              refine HN2.out.1.mono ?_
              rintro e W7 ⟨rfl, hb7⟩
              have H7 := Lib.hid (HN2.out.2.1.trans (hb7.mono HN2.out.2.1.size))
              clear hb7
              dsimp only
              go_wp2_with fail
              go_ret
              have hgo := HR.out.2.2.2.2.2.1
              have hj := HJ.out
              obtain ⟨m, hm⟩ : ∃ m, 9 - j = m + 1 := ⟨8 - j, by omega⟩
              rw [hm] at hgo
              unfold Ps.listGo at hgo
              rw [if_pos HE.out, HX.out] at hgo
              simp only at hgo
              rw [if_neg (by rw [HN2.out.2.2]; simp)] at hgo
              rw [← hgo]
              have q1 : (ks ++ [x]).length = ks.length + 1 := by simp
              exact ⟨_, rfl, by rw [q1]; exact ownsRow_below H5.out.1 H7.out, H5.out.2.1.past H7.out, H5.out.2.2.trans (FrT.of H7.out)⟩
          · rw [decide_eq_false he2] at hok5
            have HOK5 := Lib.hid hok5
            have HE2 := Lib.hid he2
            clear hok5 he2
            go_wp2_with fail
            refine (HOK5.out).mono ?_
            rintro e W6 ⟨rfl, rfl⟩
            dsimp only
            go_wp2_with fail
            go_ret
            have hgo := HR.out.2.2.2.2.2.1
            have hj := HJ.out
            obtain ⟨m, hm⟩ : ∃ m, 9 - j = m + 1 := ⟨8 - j, by omega⟩
            rw [hm] at hgo
            unfold Ps.listGo at hgo
            rw [if_pos HE.out, HX.out] at hgo
            simp only at hgo
            rw [if_neg (by simp [HE2.out])] at hgo
            rw [← hgo]
            have q1 : (ks ++ [x]).length = ks.length + 1 := by simp
            exact ⟨_, rfl, by rw [q1]; exact H5.out.1, H5.out.2.1, H5.out.2.2⟩
      · rw [decide_eq_false he] at hok
        have HOK := Lib.hid hok
        have HE := Lib.hid he
        clear hok he
        go_wp2_with fail
        refine (HOK.out).mono ?_
        rintro e W3 ⟨rfl, rfl⟩
        dsimp only
        go_wp2_with fail
        go_ret
        have hgo := HR.out.2.2.2.2.2.1
        rw [listGo_dead HE.out] at hgo
        rw [← hgo]
        exact ⟨_, rfl, HR.out.2.2.1, HR.out.2.2.2.1, HR.out.2.2.2.2.2.2⟩

set_option maxRecDepth 100000 in
set_option maxHeartbeats 4000000 in
theorem plist_name (ht : Pc.Toks tk) (hl : tk.length ≤ 1000000) {f : Ps.F} {g : Pr.G} (hf : Pc.Sim tk f g) {Box : World → Prop} (hbox : ∀ V V', Box V → FrT PTs V V' → Box V') {bp bn : Nat}
    (hone : KnowsB Box w0 p b tk dp 149 #[.pointer (some ⟨bp, 0, none⟩), .pointer (some ⟨bn, 0, none⟩)] f) :
    ∀ (Q : Nat → Prop) (W : World) (s : Ps.St), Up Q W → PI Q w0 W p b tk dp s → Pc.Inv tk s → Box W →
      Calls Tryz.prog 64 #[.pointer (some ⟨p, 0, none⟩), .func (.func 149) #[] #[.pointer (some ⟨bp, 0, none⟩), .pointer (some ⟨bn, 0, none⟩)]] W (Lists Q w0 p b tk dp (Ps.list tk f s) W) := by
  intro Q W s hQ h hi hB
  have H := Lib.hid (And.intro ht (And.intro hl (And.intro hf (And.intro hbox hone))))
  have HI := Lib.hid (And.intro h (And.intro hi (And.intro hQ hB)))
  have hal : Below W.heap.size W (W.alloc (.cells (strCells [[41]]).toArray 9)) := (Below.refl _ _).alloc (Nat.le_refl _) _
  have hnx := pnext_calls (ts := [[41]]) (h.past hal) (Pc.inv_room hi hl) (rds_newS W [[41]] rfl) (fun k hk => by rw [hk, ← size_alloc1]; omega) (by simp)
  have hdef : Ps.list tk f s = if Ps.nextB tk [[41]] s.used = true then ([], s) else Ps.listGo tk f 8 [] s := rfl
  by_cases hn : Ps.nextB tk [[41]] s.used = true
  · rw [if_pos hn] at hdef
    rw [hdef]
    rw [hn] at hnx
    have HN := Lib.hid (And.intro hnx hal)
    clear ht hl hf hbox hone hQ h hi hB hal hnx hdef hn
    go_enter Tryz.func64, Tryz.ntmps64
    go_wp2_with fail
    refine HN.out.1.mono ?_
    rintro e W2 ⟨rfl, hb2⟩
    have H2 := Lib.hid (HN.out.2.trans (hb2.mono HN.out.2.size))
    clear hb2
    dsimp only
    go_wp2_with fail
    go_ret
    exact ⟨_, rfl, World.ownsRow_nil _ _ _ _, (HI.out.1.past H2.out).imp fun k _ hq => ⟨hq, by simp [Value.ownBlock]⟩, FrT.of H2.out⟩
  · rw [if_neg hn] at hdef
    rw [Bool.not_eq_true] at hn
    rw [hn] at hnx
    have HN := Lib.hid (And.intro hnx (And.intro hal hdef))
    obtain ⟨i0, hii, hz0, hz1, hz2⟩ := info_split info_int2
    have Hi := Lib.hid hii
    have Hz0 := Lib.hid hz0
    have Hz1 := Lib.hid hz1
    have Hz2 := Lib.hid hz2
    clear hii hz0 hz1 hz2
    clear ht hl hf hbox hone hQ h hi hB hal hnx hdef hn
    go_enter Tryz.func64, Tryz.ntmps64
    go_wp2_with fail
    refine HN.out.1.mono ?_
    rintro e W2 ⟨rfl, hb2⟩
    have H2 := Lib.hid (HN.out.2.1.trans (hb2.mono HN.out.2.1.size))
    clear hb2
    dsimp only
    go_wp2_with fail
    go_loopg [5, 6] 8 (fun k v5 v6 wr => ListRel Q w0 W p b tk dp f s k v5 v6 wr)
    case atStart => exact ⟨[], none, 0, 1, s, rfl, rfl, Nat.le_refl _, by omega, rfl, by simp, World.ownsRow_nil _ _ _ _, (HI.out.1.past H2.out).imp fun k _ hq => ⟨hq, by simp [Value.ownBlock]⟩, HI.out.2.1, HN.out.2.2.symm, FrT.of H2.out⟩
    case round =>
      obtain ⟨ks, a, c, j, s1, rfl, rfl, hj1, hj9, hk, hkl, hown, hp, hin, hgo, hfr⟩ := hrel
      have hj1' : (1 : Int) ≤ (j : Int) := by omega
      have hj9' : (j : Int) ≤ 9 := by omega
      have hok := pok_calls hp
      have HR := Lib.hid (And.intro hk (And.intro hkl (And.intro hown (And.intro hp (And.intro hin (And.intro hgo hfr))))))
      clear hk hkl hown hp hin hgo hfr
      by_cases he : s1.e = 0
      · rw [decide_eq_true he] at hok
        have HOK := Lib.hid hok
        have HE := Lib.hid he
        clear hok he
        by_cases hj : j = 9
        · subst hj
          go_wp2_with fail
          refine (HOK.out).mono ?_
          rintro e W3 ⟨rfl, rfl⟩
          dsimp only
          go_wp2_with fail
          refine (pfail_calls HR.out.2.2.2.1 (Pc.inv_room HR.out.2.2.2.2.1 H.out.2.1) 15).mono ?_
          rintro e W4 ⟨rfl, h4, g4⟩
          have H4 := Lib.hid (And.intro h4 g4)
          clear h4 g4
          dsimp only
          go_wp2_with fail
          go_ret
          have hgo := HR.out.2.2.2.2.2.1
          have e1 : Ps.listGo tk f (9 - 9) ks s1 = (ks, Ps.fail tk 15 s1) := rfl
          rw [e1] at hgo
          rw [← hgo]
          exact ⟨_, rfl, ownsRow_frt HR.out.2.2.1 H4.out.2 (by decide), H4.out.1, HR.out.2.2.2.2.2.2.trans H4.out.2⟩
        · have hj8 : (j : Int) ≤ 8 := by omega
          have HJ := Lib.hid hj
          clear hj
          go_wp2_with fail
          refine (HOK.out).mono ?_
          rintro e W3 ⟨rfl, rfl⟩
          dsimp only
          go_wp2_with fail
          refine (H.out.2.2.2.2 _ _ _ (Off.up (HI.out.2.2.1.frt HR.out.2.2.2.2.2.2) HR.out.2.2.1) HR.out.2.2.2.1 HR.out.2.2.2.2.1 (H.out.2.2.2.1 _ _ HI.out.2.2.2 HR.out.2.2.2.2.2.2)).mono ?_
          rintro e W4 ⟨rfl, h4, g4⟩
          have hi4 := ((Pc.Og.nil HR.out.2.2.2.2.1).then H.out.2.2.1).inv
          have ho4 := ownsRow_frt HR.out.2.2.1 g4 (by decide)
          have H4 := Lib.hid (And.intro h4 (And.intro (HR.out.2.2.2.2.2.2.trans g4) (And.intro hi4 ho4)))
          clear h4 g4 hi4 ho4
          obtain ⟨⟨x, s2⟩, hx⟩ : ∃ r, f s1 = r := ⟨_, rfl⟩
          rw [hx] at H4 ⊢
          have HX := Lib.hid hx
          clear hx
          dsimp only at H4 ⊢
          go_wp2_with (at_builtin; refine wpList_append_row rfl _ _ 41 rfl W.heap.size 3 i0 (.int .i64 0) 1 8 Tryz.underlying41 Hi.out Hz0.out Hz1.out Hz2.out rfl (by decide) _ ks.length (intCells ks) rfl (H4.out.2.2.2.alloc _) rfl (rds_new W4 [x] rfl) (ints_one _) (by have := HR.out.2.1; unfold maxLen; simp; omega) (by have := HR.out.2.1; simp; omega) (Nat.le_trans H4.out.2.1.size (Nat.le_of_lt (by rw [← size_alloc1]; omega))) ?_)
          intro a5 c5 W5 ho5 hg5 hat5
          have hal : Below W4.heap.size W4 (W4.alloc (.cells (intCells [x]).toArray 3)) := (Below.refl _ _).alloc (Nat.le_refl _) _
          have hp5 := (H4.out.1.past hal).appended (H4.out.2.2.2.alloc _) HI.out.1.below.size hg5 (v3 := .slice a5 (ks.length + 1) c5) (by rw [← size_alloc1]; exact hat5)
          have hf5 : FrT PTs W W5 := (H4.out.2.1.trans (FrT.of hal)).grown hg5 (fun k hk => (H4.out.2.2.2.lt k hk).1)
          have hks : intCells ks ++ intCells [x] = intCells (ks ++ [x]) := by simp [intCells]
          rw [hks] at ho5
          have H5 := Lib.hid (And.intro ho5 (And.intro hp5 hf5))
          have hok5 := pok_calls hp5
          clear ho5 hg5 hat5 hal hp5 hf5 hks
          by_cases he2 : s2.e = 0
          · rw [decide_eq_true he2] at hok5
            have HOK5 := Lib.hid hok5
            have HE2 := Lib.hid he2
            clear hok5 he2
            have hal2 : Below W5.heap.size W5 (W5.alloc (.cells (strCells [[44]]).toArray 9)) := (Below.refl _ _).alloc (Nat.le_refl _) _
            have hnx2 := pnext_calls (ts := [[44]]) (H5.out.2.1.past hal2) (Pc.inv_room H4.out.2.2.1 H.out.2.1) (rds_newS W5 [[44]] rfl) (fun k hk => by rw [hk, ← size_alloc1]; omega) (by simp)
            by_cases hn2 : Ps.nextB tk [[44]] s2.used = true
            · rw [hn2] at hnx2
              have HN2 := Lib.hid (And.intro hnx2 (And.intro hal2 hn2))
              clear hnx2 hal2 hn2
              go_wp2_with fail
              refine (HOK5.out).mono ?_
              rintro e W6 ⟨rfl, rfl⟩
              dsimp only
              go_wp2_with fail
              refine HN2.out.1.mono ?_
              rintro e W7 ⟨rfl, hb7⟩
              have H7 := Lib.hid (HN2.out.2.1.trans (hb7.mono HN2.out.2.1.size))
              have d0 := (H5.out.2.1.past H7.out).c0
              clear hb7
              dsimp only
              go_wp2_with fail
              refine (pleaf_calls (H5.out.2.1.past H7.out) (Pc.inv_room H4.out.2.2.1 H.out.2.1)).mono ?_
              rintro e W8 ⟨rfl, h8, g8⟩
              have hi8 := ((Pc.Og.nil H4.out.2.2.1).leaf H.out.1 HE2.out (Pc.next_kind HN2.out.2.2)).1.inv
              have g58 := (FrT.of H7.out).trans g8
              have H8 := Lib.hid (And.intro h8 (And.intro (H5.out.2.2.trans g58) (And.intro hi8 (ownsRow_frt H5.out.1 g58 (by decide)))))
              clear h8 g8 hi8 g58 d0
              dsimp only
              obtain ⟨⟨y, s3⟩, hy⟩ : ∃ r, Ps.leaf tk s2 = r := ⟨_, rfl⟩
              rw [hy] at H8 ⊢
              have HY := Lib.hid hy
              clear hy
              dsimp only at H8 ⊢
              go_wp2_with (at_builtin; refine wpList_append_row rfl _ _ 41 rfl W.heap.size 3 i0 (.int .i64 0) 1 8 Tryz.underlying41 Hi.out Hz0.out Hz1.out Hz2.out rfl (by decide) _ _ (intCells (ks ++ [x])) rfl (H8.out.2.2.2.alloc _) rfl (rds_new W8 [y] rfl) (ints_one _) (by have := HR.out.2.1; unfold maxLen; simp; omega) (by have := HR.out.2.1; simp; omega) (Nat.le_trans H8.out.2.1.size (Nat.le_of_lt (by rw [← size_alloc1]; omega))) ?_)
              intro a9 c9 W9 ho9 hg9 hat9
              have hal9 : Below W8.heap.size W8 (W8.alloc (.cells (intCells [y]).toArray 3)) := (Below.refl _ _).alloc (Nat.le_refl _) _
              have hp9 := (H8.out.1.past hal9).appended (H8.out.2.2.2.alloc _) HI.out.1.below.size hg9 (v3 := .slice a9 (ks.length + 1 + 1) c9) (by rw [← size_alloc1]; exact hat9)
              have hf9 : FrT PTs W W9 := (H8.out.2.1.trans (FrT.of hal9)).grown hg9 (fun k hk => (H8.out.2.2.2.lt k hk).1)
              have hks : intCells (ks ++ [x]) ++ intCells [y] = intCells (ks ++ [x, y]) := by simp [intCells]
              rw [hks] at ho9
              have H9 := Lib.hid (And.intro ho9 (And.intro hp9 hf9))
              clear ho9 hg9 hat9 hal9 hp9 hf9 hks
              go_wp2_with fail
              go_roundg (9 - (j + 1))
              case measure => have := HR.out.1; have := HJ.out; omega
              case rel =>
                have hgo := HR.out.2.2.2.2.2.1
                have hj := HJ.out
                obtain ⟨m, hm⟩ : ∃ m, 9 - j = m + 1 := ⟨8 - j, by omega⟩
                have e9 : 9 - (j + 1) = m := by omega
                rw [hm] at hgo
                unfold Ps.listGo at hgo
                rw [if_pos HE.out, HX.out] at hgo
                simp only at hgo
                rw [if_pos ⟨HE2.out, HN2.out.2.2⟩, HY.out] at hgo
                have q1 : (ks ++ [x, y]).length = ks.length + 1 + 1 := by simp
                refine ⟨ks ++ [x, y], a9, c9, j + 1, s3, by rw [q1], by go_num, by omega, by omega, rfl, by have := HR.out.2.1; simp; omega, by rw [q1]; exact H9.out.1, by rw [q1]; exact H9.out.2.1, H8.out.2.2.1, by rw [e9]; exact hgo, H9.out.2.2⟩
            · rw [Bool.not_eq_true] at hn2
              rw [hn2] at hnx2
              have HN2 := Lib.hid (And.intro hnx2 (And.intro hal2 hn2))
              clear hnx2 hal2 hn2
              go_wp2_with fail
              refine (HOK5.out).mono ?_
              rintro e W6 ⟨rfl, rfl⟩
              dsimp only
              go_wp2_with fail
              refine HN2.out.1.mono ?_
              rintro e W7 ⟨rfl, hb7⟩
              have H7 := Lib.hid (HN2.out.2.1.trans (hb7.mono HN2.out.2.1.size))
              clear hb7
              dsimp only
              go_wp2_with fail
              go_ret
              have hgo := HR.out.2.2.2.2.2.1
              have hj := HJ.out
              obtain ⟨m, hm⟩ : ∃ m, 9 - j = m + 1 := ⟨8 - j, by omega⟩
              rw [hm] at hgo
              unfold Ps.listGo at hgo
              rw [if_pos HE.out, HX.out] at hgo
              simp only at hgo
              rw [if_neg (by rw [HN2.out.2.2]; simp)] at hgo
              rw [← hgo]
              have q1 : (ks ++ [x]).length = ks.length + 1 := by simp
              exact ⟨_, rfl, by rw [q1]; exact ownsRow_below H5.out.1 H7.out, H5.out.2.1.past H7.out, H5.out.2.2.trans (FrT.of H7.out)⟩
          · rw [decide_eq_false he2] at hok5
            have HOK5 := Lib.hid hok5
            have HE2 := Lib.hid he2
            clear hok5 he2
            go_wp2_with fail
            refine (HOK5.out).mono ?_
            rintro e W6 ⟨rfl, rfl⟩
            dsimp only
            go_wp2_with fail
            go_ret
            have hgo := HR.out.2.2.2.2.2.1
            have hj := HJ.out
            obtain ⟨m, hm⟩ : ∃ m, 9 - j = m + 1 := ⟨8 - j, by omega⟩
            rw [hm] at hgo
            unfold Ps.listGo at hgo
            rw [if_pos HE.out, HX.out] at hgo
            simp only at hgo
            rw [if_neg (by simp [HE2.out])] at hgo
            rw [← hgo]
            have q1 : (ks ++ [x]).length = ks.length + 1 := by simp
            exact ⟨_, rfl, by rw [q1]; exact H5.out.1, H5.out.2.1, H5.out.2.2⟩
      · rw [decide_eq_false he] at hok
        have HOK := Lib.hid hok
        have HE := Lib.hid he
        clear hok he
        go_wp2_with fail
        refine (HOK.out).mono ?_
        rintro e W3 ⟨rfl, rfl⟩
        dsimp only
        go_wp2_with fail
        go_ret
        have hgo := HR.out.2.2.2.2.2.1
        rw [listGo_dead HE.out] at hgo
        rw [← hgo]
        exact ⟨_, rfl, HR.out.2.2.1, HR.out.2.2.2.1, HR.out.2.2.2.2.2.2⟩
end
end Go.Proofs.YtpkhdlnlkeehhaaGreatDoor
