/- Contracts and plain laws, in one text. parse: a level's signs; parts and rows; unary; negation, factor: the walks. | parse: unary, factor, negation, formula: the walks. | append(own row, slice...): the slice may be of none. | append(own row, slice...) in a plain region: the slice may be of none. | parse: list: the walk, at each of the functions that it is handed. | parse: atom: the walk. | parse: expression: the walk. | parse: name: the walk. | Appends onto a row of kids of the call's own. -/
import Derived.Test.YtpkhdlnlkeehhaaGreatDoorPdpM3
import Derived.Test.YtpkhdlnlkeehhaaGreatDoorPdpM1
import Derived.Deep.Upon
import Derived.Deep.AppendLies
import Derived.Deep.RegionHeld3
/- parse: a level's signs; parts and rows; unary; negation, factor: the walks. -/
namespace Go.Proofs.YtpkhdlnlkeehhaaGreatDoor
open Go.RowKit

theorem rds_newS (w : World) (l : List (List UInt8)) {r : Nat} (hr : r = w.heap.size) : RdS (w.alloc (.cells (strCells l).toArray 9)) (fun k => k = w.heap.size) 1 (.slice (some ⟨r, 0, none⟩) l.length l.length) l.length (strCells l) := by
  subst hr
  refine ⟨by simp [strCells], _, _, rfl, Nat.le_refl _, Or.inr ⟨_, _, rfl, Or.inr rfl, ?_⟩⟩
  intro j v hj
  rw [Nat.zero_add]
  exact cell_of_heap (new_at _ _ _ rfl) j (by simpa using hj)
def SignsSay (ts : List (List UInt8)) (W : World) (e : Ending) (W' : World) : Prop := ∃ v, e = .returned v ∧ RdS W' (fun k => W.heap.size ≤ k ∧ k < W'.heap.size) 1 v ts.length (strCells ts) ∧ Below W.heap.size W W'
theorem signs_say (W : World) (l : List (List UInt8)) : SignsSay l W (.returned (.slice (some ⟨W.heap.size, 0, none⟩) l.length l.length)) (W.alloc (.cells (strCells l).toArray 9)) :=
  ⟨_, rfl, (rds_newS W l rfl).imp fun k hk => ⟨by omega, by rw [hk, ← size_alloc1]; omega⟩, (Below.refl _ _).alloc (Nat.le_refl _) _⟩
theorem signs0_calls (W : World) : Calls Tryz.prog 116 #[.int .i64 0] W (SignsSay Ps.sOr W) := by
  go_enter Tryz.func116, Tryz.ntmps116
  go_wp2
  go_ret
  exact signs_say W Ps.sOr
theorem signs1_calls (W : World) : Calls Tryz.prog 116 #[.int .i64 1] W (SignsSay Ps.sAnd W) := by
  go_enter Tryz.func116, Tryz.ntmps116
  go_wp2
  go_ret
  exact signs_say W Ps.sAnd
theorem signs2_calls (W : World) : Calls Tryz.prog 116 #[.int .i64 2] W (SignsSay Ps.sCmp W) := by
  go_enter Tryz.func116, Tryz.ntmps116
  go_wp2
  go_ret
  exact signs_say W Ps.sCmp
theorem signs3_calls (W : World) : Calls Tryz.prog 116 #[.int .i64 3] W (SignsSay Ps.sSum W) := by
  go_enter Tryz.func116, Tryz.ntmps116
  go_wp2
  go_ret
  exact signs_say W Ps.sSum
theorem signs4_calls (W : World) : Calls Tryz.prog 116 #[.int .i64 4] W (SignsSay Ps.sMul W) := by
  go_enter Tryz.func116, Tryz.ntmps116
  go_wp2
  go_ret
  exact signs_say W Ps.sMul

section
variable {w0 : World} {p b : Nat} {tk : List Tr.Tk} {dp : Int}
/-- What is known of a function of the parser's: at any state, in any world. -/
def Knows (w0 : World) (p b : Nat) (tk : List Tr.Tk) (dp : Int) (k : FuncId) (args : Array Value) (f : Ps.F) : Prop :=
  ∀ (Q : Nat → Prop) (W : World) (s : Ps.St), Up Q W → PI Q w0 W p b tk dp s → Pc.Inv tk s → Calls Tryz.prog k args W (Does Q w0 p b tk dp (f s) W)

set_option maxRecDepth 100000 in
set_option maxHeartbeats 2000000 in
theorem prow_calls (ht : Pc.Toks tk) (hl : tk.length ≤ 1000000) {lv : Int} (hlv : (lv == 2) = false) {ts : List (List UInt8)} (hts : ts.length ≤ 1000) (hsg : ∀ W, Calls Tryz.prog 116 #[.int .i64 lv] W (SignsSay ts W)) {n : Int} {f : Ps.F} {g : Pr.G} (hf : Pc.Sim tk f g)
    (hpart : Knows w0 p b tk dp 115 #[.pointer (some ⟨p, 0, none⟩), .int .i64 lv, .int .i64 n] f) :
    Knows w0 p b tk dp 98 #[.pointer (some ⟨p, 0, none⟩), .int .i64 lv, .int .i64 n] (Ps.row tk f ts false) := by
  intro Q W s hQ h hi
  have H := Lib.hid (And.intro ht (And.intro hl (And.intro hts (And.intro hsg (And.intro hf hpart)))))
  have HI := Lib.hid (And.intro h (And.intro hi hQ))
  have HO := Lib.hid ((Pc.Og.nil hi).then hf)
  clear ht hl hts hsg hf hpart h hi hQ
  go_enter Tryz.func98, Tryz.ntmps98
  go_wp2_with fail
  refine (H.out.2.2.2.2.2 Q W s HI.out.2.2 HI.out.1 HI.out.2.1).mono ?_
  rintro e W1 ⟨rfl, h1, h2⟩
  have H1 := Lib.hid (And.intro h1 (h2))
  clear h1 h2
  dsimp only
  go_wp2_with fail
  go_loopg [7] tk.length (fun k v7 wr => ∃ (a : Int) (s1 : Ps.St), v7 = .int .i64 a ∧ PI Q w0 wr p b tk dp s1 ∧ Pc.Og tk s1 [a] ∧ (s1.e = 0 → tk.length ≤ k + s1.used) ∧ Ps.rowGo tk f ts false k a s1 = Ps.row tk f ts false s ∧ FrT PTs W wr)
  case atStart => exact ⟨_, _, rfl, H1.out.1, HO.out, fun _ => Nat.le_add_right _ _, rfl, H1.out.2⟩
  case round =>
    obtain ⟨a, s1, rfl, hp, hog, hfu, hgo, hfr⟩ := hrel
    have HR := Lib.hid (And.intro hp (And.intro hog (And.intro hfu (And.intro hgo hfr))))
    have hok := pok_calls hp
    by_cases he : s1.e = 0
    · rw [decide_eq_true he] at hok
      have HOK := Lib.hid hok
      have HE := Lib.hid he
      clear hp hog hfu hgo hfr hok he
      by_cases hn : Ps.nextB tk ts s1.used = true
      · have HN := Lib.hid hn
        clear hn
        go_wp2_with fail
        refine (HOK.out).mono ?_
        rintro e W2 ⟨rfl, rfl⟩
        dsimp only
        go_wp2_with fail
        refine (H.out.2.2.2.1 _).mono ?_
        rintro e W3 ⟨v3, rfl, hr3, hb3⟩
        obtain ⟨a3, c3, rfl⟩ := hr3.form
        have hnx := pnext_calls (HR.out.1.past hb3) (Pc.inv_room HR.out.2.1.inv H.out.2.1) hr3 (fun k hk => hk.2) H.out.2.2.1
        rw [HN.out] at hnx
        have HNX := Lib.hid hnx
        have H3 := Lib.hid hb3
        clear hr3 hb3 hnx
        dsimp only
        go_wp2_with fail
        refine HNX.out.mono ?_
        rintro e W4 ⟨rfl, hb4⟩
        have H4 := Lib.hid (H3.out.trans (hb4.mono H3.out.size))
        have c0 := (HR.out.1.past H4.out).c0
        clear hb4
        dsimp only
        go_wp2_with fail
        refine (pleaf_calls (HR.out.1.past H4.out) (Pc.inv_room HR.out.2.1.inv H.out.2.1)).mono ?_
        rintro e W5 ⟨rfl, h5, g5⟩
        have hol := HR.out.2.1.leaf H.out.1 HE.out (Pc.next_kind HN.out)
        have H5 := Lib.hid (And.intro h5 (And.intro ((FrT.of H4.out).trans g5) hol))
        clear h5 g5 hol c0
        dsimp only
        go_wp2_with fail
        refine (H.out.2.2.2.2.2 Q _ _ (HI.out.2.2.frt (HR.out.2.2.2.2.trans H5.out.2.1)) H5.out.1 H5.out.2.2.1.inv).mono ?_
        rintro e W6 ⟨rfl, h6, g6⟩
        have hon := ((H5.out.2.2.1.then H.out.2.2.2.2.1).node (k := 10) (by decide) (fun _ => by simp))
        have H6 := Lib.hid (And.intro h6 (And.intro (H5.out.2.1.trans g6) hon))
        clear h6 g6 hon
        dsimp only
        go_wp2_with fail
        have hal : Below W6.heap.size W6 (W6.alloc (.cells (intCells [a, (Ps.leaf tk s1).1, (f (Ps.leaf tk s1).2).1]).toArray 3)) := (Below.refl _ _).alloc (Nat.le_refl _) _
        refine (pnode_calls (l := [a, (Ps.leaf tk s1).1, (f (Ps.leaf tk s1).2).1]) (H6.out.1.past hal) (Pc.inv_room (H5.out.2.2.1.then H.out.2.2.2.2.1).inv H.out.2.1) (rds_new W6 _ rfl) (fun k hk => by rw [hk, ← size_alloc1]; omega) (by simp) (HI.out.2.2.frt ((HR.out.2.2.2.2.trans H6.out.2.1).trans (FrT.of hal))) 10).mono ?_
        rintro e W7 ⟨rfl, h7, g7⟩
        have H7 := Lib.hid (And.intro h7 (H6.out.2.1.trans ((FrT.of hal).trans g7)))
        clear h7 g7 hal
        dsimp only
        go_wp2_with fail
        obtain ⟨m, hm⟩ : ∃ m, gk = m + 1 := ⟨gk - 1, by have q1 := HR.out.2.2.1 HE.out; have q2 := HR.out.2.1.inv.1; omega⟩
        go_roundg m
        case measure => omega
        case rel =>
          have hgo := HR.out.2.2.2.1
          rw [hm] at hgo
          unfold Ps.rowGo at hgo
          rw [if_pos ⟨HE.out, HN.out⟩, if_neg (by simp)] at hgo
          refine ⟨_, _, rfl, H7.out.1, H6.out.2.2, fun he7 => ?_, hgo, HR.out.2.2.2.2.trans H7.out.2⟩
          have q1 := HR.out.2.2.1 HE.out
          have q2 := Pc.leaf_used HR.out.2.1.inv
          have q3 : (f (Ps.leaf tk s1).2).2.e = 0 := by
            by_cases h0 : (f (Ps.leaf tk s1).2).2.e = 0
            · exact h0
            · rw [Pc.node_dead h0] at he7
              exact absurd he7 h0
          have q4 := Pc.SimL.used H.out.2.2.2.2.1 H5.out.2.2.1.inv H5.out.2.2.2 q3
          have q5 := Pc.node_used 10 [a, (Ps.leaf tk s1).1, (f (Ps.leaf tk s1).2).1] (f (Ps.leaf tk s1).2).2
          rw [q5]
          simp only [Pc.lift] at q4
          omega
      · rw [Bool.not_eq_true] at hn
        have HN := Lib.hid hn
        clear hn
        go_wp2_with fail
        refine (HOK.out).mono ?_
        rintro e W2 ⟨rfl, rfl⟩
        dsimp only
        go_wp2_with fail
        refine (H.out.2.2.2.1 _).mono ?_
        rintro e W3 ⟨v3, rfl, hr3, hb3⟩
        obtain ⟨a3, c3, rfl⟩ := hr3.form
        have hnx := pnext_calls (HR.out.1.past hb3) (Pc.inv_room HR.out.2.1.inv H.out.2.1) hr3 (fun k hk => hk.2) H.out.2.2.1
        rw [HN.out] at hnx
        have HNX := Lib.hid hnx
        have H3 := Lib.hid hb3
        clear hr3 hb3 hnx
        dsimp only
        go_wp2_with fail
        refine HNX.out.mono ?_
        rintro e W4 ⟨rfl, hb4⟩
        have H4 := Lib.hid (H3.out.trans (hb4.mono H3.out.size))
        clear hb4
        dsimp only
        go_wp2_with fail
        go_ret
        have hgo := HR.out.2.2.2.1
        have e1 : ∀ m, Ps.rowGo tk f ts false m a s1 = (a, s1) := by
          intro m
          cases m with
          | zero => rfl
          | succ m => unfold Ps.rowGo; rw [if_neg (by rw [HN.out]; simp)]
        rw [e1] at hgo
        rw [← hgo]
        exact ⟨rfl, HR.out.1.past H4.out, HR.out.2.2.2.2.trans (FrT.of H4.out)⟩
    · rw [decide_eq_false he] at hok
      have HOK := Lib.hid hok
      have HE := Lib.hid he
      clear hp hog hfu hgo hfr hok he
      go_wp2_with fail
      refine (HOK.out).mono ?_
      rintro e W2 ⟨rfl, rfl⟩
      dsimp only
      go_wp2_with fail
      go_ret
      have hgo := HR.out.2.2.2.1
      have e1 : ∀ m, Ps.rowGo tk f ts false m a s1 = (a, s1) := by
        intro m
        cases m with
        | zero => rfl
        | succ m => unfold Ps.rowGo; rw [if_neg (by simp [HE.out])]
      rw [e1] at hgo
      rw [← hgo]
      exact ⟨rfl, HR.out.1, HR.out.2.2.2.2⟩

set_option maxRecDepth 100000 in
set_option maxHeartbeats 2000000 in
theorem prow_once (ht : Pc.Toks tk) (hl : tk.length ≤ 1000000) {ts : List (List UInt8)} (hts : ts.length ≤ 1000) (hsg : ∀ W, Calls Tryz.prog 116 #[.int .i64 2] W (SignsSay ts W)) {n : Int} {f : Ps.F} {g : Pr.G} (hf : Pc.Sim tk f g)
    (hpart : Knows w0 p b tk dp 115 #[.pointer (some ⟨p, 0, none⟩), .int .i64 2, .int .i64 n] f) :
    Knows w0 p b tk dp 98 #[.pointer (some ⟨p, 0, none⟩), .int .i64 2, .int .i64 n] (Ps.row tk f ts true) := by
  intro Q W s hQ h hi
  have H := Lib.hid (And.intro ht (And.intro hl (And.intro hts (And.intro hsg (And.intro hf hpart)))))
  have HI := Lib.hid (And.intro h (And.intro hi hQ))
  have HO := Lib.hid ((Pc.Og.nil hi).then hf)
  clear ht hl hts hsg hf hpart h hi hQ
  go_enter Tryz.func98, Tryz.ntmps98
  go_wp2_with fail
  refine (H.out.2.2.2.2.2 Q W s HI.out.2.2 HI.out.1 HI.out.2.1).mono ?_
  rintro e W1 ⟨rfl, h1, h2⟩
  have H1 := Lib.hid (And.intro h1 (h2))
  clear h1 h2
  dsimp only
  go_wp2_with fail
  go_loopg [7] tk.length (fun k v7 wr => ∃ (a : Int) (s1 : Ps.St), v7 = .int .i64 a ∧ PI Q w0 wr p b tk dp s1 ∧ Pc.Og tk s1 [a] ∧ (s1.e = 0 → tk.length ≤ k + s1.used) ∧ Ps.rowGo tk f ts true k a s1 = Ps.row tk f ts true s ∧ FrT PTs W wr)
  case atStart => exact ⟨_, _, rfl, H1.out.1, HO.out, fun _ => Nat.le_add_right _ _, rfl, H1.out.2⟩
  case round =>
    obtain ⟨a, s1, rfl, hp, hog, hfu, hgo, hfr⟩ := hrel
    have HR := Lib.hid (And.intro hp (And.intro hog (And.intro hfu (And.intro hgo hfr))))
    have hok := pok_calls hp
    by_cases he : s1.e = 0
    · rw [decide_eq_true he] at hok
      have HOK := Lib.hid hok
      have HE := Lib.hid he
      clear hp hog hfu hgo hfr hok he
      by_cases hn : Ps.nextB tk ts s1.used = true
      · have HN := Lib.hid hn
        clear hn
        go_wp2_with fail
        refine (HOK.out).mono ?_
        rintro e W2 ⟨rfl, rfl⟩
        dsimp only
        go_wp2_with fail
        refine (H.out.2.2.2.1 _).mono ?_
        rintro e W3 ⟨v3, rfl, hr3, hb3⟩
        obtain ⟨a3, c3, rfl⟩ := hr3.form
        have hnx := pnext_calls (HR.out.1.past hb3) (Pc.inv_room HR.out.2.1.inv H.out.2.1) hr3 (fun k hk => hk.2) H.out.2.2.1
        rw [HN.out] at hnx
        have HNX := Lib.hid hnx
        have H3 := Lib.hid hb3
        clear hr3 hb3 hnx
        dsimp only
        go_wp2_with fail
        refine HNX.out.mono ?_
        rintro e W4 ⟨rfl, hb4⟩
        have H4 := Lib.hid (H3.out.trans (hb4.mono H3.out.size))
        have c0 := (HR.out.1.past H4.out).c0
        clear hb4
        dsimp only
        go_wp2_with fail
        refine (pleaf_calls (HR.out.1.past H4.out) (Pc.inv_room HR.out.2.1.inv H.out.2.1)).mono ?_
        rintro e W5 ⟨rfl, h5, g5⟩
        have hol := HR.out.2.1.leaf H.out.1 HE.out (Pc.next_kind HN.out)
        have H5 := Lib.hid (And.intro h5 (And.intro ((FrT.of H4.out).trans g5) hol))
        clear h5 g5 hol c0
        dsimp only
        go_wp2_with fail
        refine (H.out.2.2.2.2.2 Q _ _ (HI.out.2.2.frt (HR.out.2.2.2.2.trans H5.out.2.1)) H5.out.1 H5.out.2.2.1.inv).mono ?_
        rintro e W6 ⟨rfl, h6, g6⟩
        have hon := ((H5.out.2.2.1.then H.out.2.2.2.2.1).node (k := 10) (by decide) (fun _ => by simp))
        have H6 := Lib.hid (And.intro h6 (And.intro (H5.out.2.1.trans g6) hon))
        clear h6 g6 hon
        dsimp only
        go_wp2_with fail
        have hal : Below W6.heap.size W6 (W6.alloc (.cells (intCells [a, (Ps.leaf tk s1).1, (f (Ps.leaf tk s1).2).1]).toArray 3)) := (Below.refl _ _).alloc (Nat.le_refl _) _
        refine (pnode_calls (l := [a, (Ps.leaf tk s1).1, (f (Ps.leaf tk s1).2).1]) (H6.out.1.past hal) (Pc.inv_room (H5.out.2.2.1.then H.out.2.2.2.2.1).inv H.out.2.1) (rds_new W6 _ rfl) (fun k hk => by rw [hk, ← size_alloc1]; omega) (by simp) (HI.out.2.2.frt ((HR.out.2.2.2.2.trans H6.out.2.1).trans (FrT.of hal))) 10).mono ?_
        rintro e W7 ⟨rfl, h7, g7⟩
        have H7 := Lib.hid (And.intro h7 (H6.out.2.1.trans ((FrT.of hal).trans g7)))
        clear h7 g7 hal
        dsimp only
        go_wp2_with fail
        go_ret
        obtain ⟨m, hm⟩ : ∃ m, gk = m + 1 := ⟨gk - 1, by have q1 := HR.out.2.2.1 HE.out; have q2 := HR.out.2.1.inv.1; omega⟩
        have hgo := HR.out.2.2.2.1
        rw [hm] at hgo
        unfold Ps.rowGo at hgo
        rw [if_pos ⟨HE.out, HN.out⟩, if_pos rfl] at hgo
        rw [← hgo]
        exact ⟨rfl, H7.out.1, HR.out.2.2.2.2.trans H7.out.2⟩
      · rw [Bool.not_eq_true] at hn
        have HN := Lib.hid hn
        clear hn
        go_wp2_with fail
        refine (HOK.out).mono ?_
        rintro e W2 ⟨rfl, rfl⟩
        dsimp only
        go_wp2_with fail
        refine (H.out.2.2.2.1 _).mono ?_
        rintro e W3 ⟨v3, rfl, hr3, hb3⟩
        obtain ⟨a3, c3, rfl⟩ := hr3.form
        have hnx := pnext_calls (HR.out.1.past hb3) (Pc.inv_room HR.out.2.1.inv H.out.2.1) hr3 (fun k hk => hk.2) H.out.2.2.1
        rw [HN.out] at hnx
        have HNX := Lib.hid hnx
        have H3 := Lib.hid hb3
        clear hr3 hb3 hnx
        dsimp only
        go_wp2_with fail
        refine HNX.out.mono ?_
        rintro e W4 ⟨rfl, hb4⟩
        have H4 := Lib.hid (H3.out.trans (hb4.mono H3.out.size))
        clear hb4
        dsimp only
        go_wp2_with fail
        go_ret
        have hgo := HR.out.2.2.2.1
        have e1 : ∀ m, Ps.rowGo tk f ts true m a s1 = (a, s1) := by
          intro m
          cases m with
          | zero => rfl
          | succ m => unfold Ps.rowGo; rw [if_neg (by rw [HN.out]; simp)]
        rw [e1] at hgo
        rw [← hgo]
        exact ⟨rfl, HR.out.1.past H4.out, HR.out.2.2.2.2.trans (FrT.of H4.out)⟩
    · rw [decide_eq_false he] at hok
      have HOK := Lib.hid hok
      have HE := Lib.hid he
      clear hp hog hfu hgo hfr hok he
      go_wp2_with fail
      refine (HOK.out).mono ?_
      rintro e W2 ⟨rfl, rfl⟩
      dsimp only
      go_wp2_with fail
      go_ret
      have hgo := HR.out.2.2.2.1
      have e1 : ∀ m, Ps.rowGo tk f ts true m a s1 = (a, s1) := by
        intro m
        cases m with
        | zero => rfl
        | succ m => unfold Ps.rowGo; rw [if_neg (by simp [HE.out])]
      rw [e1] at hgo
      rw [← hgo]
      exact ⟨rfl, HR.out.1, HR.out.2.2.2.2⟩

/-- A part that is a row of the next level. -/
theorem ppart_row {lv : Int} (h1 : (lv == 1) = false) (h4 : (lv == 4) = false) (hb : 0 ≤ lv ∧ lv ≤ 3) {n : Int} {f : Ps.F} (hr : Knows w0 p b tk dp 98 #[.pointer (some ⟨p, 0, none⟩), .int .i64 (lv + 1), .int .i64 n] f) :
    Knows w0 p b tk dp 115 #[.pointer (some ⟨p, 0, none⟩), .int .i64 lv, .int .i64 n] f := by
  intro Q W s hQ h hi
  obtain ⟨b1, b2⟩ := hb
  have HC := Lib.hid (hr Q W s hQ h hi)
  clear h hi hr hQ
  go_enter Tryz.func115, Tryz.ntmps115
  go_wp2_with fail
  refine (HC.out).mono ?_
  rintro e W1 ⟨rfl, h1, h2⟩
  have H1 := Lib.hid (And.intro h1 (h2))
  clear h1 h2
  dsimp only
  go_wp2_with fail
  go_ret
  exact ⟨rfl, H1.out.1, H1.out.2⟩
theorem ppart_neg {n : Int} {f : Ps.F} (hr : Knows w0 p b tk dp 132 #[.pointer (some ⟨p, 0, none⟩), .int .i64 n] f) :
    Knows w0 p b tk dp 115 #[.pointer (some ⟨p, 0, none⟩), .int .i64 1, .int .i64 n] f := by
  intro Q W s hQ h hi
  have HC := Lib.hid (hr Q W s hQ h hi)
  clear h hi hr hQ
  go_enter Tryz.func115, Tryz.ntmps115
  go_wp2_with fail
  refine (HC.out).mono ?_
  rintro e W1 ⟨rfl, h1, h2⟩
  have H1 := Lib.hid (And.intro h1 (h2))
  clear h1 h2
  dsimp only
  go_wp2_with fail
  go_ret
  exact ⟨rfl, H1.out.1, H1.out.2⟩
theorem ppart_fac {n : Int} {f : Ps.F} (hr : Knows w0 p b tk dp 133 #[.pointer (some ⟨p, 0, none⟩), .int .i64 n] f) :
    Knows w0 p b tk dp 115 #[.pointer (some ⟨p, 0, none⟩), .int .i64 4, .int .i64 n] f := by
  intro Q W s hQ h hi
  have HC := Lib.hid (hr Q W s hQ h hi)
  clear h hi hr hQ
  go_enter Tryz.func115, Tryz.ntmps115
  go_wp2_with fail
  refine (HC.out).mono ?_
  rintro e W1 ⟨rfl, h1, h2⟩
  have H1 := Lib.hid (And.intro h1 (h2))
  clear h1 h2
  dsimp only
  go_wp2_with fail
  go_ret
  exact ⟨rfl, H1.out.1, H1.out.2⟩
end
end Go.Proofs.YtpkhdlnlkeehhaaGreatDoor
/- parse: unary, factor, negation, formula: the walks. -/
namespace Go.Proofs.YtpkhdlnlkeehhaaGreatDoor
open Go.RowKit

section
variable {w0 : World} {p b : Nat} {tk : List Tr.Tk} {dp : Int}
set_option maxRecDepth 100000 in
set_option maxHeartbeats 2000000 in
theorem punary_fac (ht : Pc.Toks tk) (hl : tk.length ≤ 1000000) {n : Int} {d : Nat} (hn0 : 0 ≤ n) (hn1 : n ≤ 300) (hd : n + 1 + d = dp + 1) {f : Ps.F} {g : Pr.G} (hf : d ≠ 0 → Pc.Sim tk f g) (hk : d ≠ 0 → Knows w0 p b tk dp 133 #[.pointer (some ⟨p, 0, none⟩), .int .i64 (n + 1)] f)
    {Q : Nat → Prop} {W : World} {s : Ps.St} (hQ : Up Q W) (h : PI Q w0 W p b tk dp s) (hi : Pc.Inv tk s) (he : s.e = 0) (h5 : (Ps.peek tk s.used).kind ≠ 5) :
    Calls Tryz.prog 142 #[.pointer (some ⟨p, 0, none⟩), .int .i64 n, .func (.func 133) #[.pointer (some ⟨p, 0, none⟩)] #[]] W (Does Q w0 p b tk dp (Ps.unary tk d f s) W) := by
  have HI := Lib.hid (And.intro h (And.intro hi hQ))
  have HL := Lib.hid hl
  have hlf := (Pc.Og.nil hi).leaf ht he h5
  have hde := hlf.2
  have c0 := h.c0
  have HF := Lib.hid (And.intro hd (And.intro hf (And.intro hk hlf)))
  have hun : Ps.unary tk d f s = if (Ps.deep tk d (Ps.leaf tk s).2).e = 0 then Ps.node 11 [(Ps.leaf tk s).1, (f (Ps.deep tk d (Ps.leaf tk s).2)).1] (f (Ps.deep tk d (Ps.leaf tk s).2)).2 else (0, Ps.deep tk d (Ps.leaf tk s).2) := rfl
  have hw1 := Pc.inv_room hlf.1.inv hl
  have HLF := Lib.hid (pleaf_calls h (Pc.inv_room hi hl))
  rw [hun]
  have HDP := Lib.hid (fun (V : World) hV => pdeep_calls (Q := Q) (W := V) (p := p) (b := b) (w0 := w0) hV hw1 hd)
  by_cases hz : d = 0
  · have hds : (Ps.deep tk d (Ps.leaf tk s).2).e ≠ 0 := by
      unfold Ps.deep Ps.fail
      rw [if_pos hz, if_pos hde]
      show (23 : Int) ≠ 0
      decide
    have hdb : decide ((Ps.deep tk d (Ps.leaf tk s).2).e ≠ 0) = true := decide_eq_true hds
    rw [if_neg hds]
    rw [hdb] at HDP
    clear hQ h hi hl hlf hde hun hw1 hd hf hk ht he h5 hz hds hdb
    go_enter Tryz.func142, Tryz.ntmps142
    go_wp2_with fail
    refine (HLF.out).mono ?_
    rintro e W1 ⟨rfl, h1, g1⟩
    have H1 := Lib.hid (And.intro h1 (g1))
    clear h1 g1 c0
    dsimp only
    go_wp2_with fail
    refine (HDP.out _ H1.out.1).mono ?_
    rintro e W2 ⟨rfl, h2, g2⟩
    have H2 := Lib.hid (And.intro h2 (g2))
    clear h2 g2
    dsimp only
    go_wp2_with fail
    go_ret
    exact ⟨rfl, H2.out.1, H1.out.2.trans H2.out.2⟩
  · have hds : Ps.deep tk d (Ps.leaf tk s).2 = (Ps.leaf tk s).2 := by unfold Ps.deep; rw [if_neg hz]
    have hdb : decide ((Ps.leaf tk s).2.e ≠ 0) = false := decide_eq_false (by simp [hde])
    rw [hds] at HDP ⊢
    rw [hdb] at HDP
    rw [if_pos hde]
    have HZ := Lib.hid hz
    clear hQ h hi hl hlf hde hun hw1 hd hf hk ht he h5 hz hds hdb
    go_enter Tryz.func142, Tryz.ntmps142
    go_wp2_with fail
    refine (HLF.out).mono ?_
    rintro e W1 ⟨rfl, h1, g1⟩
    have H1 := Lib.hid (And.intro h1 (g1))
    clear h1 g1 c0
    dsimp only
    go_wp2_with fail
    refine (HDP.out _ H1.out.1).mono ?_
    rintro e W2 ⟨rfl, h2, g2⟩
    have H2 := Lib.hid (And.intro h2 (g2))
    clear h2 g2
    dsimp only
    go_wp2_with fail
    refine (HF.out.2.2.1 HZ.out Q _ _ (HI.out.2.2.frt (H1.out.2.trans H2.out.2)) H2.out.1 HF.out.2.2.2.1.inv).mono ?_
    rintro e W3 ⟨rfl, h3, g3⟩
    have H3 := Lib.hid (And.intro h3 g3)
    clear h3 g3
    dsimp only
    go_wp2_with fail
    have hal : Below W3.heap.size W3 (W3.alloc (.cells (intCells [(Ps.leaf tk s).1, (f (Ps.leaf tk s).2).1]).toArray 3)) := (Below.refl _ _).alloc (Nat.le_refl _) _
    refine (pnode_calls (l := [(Ps.leaf tk s).1, (f (Ps.leaf tk s).2).1]) (H3.out.1.past hal) (Pc.inv_room (HF.out.2.2.2.1.then (HF.out.2.1 HZ.out)).inv HL.out) (rds_new W3 _ rfl) (fun k hk => by rw [hk, ← size_alloc1]; omega) (by simp) (HI.out.2.2.frt (((H1.out.2.trans H2.out.2).trans H3.out.2).trans (FrT.of hal))) 11).mono ?_
    rintro e W4 ⟨rfl, h4, g4⟩
    have H4 := Lib.hid (And.intro h4 (((H1.out.2.trans H2.out.2).trans H3.out.2).trans ((FrT.of hal).trans g4)))
    clear h4 g4 hal
    dsimp only
    go_wp2_with fail
    go_ret
    exact ⟨rfl, H4.out.1, H4.out.2⟩
set_option maxRecDepth 100000 in
set_option maxHeartbeats 2000000 in
theorem punary_neg (ht : Pc.Toks tk) (hl : tk.length ≤ 1000000) {n : Int} {d : Nat} (hn0 : 0 ≤ n) (hn1 : n ≤ 300) (hd : n + 1 + d = dp + 1) {f : Ps.F} {g : Pr.G} (hf : d ≠ 0 → Pc.Sim tk f g) (hk : d ≠ 0 → Knows w0 p b tk dp 132 #[.pointer (some ⟨p, 0, none⟩), .int .i64 (n + 1)] f)
    {Q : Nat → Prop} {W : World} {s : Ps.St} (hQ : Up Q W) (h : PI Q w0 W p b tk dp s) (hi : Pc.Inv tk s) (he : s.e = 0) (h5 : (Ps.peek tk s.used).kind ≠ 5) :
    Calls Tryz.prog 142 #[.pointer (some ⟨p, 0, none⟩), .int .i64 n, .func (.func 132) #[.pointer (some ⟨p, 0, none⟩)] #[]] W (Does Q w0 p b tk dp (Ps.unary tk d f s) W) := by
  have HI := Lib.hid (And.intro h (And.intro hi hQ))
  have HL := Lib.hid hl
  have hlf := (Pc.Og.nil hi).leaf ht he h5
  have hde := hlf.2
  have c0 := h.c0
  have HF := Lib.hid (And.intro hd (And.intro hf (And.intro hk hlf)))
  have hun : Ps.unary tk d f s = if (Ps.deep tk d (Ps.leaf tk s).2).e = 0 then Ps.node 11 [(Ps.leaf tk s).1, (f (Ps.deep tk d (Ps.leaf tk s).2)).1] (f (Ps.deep tk d (Ps.leaf tk s).2)).2 else (0, Ps.deep tk d (Ps.leaf tk s).2) := rfl
  have hw1 := Pc.inv_room hlf.1.inv hl
  have HLF := Lib.hid (pleaf_calls h (Pc.inv_room hi hl))
  rw [hun]
  have HDP := Lib.hid (fun (V : World) hV => pdeep_calls (Q := Q) (W := V) (p := p) (b := b) (w0 := w0) hV hw1 hd)
  by_cases hz : d = 0
  · have hds : (Ps.deep tk d (Ps.leaf tk s).2).e ≠ 0 := by
      unfold Ps.deep Ps.fail
      rw [if_pos hz, if_pos hde]
      show (23 : Int) ≠ 0
      decide
    have hdb : decide ((Ps.deep tk d (Ps.leaf tk s).2).e ≠ 0) = true := decide_eq_true hds
    rw [if_neg hds]
    rw [hdb] at HDP
    clear hQ h hi hl hlf hde hun hw1 hd hf hk ht he h5 hz hds hdb
    go_enter Tryz.func142, Tryz.ntmps142
    go_wp2_with fail
    refine (HLF.out).mono ?_
    rintro e W1 ⟨rfl, h1, g1⟩
    have H1 := Lib.hid (And.intro h1 (g1))
    clear h1 g1 c0
    dsimp only
    go_wp2_with fail
    refine (HDP.out _ H1.out.1).mono ?_
    rintro e W2 ⟨rfl, h2, g2⟩
    have H2 := Lib.hid (And.intro h2 (g2))
    clear h2 g2
    dsimp only
    go_wp2_with fail
    go_ret
    exact ⟨rfl, H2.out.1, H1.out.2.trans H2.out.2⟩
  · have hds : Ps.deep tk d (Ps.leaf tk s).2 = (Ps.leaf tk s).2 := by unfold Ps.deep; rw [if_neg hz]
    have hdb : decide ((Ps.leaf tk s).2.e ≠ 0) = false := decide_eq_false (by simp [hde])
    rw [hds] at HDP ⊢
    rw [hdb] at HDP
    rw [if_pos hde]
    have HZ := Lib.hid hz
    clear hQ h hi hl hlf hde hun hw1 hd hf hk ht he h5 hz hds hdb
    go_enter Tryz.func142, Tryz.ntmps142
    go_wp2_with fail
    refine (HLF.out).mono ?_
    rintro e W1 ⟨rfl, h1, g1⟩
    have H1 := Lib.hid (And.intro h1 (g1))
    clear h1 g1 c0
    dsimp only
    go_wp2_with fail
    refine (HDP.out _ H1.out.1).mono ?_
    rintro e W2 ⟨rfl, h2, g2⟩
    have H2 := Lib.hid (And.intro h2 (g2))
    clear h2 g2
    dsimp only
    go_wp2_with fail
    refine (HF.out.2.2.1 HZ.out Q _ _ (HI.out.2.2.frt (H1.out.2.trans H2.out.2)) H2.out.1 HF.out.2.2.2.1.inv).mono ?_
    rintro e W3 ⟨rfl, h3, g3⟩
    have H3 := Lib.hid (And.intro h3 g3)
    clear h3 g3
    dsimp only
    go_wp2_with fail
    have hal : Below W3.heap.size W3 (W3.alloc (.cells (intCells [(Ps.leaf tk s).1, (f (Ps.leaf tk s).2).1]).toArray 3)) := (Below.refl _ _).alloc (Nat.le_refl _) _
    refine (pnode_calls (l := [(Ps.leaf tk s).1, (f (Ps.leaf tk s).2).1]) (H3.out.1.past hal) (Pc.inv_room (HF.out.2.2.2.1.then (HF.out.2.1 HZ.out)).inv HL.out) (rds_new W3 _ rfl) (fun k hk => by rw [hk, ← size_alloc1]; omega) (by simp) (HI.out.2.2.frt (((H1.out.2.trans H2.out.2).trans H3.out.2).trans (FrT.of hal))) 11).mono ?_
    rintro e W4 ⟨rfl, h4, g4⟩
    have H4 := Lib.hid (And.intro h4 (((H1.out.2.trans H2.out.2).trans H3.out.2).trans ((FrT.of hal).trans g4)))
    clear h4 g4 hal
    dsimp only
    go_wp2_with fail
    go_ret
    exact ⟨rfl, H4.out.1, H4.out.2⟩

set_option maxRecDepth 100000 in
set_option maxHeartbeats 2000000 in
theorem pfactor_calls (ht : Pc.Toks tk) (hl : tk.length ≤ 1000000) {n : Int} {d : Nat} (hn0 : 0 ≤ n) (hn1 : n ≤ 300) (hd : n + 1 + d = dp + 1) {lo : Ps.Lv} {glo : Pr.Lv} (hs : Pc.SimV tk d lo glo) (hk : d ≠ 0 → Knows w0 p b tk dp 133 #[.pointer (some ⟨p, 0, none⟩), .int .i64 (n + 1)] lo.fa)
    (ha : Knows w0 p b tk dp 143 #[.pointer (some ⟨p, 0, none⟩), .int .i64 n] (Ps.atom tk lo.ex)) :
    Knows w0 p b tk dp 133 #[.pointer (some ⟨p, 0, none⟩), .int .i64 n] (Ps.factor tk d lo) := by
  intro Q W s hQ h hi
  have hok := pok_calls h
  have HU := Lib.hid (fun (V : World) hq hV he h5 => punary_fac (Q := Q) (W := V) (s := s) ht hl hn0 hn1 hd (fun z => (hs.rest z).2.2) hk hq hV hi he h5)
  have HA := Lib.hid (fun (V : World) hq hV => ha Q V s hq hV hi)
  have HQ := Lib.hid hQ
  have HNX := Lib.hid (fun (V : World) (hV : PI Q w0 V p b tk dp s) {P v} hv hP => pnext_calls (ts := [[45]]) (P := P) (v := v) hV (Pc.inv_room hi hl) hv hP (by simp))
  have HP := Lib.hid h
  unfold Ps.factor
  by_cases he : s.e = 0
  · rw [decide_eq_true he] at hok
    have HOK := Lib.hid hok
    have hal : Below W.heap.size W (W.alloc (.cells (strCells [[45]]).toArray 9)) := (Below.refl _ _).alloc (Nat.le_refl _) _
    have hnx := HNX.out _ (h.past hal) (rds_newS W [[45]] rfl) (fun k hk => by rw [hk, ← size_alloc1]; omega)
    by_cases hn : Ps.nextB tk [[45]] s.used = true
    · rw [if_pos ⟨he, hn⟩]
      rw [hn] at hnx
      have HN := Lib.hid hnx
      have HE := Lib.hid (And.intro he (And.intro (Pc.next_kind hn) hal))
      clear hQ h hi hl hs hk ha ht hd hok he hn hnx hal HNX
      go_enter Tryz.func133, Tryz.ntmps133
      go_wp2_with fail
      refine (HOK.out).mono ?_
      rintro e W1 ⟨rfl, rfl⟩
      dsimp only
      go_wp2_with fail
      refine HN.out.mono ?_
      rintro e W2 ⟨rfl, hb2⟩
      have H2 := Lib.hid (HE.out.2.2.trans (hb2.mono HE.out.2.2.size))
      clear hb2
      dsimp only
      go_wp2_with fail
      refine (HU.out _ (HQ.out.size H2.out.size) (HP.out.past H2.out) HE.out.1 HE.out.2.1).mono ?_
      rintro e W3 ⟨rfl, h3, g3⟩
      have H3 := Lib.hid (And.intro h3 ((FrT.of H2.out).trans g3))
      clear h3 g3
      dsimp only
      go_wp2_with fail
      go_ret
      exact ⟨rfl, H3.out.1, H3.out.2⟩
    · rw [if_neg (by simp [hn])]
      rw [Bool.not_eq_true] at hn
      rw [hn] at hnx
      have HN := Lib.hid hnx
      have HE := Lib.hid hal
      clear hQ h hi hl hs hk ha ht hd hok he hn hnx hal HNX HU
      go_enter Tryz.func133, Tryz.ntmps133
      go_wp2_with fail
      refine (HOK.out).mono ?_
      rintro e W1 ⟨rfl, rfl⟩
      dsimp only
      go_wp2_with fail
      refine HN.out.mono ?_
      rintro e W2 ⟨rfl, hb2⟩
      have H2 := Lib.hid (HE.out.trans (hb2.mono HE.out.size))
      clear hb2
      dsimp only
      go_wp2_with fail
      refine (HA.out _ (HQ.out.size H2.out.size) (HP.out.past H2.out)).mono ?_
      rintro e W3 ⟨rfl, h3, g3⟩
      have H3 := Lib.hid (And.intro h3 ((FrT.of H2.out).trans g3))
      clear h3 g3
      dsimp only
      go_wp2_with fail
      go_ret
      exact ⟨rfl, H3.out.1, H3.out.2⟩
  · rw [decide_eq_false he] at hok
    have HOK := Lib.hid hok
    rw [if_neg (by simp [he])]
    clear hQ h hi hl hs hk ha ht hd hok he HNX HU
    go_enter Tryz.func133, Tryz.ntmps133
    go_wp2_with fail
    refine (HOK.out).mono ?_
    rintro e W1 ⟨rfl, rfl⟩
    dsimp only
    go_wp2_with fail
    refine (HA.out _ HQ.out HP.out).mono ?_
    rintro e W3 ⟨rfl, h3, g3⟩
    have H3 := Lib.hid (And.intro h3 g3)
    clear h3 g3
    dsimp only
    go_wp2_with fail
    go_ret
    exact ⟨rfl, H3.out.1, H3.out.2⟩

set_option maxRecDepth 100000 in
set_option maxHeartbeats 2000000 in
theorem pnegation_calls (ht : Pc.Toks tk) (hl : tk.length ≤ 1000000) {n : Int} {d : Nat} (hn0 : 0 ≤ n) (hn1 : n ≤ 300) (hd : n + 1 + d = dp + 1) {lo : Ps.Lv} {glo : Pr.Lv} (hs : Pc.SimV tk d lo glo) (hk : d ≠ 0 → Knows w0 p b tk dp 132 #[.pointer (some ⟨p, 0, none⟩), .int .i64 (n + 1)] lo.ne)
    (ha : Knows w0 p b tk dp 98 #[.pointer (some ⟨p, 0, none⟩), .int .i64 2, .int .i64 n] (Ps.comparison tk d lo)) :
    Knows w0 p b tk dp 132 #[.pointer (some ⟨p, 0, none⟩), .int .i64 n] (Ps.negation tk d lo) := by
  intro Q W s hQ h hi
  have hok := pok_calls h
  have HU := Lib.hid (fun (V : World) hq hV he h5 => punary_neg (Q := Q) (W := V) (s := s) ht hl hn0 hn1 hd (fun z => (hs.rest z).2.1) hk hq hV hi he h5)
  have HA := Lib.hid (fun (V : World) hq hV => ha Q V s hq hV hi)
  have HQ := Lib.hid hQ
  have HNX := Lib.hid (fun (V : World) (hV : PI Q w0 V p b tk dp s) {P v} hv hP => pnext_calls (ts := [Ps.tNot]) (P := P) (v := v) hV (Pc.inv_room hi hl) hv hP (by simp))
  have HP := Lib.hid h
  unfold Ps.negation
  by_cases he : s.e = 0
  · rw [decide_eq_true he] at hok
    have HOK := Lib.hid hok
    have hal : Below W.heap.size W (W.alloc (.cells (strCells [Ps.tNot]).toArray 9)) := (Below.refl _ _).alloc (Nat.le_refl _) _
    have hnx := HNX.out _ (h.past hal) (rds_newS W [Ps.tNot] rfl) (fun k hk => by rw [hk, ← size_alloc1]; omega)
    by_cases hn : Ps.nextB tk [Ps.tNot] s.used = true
    · rw [if_pos ⟨he, hn⟩]
      rw [hn] at hnx
      have HN := Lib.hid hnx
      have HE := Lib.hid (And.intro he (And.intro (Pc.next_kind hn) hal))
      clear hQ h hi hl hs hk ha ht hd hok he hn hnx hal HNX
      go_enter Tryz.func132, Tryz.ntmps132
      go_wp2_with fail
      refine (HOK.out).mono ?_
      rintro e W1 ⟨rfl, rfl⟩
      dsimp only
      go_wp2_with fail
      refine HN.out.mono ?_
      rintro e W2 ⟨rfl, hb2⟩
      have H2 := Lib.hid (HE.out.2.2.trans (hb2.mono HE.out.2.2.size))
      clear hb2
      dsimp only
      go_wp2_with fail
      refine (HU.out _ (HQ.out.size H2.out.size) (HP.out.past H2.out) HE.out.1 HE.out.2.1).mono ?_
      rintro e W3 ⟨rfl, h3, g3⟩
      have H3 := Lib.hid (And.intro h3 ((FrT.of H2.out).trans g3))
      clear h3 g3
      dsimp only
      go_wp2_with fail
      go_ret
      exact ⟨rfl, H3.out.1, H3.out.2⟩
    · rw [if_neg (by simp [hn])]
      rw [Bool.not_eq_true] at hn
      rw [hn] at hnx
      have HN := Lib.hid hnx
      have HE := Lib.hid hal
      clear hQ h hi hl hs hk ha ht hd hok he hn hnx hal HNX HU
      go_enter Tryz.func132, Tryz.ntmps132
      go_wp2_with fail
      refine (HOK.out).mono ?_
      rintro e W1 ⟨rfl, rfl⟩
      dsimp only
      go_wp2_with fail
      refine HN.out.mono ?_
      rintro e W2 ⟨rfl, hb2⟩
      have H2 := Lib.hid (HE.out.trans (hb2.mono HE.out.size))
      clear hb2
      dsimp only
      go_wp2_with fail
      refine (HA.out _ (HQ.out.size H2.out.size) (HP.out.past H2.out)).mono ?_
      rintro e W3 ⟨rfl, h3, g3⟩
      have H3 := Lib.hid (And.intro h3 ((FrT.of H2.out).trans g3))
      clear h3 g3
      dsimp only
      go_wp2_with fail
      go_ret
      exact ⟨rfl, H3.out.1, H3.out.2⟩
  · rw [decide_eq_false he] at hok
    have HOK := Lib.hid hok
    rw [if_neg (by simp [he])]
    clear hQ h hi hl hs hk ha ht hd hok he HNX HU
    go_enter Tryz.func132, Tryz.ntmps132
    go_wp2_with fail
    refine (HOK.out).mono ?_
    rintro e W1 ⟨rfl, rfl⟩
    dsimp only
    go_wp2_with fail
    refine (HA.out _ HQ.out HP.out).mono ?_
    rintro e W3 ⟨rfl, h3, g3⟩
    have H3 := Lib.hid (And.intro h3 g3)
    clear h3 g3
    dsimp only
    go_wp2_with fail
    go_ret
    exact ⟨rfl, H3.out.1, H3.out.2⟩

set_option maxRecDepth 100000 in
set_option maxHeartbeats 2000000 in
theorem pformula_calls (ht : Pc.Toks tk) (hl : tk.length ≤ 1000000) {n : Int} {d : Nat} (hn0 : 0 ≤ n) (hn1 : n ≤ 300) (hd : n + 1 + d = dp + 1) {lo : Ps.Lv} {glo : Pr.Lv} (hs : Pc.SimV tk d lo glo) (hk : d ≠ 0 → Knows w0 p b tk dp 81 #[.pointer (some ⟨p, 0, none⟩), .int .i64 (n + 1)] lo.fo)
    (ha : Knows w0 p b tk dp 98 #[.pointer (some ⟨p, 0, none⟩), .int .i64 0, .int .i64 n] (Ps.disjunction tk d lo)) :
    Knows w0 p b tk dp 81 #[.pointer (some ⟨p, 0, none⟩), .int .i64 n] (Ps.formula tk d lo) := by
  intro Q W s hQ h hi
  have hsj : Pc.Sim tk (Ps.disjunction tk d lo) (Pr.or tk d glo) := Pc.sim_row ht (Pc.sim_row ht (Pc.sim_negation ht hs) Ps.sAnd) Ps.sOr
  have hog := (Pc.Og.nil hi).then hsj
  have HA := Lib.hid (ha Q W s hQ h hi)
  have HQ := Lib.hid hQ
  have HL := Lib.hid (And.intro ht (And.intro hl (And.intro hd (And.intro hs hk))))
  have hfo : Ps.formula tk d lo s = if (Ps.disjunction tk d lo s).2.e = 0 ∧ Ps.nextB tk [[61, 62]] (Ps.disjunction tk d lo s).2.used = true then (if (Ps.deep tk d (Ps.leaf tk (Ps.disjunction tk d lo s).2).2).e = 0 then Ps.node 10 [(Ps.disjunction tk d lo s).1, (Ps.leaf tk (Ps.disjunction tk d lo s).2).1, (lo.fo (Ps.deep tk d (Ps.leaf tk (Ps.disjunction tk d lo s).2).2)).1] (lo.fo (Ps.deep tk d (Ps.leaf tk (Ps.disjunction tk d lo s).2).2)).2 else (0, Ps.deep tk d (Ps.leaf tk (Ps.disjunction tk d lo s).2).2)) else Ps.disjunction tk d lo s := rfl
  rw [hfo]
  obtain ⟨r, hr⟩ : ∃ r, Ps.disjunction tk d lo s = r := ⟨_, rfl⟩
  obtain ⟨a, s1⟩ := r
  rw [hr] at HA hog ⊢
  simp only [List.nil_append] at hog
  have HO := Lib.hid hog
  clear hQ h hi hl hs hk ha ht hd hsj hfo hr hog
  dsimp only at HA HO ⊢
  by_cases he : s1.e = 0
  · by_cases hn : Ps.nextB tk [[61, 62]] s1.used = true
    · rw [if_pos ⟨he, hn⟩]
      have hlf := HO.out.leaf HL.out.1 he (Pc.next_kind hn)
      have hde := hlf.2
      have HE := Lib.hid (And.intro he (And.intro hn hlf))
      have hw1 := Pc.inv_room hlf.1.inv HL.out.2.1
      have HDP := Lib.hid (fun (V : World) hV => pdeep_calls (Q := Q) (W := V) (p := p) (b := b) (w0 := w0) hV hw1 HL.out.2.2.1)
      clear he hn hlf hw1
      by_cases hz : d = 0
      · have hds : (Ps.deep tk d (Ps.leaf tk s1).2).e ≠ 0 := by
          unfold Ps.deep Ps.fail
          rw [if_pos hz, if_pos hde]
          show (23 : Int) ≠ 0
          decide
        have hdb : decide ((Ps.deep tk d (Ps.leaf tk s1).2).e ≠ 0) = true := decide_eq_true hds
        rw [if_neg hds]
        rw [hdb] at HDP
        clear hde hz hds hdb
        go_enter Tryz.func81, Tryz.ntmps81
        go_wp2_with fail
        refine (HA.out).mono ?_
        rintro e W1 ⟨rfl, h1, g1⟩
        have H1 := Lib.hid (And.intro h1 (g1))
        clear h1 g1
        have hok := pok_calls H1.out.1
        rw [decide_eq_true HE.out.1] at hok
        have HOK := Lib.hid hok
        clear hok
        dsimp only
        go_wp2_with fail
        refine (HOK.out).mono ?_
        rintro e W2 ⟨rfl, rfl⟩
        dsimp only
        go_wp2_with fail
        have hal : Below W1.heap.size W1 (W1.alloc (.cells (strCells [[61, 62]]).toArray 9)) := (Below.refl _ _).alloc (Nat.le_refl _) _
        have hnx := pnext_calls (ts := [[61, 62]]) (H1.out.1.past hal) (Pc.inv_room HO.out.inv HL.out.2.1) (rds_newS W1 [[61, 62]] rfl) (fun k hk => by rw [hk, ← size_alloc1]; omega) (by simp)
        rw [HE.out.2.1] at hnx
        refine hnx.mono ?_
        rintro e W3 ⟨rfl, hb3⟩
        have H3 := Lib.hid (hal.trans (hb3.mono hal.size))
        clear hb3 hnx hal
        have c0 := (H1.out.1.past H3.out).c0
        dsimp only
        go_wp2_with fail
        refine (pleaf_calls (H1.out.1.past H3.out) (Pc.inv_room HO.out.inv HL.out.2.1)).mono ?_
        rintro e W4 ⟨rfl, h4, g4⟩
        have H4 := Lib.hid (And.intro h4 (H1.out.2.trans ((FrT.of H3.out).trans g4)))
        clear h4 g4 c0
        dsimp only
        go_wp2_with fail
        refine (HDP.out _ H4.out.1).mono ?_
        rintro e W5 ⟨rfl, h5, g5⟩
        have H5 := Lib.hid (And.intro h5 (g5))
        clear h5 g5
        dsimp only
        go_wp2_with fail
        go_ret
        exact ⟨rfl, H5.out.1, H4.out.2.trans H5.out.2⟩
      · have hds : Ps.deep tk d (Ps.leaf tk s1).2 = (Ps.leaf tk s1).2 := by unfold Ps.deep; rw [if_neg hz]
        have hdb : decide ((Ps.leaf tk s1).2.e ≠ 0) = false := decide_eq_false (by simp [hde])
        rw [hds] at HDP ⊢
        rw [hdb] at HDP
        rw [if_pos hde]
        have HZ := Lib.hid hz
        clear hde hz hds hdb
        go_enter Tryz.func81, Tryz.ntmps81
        go_wp2_with fail
        refine (HA.out).mono ?_
        rintro e W1 ⟨rfl, h1, g1⟩
        have H1 := Lib.hid (And.intro h1 (g1))
        clear h1 g1
        have hok := pok_calls H1.out.1
        rw [decide_eq_true HE.out.1] at hok
        have HOK := Lib.hid hok
        clear hok
        dsimp only
        go_wp2_with fail
        refine (HOK.out).mono ?_
        rintro e W2 ⟨rfl, rfl⟩
        dsimp only
        go_wp2_with fail
        have hal : Below W1.heap.size W1 (W1.alloc (.cells (strCells [[61, 62]]).toArray 9)) := (Below.refl _ _).alloc (Nat.le_refl _) _
        have hnx := pnext_calls (ts := [[61, 62]]) (H1.out.1.past hal) (Pc.inv_room HO.out.inv HL.out.2.1) (rds_newS W1 [[61, 62]] rfl) (fun k hk => by rw [hk, ← size_alloc1]; omega) (by simp)
        rw [HE.out.2.1] at hnx
        refine hnx.mono ?_
        rintro e W3 ⟨rfl, hb3⟩
        have H3 := Lib.hid (hal.trans (hb3.mono hal.size))
        clear hb3 hnx hal
        have c0 := (H1.out.1.past H3.out).c0
        dsimp only
        go_wp2_with fail
        refine (pleaf_calls (H1.out.1.past H3.out) (Pc.inv_room HO.out.inv HL.out.2.1)).mono ?_
        rintro e W4 ⟨rfl, h4, g4⟩
        have H4 := Lib.hid (And.intro h4 (H1.out.2.trans ((FrT.of H3.out).trans g4)))
        clear h4 g4 c0
        dsimp only
        go_wp2_with fail
        refine (HDP.out _ H4.out.1).mono ?_
        rintro e W5 ⟨rfl, h5, g5⟩
        have H5 := Lib.hid (And.intro h5 (g5))
        clear h5 g5
        dsimp only
        go_wp2_with fail
        refine (HL.out.2.2.2.2 HZ.out Q _ _ (HQ.out.frt (H4.out.2.trans H5.out.2)) H5.out.1 HE.out.2.2.1.inv).mono ?_
        rintro e W6 ⟨rfl, h6, g6⟩
        have H6 := Lib.hid (And.intro h6 (H4.out.2.trans (H5.out.2.trans g6)))
        clear h6 g6
        dsimp only
        go_wp2_with fail
        have hal : Below W6.heap.size W6 (W6.alloc (.cells (intCells [a, (Ps.leaf tk s1).1, (lo.fo (Ps.leaf tk s1).2).1]).toArray 3)) := (Below.refl _ _).alloc (Nat.le_refl _) _
        refine (pnode_calls (l := [a, (Ps.leaf tk s1).1, (lo.fo (Ps.leaf tk s1).2).1]) (H6.out.1.past hal) (Pc.inv_room (HE.out.2.2.1.then (HL.out.2.2.2.1.rest HZ.out).1).inv HL.out.2.1) (rds_new W6 _ rfl) (fun k hk => by rw [hk, ← size_alloc1]; omega) (by simp) (HQ.out.frt (H6.out.2.trans (FrT.of hal))) 10).mono ?_
        rintro e W7 ⟨rfl, h7, g7⟩
        have H7 := Lib.hid (And.intro h7 (H6.out.2.trans ((FrT.of hal).trans g7)))
        clear h7 g7 hal
        dsimp only
        go_wp2_with fail
        go_ret
        exact ⟨rfl, H7.out.1, H7.out.2⟩
    · rw [if_neg (by simp [hn])]
      rw [Bool.not_eq_true] at hn
      have HE := Lib.hid (And.intro he (And.intro hn hn))
      clear he hn
      go_enter Tryz.func81, Tryz.ntmps81
      go_wp2_with fail
      refine (HA.out).mono ?_
      rintro e W1 ⟨rfl, h1, g1⟩
      have H1 := Lib.hid (And.intro h1 (g1))
      clear h1 g1
      have hok := pok_calls H1.out.1
      rw [decide_eq_true HE.out.1] at hok
      have HOK := Lib.hid hok
      clear hok
      dsimp only
      go_wp2_with fail
      refine (HOK.out).mono ?_
      rintro e W2 ⟨rfl, rfl⟩
      dsimp only
      go_wp2_with fail
      have hal : Below W1.heap.size W1 (W1.alloc (.cells (strCells [[61, 62]]).toArray 9)) := (Below.refl _ _).alloc (Nat.le_refl _) _
      have hnx := pnext_calls (ts := [[61, 62]]) (H1.out.1.past hal) (Pc.inv_room HO.out.inv HL.out.2.1) (rds_newS W1 [[61, 62]] rfl) (fun k hk => by rw [hk, ← size_alloc1]; omega) (by simp)
      rw [HE.out.2.1] at hnx
      refine hnx.mono ?_
      rintro e W3 ⟨rfl, hb3⟩
      have H3 := Lib.hid (hal.trans (hb3.mono hal.size))
      clear hb3 hnx hal
      dsimp only
      go_wp2_with fail
      go_ret
      exact ⟨rfl, H1.out.1.past H3.out, H1.out.2.trans (FrT.of H3.out)⟩
  · rw [if_neg (by simp [he])]
    have HE := Lib.hid he
    clear he
    go_enter Tryz.func81, Tryz.ntmps81
    go_wp2_with fail
    refine (HA.out).mono ?_
    rintro e W1 ⟨rfl, h1, g1⟩
    have H1 := Lib.hid (And.intro h1 (g1))
    clear h1 g1
    have hok := pok_calls H1.out.1
    rw [decide_eq_false HE.out] at hok
    have HOK := Lib.hid hok
    clear hok
    dsimp only
    go_wp2_with fail
    refine (HOK.out).mono ?_
    rintro e W2 ⟨rfl, rfl⟩
    dsimp only
    go_wp2_with fail
    go_ret
    exact ⟨rfl, H1.out.1, H1.out.2⟩
end
end Go.Proofs.YtpkhdlnlkeehhaaGreatDoor
/- append(own row, slice...): the slice may be of none. -/
namespace Go.Proofs.YtpkhdlnlkeehhaaGreatDoor
open Go.RowKit

theorem run_append_row {P : Program} (w : World) (t ty : TypeId) (base : Nat) (e : TypeId) (i : TypeInfo) (z : Value) (size bytes : Nat) (ht : P.underlying t = some (.slice e)) (hi : P.info? e = some i) (hz : i.zero = some z)
    (hsize : i.size = size) (hby : i.bytes = bytes) (hzs : z.cells.size = size) (hsz : 0 < size)
    (v : Value) (n : Nat) (xs : List Value) (hown : w.ownsRow base e size v n xs) {Q : Nat → Prop} {x : Value} {m : Nat} {news : List Value} (hx : RdS w Q size x m news) (h1 : ∀ u ∈ news, u.oneCell' = true)
    (h63 : n + m ≤ maxLen) (hbytes : (n + m) * bytes ≤ 140737488355328) (hbase : base ≤ w.heap.size) :
    ∃ a cap w', (Builtin.append_ #[t, t] ty #[v, x]).run P w = .ok (.slice a (n + m) cap) w' ∧
      w'.ownsRow base e size (.slice a (n + m) cap) (n + m) (xs ++ news) ∧ w.grownBy w' v.ownBlock ∧ (∀ k, (Value.slice a (n + m) cap).ownBlock = some k → v.ownBlock = some k ∨ k = w.heap.size) := by
  obtain ⟨hl, ax, cx, rfl, hmc, hr⟩ := hx
  rcases Nat.eq_zero_or_pos m with h0 | h0
  · subst h0
    obtain rfl : news = [] := List.eq_nil_of_length_eq_zero (by simpa using hl)
    have hs : Src P i.size t (.slice ax 0 cx) 0 [] w := by
      rcases ax with _ | ad
      · exact Src.ofNil w ht cx
      · exact Src.ofSlice w ht ad 0 cx [] (by simp) (fun j u h => by simp at h) (fun u h => by cases h)
    have key : ∃ a c, v = .slice a n c ∧ n ≤ c := by
      rcases hown.2 with ⟨rfl, rfl⟩ | ⟨g, cap, cur, rfl, _, _, hn, _⟩
      · exact ⟨none, 0, rfl, Nat.le_refl _⟩
      · exact ⟨_, cap, rfl, hn⟩
    obtain ⟨a, c, rfl, hnc⟩ := key
    refine ⟨a, c, w, run_append_nothing (P := P) w t t ty e i ht hi a n c hnc _ hs, by simpa using hown, ⟨rfl, rfl, rfl, Nat.le_refl _, fun _ _ _ => rfl⟩, fun k hk => Or.inl hk⟩
  · rcases hr with ⟨_, h⟩ | ⟨b, off, rfl, _, hrg⟩
    · omega
    · obtain ⟨g, cap, w', hr, h2, h3, h4, h5⟩ := run_append_lies (P := P) w t ty base e i z size bytes ht hi hz hsize hby hzs hsz v n xs hown ⟨b, off, none⟩ m cx news hl (fun j u hj => by
        have := hrg j u hj
        rwa [Addr.add_mid]) h1 h0 h63 hbytes hbase w.heap.size rfl
      refine ⟨some ⟨g, 0, none⟩, cap, w', hr, h2, h3, fun k hk => ?_⟩
      simp only [Value.ownBlock, Option.some.injEq] at hk
      subst hk
      exact h4

/-- At a step of a region that draws its order. -/
theorem step_append_row {P : Program} {w : World} {ops : Array Oper} {o : Oper} {a : Act} {K : Act → World → Prop} {Q : Exit → Act → World → Prop} {E : Prop} (hgd : o.guard = none) (s x : Operand) (t : TypeId)
    (ho : o.op = .call { callee := .builtin .append, args := #[s, x], argTypes := #[t, t] })
    (base : Nat) (e : TypeId) (i : TypeInfo) (z : Value) (size bytes : Nat) (ht : P.underlying t = some (.slice e)) (hi : P.info? e = some i) (hz : i.zero = some z)
    (hsize : i.size = size) (hby : i.bytes = bytes) (hzs : z.cells.size = size) (hsz : 0 < size)
    (v : Value) (n : Nat) (xs : List Value) (hs : a.eval s = v) (hown : w.ownsRow base e size v n xs) {R : Nat → Prop} {xv : Value} {m : Nat} {news : List Value} (hxv : a.eval x = xv) (hx : RdS w R size xv m news) (h1 : ∀ u ∈ news, u.oneCell' = true)
    (h63 : n + m ≤ maxLen) (hbytes : (n + m) * bytes ≤ 140737488355328) (hbase : base ≤ w.heap.size)
    (h : ∀ a2 cap w', w'.ownsRow base e size (.slice a2 (n + m) cap) (n + m) (xs ++ news) → w.grownBy w' v.ownBlock → (∀ k, (Value.slice a2 (n + m) cap).ownBlock = some k → v.ownBlock = some k ∨ k = w.heap.size) → K (a.put o.dst (.slice a2 (n + m) cap)) w') :
    if Region.wanted o (yielded ops a.tmps) = true then Oper.wp P o a w K Q else E := by
  have hw : Region.wanted o (yielded ops a.tmps) = true := by simp [Region.wanted, hgd]
  rw [if_pos hw]
  obtain ⟨a2, cap, w', hr, h2, h3, h4⟩ := run_append_row (P := P) w t o.type base e i z size bytes ht hi hz hsize hby hzs hsz v n xs hown hx h1 h63 hbytes hbase
  unfold Oper.wp execOp
  simp only [ho, resolve, invoke, builtin, Sem.run_bind, Sem.run_pure, Result.andThen_ok, List.map_toArray, List.map_cons, List.map_nil, hs, hxv, hr]
  exact h a2 cap w' h2 h3 h4
end Go.Proofs.YtpkhdlnlkeehhaaGreatDoor
/- append(own row, slice...) in a plain region: the slice may be of none. -/
namespace Go.Proofs.YtpkhdlnlkeehhaaGreatDoor
open Go.RowKit

theorem wpList_append_row {P : Program} {ops : Array Oper} {rest : List Oper} {o : Oper} {a : Act} {Q : Exit → Act → World → Prop} {w : World} (hgd : o.guard = none) (s x : Operand) (t : TypeId)
    (ho : o.op = .call { callee := .builtin .append, args := #[s, x], argTypes := #[t, t] })
    (base : Nat) (e : TypeId) (i : TypeInfo) (z : Value) (size bytes : Nat) (ht : P.underlying t = some (.slice e)) (hi : P.info? e = some i) (hz : i.zero = some z)
    (hsize : i.size = size) (hby : i.bytes = bytes) (hzs : z.cells.size = size) (hsz : 0 < size)
    (v : Value) (n : Nat) (xs : List Value) (hs : a.eval s = v) (hown : w.ownsRow base e size v n xs) {R : Nat → Prop} {xv : Value} {m : Nat} {news : List Value} (hxv : a.eval x = xv) (hx : RdS w R size xv m news) (h1 : ∀ u ∈ news, u.oneCell' = true)
    (h63 : n + m ≤ maxLen) (hbytes : (n + m) * bytes ≤ 140737488355328) (hbase : base ≤ w.heap.size)
    (h : ∀ a2 cap w', w'.ownsRow base e size (.slice a2 (n + m) cap) (n + m) (xs ++ news) → w.grownBy w' v.ownBlock → (∀ k, (Value.slice a2 (n + m) cap).ownBlock = some k → v.ownBlock = some k ∨ k = w.heap.size) → wpList P ops Q rest (a.put o.dst (.slice a2 (n + m) cap)) w') :
    wpList P ops Q (o :: rest) a w := by
  refine wpList_plain hgd fun K hK => ?_
  obtain ⟨a2, cap, w', hr, h2, h3, h4⟩ := run_append_row (P := P) w t o.type base e i z size bytes ht hi hz hsize hby hzs hsz v n xs hown hx h1 h63 hbytes hbase
  unfold Oper.wp execOp
  simp only [ho, resolve, invoke, builtin, Sem.run_bind, Sem.run_pure, Result.andThen_ok, List.map_toArray, List.map_cons, List.map_nil, hs, hxv, hr]
  exact hK _ _ (h a2 cap w' h2 h3 h4)

/-- Q, but for an own row. -/
def Off (Q : Nat → Prop) (v : Value) (k : Nat) : Prop := Q k ∧ v.ownBlock ≠ some k
theorem Off.up {Q : Nat → Prop} {v : Value} {W : World} (h : Up Q W) {base n size : Nat} {e : TypeId} {xs : List Value} (ho : W.ownsRow base e size v n xs) : Up (Off Q v) W := fun k hk => ⟨h k hk, fun e => by
  have := (ho.lt k e).2
  omega⟩
theorem FrT.grown {ts : List TypeId} {W Wr W3 : World} {v : Value} (h : FrT ts W Wr) (hg : Wr.grownBy W3 v.ownBlock) (hv : ∀ k, v.ownBlock = some k → W.heap.size ≤ k) : FrT ts W W3 := by
  refine ⟨hg.os.trans h.os, hg.tape.trans h.tape, hg.output.trans h.output, Nat.le_trans h.size hg.size, fun k o hk hn => ?_⟩
  have h1 := h.block k o hk hn
  rw [hg.block k (lt_heap h1) fun e => ?_, h1]
  have := hv k e.symm
  have := lt_heap hk
  omega
/-- Behind an append onto the own row. -/
theorem PI.appended {Q : Nat → Prop} {w0 W W3 : World} {p b base n : Nat} {tk : List Tr.Tk} {dp : Int} {s : Ps.St} {v v3 : Value} {xs : List Value} (h : PI (Off Q v) w0 W p b tk dp s) (ho : W.ownsRow base 3 1 v n xs) (hbase : w0.heap.size ≤ base)
    (hg : W.grownBy W3 v.ownBlock) (hat : ∀ k, v3.ownBlock = some k → v.ownBlock = some k ∨ k = W.heap.size) : PI (Off Q v3) w0 W3 p b tk dp s := by
  have h1 : PI (fun k => Off Q v k ∧ k ≠ W.heap.size) w0 W p b tk dp s := h.imp fun k hk hq => ⟨hq, by omega⟩
  refine (h1.grown ho hbase (fun k hk hq => hq.1.2 hk) hg).imp fun k _ hq => ⟨hq.1.1, fun e => ?_⟩
  rcases hat k e with h2 | h2
  · exact hq.1.2 h2
  · exact hq.2 h2
end Go.Proofs.YtpkhdlnlkeehhaaGreatDoor
/- parse: list: the walk, at each of the functions that it is handed. -/
namespace Go.Proofs.YtpkhdlnlkeehhaaGreatDoor
open Go.RowKit

theorem info_int2 : (Tryz.prog.info? 3).map (fun i => (i.zero, i.size, i.bytes)) = some (some (.int .i64 0), 1, 8) := by kernel_rfl
section
variable {w0 : World} {p b : Nat} {tk : List Tr.Tk} {dp : Int}
/-- .. where some of the caller's stands. -/
def KnowsB (Box : World → Prop) (w0 : World) (p b : Nat) (tk : List Tr.Tk) (dp : Int) (k : FuncId) (args : Array Value) (f : Ps.F) : Prop :=
  ∀ (Q : Nat → Prop) (W : World) (s : Ps.St), Up Q W → PI Q w0 W p b tk dp s → Pc.Inv tk s → Box W → Calls Tryz.prog k args W (Does Q w0 p b tk dp (f s) W)
/-- What list gives: a row of its own. -/
def Lists (Q : Nat → Prop) (w0 : World) (p b : Nat) (tk : List Tr.Tk) (dp : Int) (r : List Int × Ps.St) (W : World) (e : Ending) (W' : World) : Prop :=
  ∃ v, e = .returned v ∧ W'.ownsRow W.heap.size 3 1 v r.1.length (intCells r.1) ∧ PI (Off Q v) w0 W' p b tk dp r.2 ∧ FrT PTs W W'
theorem listGo_dead {f : Ps.F} {s : Ps.St} (he : s.e ≠ 0) (m : Nat) (ks : List Int) : Ps.listGo tk f m ks s = (ks, s) := by
  cases m with
  | zero => unfold Ps.listGo; rw [Pc.fail_dead he]
  | succ m => unfold Ps.listGo; rw [if_neg he]
theorem own_new (w : World) (l : List Int) (hl : l.length ≤ 1000) : (w.alloc (.cells (intCells l).toArray 3)).ownsRow w.heap.size 3 1 (.slice (some ⟨w.heap.size, 0, none⟩) l.length l.length) l.length (intCells l) := by
  refine ⟨by simp [intCells], Or.inr ⟨w.heap.size, l.length, (intCells l).toArray, rfl, Nat.le_refl _, heap_alloc_new _ _, Nat.le_refl _, by unfold maxLen; omega, by simp [intCells], by rw [Nat.mul_one]; exact List.take_of_length_le (by simp [intCells])⟩⟩

def ListRel (Q : Nat → Prop) (w0 W : World) (p b : Nat) (tk : List Tr.Tk) (dp : Int) (f : Ps.F) (s : Ps.St) (k : Nat) (v5 v6 : Value) (wr : World) : Prop :=
  ∃ (ks : List Int) (a : Option Addr) (c j : Nat) (s1 : Ps.St), v5 = .slice a ks.length c ∧ v6 = .int .i64 j ∧ 1 ≤ j ∧ j ≤ 9 ∧ k = 9 - j ∧ ks.length ≤ 2 * j ∧ wr.ownsRow W.heap.size 3 1 (.slice a ks.length c) ks.length (intCells ks) ∧
    PI (Off Q (.slice a ks.length c)) w0 wr p b tk dp s1 ∧ Pc.Inv tk s1 ∧ Ps.listGo tk f (9 - j) ks s1 = Ps.list tk f s ∧ FrT PTs W wr

set_option maxRecDepth 100000 in
set_option maxHeartbeats 4000000 in
theorem plist_param (ht : Pc.Toks tk) (hl : tk.length ≤ 1000000) {f : Ps.F} {g : Pr.G} (hf : Pc.Sim tk f g) {Box : World → Prop} (hbox : ∀ V V', Box V → FrT PTs V V' → Box V')
    (hone : KnowsB Box w0 p b tk dp 65 #[.pointer (some ⟨p, 0, none⟩)] f) :
    ∀ (Q : Nat → Prop) (W : World) (s : Ps.St), Up Q W → PI Q w0 W p b tk dp s → Pc.Inv tk s → Box W →
      Calls Tryz.prog 64 #[.pointer (some ⟨p, 0, none⟩), .func (.func 65) #[.pointer (some ⟨p, 0, none⟩)] #[]] W (Lists Q w0 p b tk dp (Ps.list tk f s) W) := by
  intro Q W s hQ h hi hB
  have H := Lib.hid (And.intro ht (And.intro hl (And.intro hf (And.intro hbox hone))))
  have HI := Lib.hid (And.intro h (And.intro hi (And.intro hQ hB)))
  have hal : Below W.heap.size W (W.alloc (.cells (strCells [[41]]).toArray 9)) := (Below.refl _ _).alloc (Nat.le_refl _) _
  have hnx := pnext_calls (ts := [[41]]) (h.past hal) (Pc.inv_room hi hl) (rds_newS W [[41]] rfl) (fun k hk => by rw [hk, ← size_alloc1]; omega) (by simp)
  have hdef : Ps.list tk f s = if Ps.nextB tk [[41]] s.used = true then ([], s) else Ps.listGo tk f 8 [] s := rfl
  by_cases hn : Ps.nextB tk [[41]] s.used = true
  · rw [if_pos hn] at hdef
    rw [hdef]
    rw [hn] at hnx
    have HN := Lib.hid (And.intro hnx hal)
    clear ht hl hf hbox hone hQ h hi hB hal hnx hdef hn
    go_enter Tryz.func64, Tryz.ntmps64
    go_wp2_with fail
    refine HN.out.1.mono ?_
    rintro e W2 ⟨rfl, hb2⟩
    have H2 := Lib.hid (HN.out.2.trans (hb2.mono HN.out.2.size))
    clear hb2
    dsimp only
    go_wp2_with fail
    go_ret
    exact ⟨_, rfl, World.ownsRow_nil _ _ _ _, (HI.out.1.past H2.out).imp fun k _ hq => ⟨hq, by simp [Value.ownBlock]⟩, FrT.of H2.out⟩
  · rw [if_neg hn] at hdef
    rw [Bool.not_eq_true] at hn
    rw [hn] at hnx
    have HN := Lib.hid (And.intro hnx (And.intro hal hdef))
    obtain ⟨i0, hii, hz0, hz1, hz2⟩ := info_split info_int2
    have Hi := Lib.hid hii
    have Hz0 := Lib.hid hz0
    have Hz1 := Lib.hid hz1
    have Hz2 := Lib.hid hz2
    clear hii hz0 hz1 hz2
    clear ht hl hf hbox hone hQ h hi hB hal hnx hdef hn
    go_enter Tryz.func64, Tryz.ntmps64
    go_wp2_with fail
    refine HN.out.1.mono ?_
    rintro e W2 ⟨rfl, hb2⟩
    have H2 := Lib.hid (HN.out.2.1.trans (hb2.mono HN.out.2.1.size))
    clear hb2
    dsimp only
    go_wp2_with fail
    go_loopg [5, 6] 8 (fun k v5 v6 wr => ListRel Q w0 W p b tk dp f s k v5 v6 wr)
    case atStart => exact ⟨[], none, 0, 1, s, rfl, rfl, Nat.le_refl _, by omega, rfl, by simp, World.ownsRow_nil _ _ _ _, (HI.out.1.past H2.out).imp fun k _ hq => ⟨hq, by simp [Value.ownBlock]⟩, HI.out.2.1, HN.out.2.2.symm, FrT.of H2.out⟩
    case round =>
      obtain ⟨ks, a, c, j, s1, rfl, rfl, hj1, hj9, hk, hkl, hown, hp, hin, hgo, hfr⟩ := hrel
      have hj1' : (1 : Int) ≤ (j : Int) := by omega
      have hj9' : (j : Int) ≤ 9 := by omega
      have hok := pok_calls hp
      have HR := Lib.hid (And.intro hk (And.intro hkl (And.intro hown (And.intro hp (And.intro hin (And.intro hgo hfr))))))
      clear hk hkl hown hp hin hgo hfr
      by_cases he : s1.e = 0
      · rw [decide_eq_true he] at hok
        have HOK := Lib.hid hok
        have HE := Lib.hid he
        clear hok he
        by_cases hj : j = 9
        · subst hj
          go_wp2_with fail
          refine (HOK.out).mono ?_
          rintro e W3 ⟨rfl, rfl⟩
          dsimp only
          go_wp2_with fail
          refine (pfail_calls HR.out.2.2.2.1 (Pc.inv_room HR.out.2.2.2.2.1 H.out.2.1) 15).mono ?_
          rintro e W4 ⟨rfl, h4, g4⟩
          have H4 := Lib.hid (And.intro h4 g4)
          clear h4 g4
          dsimp only
          go_wp2_with fail
          go_ret
          have hgo := HR.out.2.2.2.2.2.1
          have e1 : Ps.listGo tk f (9 - 9) ks s1 = (ks, Ps.fail tk 15 s1) := rfl
          rw [e1] at hgo
          rw [← hgo]
          exact ⟨_, rfl, ownsRow_frt HR.out.2.2.1 H4.out.2 (by decide), H4.out.1, HR.out.2.2.2.2.2.2.trans H4.out.2⟩
        · have hj8 : (j : Int) ≤ 8 := by omega
          have HJ := Lib.hid hj
          clear hj
          go_wp2_with fail
          refine (HOK.out).mono ?_
          rintro e W3 ⟨rfl, rfl⟩
          dsimp only
          go_wp2_with fail
          refine (H.out.2.2.2.2 _ _ _ (Off.up (HI.out.2.2.1.frt HR.out.2.2.2.2.2.2) HR.out.2.2.1) HR.out.2.2.2.1 HR.out.2.2.2.2.1 (H.out.2.2.2.1 _ _ HI.out.2.2.2 HR.out.2.2.2.2.2.2)).mono ?_
          rintro e W4 ⟨rfl, h4, g4⟩
          have hi4 := ((Pc.Og.nil HR.out.2.2.2.2.1).then H.out.2.2.1).inv
          have ho4 := ownsRow_frt HR.out.2.2.1 g4 (by decide)
          have H4 := Lib.hid (And.intro h4 (And.intro (HR.out.2.2.2.2.2.2.trans g4) (And.intro hi4 ho4)))
          clear h4 g4 hi4 ho4
          obtain ⟨⟨x, s2⟩, hx⟩ : ∃ r, f s1 = r := ⟨_, rfl⟩
          rw [hx] at H4 ⊢
          have HX := Lib.hid hx
          clear hx
          dsimp only at H4 ⊢
          go_wp2_with (at_builtin; refine wpList_append_row rfl _ _ 41 rfl W.heap.size 3 i0 (.int .i64 0) 1 8 Tryz.underlying41 Hi.out Hz0.out Hz1.out Hz2.out rfl (by decide) _ ks.length (intCells ks) rfl (H4.out.2.2.2.alloc _) rfl (rds_new W4 [x] rfl) (ints_one _) (by have := HR.out.2.1; unfold maxLen; simp; omega) (by have := HR.out.2.1; simp; omega) (Nat.le_trans H4.out.2.1.size (Nat.le_of_lt (by rw [← size_alloc1]; omega))) ?_)
          intro a5 c5 W5 ho5 hg5 hat5
          have hal : Below W4.heap.size W4 (W4.alloc (.cells (intCells [x]).toArray 3)) := (Below.refl _ _).alloc (Nat.le_refl _) _
          have hp5 := (H4.out.1.past hal).appended (H4.out.2.2.2.alloc _) HI.out.1.below.size hg5 (v3 := .slice a5 (ks.length + 1) c5) (by rw [← size_alloc1]; exact hat5)
          have hf5 : FrT PTs W W5 := (H4.out.2.1.trans (FrT.of hal)).grown hg5 (fun k hk => (H4.out.2.2.2.lt k hk).1)
          have hks : intCells ks ++ intCells [x] = intCells (ks ++ [x]) := by simp [intCells]
          rw [hks] at ho5
          have H5 := Lib.hid (And.intro ho5 (And.intro hp5 hf5))
          have hok5 := pok_calls hp5
          clear ho5 hg5 hat5 hal hp5 hf5 hks
          by_cases he2 : s2.e = 0
          · rw [decide_eq_true he2] at hok5
            have HOK5 := Lib.hid hok5
            have HE2 := Lib.hid he2
            clear hok5 he2
            have hal2 : Below W5.heap.size W5 (W5.alloc (.cells (strCells [[44]]).toArray 9)) := (Below.refl _ _).alloc (Nat.le_refl _) _
            have hnx2 := pnext_calls (ts := [[44]]) (H5.out.2.1.past hal2) (Pc.inv_room H4.out.2.2.1 H.out.2.1) (rds_newS W5 [[44]] rfl) (fun k hk => by rw [hk, ← size_alloc1]; omega) (by simp)
            by_cases hn2 : Ps.nextB tk [[44]] s2.used = true
            · rw [hn2] at hnx2
              have HN2 := Lib.hid (And.intro hnx2 (And.intro hal2 hn2))
              clear hnx2 hal2 hn2
              go_wp2_with fail
              refine (HOK5.out).mono ?_
              rintro e W6 ⟨rfl, rfl⟩
              dsimp only
              go_wp2_with fail
              refine HN2.out.1.mono ?_
              rintro e W7 ⟨rfl, hb7⟩
              have H7 := Lib.hid (HN2.out.2.1.trans (hb7.mono HN2.out.2.1.size))
              have d0 := (H5.out.2.1.past H7.out).c0
              clear hb7
              dsimp only
              go_wp2_with fail
              refine (pleaf_calls (H5.out.2.1.past H7.out) (Pc.inv_room H4.out.2.2.1 H.out.2.1)).mono ?_
              rintro e W8 ⟨rfl, h8, g8⟩
              have hi8 := ((Pc.Og.nil H4.out.2.2.1).leaf H.out.1 HE2.out (Pc.next_kind HN2.out.2.2)).1.inv
              have g58 := (FrT.of H7.out).trans g8
              have H8 := Lib.hid (And.intro h8 (And.intro (H5.out.2.2.trans g58) (And.intro hi8 (ownsRow_frt H5.out.1 g58 (by decide)))))
              clear h8 g8 hi8 g58 d0
              dsimp only
              obtain ⟨⟨y, s3⟩, hy⟩ : ∃ r, Ps.leaf tk s2 = r := ⟨_, rfl⟩
              rw [hy] at H8 ⊢
              have HY := Lib.hid hy
              clear hy
              dsimp only at H8 ⊢
              go_wp2_with (at_builtin; refine wpList_append_row rfl _ _ 41 rfl W.heap.size 3 i0 (.int .i64 0) 1 8 Tryz.underlying41 Hi.out Hz0.out Hz1.out Hz2.out rfl (by decide) _ _ (intCells (ks ++ [x])) rfl (H8.out.2.2.2.alloc _) rfl (rds_new W8 [y] rfl) (ints_one _) (by have := HR.out.2.1; unfold maxLen; simp; omega) (by have := HR.out.2.1; simp; omega) (Nat.le_trans H8.out.2.1.size (Nat.le_of_lt (by rw [← size_alloc1]; omega))) ?_)
              intro a9 c9 W9 ho9 hg9 hat9
              have hal9 : Below W8.heap.size W8 (W8.alloc (.cells (intCells [y]).toArray 3)) := (Below.refl _ _).alloc (Nat.le_refl _) _
              have hp9 := (H8.out.1.past hal9).appended (H8.out.2.2.2.alloc _) HI.out.1.below.size hg9 (v3 := .slice a9 (ks.length + 1 + 1) c9) (by rw [← size_alloc1]; exact hat9)
              have hf9 : FrT PTs W W9 := (H8.out.2.1.trans (FrT.of hal9)).grown hg9 (fun k hk => (H8.out.2.2.2.lt k hk).1)
              have hks : intCells (ks ++ [x]) ++ intCells [y] = intCells (ks ++ [x, y]) := by simp [intCells]
              rw [hks] at ho9
              have H9 := Lib.hid (And.intro ho9 (And.intro hp9 hf9))
              clear ho9 hg9 hat9 hal9 hp9 hf9 hks
              go_wp2_with fail
              go_roundg (9 - (j + 1))
              case measure => have := HR.out.1; have := HJ.out; omega
              case rel =>
                have hgo := HR.out.2.2.2.2.2.1
                have hj := HJ.out
                obtain ⟨m, hm⟩ : ∃ m, 9 - j = m + 1 := ⟨8 - j, by omega⟩
                have e9 : 9 - (j + 1) = m := by omega
                rw [hm] at hgo
                unfold Ps.listGo at hgo
                rw [if_pos HE.out, HX.out] at hgo
                simp only at hgo
                rw [if_pos ⟨HE2.out, HN2.out.2.2⟩, HY.out] at hgo
                have q1 : (ks ++ [x, y]).length = ks.length + 1 + 1 := by simp
                refine ⟨ks ++ [x, y], a9, c9, j + 1, s3, by rw [q1], by go_num, by omega, by omega, rfl, by have := HR.out.2.1; simp; omega, by rw [q1]; exact H9.out.1, by rw [q1]; exact H9.out.2.1, H8.out.2.2.1, by rw [e9]; exact hgo, H9.out.2.2⟩
            · rw [Bool.not_eq_true] at hn2
              rw [hn2] at hnx2
              have HN2 := Lib.hid (And.intro hnx2 (And.intro hal2 hn2))
              clear hnx2 hal2 hn2
              go_wp2_with fail
              refine (HOK5.out).mono ?_
              rintro e W6 ⟨rfl, rfl⟩
              dsimp only
              go_wp2_with fail
              refine HN2.out.1.mono ?_
              rintro e W7 ⟨rfl, hb7⟩
              have H7 := Lib.hid (HN2.out.2.1.trans (hb7.mono HN2.out.2.1.size))
              clear hb7
              dsimp only
              go_wp2_with fail
              go_ret
              have hgo := HR.out.2.2.2.2.2.1
              have hj := HJ.out
              obtain ⟨m, hm⟩ : ∃ m, 9 - j = m + 1 := ⟨8 - j, by omega⟩
              rw [hm] at hgo
              unfold Ps.listGo at hgo
              rw [if_pos HE.out, HX.out] at hgo
              simp only at hgo
              rw [if_neg (by rw [HN2.out.2.2]; simp)] at hgo
              rw [← hgo]
              have q1 : (ks ++ [x]).length = ks.length + 1 := by simp
              exact ⟨_, rfl, by rw [q1]; exact ownsRow_below H5.out.1 H7.out, H5.out.2.1.past H7.out, H5.out.2.2.trans (FrT.of H7.out)⟩
          · rw [decide_eq_false he2] at hok5
            have HOK5 := Lib.hid hok5
            have HE2 := Lib.hid he2
            clear hok5 he2
            go_wp2_with fail
            refine (HOK5.out).mono ?_
            rintro e W6 ⟨rfl, rfl⟩
            dsimp only
            go_wp2_with fail
            go_ret
            have hgo := HR.out.2.2.2.2.2.1
            have hj := HJ.out
            obtain ⟨m, hm⟩ : ∃ m, 9 - j = m + 1 := ⟨8 - j, by omega⟩
            rw [hm] at hgo
            unfold Ps.listGo at hgo
            rw [if_pos HE.out, HX.out] at hgo
            simp only at hgo
            rw [if_neg (by simp [HE2.out])] at hgo
            rw [← hgo]
            have q1 : (ks ++ [x]).length = ks.length + 1 := by simp
            exact ⟨_, rfl, by rw [q1]; exact H5.out.1, H5.out.2.1, H5.out.2.2⟩
      · rw [decide_eq_false he] at hok
        have HOK := Lib.hid hok
        have HE := Lib.hid he
        clear hok he
        go_wp2_with fail
        refine (HOK.out).mono ?_
        rintro e W3 ⟨rfl, rfl⟩
        dsimp only
        go_wp2_with fail
        go_ret
        have hgo := HR.out.2.2.2.2.2.1
        rw [listGo_dead HE.out] at hgo
        rw [← hgo]
        exact ⟨_, rfl, HR.out.2.2.1, HR.out.2.2.2.1, HR.out.2.2.2.2.2.2⟩

set_option maxRecDepth 100000 in
set_option maxHeartbeats 4000000 in
theorem plist_name (ht : Pc.Toks tk) (hl : tk.length ≤ 1000000) {f : Ps.F} {g : Pr.G} (hf : Pc.Sim tk f g) {Box : World → Prop} (hbox : ∀ V V', Box V → FrT PTs V V' → Box V') {bp bn : Nat}
    (hone : KnowsB Box w0 p b tk dp 149 #[.pointer (some ⟨bp, 0, none⟩), .pointer (some ⟨bn, 0, none⟩)] f) :
    ∀ (Q : Nat → Prop) (W : World) (s : Ps.St), Up Q W → PI Q w0 W p b tk dp s → Pc.Inv tk s → Box W →
      Calls Tryz.prog 64 #[.pointer (some ⟨p, 0, none⟩), .func (.func 149) #[] #[.pointer (some ⟨bp, 0, none⟩), .pointer (some ⟨bn, 0, none⟩)]] W (Lists Q w0 p b tk dp (Ps.list tk f s) W) := by
  intro Q W s hQ h hi hB
  have H := Lib.hid (And.intro ht (And.intro hl (And.intro hf (And.intro hbox hone))))
  have HI := Lib.hid (And.intro h (And.intro hi (And.intro hQ hB)))
  have hal : Below W.heap.size W (W.alloc (.cells (strCells [[41]]).toArray 9)) := (Below.refl _ _).alloc (Nat.le_refl _) _
  have hnx := pnext_calls (ts := [[41]]) (h.past hal) (Pc.inv_room hi hl) (rds_newS W [[41]] rfl) (fun k hk => by rw [hk, ← size_alloc1]; omega) (by simp)
  have hdef : Ps.list tk f s = if Ps.nextB tk [[41]] s.used = true then ([], s) else Ps.listGo tk f 8 [] s := rfl
  by_cases hn : Ps.nextB tk [[41]] s.used = true
  · rw [if_pos hn] at hdef
    rw [hdef]
    rw [hn] at hnx
    have HN := Lib.hid (And.intro hnx hal)
    clear ht hl hf hbox hone hQ h hi hB hal hnx hdef hn
    go_enter Tryz.func64, Tryz.ntmps64
    go_wp2_with fail
    refine HN.out.1.mono ?_
    rintro e W2 ⟨rfl, hb2⟩
    have H2 := Lib.hid (HN.out.2.trans (hb2.mono HN.out.2.size))
    clear hb2
    dsimp only
    go_wp2_with fail
    go_ret
    exact ⟨_, rfl, World.ownsRow_nil _ _ _ _, (HI.out.1.past H2.out).imp fun k _ hq => ⟨hq, by simp [Value.ownBlock]⟩, FrT.of H2.out⟩
  · rw [if_neg hn] at hdef
    rw [Bool.not_eq_true] at hn
    rw [hn] at hnx
    have HN := Lib.hid (And.intro hnx (And.intro hal hdef))
    obtain ⟨i0, hii, hz0, hz1, hz2⟩ := info_split info_int2
    have Hi := Lib.hid hii
    have Hz0 := Lib.hid hz0
    have Hz1 := Lib.hid hz1
    have Hz2 := Lib.hid hz2
    clear hii hz0 hz1 hz2
    clear ht hl hf hbox hone hQ h hi hB hal hnx hdef hn
    go_enter Tryz.func64, Tryz.ntmps64
    go_wp2_with fail
    refine HN.out.1.mono ?_
    rintro e W2 ⟨rfl, hb2⟩
    have H2 := Lib.hid (HN.out.2.1.trans (hb2.mono HN.out.2.1.size))
    clear hb2
    dsimp only
    go_wp2_with fail
    go_loopg [5, 6] 8 (fun k v5 v6 wr => ListRel Q w0 W p b tk dp f s k v5 v6 wr)
    case atStart => exact ⟨[], none, 0, 1, s, rfl, rfl, Nat.le_refl _, by omega, rfl, by simp, World.ownsRow_nil _ _ _ _, (HI.out.1.past H2.out).imp fun k _ hq => ⟨hq, by simp [Value.ownBlock]⟩, HI.out.2.1, HN.out.2.2.symm, FrT.of H2.out⟩
    case round =>
      obtain ⟨ks, a, c, j, s1, rfl, rfl, hj1, hj9, hk, hkl, hown, hp, hin, hgo, hfr⟩ := hrel
      have hj1' : (1 : Int) ≤ (j : Int) := by omega
      have hj9' : (j : Int) ≤ 9 := by omega
      have hok := pok_calls hp
      have HR := Lib.hid (And.intro hk (And.intro hkl (And.intro hown (And.intro hp (And.intro hin (And.intro hgo hfr))))))
      clear hk hkl hown hp hin hgo hfr
      by_cases he : s1.e = 0
      · rw [decide_eq_true he] at hok
        have HOK := Lib.hid hok
        have HE := Lib.hid he
        clear hok he
        by_cases hj : j = 9
        · subst hj
          go_wp2_with fail
          refine (HOK.out).mono ?_
          rintro e W3 ⟨rfl, rfl⟩
          dsimp only
          go_wp2_with fail
          refine (pfail_calls HR.out.2.2.2.1 (Pc.inv_room HR.out.2.2.2.2.1 H.out.2.1) 15).mono ?_
          rintro e W4 ⟨rfl, h4, g4⟩
          have H4 := Lib.hid (And.intro h4 g4)
          clear h4 g4
          dsimp only
          go_wp2_with fail
          go_ret
          have hgo := HR.out.2.2.2.2.2.1
          have e1 : Ps.listGo tk f (9 - 9) ks s1 = (ks, Ps.fail tk 15 s1) := rfl
          rw [e1] at hgo
          rw [← hgo]
          exact ⟨_, rfl, ownsRow_frt HR.out.2.2.1 H4.out.2 (by decide), H4.out.1, HR.out.2.2.2.2.2.2.trans H4.out.2⟩
        · have hj8 : (j : Int) ≤ 8 := by omega
          have HJ := Lib.hid hj
          clear hj
          go_wp2_with fail
          refine (HOK.out).mono ?_
          rintro e W3 ⟨rfl, rfl⟩
          dsimp only
          go_wp2_with fail
          refine (H.out.2.2.2.2 _ _ _ (Off.up (HI.out.2.2.1.frt HR.out.2.2.2.2.2.2) HR.out.2.2.1) HR.out.2.2.2.1 HR.out.2.2.2.2.1 (H.out.2.2.2.1 _ _ HI.out.2.2.2 HR.out.2.2.2.2.2.2)).mono ?_
          rintro e W4 ⟨rfl, h4, g4⟩
          have hi4 := ((Pc.Og.nil HR.out.2.2.2.2.1).then H.out.2.2.1).inv
          have ho4 := ownsRow_frt HR.out.2.2.1 g4 (by decide)
          have H4 := Lib.hid (And.intro h4 (And.intro (HR.out.2.2.2.2.2.2.trans g4) (And.intro hi4 ho4)))
          clear h4 g4 hi4 ho4
          obtain ⟨⟨x, s2⟩, hx⟩ : ∃ r, f s1 = r := ⟨_, rfl⟩
          rw [hx] at H4 ⊢
          have HX := Lib.hid hx
          clear hx
          dsimp only at H4 ⊢
          go_wp2_with (at_builtin; refine wpList_append_row rfl _ _ 41 rfl W.heap.size 3 i0 (.int .i64 0) 1 8 Tryz.underlying41 Hi.out Hz0.out Hz1.out Hz2.out rfl (by decide) _ ks.length (intCells ks) rfl (H4.out.2.2.2.alloc _) rfl (rds_new W4 [x] rfl) (ints_one _) (by have := HR.out.2.1; unfold maxLen; simp; omega) (by have := HR.out.2.1; simp; omega) (Nat.le_trans H4.out.2.1.size (Nat.le_of_lt (by rw [← size_alloc1]; omega))) ?_)
          intro a5 c5 W5 ho5 hg5 hat5
          have hal : Below W4.heap.size W4 (W4.alloc (.cells (intCells [x]).toArray 3)) := (Below.refl _ _).alloc (Nat.le_refl _) _
          have hp5 := (H4.out.1.past hal).appended (H4.out.2.2.2.alloc _) HI.out.1.below.size hg5 (v3 := .slice a5 (ks.length + 1) c5) (by rw [← size_alloc1]; exact hat5)
          have hf5 : FrT PTs W W5 := (H4.out.2.1.trans (FrT.of hal)).grown hg5 (fun k hk => (H4.out.2.2.2.lt k hk).1)
          have hks : intCells ks ++ intCells [x] = intCells (ks ++ [x]) := by simp [intCells]
          rw [hks] at ho5
          have H5 := Lib.hid (And.intro ho5 (And.intro hp5 hf5))
          have hok5 := pok_calls hp5
          clear ho5 hg5 hat5 hal hp5 hf5 hks
          by_cases he2 : s2.e = 0
          · rw [decide_eq_true he2] at hok5
            have HOK5 := Lib.hid hok5
            have HE2 := Lib.hid he2
            clear hok5 he2
            have hal2 : Below W5.heap.size W5 (W5.alloc (.cells (strCells [[44]]).toArray 9)) := (Below.refl _ _).alloc (Nat.le_refl _) _
            have hnx2 := pnext_calls (ts := [[44]]) (H5.out.2.1.past hal2) (Pc.inv_room H4.out.2.2.1 H.out.2.1) (rds_newS W5 [[44]] rfl) (fun k hk => by rw [hk, ← size_alloc1]; omega) (by simp)
            by_cases hn2 : Ps.nextB tk [[44]] s2.used = true
            · rw [hn2] at hnx2
              have HN2 := Lib.hid (And.intro hnx2 (And.intro hal2 hn2))
              clear hnx2 hal2 hn2
              go_wp2_with fail
              refine (HOK5.out).mono ?_
              rintro e W6 ⟨rfl, rfl⟩
              dsimp only
              go_wp2_with fail
              refine HN2.out.1.mono ?_
              rintro e W7 ⟨rfl, hb7⟩
              have H7 := Lib.hid (HN2.out.2.1.trans (hb7.mono HN2.out.2.1.size))
              have d0 := (H5.out.2.1.past H7.out).c0
              clear hb7
              dsimp only
              go_wp2_with fail
              refine (pleaf_calls (H5.out.2.1.past H7.out) (Pc.inv_room H4.out.2.2.1 H.out.2.1)).mono ?_
              rintro e W8 ⟨rfl, h8, g8⟩
              have hi8 := ((Pc.Og.nil H4.out.2.2.1).leaf H.out.1 HE2.out (Pc.next_kind HN2.out.2.2)).1.inv
              have g58 := (FrT.of H7.out).trans g8
              have H8 := Lib.hid (And.intro h8 (And.intro (H5.out.2.2.trans g58) (And.intro hi8 (ownsRow_frt H5.out.1 g58 (by decide)))))
              clear h8 g8 hi8 g58 d0
              dsimp only
              obtain ⟨⟨y, s3⟩, hy⟩ : ∃ r, Ps.leaf tk s2 = r := ⟨_, rfl⟩
              rw [hy] at H8 ⊢
              have HY := Lib.hid hy
              clear hy
              dsimp only at H8 ⊢
              go_wp2_with (at_builtin; refine wpList_append_row rfl _ _ 41 rfl W.heap.size 3 i0 (.int .i64 0) 1 8 Tryz.underlying41 Hi.out Hz0.out Hz1.out Hz2.out rfl (by decide) _ _ (intCells (ks ++ [x])) rfl (H8.out.2.2.2.alloc _) rfl (rds_new W8 [y] rfl) (ints_one _) (by have := HR.out.2.1; unfold maxLen; simp; omega) (by have := HR.out.2.1; simp; omega) (Nat.le_trans H8.out.2.1.size (Nat.le_of_lt (by rw [← size_alloc1]; omega))) ?_)
              intro a9 c9 W9 ho9 hg9 hat9
              have hal9 : Below W8.heap.size W8 (W8.alloc (.cells (intCells [y]).toArray 3)) := (Below.refl _ _).alloc (Nat.le_refl _) _
              have hp9 := (H8.out.1.past hal9).appended (H8.out.2.2.2.alloc _) HI.out.1.below.size hg9 (v3 := .slice a9 (ks.length + 1 + 1) c9) (by rw [← size_alloc1]; exact hat9)
              have hf9 : FrT PTs W W9 := (H8.out.2.1.trans (FrT.of hal9)).grown hg9 (fun k hk => (H8.out.2.2.2.lt k hk).1)
              have hks : intCells (ks ++ [x]) ++ intCells [y] = intCells (ks ++ [x, y]) := by simp [intCells]
              rw [hks] at ho9
              have H9 := Lib.hid (And.intro ho9 (And.intro hp9 hf9))
              clear ho9 hg9 hat9 hal9 hp9 hf9 hks
              go_wp2_with fail
              go_roundg (9 - (j + 1))
              case measure => have := HR.out.1; have := HJ.out; omega
              case rel =>
                have hgo := HR.out.2.2.2.2.2.1
                have hj := HJ.out
                obtain ⟨m, hm⟩ : ∃ m, 9 - j = m + 1 := ⟨8 - j, by omega⟩
                have e9 : 9 - (j + 1) = m := by omega
                rw [hm] at hgo
                unfold Ps.listGo at hgo
                rw [if_pos HE.out, HX.out] at hgo
                simp only at hgo
                rw [if_pos ⟨HE2.out, HN2.out.2.2⟩, HY.out] at hgo
                have q1 : (ks ++ [x, y]).length = ks.length + 1 + 1 := by simp
                refine ⟨ks ++ [x, y], a9, c9, j + 1, s3, by rw [q1], by go_num, by omega, by omega, rfl, by have := HR.out.2.1; simp; omega, by rw [q1]; exact H9.out.1, by rw [q1]; exact H9.out.2.1, H8.out.2.2.1, by rw [e9]; exact hgo, H9.out.2.2⟩
            · rw [Bool.not_eq_true] at hn2
              rw [hn2] at hnx2
              have HN2 := Lib.hid (And.intro hnx2 (And.intro hal2 hn2))
              clear hnx2 hal2 hn2
              go_wp2_with fail
              refine (HOK5.out).mono ?_
              rintro e W6 ⟨rfl, rfl⟩
              dsimp only
              go_wp2_with fail
              refine HN2.out.1.mono ?_
              rintro e W7 ⟨rfl, hb7⟩
              have H7 := Lib.hid (HN2.out.2.1.trans (hb7.mono HN2.out.2.1.size))
              clear hb7
              dsimp only
              go_wp2_with fail
              go_ret
              have hgo := HR.out.2.2.2.2.2.1
              have hj := HJ.out
              obtain ⟨m, hm⟩ : ∃ m, 9 - j = m + 1 := ⟨8 - j, by omega⟩
              rw [hm] at hgo
              unfold Ps.listGo at hgo
              rw [if_pos HE.out, HX.out] at hgo
              simp only at hgo
              rw [if_neg (by rw [HN2.out.2.2]; simp)] at hgo
              rw [← hgo]
              have q1 : (ks ++ [x]).length = ks.length + 1 := by simp
              exact ⟨_, rfl, by rw [q1]; exact ownsRow_below H5.out.1 H7.out, H5.out.2.1.past H7.out, H5.out.2.2.trans (FrT.of H7.out)⟩
          · rw [decide_eq_false he2] at hok5
            have HOK5 := Lib.hid hok5
            have HE2 := Lib.hid he2
            clear hok5 he2
            go_wp2_with fail
            refine (HOK5.out).mono ?_
            rintro e W6 ⟨rfl, rfl⟩
            dsimp only
            go_wp2_with fail
            go_ret
            have hgo := HR.out.2.2.2.2.2.1
            have hj := HJ.out
            obtain ⟨m, hm⟩ : ∃ m, 9 - j = m + 1 := ⟨8 - j, by omega⟩
            rw [hm] at hgo
            unfold Ps.listGo at hgo
            rw [if_pos HE.out, HX.out] at hgo
            simp only at hgo
            rw [if_neg (by simp [HE2.out])] at hgo
            rw [← hgo]
            have q1 : (ks ++ [x]).length = ks.length + 1 := by simp
            exact ⟨_, rfl, by rw [q1]; exact H5.out.1, H5.out.2.1, H5.out.2.2⟩
      · rw [decide_eq_false he] at hok
        have HOK := Lib.hid hok
        have HE := Lib.hid he
        clear hok he
        go_wp2_with fail
        refine (HOK.out).mono ?_
        rintro e W3 ⟨rfl, rfl⟩
        dsimp only
        go_wp2_with fail
        go_ret
        have hgo := HR.out.2.2.2.2.2.1
        rw [listGo_dead HE.out] at hgo
        rw [← hgo]
        exact ⟨_, rfl, HR.out.2.2.1, HR.out.2.2.2.1, HR.out.2.2.2.2.2.2⟩
end
end Go.Proofs.YtpkhdlnlkeehhaaGreatDoor
/- parse: atom: the walk. -/
namespace Go.Proofs.YtpkhdlnlkeehhaaGreatDoor
open Go.RowKit

section
variable {w0 : World} {p b : Nat} {tk : List Tr.Tk} {dp : Int}
def tokBox (t : Tr.Tk) : Obj := .cells #[.int .i64 t.kind, .string ⟨t.lead.toArray⟩, .string ⟨t.text.toArray⟩, .int .i64 t.pos] 85
/-- What a look at the next token gives: where it stands already that a look gives y. -/
theorem pnext_at {Q : Nat → Prop} {V : World} {s : Ps.St} (h : PI Q w0 V p b tk dp s) (hi : Pc.Inv tk s) (hl : tk.length ≤ 1000000) (ts : List (List UInt8)) (hts : ts.length ≤ 1000) {y : Bool} (hy : Ps.nextB tk ts s.used = y) :
    Calls Tryz.prog 60 #[.pointer (some ⟨p, 0, none⟩), .slice (some ⟨V.heap.size, 0, none⟩) ts.length ts.length] (V.alloc (.cells (strCells ts).toArray 9)) fun e W' => e = .returned (.bool y) ∧ Below V.heap.size V W' := by
  have hal : Below V.heap.size V (V.alloc (.cells (strCells ts).toArray 9)) := (Below.refl _ _).alloc (Nat.le_refl _) _
  have hnx := pnext_calls (ts := ts) (h.past hal) (Pc.inv_room hi hl) (rds_newS V ts rfl) (fun k hk => by rw [hk, ← size_alloc1]; omega) hts
  rw [hy] at hnx
  refine hnx.mono ?_
  rintro e W' ⟨rfl, hb⟩
  exact ⟨rfl, hal.trans (hb.mono hal.size)⟩
/-- A node of kids that the call has just laid. -/
theorem pnode_at {Q : Nat → Prop} {V : World} {s : Ps.St} (h : PI Q w0 V p b tk dp s) (hi : Pc.Inv tk s) (hl : tk.length ≤ 1000000) (hQ : Up Q V) (l : List Int) (hn : l.length ≤ 1000) (k : Int) :
    Calls Tryz.prog 38 #[.pointer (some ⟨p, 0, none⟩), .int .i64 k, .slice (some ⟨V.heap.size, 0, none⟩) l.length l.length] (V.alloc (.cells (intCells l).toArray 3)) fun e W' => e = .returned (.int .i64 (Ps.node k l s).1) ∧ PI Q w0 W' p b tk dp (Ps.node k l s).2 ∧ FrT PTs V W' := by
  have hal : Below V.heap.size V (V.alloc (.cells (intCells l).toArray 3)) := (Below.refl _ _).alloc (Nat.le_refl _) _
  refine (pnode_calls (h.past hal) (Pc.inv_room hi hl) (rds_new V l rfl) (fun k hk => by rw [hk, ← size_alloc1]; omega) (by omega) (hQ.size hal.size) k).mono ?_
  rintro e W' ⟨rfl, h1, g1⟩
  exact ⟨rfl, h1, (FrT.of hal).trans g1⟩

set_option maxRecDepth 100000 in
set_option maxHeartbeats 4000000 in
theorem patom_calls (ht : Pc.Toks tk) (hl : tk.length ≤ 1000000) {n : Int} (hn0 : 0 ≤ n) (hn1 : n ≤ 300) {ex : Ps.F} {g : Pr.G} (hx : Pc.Sim tk ex g) (hex : Knows w0 p b tk dp 51 #[.pointer (some ⟨p, 0, none⟩), .int .i64 (n + 1)] ex)
    (hname : ∀ (Q : Nat → Prop) (W : World) (s : Ps.St), Up Q W → PI Q w0 W p b tk dp s → Pc.Inv tk s → s.e = 0 → (Ps.peek tk s.used).kind = 1 → Calls Tryz.prog 147 #[.pointer (some ⟨p, 0, none⟩), .int .i64 n] W (Does Q w0 p b tk dp (Ps.name tk ex s) W)) :
    Knows w0 p b tk dp 143 #[.pointer (some ⟨p, 0, none⟩), .int .i64 n] (Ps.atom tk ex) := by
  intro Q W s hQ h hi
  have hpk := anc_peek h.anc (Pc.inv_room hi hl).1 hl (Pc.inv_room hi hl).2.2.1
  obtain ⟨t, htk⟩ : ∃ t, Ps.peek tk s.used = t := ⟨_, rfl⟩
  rw [htk] at hpk
  have HPK := Lib.hid hpk
  have c0 := h.c0
  have H := Lib.hid (And.intro ht (And.intro hl (And.intro hx (And.intro hex hname))))
  have HP := Lib.hid (And.intro h (And.intro hi (And.intro hQ htk)))
  have HLF := Lib.hid (fun (V : World) hV => pleaf_calls (Q := Q) (W := V) (p := p) (b := b) (w0 := w0) (dp := dp) (s := s) hV (Pc.inv_room hi hl))
  have HOGL := Lib.hid (fun he hk => (Pc.Og.nil hi).leaf ht he hk)
  unfold Ps.atom
  rw [htk]
  obtain ⟨kd, ld, tx, ps⟩ := t
  dsimp only at HPK ⊢
  clear hpk htk h hi hQ ht hl hx hex hname
  by_cases he : s.e = 0
  · rw [if_pos he]
    have HE := Lib.hid he
    have hed : decide (s.e = 0) = true := decide_eq_true he
    clear he
    by_cases h3 : kd = 3
    · subst h3
      rw [if_pos rfl]
      go_enter Tryz.func143, Tryz.ntmps143
      go_wp2_with fail
      refine HPK.out.mono ?_
      rintro e W1 ⟨rfl, hb1⟩
      have H1 := Lib.hid hb1
      clear hb1 c0
      dsimp only
      go_wp2_with fail
      have hok := pok_calls (HP.out.1.past (H1.out.alloc H1.out.size (tokBox ⟨3, ld, tx, ps⟩)))
      rw [hed] at hok
      have hbx : (W1.alloc (tokBox ⟨3, ld, tx, ps⟩)).heap[W1.heap.size]? = some (.cells #[.int .i64 3, .string ⟨ld.toArray⟩, .string ⟨tx.toArray⟩, .int .i64 ps] 85 (0, 0)) := heap_alloc_new _ _
      have HV := Lib.hid (And.intro (H1.out.alloc H1.out.size (tokBox ⟨3, ld, tx, ps⟩)) hbx)
      refine hok.mono ?_
      rintro e V1 ⟨rfl, rfl⟩
      have k0 := cell_of_heap HV.out.2 0 rfl
      have c2 := (HP.out.1.past HV.out.1).c2
      have c0 := (HP.out.1.past HV.out.1).c0
      change Hid (Below W.heap.size W (W1.alloc (tokBox ⟨3, ld, tx, ps⟩)) ∧ _) at HV
      clear hok hbx
      generalize hV1 : W1.alloc (tokBox ⟨3, ld, tx, ps⟩) = V at *
      clear hV1
      dsimp only
      go_wp2_with fail
      refine (HLF.out _ (HP.out.1.past HV.out.1)).mono ?_
      rintro e W5 ⟨rfl, h5, g5⟩
      have H5 := Lib.hid (And.intro h5 ((FrT.of HV.out.1).trans g5))
      clear h5 g5 k0 c0 c2
      dsimp only
      go_wp2_with fail
      refine (pnode_at H5.out.1 (HOGL.out HE.out (by rw [HP.out.2.2.2]; show (3 : Int) ≠ 5; decide)).1.inv H.out.2.1 (HP.out.2.2.1.frt H5.out.2) [(Ps.leaf tk s).1] (by simp) 15).mono ?_
      rintro e W6 ⟨rfl, h6, g6⟩
      have H6 := Lib.hid (And.intro h6 (H5.out.2.trans g6))
      clear h6 g6
      dsimp only
      go_wp2_with fail
      go_ret
      exact ⟨rfl, H6.out.1, H6.out.2⟩
    · rw [if_neg h3]
      have k3 : (kd == 3) = false := by simpa using h3
      clear h3
      by_cases h2 : Ps.nextB tk [Ps.tTrue, Ps.tFalse] s.used = true
      · rw [if_pos h2]
        have HY2 := Lib.hid h2
        clear h2
        go_enter Tryz.func143, Tryz.ntmps143
        go_wp2_with fail
        refine HPK.out.mono ?_
        rintro e W1 ⟨rfl, hb1⟩
        have H1 := Lib.hid hb1
        clear hb1 c0
        dsimp only
        go_wp2_with fail
        have hok := pok_calls (HP.out.1.past (H1.out.alloc H1.out.size (tokBox ⟨kd, ld, tx, ps⟩)))
        rw [hed] at hok
        have hbx : (W1.alloc (tokBox ⟨kd, ld, tx, ps⟩)).heap[W1.heap.size]? = some (.cells #[.int .i64 kd, .string ⟨ld.toArray⟩, .string ⟨tx.toArray⟩, .int .i64 ps] 85 (0, 0)) := heap_alloc_new _ _
        have HV := Lib.hid (And.intro (H1.out.alloc H1.out.size (tokBox ⟨kd, ld, tx, ps⟩)) hbx)
        refine hok.mono ?_
        rintro e V1 ⟨rfl, rfl⟩
        have k0 := cell_of_heap HV.out.2 0 rfl
        have c2 := (HP.out.1.past HV.out.1).c2
        have c0 := (HP.out.1.past HV.out.1).c0
        change Hid (Below W.heap.size W (W1.alloc (tokBox ⟨kd, ld, tx, ps⟩)) ∧ _) at HV
        clear hok hbx
        generalize hV1 : W1.alloc (tokBox ⟨kd, ld, tx, ps⟩) = V at *
        clear hV1
        dsimp only
        go_wp2_with fail
        refine (pnext_at (HP.out.1.past HV.out.1) HP.out.2.1 H.out.2.1 [Ps.tTrue, Ps.tFalse] (by simp) HY2.out).mono ?_
        rintro e V2 ⟨rfl, hb⟩
        have HV2 := Lib.hid (And.intro (HV.out.1.trans (hb.mono HV.out.1.size)) (anc_box HV.out.2 hb))
        clear hb k0 c0 c2
        have k0 := cell_of_heap HV2.out.2 0 rfl
        have c2 := (HP.out.1.past HV2.out.1).c2
        have c0 := (HP.out.1.past HV2.out.1).c0
        dsimp only
        go_wp2_with fail
        refine (HLF.out _ (HP.out.1.past HV2.out.1)).mono ?_
        rintro e W5 ⟨rfl, h5, g5⟩
        have H5 := Lib.hid (And.intro h5 ((FrT.of HV2.out.1).trans g5))
        clear h5 g5 k0 c0 c2
        dsimp only
        go_wp2_with fail
        refine (pnode_at H5.out.1 (HOGL.out HE.out (Pc.next_kind HY2.out)).1.inv H.out.2.1 (HP.out.2.2.1.frt H5.out.2) [(Ps.leaf tk s).1] (by simp) 16).mono ?_
        rintro e W6 ⟨rfl, h6, g6⟩
        have H6 := Lib.hid (And.intro h6 (H5.out.2.trans g6))
        clear h6 g6
        dsimp only
        go_wp2_with fail
        go_ret
        exact ⟨rfl, H6.out.1, H6.out.2⟩
      · rw [if_neg h2]
        rw [Bool.not_eq_true] at h2
        have HY2 := Lib.hid h2
        clear h2
        by_cases h4 : (s.clause && Ps.nextB tk [Ps.tRes] s.used) = true
        · rw [if_pos h4]
          have hcl : s.clause = true := by simp only [Bool.and_eq_true] at h4; exact h4.1
          have HY4 := Lib.hid (show Ps.nextB tk [Ps.tRes] s.used = true by simp only [Bool.and_eq_true] at h4; exact h4.2)
          clear h4
          go_enter Tryz.func143, Tryz.ntmps143
          go_wp2_with fail
          refine HPK.out.mono ?_
          rintro e W1 ⟨rfl, hb1⟩
          have H1 := Lib.hid hb1
          clear hb1 c0
          dsimp only
          go_wp2_with fail
          have hok := pok_calls (HP.out.1.past (H1.out.alloc H1.out.size (tokBox ⟨kd, ld, tx, ps⟩)))
          rw [hed] at hok
          have hbx : (W1.alloc (tokBox ⟨kd, ld, tx, ps⟩)).heap[W1.heap.size]? = some (.cells #[.int .i64 kd, .string ⟨ld.toArray⟩, .string ⟨tx.toArray⟩, .int .i64 ps] 85 (0, 0)) := heap_alloc_new _ _
          have HV := Lib.hid (And.intro (H1.out.alloc H1.out.size (tokBox ⟨kd, ld, tx, ps⟩)) hbx)
          refine hok.mono ?_
          rintro e V1 ⟨rfl, rfl⟩
          have k0 := cell_of_heap HV.out.2 0 rfl
          have c2 := (HP.out.1.past HV.out.1).c2
          have c0 := (HP.out.1.past HV.out.1).c0
          change Hid (Below W.heap.size W (W1.alloc (tokBox ⟨kd, ld, tx, ps⟩)) ∧ _) at HV
          clear hok hbx
          generalize hV1 : W1.alloc (tokBox ⟨kd, ld, tx, ps⟩) = V at *
          clear hV1
          dsimp only
          go_wp2_with fail
          refine (pnext_at (HP.out.1.past HV.out.1) HP.out.2.1 H.out.2.1 [Ps.tTrue, Ps.tFalse] (by simp) HY2.out).mono ?_
          rintro e V2 ⟨rfl, hb⟩
          have HV2 := Lib.hid (And.intro (HV.out.1.trans (hb.mono HV.out.1.size)) (anc_box HV.out.2 hb))
          clear hb k0 c0 c2
          have k0 := cell_of_heap HV2.out.2 0 rfl
          have c2 := (HP.out.1.past HV2.out.1).c2
          have c0 := (HP.out.1.past HV2.out.1).c0
          rw [hcl] at c2
          dsimp only
          go_wp2_with fail
          refine (pnext_at (HP.out.1.past HV2.out.1) HP.out.2.1 H.out.2.1 [Ps.tRes] (by simp) HY4.out).mono ?_
          rintro e V4 ⟨rfl, hb⟩
          have HV4 := Lib.hid (And.intro (HV2.out.1.trans (hb.mono HV2.out.1.size)) (anc_box HV2.out.2 hb))
          clear hb k0 c0 c2
          have k0 := cell_of_heap HV4.out.2 0 rfl
          have c2 := (HP.out.1.past HV4.out.1).c2
          have c0 := (HP.out.1.past HV4.out.1).c0
          dsimp only
          go_wp2_with fail
          refine (HLF.out _ (HP.out.1.past HV4.out.1)).mono ?_
          rintro e W5 ⟨rfl, h5, g5⟩
          have H5 := Lib.hid (And.intro h5 ((FrT.of HV4.out.1).trans g5))
          clear h5 g5 k0 c0 c2
          dsimp only
          go_wp2_with fail
          refine (pnode_at H5.out.1 (HOGL.out HE.out (Pc.next_kind HY4.out)).1.inv H.out.2.1 (HP.out.2.2.1.frt H5.out.2) [(Ps.leaf tk s).1] (by simp) 17).mono ?_
          rintro e W6 ⟨rfl, h6, g6⟩
          have H6 := Lib.hid (And.intro h6 (H5.out.2.trans g6))
          clear h6 g6
          dsimp only
          go_wp2_with fail
          go_ret
          exact ⟨rfl, H6.out.1, H6.out.2⟩
        · rw [if_neg h4]
          cases hcl : s.clause
          · clear h4
            by_cases h6 : Ps.nextB tk [[40]] s.used = true
            · rw [if_pos h6]
              have HY6 := Lib.hid h6
              clear h6
              go_enter Tryz.func143, Tryz.ntmps143
              go_wp2_with fail
              refine HPK.out.mono ?_
              rintro e W1 ⟨rfl, hb1⟩
              have H1 := Lib.hid hb1
              clear hb1 c0
              dsimp only
              go_wp2_with fail
              have hok := pok_calls (HP.out.1.past (H1.out.alloc H1.out.size (tokBox ⟨kd, ld, tx, ps⟩)))
              rw [hed] at hok
              have hbx : (W1.alloc (tokBox ⟨kd, ld, tx, ps⟩)).heap[W1.heap.size]? = some (.cells #[.int .i64 kd, .string ⟨ld.toArray⟩, .string ⟨tx.toArray⟩, .int .i64 ps] 85 (0, 0)) := heap_alloc_new _ _
              have HV := Lib.hid (And.intro (H1.out.alloc H1.out.size (tokBox ⟨kd, ld, tx, ps⟩)) hbx)
              refine hok.mono ?_
              rintro e V1 ⟨rfl, rfl⟩
              have k0 := cell_of_heap HV.out.2 0 rfl
              have c2 := (HP.out.1.past HV.out.1).c2
              have c0 := (HP.out.1.past HV.out.1).c0
              change Hid (Below W.heap.size W (W1.alloc (tokBox ⟨kd, ld, tx, ps⟩)) ∧ _) at HV
              clear hok hbx
              generalize hV1 : W1.alloc (tokBox ⟨kd, ld, tx, ps⟩) = V at *
              clear hV1
              dsimp only
              go_wp2_with fail
              refine (pnext_at (HP.out.1.past HV.out.1) HP.out.2.1 H.out.2.1 [Ps.tTrue, Ps.tFalse] (by simp) HY2.out).mono ?_
              rintro e V2 ⟨rfl, hb⟩
              have HV2 := Lib.hid (And.intro (HV.out.1.trans (hb.mono HV.out.1.size)) (anc_box HV.out.2 hb))
              clear hb k0 c0 c2
              have k0 := cell_of_heap HV2.out.2 0 rfl
              have c2 := (HP.out.1.past HV2.out.1).c2
              have c0 := (HP.out.1.past HV2.out.1).c0
              rw [hcl] at c2
              dsimp only
              go_wp2_with fail
              refine (pnext_at (HP.out.1.past HV2.out.1) HP.out.2.1 H.out.2.1 [[40]] (by simp) HY6.out).mono ?_
              rintro e V6 ⟨rfl, hb⟩
              have HV6 := Lib.hid (And.intro (HV2.out.1.trans (hb.mono HV2.out.1.size)) (anc_box HV2.out.2 hb))
              clear hb k0 c0 c2
              have k0 := cell_of_heap HV6.out.2 0 rfl
              have c2 := (HP.out.1.past HV6.out.1).c2
              have c0 := (HP.out.1.past HV6.out.1).c0
              dsimp only
              go_wp2_with fail
              refine (HLF.out _ (HP.out.1.past HV6.out.1)).mono ?_
              rintro e W5 ⟨rfl, h5, g5⟩
              have H5 := Lib.hid (And.intro h5 ((FrT.of HV6.out.1).trans g5))
              clear h5 g5 k0 c0 c2
              dsimp only
              go_wp2_with fail
              have ho5 := (HOGL.out HE.out (Pc.next_kind HY6.out)).1
              refine (H.out.2.2.2.1 Q _ _ (HP.out.2.2.1.frt H5.out.2) H5.out.1 ho5.inv).mono ?_
              rintro e W6 ⟨rfl, h6, g6⟩
              have ho6 := ho5.then H.out.2.2.1
              have H6 := Lib.hid (And.intro h6 (And.intro (H5.out.2.trans g6) ho6))
              clear h6 g6 ho5 ho6
              dsimp only
              go_wp2_with fail
              have hal : Below W6.heap.size W6 (W6.alloc (.cells (strCells [[41]]).toArray 9)) := (Below.refl _ _).alloc (Nat.le_refl _) _
              refine (pmust_calls (ts := [[41]]) (H6.out.1.past hal) (Pc.inv_room H6.out.2.2.inv H.out.2.1) (rds_newS W6 [[41]] rfl) (fun k hk => by rw [hk, ← size_alloc1]; omega) (by simp)).mono ?_
              rintro e W7 ⟨rfl, h7, g7⟩
              have H7 := Lib.hid (And.intro h7 (And.intro (H6.out.2.1.trans ((FrT.of hal).trans g7)) (H6.out.2.2.then (Pc.sim_must H.out.1 [41]))))
              clear h7 g7 hal
              dsimp only
              go_wp2_with fail
              refine (pnode_at H7.out.1 H7.out.2.2.inv H.out.2.1 (HP.out.2.2.1.frt H7.out.2.1) [(Ps.leaf tk s).1, (ex (Ps.leaf tk s).2).1, (Ps.must tk [[41]] (ex (Ps.leaf tk s).2).2).1] (by simp) 12).mono ?_
              rintro e W8 ⟨rfl, h8, g8⟩
              have H8 := Lib.hid (And.intro h8 (H7.out.2.1.trans g8))
              clear h8 g8
              dsimp only
              go_wp2_with fail
              go_ret
              exact ⟨rfl, H8.out.1, H8.out.2⟩
            · rw [if_neg h6]
              rw [Bool.not_eq_true] at h6
              have HY6 := Lib.hid h6
              clear h6
              by_cases h1 : kd = 1
              · subst h1
                rw [if_pos rfl]
                go_enter Tryz.func143, Tryz.ntmps143
                go_wp2_with fail
                refine HPK.out.mono ?_
                rintro e W1 ⟨rfl, hb1⟩
                have H1 := Lib.hid hb1
                clear hb1 c0
                dsimp only
                go_wp2_with fail
                have hok := pok_calls (HP.out.1.past (H1.out.alloc H1.out.size (tokBox ⟨1, ld, tx, ps⟩)))
                rw [hed] at hok
                have hbx : (W1.alloc (tokBox ⟨1, ld, tx, ps⟩)).heap[W1.heap.size]? = some (.cells #[.int .i64 1, .string ⟨ld.toArray⟩, .string ⟨tx.toArray⟩, .int .i64 ps] 85 (0, 0)) := heap_alloc_new _ _
                have HV := Lib.hid (And.intro (H1.out.alloc H1.out.size (tokBox ⟨1, ld, tx, ps⟩)) hbx)
                refine hok.mono ?_
                rintro e V1 ⟨rfl, rfl⟩
                have k0 := cell_of_heap HV.out.2 0 rfl
                have c2 := (HP.out.1.past HV.out.1).c2
                have c0 := (HP.out.1.past HV.out.1).c0
                change Hid (Below W.heap.size W (W1.alloc (tokBox ⟨1, ld, tx, ps⟩)) ∧ _) at HV
                clear hok hbx
                generalize hV1 : W1.alloc (tokBox ⟨1, ld, tx, ps⟩) = V at *
                clear hV1
                dsimp only
                go_wp2_with fail
                refine (pnext_at (HP.out.1.past HV.out.1) HP.out.2.1 H.out.2.1 [Ps.tTrue, Ps.tFalse] (by simp) HY2.out).mono ?_
                rintro e V2 ⟨rfl, hb⟩
                have HV2 := Lib.hid (And.intro (HV.out.1.trans (hb.mono HV.out.1.size)) (anc_box HV.out.2 hb))
                clear hb k0 c0 c2
                have k0 := cell_of_heap HV2.out.2 0 rfl
                have c2 := (HP.out.1.past HV2.out.1).c2
                have c0 := (HP.out.1.past HV2.out.1).c0
                rw [hcl] at c2
                dsimp only
                go_wp2_with fail
                refine (pnext_at (HP.out.1.past HV2.out.1) HP.out.2.1 H.out.2.1 [[40]] (by simp) HY6.out).mono ?_
                rintro e V6 ⟨rfl, hb⟩
                have HV6 := Lib.hid (And.intro (HV2.out.1.trans (hb.mono HV2.out.1.size)) (anc_box HV2.out.2 hb))
                clear hb k0 c0 c2
                have k0 := cell_of_heap HV6.out.2 0 rfl
                have c2 := (HP.out.1.past HV6.out.1).c2
                have c0 := (HP.out.1.past HV6.out.1).c0
                dsimp only
                go_wp2_with fail
                refine (H.out.2.2.2.2 Q _ _ (HP.out.2.2.1.size HV6.out.1.size) (HP.out.1.past HV6.out.1) HP.out.2.1 HE.out (by rw [HP.out.2.2.2])).mono ?_
                rintro e W7 ⟨rfl, h7, g7⟩
                have H7 := Lib.hid (And.intro h7 ((FrT.of HV6.out.1).trans g7))
                clear h7 g7
                dsimp only
                go_wp2_with fail
                go_ret
                exact ⟨rfl, H7.out.1, H7.out.2⟩
              · rw [if_neg h1]
                have k1 : (kd == 1) = false := by simpa using h1
                clear h1
                go_enter Tryz.func143, Tryz.ntmps143
                go_wp2_with fail
                refine HPK.out.mono ?_
                rintro e W1 ⟨rfl, hb1⟩
                have H1 := Lib.hid hb1
                clear hb1 c0
                dsimp only
                go_wp2_with fail
                have hok := pok_calls (HP.out.1.past (H1.out.alloc H1.out.size (tokBox ⟨kd, ld, tx, ps⟩)))
                rw [hed] at hok
                have hbx : (W1.alloc (tokBox ⟨kd, ld, tx, ps⟩)).heap[W1.heap.size]? = some (.cells #[.int .i64 kd, .string ⟨ld.toArray⟩, .string ⟨tx.toArray⟩, .int .i64 ps] 85 (0, 0)) := heap_alloc_new _ _
                have HV := Lib.hid (And.intro (H1.out.alloc H1.out.size (tokBox ⟨kd, ld, tx, ps⟩)) hbx)
                refine hok.mono ?_
                rintro e V1 ⟨rfl, rfl⟩
                have k0 := cell_of_heap HV.out.2 0 rfl
                have c2 := (HP.out.1.past HV.out.1).c2
                have c0 := (HP.out.1.past HV.out.1).c0
                change Hid (Below W.heap.size W (W1.alloc (tokBox ⟨kd, ld, tx, ps⟩)) ∧ _) at HV
                clear hok hbx
                generalize hV1 : W1.alloc (tokBox ⟨kd, ld, tx, ps⟩) = V at *
                clear hV1
                dsimp only
                go_wp2_with fail
                refine (pnext_at (HP.out.1.past HV.out.1) HP.out.2.1 H.out.2.1 [Ps.tTrue, Ps.tFalse] (by simp) HY2.out).mono ?_
                rintro e V2 ⟨rfl, hb⟩
                have HV2 := Lib.hid (And.intro (HV.out.1.trans (hb.mono HV.out.1.size)) (anc_box HV.out.2 hb))
                clear hb k0 c0 c2
                have k0 := cell_of_heap HV2.out.2 0 rfl
                have c2 := (HP.out.1.past HV2.out.1).c2
                have c0 := (HP.out.1.past HV2.out.1).c0
                rw [hcl] at c2
                dsimp only
                go_wp2_with fail
                refine (pnext_at (HP.out.1.past HV2.out.1) HP.out.2.1 H.out.2.1 [[40]] (by simp) HY6.out).mono ?_
                rintro e V6 ⟨rfl, hb⟩
                have HV6 := Lib.hid (And.intro (HV2.out.1.trans (hb.mono HV2.out.1.size)) (anc_box HV2.out.2 hb))
                clear hb k0 c0 c2
                have k0 := cell_of_heap HV6.out.2 0 rfl
                have c2 := (HP.out.1.past HV6.out.1).c2
                have c0 := (HP.out.1.past HV6.out.1).c0
                dsimp only
                go_wp2_with fail
                refine (pfail_calls (HP.out.1.past HV6.out.1) (Pc.inv_room HP.out.2.1 H.out.2.1) 22).mono ?_
                rintro e W7 ⟨rfl, h7, g7⟩
                have H7 := Lib.hid (And.intro h7 ((FrT.of HV6.out.1).trans g7))
                clear h7 g7
                dsimp only
                go_wp2_with fail
                go_ret
                exact ⟨rfl, H7.out.1, H7.out.2⟩
          · have HY4 := Lib.hid (show Ps.nextB tk [Ps.tRes] s.used = false by rw [hcl, Bool.true_and, Bool.not_eq_true] at h4; exact h4)
            clear h4
            by_cases h6 : Ps.nextB tk [[40]] s.used = true
            · rw [if_pos h6]
              have HY6 := Lib.hid h6
              clear h6
              go_enter Tryz.func143, Tryz.ntmps143
              go_wp2_with fail
              refine HPK.out.mono ?_
              rintro e W1 ⟨rfl, hb1⟩
              have H1 := Lib.hid hb1
              clear hb1 c0
              dsimp only
              go_wp2_with fail
              have hok := pok_calls (HP.out.1.past (H1.out.alloc H1.out.size (tokBox ⟨kd, ld, tx, ps⟩)))
              rw [hed] at hok
              have hbx : (W1.alloc (tokBox ⟨kd, ld, tx, ps⟩)).heap[W1.heap.size]? = some (.cells #[.int .i64 kd, .string ⟨ld.toArray⟩, .string ⟨tx.toArray⟩, .int .i64 ps] 85 (0, 0)) := heap_alloc_new _ _
              have HV := Lib.hid (And.intro (H1.out.alloc H1.out.size (tokBox ⟨kd, ld, tx, ps⟩)) hbx)
              refine hok.mono ?_
              rintro e V1 ⟨rfl, rfl⟩
              have k0 := cell_of_heap HV.out.2 0 rfl
              have c2 := (HP.out.1.past HV.out.1).c2
              have c0 := (HP.out.1.past HV.out.1).c0
              change Hid (Below W.heap.size W (W1.alloc (tokBox ⟨kd, ld, tx, ps⟩)) ∧ _) at HV
              clear hok hbx
              generalize hV1 : W1.alloc (tokBox ⟨kd, ld, tx, ps⟩) = V at *
              clear hV1
              dsimp only
              go_wp2_with fail
              refine (pnext_at (HP.out.1.past HV.out.1) HP.out.2.1 H.out.2.1 [Ps.tTrue, Ps.tFalse] (by simp) HY2.out).mono ?_
              rintro e V2 ⟨rfl, hb⟩
              have HV2 := Lib.hid (And.intro (HV.out.1.trans (hb.mono HV.out.1.size)) (anc_box HV.out.2 hb))
              clear hb k0 c0 c2
              have k0 := cell_of_heap HV2.out.2 0 rfl
              have c2 := (HP.out.1.past HV2.out.1).c2
              have c0 := (HP.out.1.past HV2.out.1).c0
              rw [hcl] at c2
              dsimp only
              go_wp2_with fail
              refine (pnext_at (HP.out.1.past HV2.out.1) HP.out.2.1 H.out.2.1 [Ps.tRes] (by simp) HY4.out).mono ?_
              rintro e V4 ⟨rfl, hb⟩
              have HV4 := Lib.hid (And.intro (HV2.out.1.trans (hb.mono HV2.out.1.size)) (anc_box HV2.out.2 hb))
              clear hb k0 c0 c2
              have k0 := cell_of_heap HV4.out.2 0 rfl
              have c2 := (HP.out.1.past HV4.out.1).c2
              have c0 := (HP.out.1.past HV4.out.1).c0
              dsimp only
              go_wp2_with fail
              refine (pnext_at (HP.out.1.past HV4.out.1) HP.out.2.1 H.out.2.1 [[40]] (by simp) HY6.out).mono ?_
              rintro e V6 ⟨rfl, hb⟩
              have HV6 := Lib.hid (And.intro (HV4.out.1.trans (hb.mono HV4.out.1.size)) (anc_box HV4.out.2 hb))
              clear hb k0 c0 c2
              have k0 := cell_of_heap HV6.out.2 0 rfl
              have c2 := (HP.out.1.past HV6.out.1).c2
              have c0 := (HP.out.1.past HV6.out.1).c0
              dsimp only
              go_wp2_with fail
              refine (HLF.out _ (HP.out.1.past HV6.out.1)).mono ?_
              rintro e W5 ⟨rfl, h5, g5⟩
              have H5 := Lib.hid (And.intro h5 ((FrT.of HV6.out.1).trans g5))
              clear h5 g5 k0 c0 c2
              dsimp only
              go_wp2_with fail
              have ho5 := (HOGL.out HE.out (Pc.next_kind HY6.out)).1
              refine (H.out.2.2.2.1 Q _ _ (HP.out.2.2.1.frt H5.out.2) H5.out.1 ho5.inv).mono ?_
              rintro e W6 ⟨rfl, h6, g6⟩
              have ho6 := ho5.then H.out.2.2.1
              have H6 := Lib.hid (And.intro h6 (And.intro (H5.out.2.trans g6) ho6))
              clear h6 g6 ho5 ho6
              dsimp only
              go_wp2_with fail
              have hal : Below W6.heap.size W6 (W6.alloc (.cells (strCells [[41]]).toArray 9)) := (Below.refl _ _).alloc (Nat.le_refl _) _
              refine (pmust_calls (ts := [[41]]) (H6.out.1.past hal) (Pc.inv_room H6.out.2.2.inv H.out.2.1) (rds_newS W6 [[41]] rfl) (fun k hk => by rw [hk, ← size_alloc1]; omega) (by simp)).mono ?_
              rintro e W7 ⟨rfl, h7, g7⟩
              have H7 := Lib.hid (And.intro h7 (And.intro (H6.out.2.1.trans ((FrT.of hal).trans g7)) (H6.out.2.2.then (Pc.sim_must H.out.1 [41]))))
              clear h7 g7 hal
              dsimp only
              go_wp2_with fail
              refine (pnode_at H7.out.1 H7.out.2.2.inv H.out.2.1 (HP.out.2.2.1.frt H7.out.2.1) [(Ps.leaf tk s).1, (ex (Ps.leaf tk s).2).1, (Ps.must tk [[41]] (ex (Ps.leaf tk s).2).2).1] (by simp) 12).mono ?_
              rintro e W8 ⟨rfl, h8, g8⟩
              have H8 := Lib.hid (And.intro h8 (H7.out.2.1.trans g8))
              clear h8 g8
              dsimp only
              go_wp2_with fail
              go_ret
              exact ⟨rfl, H8.out.1, H8.out.2⟩
            · rw [if_neg h6]
              rw [Bool.not_eq_true] at h6
              have HY6 := Lib.hid h6
              clear h6
              by_cases h1 : kd = 1
              · subst h1
                rw [if_pos rfl]
                go_enter Tryz.func143, Tryz.ntmps143
                go_wp2_with fail
                refine HPK.out.mono ?_
                rintro e W1 ⟨rfl, hb1⟩
                have H1 := Lib.hid hb1
                clear hb1 c0
                dsimp only
                go_wp2_with fail
                have hok := pok_calls (HP.out.1.past (H1.out.alloc H1.out.size (tokBox ⟨1, ld, tx, ps⟩)))
                rw [hed] at hok
                have hbx : (W1.alloc (tokBox ⟨1, ld, tx, ps⟩)).heap[W1.heap.size]? = some (.cells #[.int .i64 1, .string ⟨ld.toArray⟩, .string ⟨tx.toArray⟩, .int .i64 ps] 85 (0, 0)) := heap_alloc_new _ _
                have HV := Lib.hid (And.intro (H1.out.alloc H1.out.size (tokBox ⟨1, ld, tx, ps⟩)) hbx)
                refine hok.mono ?_
                rintro e V1 ⟨rfl, rfl⟩
                have k0 := cell_of_heap HV.out.2 0 rfl
                have c2 := (HP.out.1.past HV.out.1).c2
                have c0 := (HP.out.1.past HV.out.1).c0
                change Hid (Below W.heap.size W (W1.alloc (tokBox ⟨1, ld, tx, ps⟩)) ∧ _) at HV
                clear hok hbx
                generalize hV1 : W1.alloc (tokBox ⟨1, ld, tx, ps⟩) = V at *
                clear hV1
                dsimp only
                go_wp2_with fail
                refine (pnext_at (HP.out.1.past HV.out.1) HP.out.2.1 H.out.2.1 [Ps.tTrue, Ps.tFalse] (by simp) HY2.out).mono ?_
                rintro e V2 ⟨rfl, hb⟩
                have HV2 := Lib.hid (And.intro (HV.out.1.trans (hb.mono HV.out.1.size)) (anc_box HV.out.2 hb))
                clear hb k0 c0 c2
                have k0 := cell_of_heap HV2.out.2 0 rfl
                have c2 := (HP.out.1.past HV2.out.1).c2
                have c0 := (HP.out.1.past HV2.out.1).c0
                rw [hcl] at c2
                dsimp only
                go_wp2_with fail
                refine (pnext_at (HP.out.1.past HV2.out.1) HP.out.2.1 H.out.2.1 [Ps.tRes] (by simp) HY4.out).mono ?_
                rintro e V4 ⟨rfl, hb⟩
                have HV4 := Lib.hid (And.intro (HV2.out.1.trans (hb.mono HV2.out.1.size)) (anc_box HV2.out.2 hb))
                clear hb k0 c0 c2
                have k0 := cell_of_heap HV4.out.2 0 rfl
                have c2 := (HP.out.1.past HV4.out.1).c2
                have c0 := (HP.out.1.past HV4.out.1).c0
                dsimp only
                go_wp2_with fail
                refine (pnext_at (HP.out.1.past HV4.out.1) HP.out.2.1 H.out.2.1 [[40]] (by simp) HY6.out).mono ?_
                rintro e V6 ⟨rfl, hb⟩
                have HV6 := Lib.hid (And.intro (HV4.out.1.trans (hb.mono HV4.out.1.size)) (anc_box HV4.out.2 hb))
                clear hb k0 c0 c2
                have k0 := cell_of_heap HV6.out.2 0 rfl
                have c2 := (HP.out.1.past HV6.out.1).c2
                have c0 := (HP.out.1.past HV6.out.1).c0
                dsimp only
                go_wp2_with fail
                refine (H.out.2.2.2.2 Q _ _ (HP.out.2.2.1.size HV6.out.1.size) (HP.out.1.past HV6.out.1) HP.out.2.1 HE.out (by rw [HP.out.2.2.2])).mono ?_
                rintro e W7 ⟨rfl, h7, g7⟩
                have H7 := Lib.hid (And.intro h7 ((FrT.of HV6.out.1).trans g7))
                clear h7 g7
                dsimp only
                go_wp2_with fail
                go_ret
                exact ⟨rfl, H7.out.1, H7.out.2⟩
              · rw [if_neg h1]
                have k1 : (kd == 1) = false := by simpa using h1
                clear h1
                go_enter Tryz.func143, Tryz.ntmps143
                go_wp2_with fail
                refine HPK.out.mono ?_
                rintro e W1 ⟨rfl, hb1⟩
                have H1 := Lib.hid hb1
                clear hb1 c0
                dsimp only
                go_wp2_with fail
                have hok := pok_calls (HP.out.1.past (H1.out.alloc H1.out.size (tokBox ⟨kd, ld, tx, ps⟩)))
                rw [hed] at hok
                have hbx : (W1.alloc (tokBox ⟨kd, ld, tx, ps⟩)).heap[W1.heap.size]? = some (.cells #[.int .i64 kd, .string ⟨ld.toArray⟩, .string ⟨tx.toArray⟩, .int .i64 ps] 85 (0, 0)) := heap_alloc_new _ _
                have HV := Lib.hid (And.intro (H1.out.alloc H1.out.size (tokBox ⟨kd, ld, tx, ps⟩)) hbx)
                refine hok.mono ?_
                rintro e V1 ⟨rfl, rfl⟩
                have k0 := cell_of_heap HV.out.2 0 rfl
                have c2 := (HP.out.1.past HV.out.1).c2
                have c0 := (HP.out.1.past HV.out.1).c0
                change Hid (Below W.heap.size W (W1.alloc (tokBox ⟨kd, ld, tx, ps⟩)) ∧ _) at HV
                clear hok hbx
                generalize hV1 : W1.alloc (tokBox ⟨kd, ld, tx, ps⟩) = V at *
                clear hV1
                dsimp only
                go_wp2_with fail
                refine (pnext_at (HP.out.1.past HV.out.1) HP.out.2.1 H.out.2.1 [Ps.tTrue, Ps.tFalse] (by simp) HY2.out).mono ?_
                rintro e V2 ⟨rfl, hb⟩
                have HV2 := Lib.hid (And.intro (HV.out.1.trans (hb.mono HV.out.1.size)) (anc_box HV.out.2 hb))
                clear hb k0 c0 c2
                have k0 := cell_of_heap HV2.out.2 0 rfl
                have c2 := (HP.out.1.past HV2.out.1).c2
                have c0 := (HP.out.1.past HV2.out.1).c0
                rw [hcl] at c2
                dsimp only
                go_wp2_with fail
                refine (pnext_at (HP.out.1.past HV2.out.1) HP.out.2.1 H.out.2.1 [Ps.tRes] (by simp) HY4.out).mono ?_
                rintro e V4 ⟨rfl, hb⟩
                have HV4 := Lib.hid (And.intro (HV2.out.1.trans (hb.mono HV2.out.1.size)) (anc_box HV2.out.2 hb))
                clear hb k0 c0 c2
                have k0 := cell_of_heap HV4.out.2 0 rfl
                have c2 := (HP.out.1.past HV4.out.1).c2
                have c0 := (HP.out.1.past HV4.out.1).c0
                dsimp only
                go_wp2_with fail
                refine (pnext_at (HP.out.1.past HV4.out.1) HP.out.2.1 H.out.2.1 [[40]] (by simp) HY6.out).mono ?_
                rintro e V6 ⟨rfl, hb⟩
                have HV6 := Lib.hid (And.intro (HV4.out.1.trans (hb.mono HV4.out.1.size)) (anc_box HV4.out.2 hb))
                clear hb k0 c0 c2
                have k0 := cell_of_heap HV6.out.2 0 rfl
                have c2 := (HP.out.1.past HV6.out.1).c2
                have c0 := (HP.out.1.past HV6.out.1).c0
                dsimp only
                go_wp2_with fail
                refine (pfail_calls (HP.out.1.past HV6.out.1) (Pc.inv_room HP.out.2.1 H.out.2.1) 22).mono ?_
                rintro e W7 ⟨rfl, h7, g7⟩
                have H7 := Lib.hid (And.intro h7 ((FrT.of HV6.out.1).trans g7))
                clear h7 g7
                dsimp only
                go_wp2_with fail
                go_ret
                exact ⟨rfl, H7.out.1, H7.out.2⟩
  · rw [if_neg he]
    have hed : decide (s.e = 0) = false := decide_eq_false he
    go_enter Tryz.func143, Tryz.ntmps143
    go_wp2_with fail
    refine HPK.out.mono ?_
    rintro e W1 ⟨rfl, hb1⟩
    have H1 := Lib.hid hb1
    clear hb1 c0
    dsimp only
    go_wp2_with fail
    have hok := pok_calls (HP.out.1.past (H1.out.alloc H1.out.size (tokBox ⟨kd, ld, tx, ps⟩)))
    rw [hed] at hok
    refine hok.mono ?_
    rintro e V1 ⟨rfl, rfl⟩
    have HV := Lib.hid (H1.out.alloc H1.out.size (tokBox ⟨kd, ld, tx, ps⟩))
    clear hok
    dsimp only
    go_wp2_with fail
    go_ret
    exact ⟨rfl, HP.out.1.past HV.out, FrT.of HV.out⟩
end
end Go.Proofs.YtpkhdlnlkeehhaaGreatDoor
/- parse: expression: the walk. -/
namespace Go.Proofs.YtpkhdlnlkeehhaaGreatDoor
open Go.RowKit

section
variable {w0 : World} {p b : Nat} {tk : List Tr.Tk} {dp : Int}
/-- Too deep at once. -/
theorem pexpression_zero (hl : tk.length ≤ 1000000) {n : Int} (hd : n = dp + 1) : Knows w0 p b tk dp 51 #[.pointer (some ⟨p, 0, none⟩), .int .i64 n] (Ps.lv tk 0).ex := by
  intro Q W s hQ h hi
  have hdp := pdeep_calls (d := 0) h (Pc.inv_room hi hl) (n := n) (by simpa using hd)
  have he : (Ps.deep tk 0 s).e ≠ 0 := by
    unfold Ps.deep
    rw [if_pos rfl]
    unfold Ps.fail
    by_cases h0 : s.e = 0
    · rw [if_pos h0]
      show (23 : Int) ≠ 0
      decide
    · rw [if_neg h0]
      exact h0
  rw [decide_eq_true he] at hdp
  have HD := Lib.hid hdp
  have e1 : (Ps.lv tk 0).ex s = (0, Ps.deep tk 0 s) := rfl
  rw [e1]
  clear h hi hQ hdp he e1 hl hd
  go_enter Tryz.func51, Tryz.ntmps51
  go_wp2_with fail
  refine HD.out.mono ?_
  rintro e W1 ⟨rfl, h, g⟩
  have H1 := Lib.hid (And.intro h g)
  clear h g
  dsimp only
  go_wp2_with fail
  go_ret
  exact ⟨rfl, H1.out.1, H1.out.2⟩

set_option maxRecDepth 100000 in
set_option maxHeartbeats 8000000 in
theorem pexpression_calls (ht : Pc.Toks tk) (hl : tk.length ≤ 1000000) {n : Int} {d : Nat} (hn0 : 0 ≤ n) (hn1 : n ≤ 300) (hd : n + 1 + d = dp + 1) {lo : Ps.Lv} {ex : Ps.F} (hlo : lo.ex = ex) {g : Pr.G} (hx : Pc.Sim tk ex g) (hex : Knows w0 p b tk dp 51 #[.pointer (some ⟨p, 0, none⟩), .int .i64 (n + 1)] ex)
    (hfo : Knows w0 p b tk dp 81 #[.pointer (some ⟨p, 0, none⟩), .int .i64 n] (Ps.formula tk d lo)) :
    Knows w0 p b tk dp 51 #[.pointer (some ⟨p, 0, none⟩), .int .i64 n] (Ps.express tk d lo) := by
  intro Q W s hQ h hi
  have hdp := pdeep_calls (d := d + 1) h (Pc.inv_room hi hl) (n := n) (by omega)
  have hds : Ps.deep tk (d + 1) s = s := by unfold Ps.deep; rw [if_neg (by omega)]
  rw [hds] at hdp
  have H := Lib.hid (And.intro ht (And.intro hl (And.intro hx (And.intro hex hfo))))
  have HP := Lib.hid (And.intro h (And.intro hi hQ))
  unfold Ps.express
  rw [hlo]
  by_cases he : s.e = 0
  · rw [if_pos he]
    rw [decide_eq_false (by simp [he] : ¬ s.e ≠ 0)] at hdp
    have HD := Lib.hid hdp
    have HE := Lib.hid he
    clear ht hl hx hex hfo h hi hQ hdp hds he hd hlo
    cases hcl : s.clause
    · rw [if_neg (by simp)]
      by_cases a : Ps.nextB tk [Ps.tLet] s.used = true
      · rw [if_pos a]
        have HYa := Lib.hid a
        clear a
        go_enter Tryz.func51, Tryz.ntmps51
        go_wp2_with fail
        refine HD.out.mono ?_
        rintro e V0 ⟨rfl, h, g⟩
        have c2 := h.c2
        rw [hcl] at c2
        have H0 := Lib.hid (And.intro h (And.intro g (Pc.Og.nil HP.out.2.1)))
        clear h g
        dsimp only
        go_wp2_with fail
        refine (pnext_at H0.out.1 HP.out.2.1 H.out.2.1 [Ps.tLet] (by simp) HYa.out).mono ?_
        rintro e W0 ⟨rfl, hb⟩
        have hq := H0.out
        clear H0
        have H0 := Lib.hid (And.intro (hq.1.past hb) (And.intro (hq.2.1.trans (FrT.of hb)) hq.2.2))
        clear hb hq
        have c0 := H0.out.1.c0
        dsimp only
        go_wp2_with fail
        refine (pleaf_calls H0.out.1 (Pc.inv_room H0.out.2.2.inv H.out.2.1)).mono ?_
        rintro e W1 ⟨rfl, h, g⟩
        have H1 := Lib.hid (And.intro h (And.intro (H0.out.2.1.trans g) ((H0.out.2.2.leaf H.out.1 HE.out (Pc.next_kind HYa.out)).1)))
        clear h g
        obtain ⟨⟨x1, s1⟩, hx⟩ : ∃ r, Ps.leaf tk s = r := ⟨_, rfl⟩
        rw [hx] at H1 ⊢
        have HX1 := Lib.hid hx
        clear hx
        dsimp only at H1 ⊢
        go_wp2_with fail
        refine (pkind_calls H1.out.1 (Pc.inv_room H1.out.2.2.inv H.out.2.1) 1).mono ?_
        rintro e W2 ⟨rfl, h, g⟩
        have H2 := Lib.hid (And.intro h (And.intro (H1.out.2.1.trans g) (H1.out.2.2.then (Pc.sim_kind H.out.1 (k := 1) (by decide)))))
        clear h g
        obtain ⟨⟨x2, s2⟩, hx⟩ : ∃ r, Ps.kind tk 1 s1 = r := ⟨_, rfl⟩
        rw [hx] at H2 ⊢
        have HX2 := Lib.hid hx
        clear hx
        dsimp only at H2 ⊢
        go_wp2_with fail
        have hal : Below W2.heap.size W2 (W2.alloc (.cells (strCells [[61]]).toArray 9)) := (Below.refl _ _).alloc (Nat.le_refl _) _
        refine (pmust_calls (ts := [[61]]) (H2.out.1.past hal) (Pc.inv_room H2.out.2.2.inv H.out.2.1) (rds_newS W2 [[61]] rfl) (fun k hk => by rw [hk, ← size_alloc1]; omega) (by simp)).mono ?_
        rintro e W3 ⟨rfl, h, g⟩
        have H3 := Lib.hid (And.intro h (And.intro (H2.out.2.1.trans ((FrT.of hal).trans g)) (H2.out.2.2.then (Pc.sim_must H.out.1 [61]))))
        clear h g hal
        obtain ⟨⟨x3, s3⟩, hx⟩ : ∃ r, Ps.must tk [[61]] s2 = r := ⟨_, rfl⟩
        rw [hx] at H3 ⊢
        have HX3 := Lib.hid hx
        clear hx
        dsimp only at H3 ⊢
        go_wp2_with fail
        refine (H.out.2.2.2.1 Q _ _ (HP.out.2.2.frt H3.out.2.1) H3.out.1 H3.out.2.2.inv).mono ?_
        rintro e W4 ⟨rfl, h, g⟩
        have H4 := Lib.hid (And.intro h (And.intro (H3.out.2.1.trans g) (H3.out.2.2.then H.out.2.2.1)))
        clear h g
        obtain ⟨⟨x4, s4⟩, hx⟩ : ∃ r, ex s3 = r := ⟨_, rfl⟩
        rw [hx] at H4 ⊢
        have HX4 := Lib.hid hx
        clear hx
        dsimp only at H4 ⊢
        go_wp2_with fail
        have hal : Below W4.heap.size W4 (W4.alloc (.cells (strCells [Ps.tIn]).toArray 9)) := (Below.refl _ _).alloc (Nat.le_refl _) _
        refine (pmust_calls (ts := [Ps.tIn]) (H4.out.1.past hal) (Pc.inv_room H4.out.2.2.inv H.out.2.1) (rds_newS W4 [Ps.tIn] rfl) (fun k hk => by rw [hk, ← size_alloc1]; omega) (by simp)).mono ?_
        rintro e W5 ⟨rfl, h, g⟩
        have H5 := Lib.hid (And.intro h (And.intro (H4.out.2.1.trans ((FrT.of hal).trans g)) (H4.out.2.2.then (Pc.sim_must H.out.1 Ps.tIn))))
        clear h g hal
        obtain ⟨⟨x5, s5⟩, hx⟩ : ∃ r, Ps.must tk [Ps.tIn] s4 = r := ⟨_, rfl⟩
        rw [hx] at H5 ⊢
        have HX5 := Lib.hid hx
        clear hx
        dsimp only at H5 ⊢
        go_wp2_with fail
        refine (H.out.2.2.2.1 Q _ _ (HP.out.2.2.frt H5.out.2.1) H5.out.1 H5.out.2.2.inv).mono ?_
        rintro e W6 ⟨rfl, h, g⟩
        have H6 := Lib.hid (And.intro h (And.intro (H5.out.2.1.trans g) (H5.out.2.2.then H.out.2.2.1)))
        clear h g
        obtain ⟨⟨x6, s6⟩, hx⟩ : ∃ r, ex s5 = r := ⟨_, rfl⟩
        rw [hx] at H6 ⊢
        have HX6 := Lib.hid hx
        clear hx
        dsimp only at H6 ⊢
        go_wp2_with fail
        refine (pnode_at H6.out.1 H6.out.2.2.inv H.out.2.1 (HP.out.2.2.frt H6.out.2.1) [x1, x2, x3, x4, x5, x6] (by simp) 7).mono ?_
        rintro e WN ⟨rfl, h, g⟩
        have HN := Lib.hid (And.intro h (H6.out.2.1.trans g))
        clear h g
        dsimp only
        go_wp2_with fail
        go_ret
        have e1 : Ps.exLet tk ex s = Ps.node 7 [x1, x2, x3, x4, x5, x6] s6 := by
          simp only [Ps.exLet, HX1.out, HX2.out, HX3.out, HX4.out, HX5.out, HX6.out]
        rw [e1]
        exact ⟨rfl, HN.out.1, HN.out.2⟩
      · rw [if_neg a]
        rw [Bool.not_eq_true] at a
        have HYa := Lib.hid a
        clear a
        by_cases c : Ps.nextB tk [Ps.tIf] s.used = true
        · rw [if_pos c]
          have HYc := Lib.hid c
          clear c
          go_enter Tryz.func51, Tryz.ntmps51
          go_wp2_with fail
          refine HD.out.mono ?_
          rintro e V0 ⟨rfl, h, g⟩
          have c2 := h.c2
          rw [hcl] at c2
          have H0 := Lib.hid (And.intro h (And.intro g (Pc.Og.nil HP.out.2.1)))
          clear h g
          dsimp only
          go_wp2_with fail
          refine (pnext_at H0.out.1 HP.out.2.1 H.out.2.1 [Ps.tLet] (by simp) HYa.out).mono ?_
          rintro e V1 ⟨rfl, hb⟩
          have hq := H0.out
          clear H0
          have H0 := Lib.hid (And.intro (hq.1.past hb) (And.intro (hq.2.1.trans (FrT.of hb)) hq.2.2))
          clear hb hq
          skip
          dsimp only
          go_wp2_with fail
          refine (pnext_at H0.out.1 HP.out.2.1 H.out.2.1 [Ps.tIf] (by simp) HYc.out).mono ?_
          rintro e W0 ⟨rfl, hb⟩
          have hq := H0.out
          clear H0
          have H0 := Lib.hid (And.intro (hq.1.past hb) (And.intro (hq.2.1.trans (FrT.of hb)) hq.2.2))
          clear hb hq
          have c0 := H0.out.1.c0
          dsimp only
          go_wp2_with fail
          refine (pleaf_calls H0.out.1 (Pc.inv_room H0.out.2.2.inv H.out.2.1)).mono ?_
          rintro e W1 ⟨rfl, h, g⟩
          have H1 := Lib.hid (And.intro h (And.intro (H0.out.2.1.trans g) ((H0.out.2.2.leaf H.out.1 HE.out (Pc.next_kind HYc.out)).1)))
          clear h g
          obtain ⟨⟨x1, s1⟩, hx⟩ : ∃ r, Ps.leaf tk s = r := ⟨_, rfl⟩
          rw [hx] at H1 ⊢
          have HX1 := Lib.hid hx
          clear hx
          dsimp only at H1 ⊢
          go_wp2_with fail
          refine (H.out.2.2.2.1 Q _ _ (HP.out.2.2.frt H1.out.2.1) H1.out.1 H1.out.2.2.inv).mono ?_
          rintro e W2 ⟨rfl, h, g⟩
          have H2 := Lib.hid (And.intro h (And.intro (H1.out.2.1.trans g) (H1.out.2.2.then H.out.2.2.1)))
          clear h g
          obtain ⟨⟨x2, s2⟩, hx⟩ : ∃ r, ex s1 = r := ⟨_, rfl⟩
          rw [hx] at H2 ⊢
          have HX2 := Lib.hid hx
          clear hx
          dsimp only at H2 ⊢
          go_wp2_with fail
          have hal : Below W2.heap.size W2 (W2.alloc (.cells (strCells [Ps.tThen]).toArray 9)) := (Below.refl _ _).alloc (Nat.le_refl _) _
          refine (pmust_calls (ts := [Ps.tThen]) (H2.out.1.past hal) (Pc.inv_room H2.out.2.2.inv H.out.2.1) (rds_newS W2 [Ps.tThen] rfl) (fun k hk => by rw [hk, ← size_alloc1]; omega) (by simp)).mono ?_
          rintro e W3 ⟨rfl, h, g⟩
          have H3 := Lib.hid (And.intro h (And.intro (H2.out.2.1.trans ((FrT.of hal).trans g)) (H2.out.2.2.then (Pc.sim_must H.out.1 Ps.tThen))))
          clear h g hal
          obtain ⟨⟨x3, s3⟩, hx⟩ : ∃ r, Ps.must tk [Ps.tThen] s2 = r := ⟨_, rfl⟩
          rw [hx] at H3 ⊢
          have HX3 := Lib.hid hx
          clear hx
          dsimp only at H3 ⊢
          go_wp2_with fail
          refine (H.out.2.2.2.1 Q _ _ (HP.out.2.2.frt H3.out.2.1) H3.out.1 H3.out.2.2.inv).mono ?_
          rintro e W4 ⟨rfl, h, g⟩
          have H4 := Lib.hid (And.intro h (And.intro (H3.out.2.1.trans g) (H3.out.2.2.then H.out.2.2.1)))
          clear h g
          obtain ⟨⟨x4, s4⟩, hx⟩ : ∃ r, ex s3 = r := ⟨_, rfl⟩
          rw [hx] at H4 ⊢
          have HX4 := Lib.hid hx
          clear hx
          dsimp only at H4 ⊢
          go_wp2_with fail
          have hal : Below W4.heap.size W4 (W4.alloc (.cells (strCells [Ps.tElse]).toArray 9)) := (Below.refl _ _).alloc (Nat.le_refl _) _
          refine (pmust_calls (ts := [Ps.tElse]) (H4.out.1.past hal) (Pc.inv_room H4.out.2.2.inv H.out.2.1) (rds_newS W4 [Ps.tElse] rfl) (fun k hk => by rw [hk, ← size_alloc1]; omega) (by simp)).mono ?_
          rintro e W5 ⟨rfl, h, g⟩
          have H5 := Lib.hid (And.intro h (And.intro (H4.out.2.1.trans ((FrT.of hal).trans g)) (H4.out.2.2.then (Pc.sim_must H.out.1 Ps.tElse))))
          clear h g hal
          obtain ⟨⟨x5, s5⟩, hx⟩ : ∃ r, Ps.must tk [Ps.tElse] s4 = r := ⟨_, rfl⟩
          rw [hx] at H5 ⊢
          have HX5 := Lib.hid hx
          clear hx
          dsimp only at H5 ⊢
          go_wp2_with fail
          refine (H.out.2.2.2.1 Q _ _ (HP.out.2.2.frt H5.out.2.1) H5.out.1 H5.out.2.2.inv).mono ?_
          rintro e W6 ⟨rfl, h, g⟩
          have H6 := Lib.hid (And.intro h (And.intro (H5.out.2.1.trans g) (H5.out.2.2.then H.out.2.2.1)))
          clear h g
          obtain ⟨⟨x6, s6⟩, hx⟩ : ∃ r, ex s5 = r := ⟨_, rfl⟩
          rw [hx] at H6 ⊢
          have HX6 := Lib.hid hx
          clear hx
          dsimp only at H6 ⊢
          go_wp2_with fail
          refine (pnode_at H6.out.1 H6.out.2.2.inv H.out.2.1 (HP.out.2.2.frt H6.out.2.1) [x1, x2, x3, x4, x5, x6] (by simp) 8).mono ?_
          rintro e WN ⟨rfl, h, g⟩
          have HN := Lib.hid (And.intro h (H6.out.2.1.trans g))
          clear h g
          dsimp only
          go_wp2_with fail
          go_ret
          have e1 : Ps.exIf tk ex s = Ps.node 8 [x1, x2, x3, x4, x5, x6] s6 := by
            simp only [Ps.exIf, HX1.out, HX2.out, HX3.out, HX4.out, HX5.out, HX6.out]
          rw [e1]
          exact ⟨rfl, HN.out.1, HN.out.2⟩
        · rw [if_neg c]
          rw [Bool.not_eq_true] at c
          have HYc := Lib.hid c
          clear c
          by_cases d : Ps.nextB tk [Ps.tAssert] s.used = true
          · rw [if_pos d]
            have HYd := Lib.hid d
            clear d
            go_enter Tryz.func51, Tryz.ntmps51
            go_wp2_with fail
            refine HD.out.mono ?_
            rintro e V0 ⟨rfl, h, g⟩
            have c2 := h.c2
            rw [hcl] at c2
            have H0 := Lib.hid (And.intro h (And.intro g (Pc.Og.nil HP.out.2.1)))
            clear h g
            dsimp only
            go_wp2_with fail
            refine (pnext_at H0.out.1 HP.out.2.1 H.out.2.1 [Ps.tLet] (by simp) HYa.out).mono ?_
            rintro e V1 ⟨rfl, hb⟩
            have hq := H0.out
            clear H0
            have H0 := Lib.hid (And.intro (hq.1.past hb) (And.intro (hq.2.1.trans (FrT.of hb)) hq.2.2))
            clear hb hq
            skip
            dsimp only
            go_wp2_with fail
            refine (pnext_at H0.out.1 HP.out.2.1 H.out.2.1 [Ps.tIf] (by simp) HYc.out).mono ?_
            rintro e V2 ⟨rfl, hb⟩
            have hq := H0.out
            clear H0
            have H0 := Lib.hid (And.intro (hq.1.past hb) (And.intro (hq.2.1.trans (FrT.of hb)) hq.2.2))
            clear hb hq
            skip
            dsimp only
            go_wp2_with fail
            refine (pnext_at H0.out.1 HP.out.2.1 H.out.2.1 [Ps.tAssert] (by simp) HYd.out).mono ?_
            rintro e W0 ⟨rfl, hb⟩
            have hq := H0.out
            clear H0
            have H0 := Lib.hid (And.intro (hq.1.past hb) (And.intro (hq.2.1.trans (FrT.of hb)) hq.2.2))
            clear hb hq
            have c0 := H0.out.1.c0
            dsimp only
            go_wp2_with fail
            refine (pleaf_calls H0.out.1 (Pc.inv_room H0.out.2.2.inv H.out.2.1)).mono ?_
            rintro e W1 ⟨rfl, h, g⟩
            have H1 := Lib.hid (And.intro h (And.intro (H0.out.2.1.trans g) ((H0.out.2.2.leaf H.out.1 HE.out (Pc.next_kind HYd.out)).1)))
            clear h g
            obtain ⟨⟨x1, s1⟩, hx⟩ : ∃ r, Ps.leaf tk s = r := ⟨_, rfl⟩
            rw [hx] at H1 ⊢
            have HX1 := Lib.hid hx
            clear hx
            dsimp only at H1 ⊢
            go_wp2_with fail
            refine (H.out.2.2.2.1 Q _ _ (HP.out.2.2.frt H1.out.2.1) H1.out.1 H1.out.2.2.inv).mono ?_
            rintro e W2 ⟨rfl, h, g⟩
            have H2 := Lib.hid (And.intro h (And.intro (H1.out.2.1.trans g) (H1.out.2.2.then H.out.2.2.1)))
            clear h g
            obtain ⟨⟨x2, s2⟩, hx⟩ : ∃ r, ex s1 = r := ⟨_, rfl⟩
            rw [hx] at H2 ⊢
            have HX2 := Lib.hid hx
            clear hx
            dsimp only at H2 ⊢
            go_wp2_with fail
            have hal : Below W2.heap.size W2 (W2.alloc (.cells (strCells [Ps.tIn]).toArray 9)) := (Below.refl _ _).alloc (Nat.le_refl _) _
            refine (pmust_calls (ts := [Ps.tIn]) (H2.out.1.past hal) (Pc.inv_room H2.out.2.2.inv H.out.2.1) (rds_newS W2 [Ps.tIn] rfl) (fun k hk => by rw [hk, ← size_alloc1]; omega) (by simp)).mono ?_
            rintro e W3 ⟨rfl, h, g⟩
            have H3 := Lib.hid (And.intro h (And.intro (H2.out.2.1.trans ((FrT.of hal).trans g)) (H2.out.2.2.then (Pc.sim_must H.out.1 Ps.tIn))))
            clear h g hal
            obtain ⟨⟨x3, s3⟩, hx⟩ : ∃ r, Ps.must tk [Ps.tIn] s2 = r := ⟨_, rfl⟩
            rw [hx] at H3 ⊢
            have HX3 := Lib.hid hx
            clear hx
            dsimp only at H3 ⊢
            go_wp2_with fail
            refine (H.out.2.2.2.1 Q _ _ (HP.out.2.2.frt H3.out.2.1) H3.out.1 H3.out.2.2.inv).mono ?_
            rintro e W4 ⟨rfl, h, g⟩
            have H4 := Lib.hid (And.intro h (And.intro (H3.out.2.1.trans g) (H3.out.2.2.then H.out.2.2.1)))
            clear h g
            obtain ⟨⟨x4, s4⟩, hx⟩ : ∃ r, ex s3 = r := ⟨_, rfl⟩
            rw [hx] at H4 ⊢
            have HX4 := Lib.hid hx
            clear hx
            dsimp only at H4 ⊢
            go_wp2_with fail
            refine (pnode_at H4.out.1 H4.out.2.2.inv H.out.2.1 (HP.out.2.2.frt H4.out.2.1) [x1, x2, x3, x4] (by simp) 9).mono ?_
            rintro e WN ⟨rfl, h, g⟩
            have HN := Lib.hid (And.intro h (H4.out.2.1.trans g))
            clear h g
            dsimp only
            go_wp2_with fail
            go_ret
            have e1 : Ps.exAssert tk ex s = Ps.node 9 [x1, x2, x3, x4] s4 := by
              simp only [Ps.exAssert, HX1.out, HX2.out, HX3.out, HX4.out]
            rw [e1]
            exact ⟨rfl, HN.out.1, HN.out.2⟩
          · rw [if_neg d]
            rw [Bool.not_eq_true] at d
            have HYd := Lib.hid d
            clear d
            go_enter Tryz.func51, Tryz.ntmps51
            go_wp2_with fail
            refine HD.out.mono ?_
            rintro e V0 ⟨rfl, h, g⟩
            have c2 := h.c2
            rw [hcl] at c2
            have H0 := Lib.hid (And.intro h (And.intro g (Pc.Og.nil HP.out.2.1)))
            clear h g
            dsimp only
            go_wp2_with fail
            refine (pnext_at H0.out.1 HP.out.2.1 H.out.2.1 [Ps.tLet] (by simp) HYa.out).mono ?_
            rintro e V1 ⟨rfl, hb⟩
            have hq := H0.out
            clear H0
            have H0 := Lib.hid (And.intro (hq.1.past hb) (And.intro (hq.2.1.trans (FrT.of hb)) hq.2.2))
            clear hb hq
            skip
            dsimp only
            go_wp2_with fail
            refine (pnext_at H0.out.1 HP.out.2.1 H.out.2.1 [Ps.tIf] (by simp) HYc.out).mono ?_
            rintro e V2 ⟨rfl, hb⟩
            have hq := H0.out
            clear H0
            have H0 := Lib.hid (And.intro (hq.1.past hb) (And.intro (hq.2.1.trans (FrT.of hb)) hq.2.2))
            clear hb hq
            skip
            dsimp only
            go_wp2_with fail
            refine (pnext_at H0.out.1 HP.out.2.1 H.out.2.1 [Ps.tAssert] (by simp) HYd.out).mono ?_
            rintro e V3 ⟨rfl, hb⟩
            have hq := H0.out
            clear H0
            have H0 := Lib.hid (And.intro (hq.1.past hb) (And.intro (hq.2.1.trans (FrT.of hb)) hq.2.2))
            clear hb hq
            skip
            dsimp only
            go_wp2_with fail
            refine (H.out.2.2.2.2 Q _ _ (HP.out.2.2.frt H0.out.2.1) H0.out.1 HP.out.2.1).mono ?_
            rintro e WN ⟨rfl, h, g⟩
            have HN := Lib.hid (And.intro h (H0.out.2.1.trans g))
            clear h g
            dsimp only
            go_wp2_with fail
            go_ret
            exact ⟨rfl, HN.out.1, HN.out.2⟩
    · rw [if_pos rfl]
      go_enter Tryz.func51, Tryz.ntmps51
      go_wp2_with fail
      refine HD.out.mono ?_
      rintro e V0 ⟨rfl, h, g⟩
      have c2 := h.c2
      rw [hcl] at c2
      have H0 := Lib.hid (And.intro h (And.intro g (Pc.Og.nil HP.out.2.1)))
      clear h g
      dsimp only
      go_wp2_with fail
      refine (H.out.2.2.2.2 Q _ _ (HP.out.2.2.frt H0.out.2.1) H0.out.1 HP.out.2.1).mono ?_
      rintro e WN ⟨rfl, h, g⟩
      have HN := Lib.hid (And.intro h (H0.out.2.1.trans g))
      clear h g
      dsimp only
      go_wp2_with fail
      go_ret
      exact ⟨rfl, HN.out.1, HN.out.2⟩
  · rw [if_neg he]
    rw [decide_eq_true he] at hdp
    have HD := Lib.hid hdp
    clear ht hl hx hex hfo h hi hQ hdp hds he hd hlo
    go_enter Tryz.func51, Tryz.ntmps51
    go_wp2_with fail
    refine HD.out.mono ?_
    rintro e W1 ⟨rfl, h, g⟩
    have H1 := Lib.hid (And.intro h g)
    clear h g
    dsimp only
    go_wp2_with fail
    go_ret
    exact ⟨rfl, H1.out.1, H1.out.2⟩
end
end Go.Proofs.YtpkhdlnlkeehhaaGreatDoor
/- parse: name: the walk. -/
namespace Go.Proofs.YtpkhdlnlkeehhaaGreatDoor
open Go.RowKit

section
variable {w0 : World} {p b : Nat} {tk : List Tr.Tk} {dp : Int} {Q : Nat → Prop}
/-- A parser, and a row of kids of the caller's own, made since W. -/
structure KidsI (Q : Nat → Prop) (w0 W : World) (p b : Nat) (tk : List Tr.Tk) (dp : Int) (s : Ps.St) (V : World) (v : Value) (l : List Int) : Prop where
  row : V.ownsRow W.heap.size 3 1 v l.length (intCells l)
  pi : PI (Off Q v) w0 V p b tk dp s
  fr : FrT PTs W V
theorem KidsI.up {W V : World} {s : Ps.St} {v : Value} {l : List Int} (h : KidsI Q w0 W p b tk dp s V v l) (hQ : Up Q W) : Up (Off Q v) V := Off.up (hQ.frt h.fr) h.row
theorem KidsI.step {W V V' : World} {s s' : Ps.St} {v : Value} {l : List Int} (h : KidsI Q w0 W p b tk dp s V v l) (hp : PI (Off Q v) w0 V' p b tk dp s') (hf : FrT PTs V V') : KidsI Q w0 W p b tk dp s' V' v l :=
  ⟨ownsRow_frt h.row hf (by decide), hp, h.fr.trans hf⟩
theorem KidsI.past {W V V' : World} {s : Ps.St} {v : Value} {l : List Int} (h : KidsI Q w0 W p b tk dp s V v l) (hb : Below V.heap.size V V') : KidsI Q w0 W p b tk dp s V' v l :=
  h.step (h.pi.past hb) (FrT.of hb)
theorem KidsI.append {W V V' : World} {s : Ps.St} {v v' : Value} {l m : List Int} {n : Nat} (h : KidsI Q w0 W p b tk dp s V v l) (hw : w0.heap.size ≤ W.heap.size) (ho : V'.ownsRow W.heap.size 3 1 v' n (intCells l ++ intCells m)) (hn : n = l.length + m.length)
    (hg : V.grownBy V' v.ownBlock) (hat : ∀ k, v'.ownBlock = some k → v.ownBlock = some k ∨ k = V.heap.size) : KidsI Q w0 W p b tk dp s V' v' (l ++ m) := by
  refine ⟨?_, h.pi.appended h.row hw hg hat, h.fr.grown hg fun k hk => (h.row.lt k hk).1⟩
  have e : intCells (l ++ m) = intCells l ++ intCells m := by simp [intCells]
  rw [e, List.length_append, ← hn]
  exact ho
theorem kids_new {W V : World} {s : Ps.St} (h : PI Q w0 V p b tk dp s) (hf : FrT PTs W V) (l : List Int) (hl : l.length ≤ 1000) :
    KidsI Q w0 W p b tk dp s (V.alloc (.cells (intCells l).toArray 3)) (.slice (some ⟨V.heap.size, 0, none⟩) l.length l.length) l := by
  have hal : Below V.heap.size V (V.alloc (.cells (intCells l).toArray 3)) := (Below.refl _ _).alloc (Nat.le_refl _) _
  exact ⟨ownsRow_low (own_new V l hl) hf.size, (h.imp fun k hk hq => ⟨hq, by simp only [Value.ownBlock, ne_eq, Option.some.injEq]; omega⟩).past hal, hf.trans (FrT.of hal)⟩
theorem KidsI.node {W V : World} {s : Ps.St} {v : Value} {l : List Int} (h : KidsI Q w0 W p b tk dp s V v l) (hQ : Up Q W) (hi : Pc.Inv tk s) (hl : tk.length ≤ 1000000) (hn : l.length ≤ 1000000) (k : Int) :
    Calls Tryz.prog 38 #[.pointer (some ⟨p, 0, none⟩), .int .i64 k, v] V fun e W' => e = .returned (.int .i64 (Ps.node k l s).1) ∧ PI Q w0 W' p b tk dp (Ps.node k l s).2 ∧ FrT PTs W W' := by
  refine (pnode_calls h.pi (Pc.inv_room hi hl) (RdS.own h.row) (fun k hk => hk.2.2) hn (h.up hQ) k).mono ?_
  rintro e W' ⟨rfl, h1, g1⟩
  exact ⟨rfl, h1.imp fun k _ hq => hq.1, h.fr.trans g1⟩

theorem pnext_at2 {V : World} {s : Ps.St} (h : PI Q w0 V p b tk dp s) (hi : Pc.Inv tk s) (hl : tk.length ≤ 1000000) (ts : List (List UInt8)) (hts : ts.length ≤ 1000) {y : Bool} (hy : Ps.nextB tk ts s.used = y) {r : Nat} (hr : r = V.heap.size) :
    Calls Tryz.prog 60 #[.pointer (some ⟨p, 0, none⟩), .slice (some ⟨r, 0, none⟩) ts.length ts.length] (V.alloc (.cells (strCells ts).toArray 9)) fun e W' => e = .returned (.bool y) ∧ Below V.heap.size V W' := by
  subst hr
  exact pnext_at h hi hl ts hts hy
/-- The boxes that name's closure looks into. -/
def Boxes (p : Nat) (n : Int) (bp bn : Nat) (V : World) : Prop := V.heap[bp]? = some (.cells #[.pointer (some ⟨p, 0, none⟩)] 48 (0, 0)) ∧ V.heap[bn]? = some (.cells #[.int .i64 n] 3 (0, 0))
theorem boxes_keep {p : Nat} {n : Int} {bp bn : Nat} : ∀ V V', Boxes p n bp bn V → FrT PTs V V' → Boxes p n bp bn V' := fun _ _ h hf => ⟨hf.cells h.1 (by decide), hf.cells h.2 (by decide)⟩
theorem pname1_calls {n : Int} (hn0 : 0 ≤ n) (hn1 : n ≤ 300) {bp bn : Nat} {ex : Ps.F} (hex : Knows w0 p b tk dp 51 #[.pointer (some ⟨p, 0, none⟩), .int .i64 (n + 1)] ex) :
    KnowsB (Boxes p n bp bn) w0 p b tk dp 149 #[.pointer (some ⟨bp, 0, none⟩), .pointer (some ⟨bn, 0, none⟩)] ex := by
  intro Q W s hQ h hi hB
  have b0 := cell_of_heap hB.1 0 rfl
  have b1 := cell_of_heap hB.2 0 rfl
  have HC := Lib.hid (hex Q W s hQ h hi)
  clear h hi hQ hB hex
  go_enter Tryz.func149, Tryz.ntmps149
  go_wp2_with fail
  refine HC.out.mono ?_
  rintro e W1 ⟨rfl, h1, g1⟩
  have H1 := Lib.hid (And.intro h1 g1)
  clear h1 g1
  dsimp only
  go_wp2_with fail
  go_ret
  exact ⟨rfl, H1.out.1, H1.out.2⟩
end
end Go.Proofs.YtpkhdlnlkeehhaaGreatDoor
/- Appends onto a row of kids of the call's own. -/
namespace Go.Proofs.YtpkhdlnlkeehhaaGreatDoor
open Go.RowKit

section
variable {w0 : World} {p b : Nat} {tk : List Tr.Tk} {dp : Int} {Q : Nat → Prop}
theorem kids_run {W V V' : World} {s : Ps.St} {v : Value} {l : List Int} (hK : KidsI Q w0 W p b tk dp s V v l) (hw : w0.heap.size ≤ W.heap.size) (hb : Below V.heap.size V V') {R : Nat → Prop} {xv : Value} {m : List Int} (hx : RdS V' R 1 xv m.length (intCells m)) (hn : l.length + m.length ≤ 100000) (ty : TypeId) :
    ∃ v' w', (Builtin.append_ #[41, 41] ty #[v, xv]).run Tryz.prog V' = .ok v' w' ∧ KidsI Q w0 W p b tk dp s w' v' (l ++ m) := by
  have hk := hK.past hb
  obtain ⟨i0, hii, hz0, hz1, hz2⟩ := info_split info_int2
  obtain ⟨a2, cap, w', hr, h2, h3, h4⟩ := run_append_row (P := Tryz.prog) V' 41 ty W.heap.size 3 i0 (.int .i64 0) 1 8 Tryz.underlying41 hii hz0 hz1 hz2 rfl (by decide) v l.length (intCells l) hk.row hx (ints_one _) (by unfold maxLen; omega) (by omega) hk.fr.size
  exact ⟨_, w', hr, hk.append hw h2 rfl h3 h4⟩
theorem kids_wp {ops : Array Oper} {rest : List Oper} {o : Oper} {a : Act} {K : Exit → Act → World → Prop} (hgd : o.guard = none) (sx xx : Operand)
    (ho : o.op = .call { callee := .builtin .append, args := #[sx, xx], argTypes := #[41, 41] })
    {W V V' : World} {s : Ps.St} {v : Value} {l : List Int} (hK : KidsI Q w0 W p b tk dp s V v l) (hw : w0.heap.size ≤ W.heap.size) (hs : a.eval sx = v) (hb : Below V.heap.size V V') {R : Nat → Prop} {xv : Value} (m : List Int) (hx : RdS V' R 1 xv m.length (intCells m)) (hxv : a.eval xx = xv) (hn : l.length + m.length ≤ 100000)
    (h : ∀ v' w', KidsI Q w0 W p b tk dp s w' v' (l ++ m) → wpList Tryz.prog ops K rest (a.put o.dst v') w') :
    wpList Tryz.prog ops K (o :: rest) a V' := by
  refine wpList_plain hgd fun K2 hK2 => ?_
  obtain ⟨v', w', hr, h2⟩ := kids_run hK hw hb hx hn o.type
  unfold Oper.wp execOp
  simp only [ho, resolve, invoke, builtin, Sem.run_bind, Sem.run_pure, Result.andThen_ok, List.map_toArray, List.map_cons, List.map_nil, hs, hxv, hr]
  exact hK2 _ _ (h v' w' h2)
theorem kids_step {ops : Array Oper} {o : Oper} {a : Act} {K : Act → World → Prop} {K2 : Exit → Act → World → Prop} {E : Prop} (hgd : o.guard = none) (sx xx : Operand)
    (ho : o.op = .call { callee := .builtin .append, args := #[sx, xx], argTypes := #[41, 41] })
    {W V V' : World} {s : Ps.St} {v : Value} {l : List Int} (hK : KidsI Q w0 W p b tk dp s V v l) (hw : w0.heap.size ≤ W.heap.size) (hs : a.eval sx = v) (hb : Below V.heap.size V V') {R : Nat → Prop} {xv : Value} (m : List Int) (hx : RdS V' R 1 xv m.length (intCells m)) (hxv : a.eval xx = xv) (hn : l.length + m.length ≤ 100000)
    (h : ∀ v' w', KidsI Q w0 W p b tk dp s w' v' (l ++ m) → K (a.put o.dst v') w') :
    if Region.wanted o (yielded ops a.tmps) = true then Oper.wp Tryz.prog o a V' K K2 else E := by
  have hwt : Region.wanted o (yielded ops a.tmps) = true := by simp [Region.wanted, hgd]
  rw [if_pos hwt]
  obtain ⟨v', w', hr, h2⟩ := kids_run hK hw hb hx hn o.type
  unfold Oper.wp execOp
  simp only [ho, resolve, invoke, builtin, Sem.run_bind, Sem.run_pure, Result.andThen_ok, List.map_toArray, List.map_cons, List.map_nil, hs, hxv, hr]
  exact h v' w' h2
theorem fresh_below (V : World) (o : Obj) : Below V.heap.size V (V.alloc o) := (Below.refl _ _).alloc (Nat.le_refl _) _
theorem rds_list {V : World} {base : Nat} {v : Value} {m : List Int} (h : V.ownsRow base 3 1 v m.length (intCells m)) : RdS V (fun k => v.ownBlock = some k ∧ base ≤ k ∧ k < V.heap.size) 1 v m.length (intCells m) := RdS.own h
end
end Go.Proofs.YtpkhdlnlkeehhaaGreatDoor
