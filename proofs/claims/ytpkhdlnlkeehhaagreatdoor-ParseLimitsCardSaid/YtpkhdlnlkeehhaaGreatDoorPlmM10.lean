/- Contracts and plain laws, in one text. Plain: the document's lexer, byte by byte, says what the program's says. No program in sight. | The document's lexer: letter, digit, blank, lead, key: the walks. | The document's lexer: key, sign: the walks. | The document's lexer: sign: the walk. | The document's lexer: token: the walk. | The document's lexer: a text's tokens: the walk. | slices.Index, slices.Contains at []string. | parse: ok, fail, next, must, kind, node, deep: the walks. | Plain: what each of the parser's functions keeps. No program in sight. -/
import Derived.Test.YtpkhdlnlkeehhaaGreatDoorPlmM1
import Derived.OwnWalk
import Derived.Test.YtpkhdlnlkeehhaaGreatDoorPlmM2
import Derived.Test.YtpkhdlnlkeehhaaGreatDoorPlmM6
import Derived.WalkKit
import Derived.WalkSpells
import Derived.Deep.LoopGhost
import Derived.Lib.Hide
import Derived.Test.YtpkhdlnlkeehhaaGreatDoorPlmM4
import Derived.Test.YtpkhdlnlkeehhaaGreatDoorPlmM3
/- Plain: the document's lexer, byte by byte, says what the program's says. No program in sight. -/
namespace Go.Proofs.YtpkhdlnlkeehhaaGreatDoor.Lx

/-- What is left behind what stands ahead of a token. -/
def rst (l : List UInt8) : List UInt8 := rest (l.length + 1) l
theorem rst_nil : rst [] = [] := rfl
theorem rst_blank {c : UInt8} {t : List UInt8} (h : blank c = true) : rst (c :: t) = rst t := by
  unfold rst
  have h1 : rest ((c :: t).length + 1) (c :: t) = rest ((c :: t).length + 1) t := by
    conv => lhs; unfold rest
    conv => rhs; unfold rest
    rw [List.dropWhile_cons, if_pos h]
  rw [h1]
  exact rest_fuel _ _ _ (by simp only [List.length_cons]; omega) (by omega)
theorem rst_line {t : List UInt8} : rst (45 :: 45 :: t) = rst (line t) := by
  unfold rst
  have h1 : rest ((45 :: 45 :: t).length + 1) (45 :: 45 :: t) = rest (45 :: 45 :: t).length (line t) := by
    conv => lhs; unfold rest
    rw [List.dropWhile_cons, if_neg (by decide)]
    rfl
  rw [h1]
  have h2 := dropWhile_len (fun c : UInt8 => c != 10) t
  exact rest_fuel _ _ _ (by simp only [List.length_cons]; unfold line; omega) (by omega)
theorem line_skip {c : UInt8} {t : List UInt8} (h : c ≠ 10) : line (c :: t) = line t := by
  unfold line
  rw [List.dropWhile_cons, if_pos (by simpa using h)]
theorem line_stop {t : List UInt8} : line (10 :: t) = 10 :: t := by
  unfold line
  rw [List.dropWhile_cons, if_neg (by decide)]
theorem line_nil : line [] = [] := rfl
theorem rst_stop {c : UInt8} {t : List UInt8} (h : blank c = false) (h2 : ∀ r, c :: t ≠ 45 :: 45 :: r) : rst (c :: t) = c :: t := by
  unfold rst rest
  rw [List.dropWhile_cons, if_neg (by simp [h])]
  split
  · rename_i r e
    exact absurd e (h2 r)
  · rfl
theorem rst_len (l : List UInt8) : (rst l).length ≤ l.length := rest_len _ _

def twos : List (List UInt8) := [[60, 62], [60, 61], [62, 61], [38, 38], [124, 124], [61, 62]]
def ones : List UInt8 := [40, 41, 123, 125, 44, 58, 59, 46, 43, 45, 42, 47, 37, 61, 60, 62]
/-- How long the sign is with which a text begins. -/
def sgn (l : List UInt8) : Nat := if twos.contains (l.take 2) then 2 else match l with | [] => 0 | c :: _ => if ones.contains c then 1 else 0
theorem sgn_find (c : UInt8) (t : List UInt8) : signList.find? (fun x => x.isPrefixOf (c :: t)) = if sgn (c :: t) = 0 then none else some ((c :: t).take (sgn (c :: t))) := by
  have e : signList = twos ++ ones.map fun y => [y] := rfl
  have h1 : twos.find? (fun x => x.isPrefixOf (c :: t)) = if twos.contains ((c :: t).take 2) then some ((c :: t).take 2) else none := by
    have hp : ∀ x ∈ twos, x.isPrefixOf (c :: t) = (x == (c :: t).take 2) := by
      intro x hx
      have hl : x.length = 2 := by
        simp only [twos, List.mem_cons, List.not_mem_nil, or_false] at hx
        rcases hx with rfl | rfl | rfl | rfl | rfl | rfl <;> rfl
      rw [Bool.eq_iff_iff, List.isPrefixOf_iff_prefix, List.prefix_iff_eq_take, hl]
      simp
    have h2 : ∀ (l : List (List UInt8)), (∀ x ∈ l, x.isPrefixOf (c :: t) = (x == (c :: t).take 2)) → l.find? (fun x => x.isPrefixOf (c :: t)) = if l.contains ((c :: t).take 2) then some ((c :: t).take 2) else none := by
      intro l
      induction l with
      | nil => intro _; simp
      | cons x l ih =>
        intro hl
        rw [List.find?_cons, hl x (by simp)]
        cases hx : (x == (c :: t).take 2) with
        | true =>
          have hx2 : x = (c :: t).take 2 := by simpa using hx
          simp only
          rw [if_pos (by rw [hx2]; simp), hx2]
        | false =>
          simp only
          rw [ih fun y hy => hl y (by simp [hy])]
          have hx2 : ¬ ((c :: t).take 2 = x) := by
            intro e
            rw [← e] at hx
            simp at hx
          rw [List.contains_cons]
          have : ((c :: t).take 2 == x) = false := by simpa using hx2
          rw [this, Bool.false_or]
    exact h2 twos hp
  have h3 : ∀ l : List UInt8, (l.map fun y => [y]).find? (fun x => x.isPrefixOf (c :: t)) = if l.contains c then some [c] else none := by
    intro l
    induction l with
    | nil => simp
    | cons y l ih =>
      rw [List.map_cons, List.find?_cons, List.contains_cons]
      have : ([y] : List UInt8).isPrefixOf (c :: t) = (c == y) := by
        rw [Bool.eq_iff_iff]
        simp [List.isPrefixOf]
        exact ⟨fun h => h.symm, fun h => h.symm⟩
      rw [this]
      cases hcy : (c == y) with
      | true =>
        have : c = y := by simpa using hcy
        subst this
        simp
      | false =>
        simp only [Bool.false_or]
        exact ih
  rw [e, List.find?_append, h1, h3]
  unfold sgn
  by_cases h4 : twos.contains ((c :: t).take 2) = true
  · rw [if_pos h4]
    simp only [if_pos h4]
    simp
  · rw [if_neg h4]
    simp only [if_neg h4]
    by_cases h5 : ones.contains c = true
    · simp only [if_pos h5]
      simp
    · simp only [if_neg h5]
      simp
end Go.Proofs.YtpkhdlnlkeehhaaGreatDoor.Lx
/- The document's lexer: letter, digit, blank, lead, key: the walks. -/
namespace Go.Proofs.YtpkhdlnlkeehhaaGreatDoor
open Go.RowKit

theorem rletter_calls (c : UInt8) (w : World) : Calls Tryz.prog 70 #[.int .u8 c.toNat] w fun e w' => e = .returned (.bool (Lx.letter c)) ∧ w = w' := by
  have e1 : Lx.letter c = ((decide (97 ≤ (c.toNat : Int)) && decide ((c.toNat : Int) ≤ 122)) || (decide (65 ≤ (c.toNat : Int)) && decide ((c.toNat : Int) ≤ 90))) := by
    unfold Lx.letter
    rw [Bool.eq_iff_iff]; simp [UInt8.le_iff_toNat_le]; omega
  rw [e1]
  have hc := c.toNat_lt
  have hc' : (c.toNat : Int) < 256 := by omega
  have hc0 : (0 : Int) ≤ (c.toNat : Int) := by omega
  clear e1 hc
  generalize (c.toNat : Int) = x at *
  by_cases a : 97 ≤ x <;> by_cases b : x ≤ 122 <;> by_cases d : 65 ≤ x <;> by_cases f : x ≤ 90
  all_goals
    first
    | (exfalso; omega)
    | (go_enter Tryz.func70, Tryz.ntmps70
       go_wp2
       go_ret
       exact ⟨by simp [*], rfl⟩)
theorem rdigit_calls (c : UInt8) (w : World) : Calls Tryz.prog 71 #[.int .u8 c.toNat] w fun e w' => e = .returned (.bool (Lx.digit c)) ∧ w = w' := by
  have e1 : Lx.digit c = (decide (48 ≤ (c.toNat : Int)) && decide ((c.toNat : Int) ≤ 57)) := by
    unfold Lx.digit
    rw [Bool.eq_iff_iff]; simp [UInt8.le_iff_toNat_le]; omega
  rw [e1]
  have hc := c.toNat_lt
  have hc' : (c.toNat : Int) < 256 := by omega
  have hc0 : (0 : Int) ≤ (c.toNat : Int) := by omega
  clear e1 hc
  generalize (c.toNat : Int) = x at *
  by_cases a : 48 ≤ x <;> by_cases b : x ≤ 57
  all_goals
    first
    | (exfalso; omega)
    | (go_enter Tryz.func71, Tryz.ntmps71
       go_wp2
       go_ret
       exact ⟨by simp [*], rfl⟩)
theorem u8_eq (c : UInt8) (n : Nat) (hn : n < 256) : (c == UInt8.ofNat n) = decide ((c.toNat : Int) = (n : Int)) := by
  rw [Bool.eq_iff_iff]
  simp only [beq_iff_eq, decide_eq_true_eq]
  constructor
  · rintro rfl
    simp [UInt8.toNat_ofNat']
    omega
  · intro h
    apply UInt8.toNat_inj.1
    rw [UInt8.toNat_ofNat']
    omega
theorem rblank_calls (c : UInt8) (w : World) : Calls Tryz.prog 69 #[.int .u8 c.toNat] w fun e w' => e = .returned (.bool (Lx.blank c)) ∧ w = w' := by
  have e1 : Lx.blank c = (((decide ((c.toNat : Int) = 32) || decide ((c.toNat : Int) = 9)) || decide ((c.toNat : Int) = 13)) || decide ((c.toNat : Int) = 10)) := by
    unfold Lx.blank
    rw [show (32 : UInt8) = UInt8.ofNat 32 from rfl, show (9 : UInt8) = UInt8.ofNat 9 from rfl, show (13 : UInt8) = UInt8.ofNat 13 from rfl, show (10 : UInt8) = UInt8.ofNat 10 from rfl, u8_eq _ _ (by decide), u8_eq _ _ (by decide), u8_eq _ _ (by decide), u8_eq _ _ (by decide)]
    rfl
  rw [e1]
  clear e1
  generalize (c.toNat : Int) = x at *
  by_cases a : x = 32
  · subst a
    go_enter Tryz.func69, Tryz.ntmps69
    go_wp2
    go_ret
    exact ⟨by simp, rfl⟩
  · by_cases b : x = 9
    · subst b
      go_enter Tryz.func69, Tryz.ntmps69
      go_wp2
      go_ret
      exact ⟨by simp, rfl⟩
    · by_cases d : x = 13
      · subst d
        go_enter Tryz.func69, Tryz.ntmps69
        go_wp2
        go_ret
        exact ⟨by simp, rfl⟩
      · have a' : (x == 32) = false := by simp [a]
        have b' : (x == 9) = false := by simp [b]
        have d' : (x == 13) = false := by simp [d]
        go_enter Tryz.func69, Tryz.ntmps69
        go_wp2
        go_ret
        exact ⟨by simp [*]; rfl, rfl⟩

/-- Where a text's blanks and remarks end. -/
theorem rlead_calls (l : List UInt8) (hl : l.length ≤ 1073741824) (j : Nat) (hj : j ≤ l.length) (w : World) :
    Calls Tryz.prog 40 #[.string ⟨l.toArray⟩, .int .i64 j] w fun e w' => e = .returned (.int .i64 ((l.length - (Lx.rst (l.drop j)).length : Nat) : Int)) ∧ w = w' := by
  have hl' : (l.length : Int) ≤ 1073741824 := by omega
  have hj' : (j : Int) ≤ (l.length : Int) := by omega
  go_enter Tryz.func40, Tryz.ntmps40
  go_wp2_with fail
  go_loopg [1] (l.length - j) (fun k v1 wr => ∃ i : Nat, k = l.length - i ∧ i ≤ l.length ∧ v1 = .int .i64 i ∧ Lx.rst (l.drop i) = Lx.rst (l.drop j) ∧ wr = w)
  case atStart => exact ⟨j, rfl, hj, rfl, rfl, rfl⟩
  case round =>
    obtain ⟨i, hk, hi, rfl, hrs, rfl⟩ := hrel
    have HK := Lib.hid hk
    have HR := Lib.hid hrs
    clear hk hrs
    by_cases hlt : i < l.length
    · have hlt' : (i : Int) < (l.length : Int) := by omega
      have hget : l[i]? = some l[i] := List.getElem?_eq_getElem hlt
      have hdr : l.drop i = l[i] :: l.drop (i + 1) := List.drop_eq_getElem_cons hlt
      have hsz : i < (⟨l.toArray⟩ : ByteArray).size := by simpa [ByteArray.size] using hlt
      have hbc := rblank_calls l[i] wr
      cases hb : Lx.blank l[i]
      · rw [hb] at hbc
        have HC := Lib.hid hbc
        clear hbc
        by_cases h1 : i + 1 < l.length
        · have h1' : (i : Int) + 1 < (l.length : Int) := by omega
          have hget1 : l[i + 1]? = some l[i + 1] := List.getElem?_eq_getElem h1
          have hsz1 : i + 1 < (⟨l.toArray⟩ : ByteArray).size := by simpa [ByteArray.size] using h1
          have hdr1 : l.drop (i + 1) = l[i + 1] :: l.drop (i + 1 + 1) := List.drop_eq_getElem_cons h1
          by_cases h2 : l[i] = 45
          · have h2' : ((((⟨l.toArray⟩ : ByteArray)[i]'hsz).toNat : Int) == 45) = true := by show ((l[i].toNat : Int) == 45) = true; rw [h2]; rfl
            by_cases h3 : l[i + 1] = 45
            · have h3' : ((((⟨l.toArray⟩ : ByteArray)[i + 1]'hsz1).toNat : Int) == 45) = true := by show ((l[i + 1].toNat : Int) == 45) = true; rw [h3]; rfl
              have hrs2 : Lx.rst (l.drop i) = Lx.rst (Lx.line (l.drop i)) := by
                rw [hdr, hdr1, h2, h3, Lx.rst_line, Lx.line_skip (by decide), Lx.line_skip (by decide)]
              have HRS := Lib.hid hrs2
              have H2 := Lib.hid h2
              clear hrs2 hdr hdr1 h3 h2
              go_wp2_with (go_at_call 69; refine HC.out.mono ?_; rintro e w' ⟨rfl, rfl⟩)
              go_loopg [1] (l.length - i) (fun k v1 wr2 => ∃ q : Nat, k = l.length - q ∧ q ≤ l.length ∧ v1 = .int .i64 q ∧ i ≤ q ∧ Lx.line (l.drop q) = Lx.line (l.drop i) ∧ wr2 = wr)
              case atStart => exact ⟨i, rfl, by omega, rfl, Nat.le_refl _, rfl, rfl⟩
              case round =>
                obtain ⟨q, hkq, hq, rfl, hiq, hln, rfl⟩ := hrel
                have HKQ := Lib.hid (And.intro hkq (And.intro hiq hln))
                clear hkq hiq hln
                by_cases hql : q < l.length
                · have hql' : (q : Int) < (l.length : Int) := by omega
                  have hgq : l[q]? = some l[q] := List.getElem?_eq_getElem hql
                  have hszq : q < (⟨l.toArray⟩ : ByteArray).size := by simpa [ByteArray.size] using hql
                  have hdq : l.drop q = l[q] :: l.drop (q + 1) := List.drop_eq_getElem_cons hql
                  by_cases h10 : l[q] = 10
                  · have h10' : ((((⟨l.toArray⟩ : ByteArray)[q]'hszq).toNat : Int) != 10) = false := by show ((l[q].toNat : Int) != 10) = false; rw [h10]; rfl
                    have H10 := Lib.hid (And.intro h10 hdq)
                    clear h10 hdq
                    go_wp2_with fail
                    go_roundg (l.length - q)
                    case measure =>
                      have h1 := HK.out
                      have h2 := HKQ.out.2.1
                      have h3 : q ≠ i := by
                        rintro rfl
                        have := H2.out
                        rw [H10.out.1] at this
                        exact absurd this (by decide)
                      omega
                    case rel =>
                      refine ⟨q, rfl, hq, by go_num, ?_, rfl⟩
                      rw [← HR.out, HRS.out, ← HKQ.out.2.2, H10.out.2, H10.out.1, Lx.line_stop]
                  · have h10' : ((((⟨l.toArray⟩ : ByteArray)[q]'hszq).toNat : Int) != 10) = true := by
                      show ((l[q].toNat : Int) != 10) = true
                      have : l[q].toNat ≠ 10 := fun e => h10 (UInt8.toNat_inj.1 e)
                      simp; omega
                    have H10 := Lib.hid (And.intro h10 hdq)
                    clear h10 hdq
                    go_wp2_with fail
                    go_roundg (l.length - (q + 1))
                    case measure => have := HKQ.out.1; omega
                    case rel =>
                      refine ⟨q + 1, rfl, by omega, by go_num, by have := HKQ.out.2.1; omega, ?_, rfl⟩
                      rw [← HKQ.out.2.2, H10.out.2, Lx.line_skip H10.out.1]
                · obtain rfl : q = l.length := by omega
                  go_wp2_with fail
                  go_roundg (l.length - l.length)
                  case measure => have := HK.out; omega
                  case rel =>
                    refine ⟨l.length, rfl, Nat.le_refl _, by go_num, ?_, rfl⟩
                    rw [← HR.out, HRS.out, ← HKQ.out.2.2, List.drop_length, Lx.line_nil]
            · have h3' : ((((⟨l.toArray⟩ : ByteArray)[i + 1]'hsz1).toNat : Int) == 45) = false := by
                show ((l[i + 1].toNat : Int) == 45) = false
                have : l[i + 1].toNat ≠ 45 := fun e => h3 (UInt8.toNat_inj.1 e)
                simp; omega
              go_wp2_with (go_at_call 69; refine HC.out.mono ?_; rintro e w' ⟨rfl, rfl⟩)
              go_ret
              exact ⟨by rw [← HR.out, hdr, Lx.rst_stop hb (by intro t e; rw [hdr1] at e; simp only [List.cons.injEq] at e; exact h3 e.2.1)]; simp; omega, rfl⟩
          · have h2' : ((((⟨l.toArray⟩ : ByteArray)[i]'hsz).toNat : Int) == 45) = false := by
              show ((l[i].toNat : Int) == 45) = false
              have : l[i].toNat ≠ 45 := fun e => h2 (UInt8.toNat_inj.1 e)
              simp; omega
            go_wp2_with (go_at_call 69; refine HC.out.mono ?_; rintro e w' ⟨rfl, rfl⟩)
            go_ret
            exact ⟨by rw [← HR.out, hdr, Lx.rst_stop hb (by intro t e; simp only [List.cons.injEq] at e; exact h2 e.1)]; simp; omega, rfl⟩
        · have h1' : (l.length : Int) ≤ (i : Int) + 1 := by omega
          go_wp2_with (go_at_call 69; refine HC.out.mono ?_; rintro e w' ⟨rfl, rfl⟩)
          go_ret
          exact ⟨by rw [← HR.out, hdr, Lx.rst_stop hb (by intro t e; have hd : l.drop (i + 1) = [] := List.drop_eq_nil_of_le (by omega); rw [hd] at e; simp at e)]; simp; omega, rfl⟩
      · rw [hb] at hbc
        have HC := Lib.hid hbc
        clear hbc
        go_wp2_with (go_at_call 69; refine HC.out.mono ?_; rintro e w' ⟨rfl, rfl⟩)
        go_roundg (l.length - (i + 1))
        case measure => have := HK.out; omega
        case rel => exact ⟨i + 1, rfl, by omega, by go_num, by rw [← HR.out, hdr, Lx.rst_blank hb], rfl⟩
    · obtain rfl : i = l.length := by omega
      go_wp2
      go_ret
      have h := HR.out
      rw [List.drop_length] at h
      exact ⟨by rw [← h]; simp [Lx.rst_nil], rfl⟩
end Go.Proofs.YtpkhdlnlkeehhaaGreatDoor
/- The document's lexer: key, sign: the walks. -/
namespace Go.Proofs.YtpkhdlnlkeehhaaGreatDoor
open Go.RowKit

theorem cell_of_heap2 {w : World} {b : Nat} {cs : Array Value} {T : TypeId} {fr : Nat × Nat} (h : w.heap[b]? = some (.cells cs T fr)) (j : Nat) {u : Value} (hj : cs[j]? = some u) : w.cell? ⟨b, j, none⟩ = some u := by
  simp [World.cell?, h, hj]
def Lx.rkeys : List (List UInt8) := [[105, 109, 112, 111, 114, 116], [112, 117, 98], [102, 117, 110], [108, 101, 116], [105, 110], [105, 102], [116, 104, 101, 110], [101, 108, 115, 101], [97, 115, 115, 101, 114, 116], [116, 114, 117, 101], [102, 97, 108, 115, 101], [110, 111, 116], [105, 110, 116], [98, 111, 111, 108], [114, 101, 115]]
theorem Lx.rkeys_is (x : List UInt8) : Lx.rkeys.contains x = Lx.isKey x := by
  unfold Lx.isKey
  have h1 : ∀ y ∈ Lx.rkeys, y ∈ Lx.keyList := by decide
  have h2 : ∀ y ∈ Lx.keyList, y ∈ Lx.rkeys := by decide
  rw [Bool.eq_iff_iff, List.contains_iff_mem, List.contains_iff_mem]
  exact ⟨h1 x, h2 x⟩
theorem getD_drop {l : List (List UInt8)} {j : Nat} (hj : j < l.length) : l.drop j = l.getD j [] :: l.drop (j + 1) := by
  rw [List.drop_eq_getElem_cons hj]
  simp [List.getD, List.getElem?_eq_getElem hj]
def rkeysA : Array Value := #[.string ⟨#[105, 109, 112, 111, 114, 116]⟩, .string ⟨#[112, 117, 98]⟩, .string ⟨#[102, 117, 110]⟩, .string ⟨#[108, 101, 116]⟩, .string ⟨#[105, 110]⟩, .string ⟨#[105, 102]⟩, .string ⟨#[116, 104, 101, 110]⟩, .string ⟨#[101, 108, 115, 101]⟩, .string ⟨#[97, 115, 115, 101, 114, 116]⟩, .string ⟨#[116, 114, 117, 101]⟩, .string ⟨#[102, 97, 108, 115, 101]⟩, .string ⟨#[110, 111, 116]⟩, .string ⟨#[105, 110, 116]⟩, .string ⟨#[98, 111, 111, 108]⟩, .string ⟨#[114, 101, 115]⟩]
def rkeysZ : Array Value := #[.string ⟨#[]⟩, .string ⟨#[]⟩, .string ⟨#[]⟩, .string ⟨#[]⟩, .string ⟨#[]⟩, .string ⟨#[]⟩, .string ⟨#[]⟩, .string ⟨#[]⟩, .string ⟨#[]⟩, .string ⟨#[]⟩, .string ⟨#[]⟩, .string ⟨#[]⟩, .string ⟨#[]⟩, .string ⟨#[]⟩, .string ⟨#[]⟩]
theorem rkeysSize : (Tryz.prog.info? 120).map (·.size) = some rkeysA.size := by kernel_rfl
theorem rkeys_build (w : World) : (Instr.build 120 #[(0, .string ⟨#[105, 109, 112, 111, 114, 116]⟩), (1, .string ⟨#[112, 117, 98]⟩), (2, .string ⟨#[102, 117, 110]⟩), (3, .string ⟨#[108, 101, 116]⟩), (4, .string ⟨#[105, 110]⟩), (5, .string ⟨#[105, 102]⟩), (6, .string ⟨#[116, 104, 101, 110]⟩), (7, .string ⟨#[101, 108, 115, 101]⟩), (8, .string ⟨#[97, 115, 115, 101, 114, 116]⟩), (9, .string ⟨#[116, 114, 117, 101]⟩), (10, .string ⟨#[102, 97, 108, 115, 101]⟩), (11, .string ⟨#[110, 111, 116]⟩), (12, .string ⟨#[105, 110, 116]⟩), (13, .string ⟨#[98, 111, 111, 108]⟩), (14, .string ⟨#[114, 101, 115]⟩)]).run Tryz.prog w = .ok (.agg rkeysA) w := by kernel_rfl
theorem rkeys_alloc (w : World) : (Instr.alloc 120 true (.tuple #[])).run Tryz.prog w = .ok (.pointer (some ⟨w.heap.size, 0, none⟩)) (w.alloc (.cells rkeysZ 120)) := by kernel_rfl
theorem rkeysZsize : rkeysZ.size = rkeysA.size := by kernel_rfl
theorem rkeys_one : ∀ u ∈ rkeysA.toList, u.oneCell' = true := by
  have h : rkeysA.toList.all (fun u => u.oneCell') = true := by rfl
  intro u hu
  exact List.all_eq_true.1 h u hu
theorem rkeys_cell (w : World) (j : Nat) (hj : j < 15) : (w.alloc (.cells rkeysA 120)).cell? ⟨w.heap.size, j, none⟩ = some (.string ⟨(Lx.rkeys.getD j []).toArray⟩) := by
  have h : ∀ j, j < 15 → rkeysA[j]? = some (.string ⟨(Lx.rkeys.getD j []).toArray⟩) := by
    intro j hj
    match j, hj with
    | 0, _ | 1, _ | 2, _ | 3, _ | 4, _ | 5, _ | 6, _ | 7, _ | 8, _ | 9, _ | 10, _ | 11, _ | 12, _ | 13, _ | 14, _ => rfl
    | m + 15, h => omega
  exact cell_of_heap2 (heap_alloc_new w (.cells rkeysA 120)) j (h j hj)

set_option maxRecDepth 100000 in
set_option maxHeartbeats 2000000 in
theorem rkey_calls (x : List UInt8) (w : World) : Calls Tryz.prog 72 #[.string ⟨x.toArray⟩] w fun e w' => e = .returned (.bool (Lx.isKey x)) ∧ Below w.heap.size w w' := by
  rw [← Lx.rkeys_is]
  have hb := rkeys_build
  have ha := rkeys_alloc
  go_enter Tryz.func72, Tryz.ntmps72
  go_wp2_with (refine wpList_store_new rfl 120 _ _ rfl 120 rkeysZ rkeysA rfl rfl rkeysZsize rkeysSize rkeys_one ?_)
  go_loopg [4] 15 (fun k v wr => ∃ j : Nat, k = 15 - j ∧ j ≤ 15 ∧ v = .int .i64 j ∧ Lx.rkeys.contains x = (Lx.rkeys.drop j).contains x ∧ wr = w.alloc (.cells rkeysA 120))
  case atStart => exact ⟨0, rfl, by omega, rfl, rfl, rfl⟩
  case round =>
    obtain ⟨j, hk, hj, rfl, hf, rfl⟩ := hrel
    have HK := Lib.hid hk
    have HF := Lib.hid hf
    clear hk hf hb ha
    by_cases hlt : j < 15
    · have hlt' : (j : Int) < 15 := by omega
      have hs := rkeys_cell w j hlt
      have HD := Lib.hid (getD_drop (l := Lx.rkeys) (j := j) hlt)
      generalize Lx.rkeys.getD j [] = y at *
      by_cases hy : y = x
      · subst hy
        go_wp2_with fail
        go_ret
        exact ⟨by rw [HF.out, HD.out]; simp, (Below.refl _ _).alloc (Nat.le_refl _) _⟩
      · have hyx : (y == x) = false := by simpa using hy
        have HY := Lib.hid hy
        clear hy
        go_wp2_with fail
        go_roundg (15 - (j + 1))
        case measure => have := HK.out; omega
        case rel =>
          refine ⟨j + 1, rfl, by omega, by go_num, ?_, rfl⟩
          rw [HF.out, HD.out, List.contains_cons]
          have : (x == y) = false := by simpa using fun e : x = y => HY.out e.symm
          rw [this, Bool.false_or]
    · obtain rfl : j = 15 := by omega
      go_wp2_with fail
      go_ret
      exact ⟨by rw [HF.out]; rfl, (Below.refl _ _).alloc (Nat.le_refl _) _⟩
end Go.Proofs.YtpkhdlnlkeehhaaGreatDoor
/- The document's lexer: sign: the walk. -/
namespace Go.Proofs.YtpkhdlnlkeehhaaGreatDoor
open Go.RowKit

theorem Lx.twos_len : ∀ y ∈ Lx.twos, y.length = 2 := by decide
theorem Lx.sgn_two {c : UInt8} {t : List UInt8} (h : Lx.twos.contains ((c :: t).take 2) = true) : Lx.sgn (c :: t) = 2 := by unfold Lx.sgn; rw [if_pos h]
theorem Lx.sgn_one {c : UInt8} {t : List UInt8} (h : Lx.twos.contains ((c :: t).take 2) = false) : Lx.sgn (c :: t) = if Lx.ones.contains c then 1 else 0 := by unfold Lx.sgn; rw [if_neg (by rw [h]; simp)]
def twosA : Array Value := #[.string ⟨#[60, 62]⟩, .string ⟨#[60, 61]⟩, .string ⟨#[62, 61]⟩, .string ⟨#[38, 38]⟩, .string ⟨#[124, 124]⟩, .string ⟨#[61, 62]⟩]
def twosZ : Array Value := #[.string ⟨#[]⟩, .string ⟨#[]⟩, .string ⟨#[]⟩, .string ⟨#[]⟩, .string ⟨#[]⟩, .string ⟨#[]⟩]
theorem twosSize : (Tryz.prog.info? 121).map (·.size) = some twosA.size := by kernel_rfl
theorem twos_build (w : World) : (Instr.build 121 #[(0, .string ⟨#[60, 62]⟩), (1, .string ⟨#[60, 61]⟩), (2, .string ⟨#[62, 61]⟩), (3, .string ⟨#[38, 38]⟩), (4, .string ⟨#[124, 124]⟩), (5, .string ⟨#[61, 62]⟩)]).run Tryz.prog w = .ok (.agg twosA) w := by kernel_rfl
theorem twos_alloc (w : World) : (Instr.alloc 121 true (.tuple #[])).run Tryz.prog w = .ok (.pointer (some ⟨w.heap.size, 0, none⟩)) (w.alloc (.cells twosZ 121)) := by kernel_rfl
theorem twosZsize : twosZ.size = twosA.size := by kernel_rfl
theorem twos_one : ∀ u ∈ twosA.toList, u.oneCell' = true := by
  have h : twosA.toList.all (fun u => u.oneCell') = true := by rfl
  intro u hu
  exact List.all_eq_true.1 h u hu
theorem twos_cell (w : World) (j : Nat) (hj : j < 6) : (w.alloc (.cells twosA 121)).cell? ⟨w.heap.size, j, none⟩ = some (.string ⟨(Lx.twos.getD j []).toArray⟩) := by
  have h : ∀ j, j < 6 → twosA[j]? = some (.string ⟨(Lx.twos.getD j []).toArray⟩) := by
    intro j hj
    match j, hj with
    | 0, _ | 1, _ | 2, _ | 3, _ | 4, _ | 5, _ => rfl
    | m + 6, h => omega
  exact cell_of_heap2 (heap_alloc_new w (.cells twosA 121)) j (h j hj)
theorem twos_at {w : World} {B : Nat} (h : w.heap[B]? = some (.cells twosA 121 (0, 0))) (j : Nat) (hj : j < 6) : w.cell? ⟨B, j, none⟩ = some (.string ⟨(Lx.twos.getD j []).toArray⟩) := by
  have h2 : ∀ j, j < 6 → twosA[j]? = some (.string ⟨(Lx.twos.getD j []).toArray⟩) := by
    intro j hj
    match j, hj with
    | 0, _ | 1, _ | 2, _ | 3, _ | 4, _ | 5, _ => rfl
    | m + 6, h => omega
  exact cell_of_heap2 h j (h2 j hj)

set_option maxRecDepth 100000 in
set_option maxHeartbeats 2000000 in
theorem rsign_calls (l : List UInt8) (hl : l.length ≤ 1073741824) (j : Nat) (hj : j < l.length) (w : World) :
    Calls Tryz.prog 73 #[.string ⟨l.toArray⟩, .int .i64 j] w fun e w' => e = .returned (.int .i64 (Lx.sgn (l.drop j) : Nat)) ∧ Below w.heap.size w w' := by
  have hl' : (l.length : Int) ≤ 1073741824 := by omega
  have hj' : (j : Int) < (l.length : Int) := by omega
  have hsz : j < (⟨l.toArray⟩ : ByteArray).size := by simpa [ByteArray.size] using hj
  have hget : l[j]? = some l[j] := List.getElem?_eq_getElem hj
  have HDJ := Lib.hid (List.drop_eq_getElem_cons hj : l.drop j = l[j] :: l.drop (j + 1))
  have hb := twos_build
  have ha := twos_alloc
  go_enter Tryz.func73, Tryz.ntmps73
  go_wp2_with (refine wpList_store_new rfl 121 _ _ rfl 121 twosZ twosA rfl rfl twosZsize twosSize twos_one ?_)
  go_loopg [6] 6 (fun k v wr => ∃ i : Nat, k = 6 - i ∧ i ≤ 6 ∧ v = .int .i64 i ∧ Lx.twos.contains ((l.drop j).take 2) = (Lx.twos.drop i).contains ((l.drop j).take 2) ∧ wr.heap[w.heap.size]? = some (.cells twosA 121 (0, 0)) ∧ Below w.heap.size w wr)
  case atStart => exact ⟨0, rfl, by omega, rfl, rfl, heap_alloc_new _ _, (Below.refl _ _).alloc (Nat.le_refl _) _⟩
  case round =>
    obtain ⟨i, hk, hi, rfl, hf, hcs, hbw⟩ := hrel
    have HW := Lib.hid (And.intro hcs hbw)
    clear hcs hbw
    have HK := Lib.hid hk
    have HF := Lib.hid hf
    clear hk hf hb ha
    by_cases hlt : i < 6
    · have hlt' : (i : Int) < 6 := by omega
      have hs := twos_at HW.out.1 i hlt
      have HD := Lib.hid (getD_drop (l := Lx.twos) (j := i) hlt)
      have hy2 : (Lx.twos.getD i []).length = 2 := Lx.twos_len _ (by rw [List.getD, List.getElem?_eq_getElem (show i < Lx.twos.length from hlt)]; exact List.getElem_mem _)
      generalize Lx.twos.getD i [] = y at *
      by_cases h1 : j + 1 < l.length
      · have h1' : (j : Int) + 1 < (l.length : Int) := by omega
        have h2' : (j : Int) + 2 ≤ (l.length : Int) := by omega
        have hT : (⟨l.toArray⟩ : ByteArray).extract j (j + 2) = ⟨((l.drop j).take 2).toArray⟩ := by rw [tx_extract]; simp
        obtain ⟨T, hTd⟩ : ∃ T, (l.drop j).take 2 = T := ⟨_, rfl⟩
        have hTe := Lib.hid hTd
        rw [hTd] at HF hT
        clear hTd
        by_cases hy : T = y
        · subst hy
          have hyx : (T == T) = true := by simp
          go_wp2_with fail
          go_region
          go_wp2_with fail
          go_ret
          exact ⟨by rw [HDJ.out, Lx.sgn_two (by rw [← HDJ.out, hTe.out, HF.out, HD.out]; simp)]; rfl, HW.out.2.drew⟩
        · have hyx : (T == y) = false := by simpa using hy
          have HY := Lib.hid hy
          clear hy
          go_wp2_with fail
          go_region
          go_wp2_with fail
          go_roundg (6 - (i + 1))
          case measure => have := HK.out; omega
          case rel =>
            refine ⟨i + 1, rfl, by omega, by go_num, ?_, HW.out.1, HW.out.2.drew⟩
            rw [hTe.out, HF.out, HD.out, List.contains_cons]
            rw [hyx, Bool.false_or]
      · have h1' : (l.length : Int) ≤ (j : Int) + 1 := by omega
        have h1n : ¬ ((j : Int) + 1 < (l.length : Int)) := by omega
        have h1d : decide ((j : Int) + 1 < (l.length : Int)) = false := by simp; omega
        have HY : Hid (((l.drop j).take 2 == y) = false) := Lib.hid (by
          have : ((l.drop j).take 2).length ≤ 1 := by rw [List.length_take, List.length_drop]; omega
          apply beq_eq_false_iff_ne.2
          intro e
          rw [e] at this
          omega)
        go_wp2_with fail
        go_region
        go_wp2_with fail
        go_roundg (6 - (i + 1))
        case measure => have := HK.out; omega
        case rel =>
          refine ⟨i + 1, rfl, by omega, by go_num, ?_, HW.out.1, HW.out.2.drew⟩
          rw [HF.out, HD.out, List.contains_cons, HY.out, Bool.false_or]
    · obtain rfl : i = 6 := by omega
      have HTW : Hid (Lx.twos.contains ((l.drop j).take 2) = false) := Lib.hid (by rw [HF.out]; rfl)
      clear hlt
      go_wp2_with fail
      go_loopg [8] 16 (fun k v wr => ∃ i : Nat, k = 16 - i ∧ i ≤ 16 ∧ v = .int .i64 i ∧ Lx.ones.contains l[j] = (Lx.ones.drop i).contains l[j] ∧ Below w.heap.size w wr)
      case atStart => exact ⟨0, rfl, by omega, rfl, rfl, HW.out.2⟩
      case round =>
        obtain ⟨i, hk, hi, rfl, hf, hbw⟩ := hrel
        have HW2 := Lib.hid hbw
        clear hbw
        have HK2 := Lib.hid hk
        have HF2 := Lib.hid hf
        clear hk hf
        by_cases hlt : i < 16
        · have hlt' : (i : Int) < 16 := by omega
          have hlt2 : i < Lx.ones.length := hlt
          have hzo : i < (⟨#[40, 41, 123, 125, 44, 58, 59, 46, 43, 45, 42, 47, 37, 61, 60, 62]⟩ : ByteArray).size := hlt
          have hgo : Lx.ones[i]? = some (Lx.ones[i]'hlt2) := List.getElem?_eq_getElem hlt2
          have HD := Lib.hid (List.drop_eq_getElem_cons hlt2)
          by_cases hy : l[j] = Lx.ones[i]'hlt2
          · have hyx : ((((⟨l.toArray⟩ : ByteArray)[j]'hsz).toNat : Int) == (((⟨#[40, 41, 123, 125, 44, 58, 59, 46, 43, 45, 42, 47, 37, 61, 60, 62]⟩ : ByteArray)[i]'hzo).toNat : Int)) = true := by
              show ((l[j].toNat : Int) == ((Lx.ones[i]'hlt2).toNat : Int)) = true
              rw [hy]; simp
            have HY := Lib.hid hy
            clear hy
            go_wp2_with fail
            go_region
            go_wp2_with fail
            go_ret
            exact ⟨by rw [HDJ.out, Lx.sgn_one (by rw [← HDJ.out]; exact HTW.out), HF2.out, HD.out, HY.out, List.contains_cons, beq_self_eq_true, Bool.true_or]; rfl, HW2.out.drew⟩
          · have hyx : ((((⟨l.toArray⟩ : ByteArray)[j]'hsz).toNat : Int) == (((⟨#[40, 41, 123, 125, 44, 58, 59, 46, 43, 45, 42, 47, 37, 61, 60, 62]⟩ : ByteArray)[i]'hzo).toNat : Int)) = false := by
              show ((l[j].toNat : Int) == ((Lx.ones[i]'hlt2).toNat : Int)) = false
              have : l[j].toNat ≠ (Lx.ones[i]'hlt2).toNat := fun e => hy (UInt8.toNat_inj.1 e)
              simp; omega
            have HY := Lib.hid hy
            clear hy
            go_wp2_with fail
            go_region
            go_wp2_with fail
            go_roundg (16 - (i + 1))
            case measure => have := HK2.out; omega
            case rel =>
              refine ⟨i + 1, rfl, by omega, by go_num, ?_, HW2.out.drew⟩
              rw [HF2.out, HD.out, List.contains_cons]
              have : (l[j] == Lx.ones[i]'hlt2) = false := by simpa using HY.out
              rw [this, Bool.false_or]
        · obtain rfl : i = 16 := by omega
          go_wp2_with fail
          go_ret
          exact ⟨by rw [HDJ.out, Lx.sgn_one (by rw [← HDJ.out]; exact HTW.out), HF2.out]; rfl, HW2.out⟩
end Go.Proofs.YtpkhdlnlkeehhaaGreatDoor
/- The document's lexer: token: the walk. -/
namespace Go.Proofs.YtpkhdlnlkeehhaaGreatDoor
open Go.RowKit

theorem twl_step {p : UInt8 → Bool} {l W : List UInt8} {j i : Nat} (hji : j ≤ i) (hi : i < l.length) (hp : p l[i] = true) (h : W = (l.drop j).take (i - j) ++ (l.drop i).takeWhile p) : W = (l.drop j).take (i + 1 - j) ++ (l.drop (i + 1)).takeWhile p := by
  have hlt : i - j < (l.drop j).length := by rw [List.length_drop]; omega
  have hg : (l.drop j)[i - j]'hlt = l[i] := by
    rw [List.getElem_drop]
    congr 1
    omega
  rw [show i + 1 - j = (i - j) + 1 by omega, List.take_succ_eq_append_getElem hlt, hg, List.append_assoc, List.singleton_append]
  rw [List.drop_eq_getElem_cons hi, List.takeWhile_cons, if_pos hp] at h
  exact h
theorem twl_stop {p : UInt8 → Bool} {l W : List UInt8} {j i : Nat} (hji : j ≤ i) (hi : i < l.length) (hp : p l[i] = false) (h : W = (l.drop j).take (i - j) ++ (l.drop i).takeWhile p) : W = (l.drop j).take (i - j) ∧ W.length = i - j := by
  rw [List.drop_eq_getElem_cons hi, List.takeWhile_cons, if_neg (by simp [hp]), List.append_nil] at h
  exact ⟨h, by rw [h, List.length_take, List.length_drop]; omega⟩
theorem twl_end {p : UInt8 → Bool} {l W : List UInt8} {j : Nat} (hj : j ≤ l.length) (h : W = (l.drop j).take (l.length - j) ++ (l.drop l.length).takeWhile p) : W = (l.drop j).take (l.length - j) ∧ W.length = l.length - j := by
  rw [List.drop_length, List.takeWhile_nil, List.append_nil] at h
  exact ⟨h, by rw [h, List.length_take, List.length_drop]; omega⟩
theorem Lx.sgn_le {l : List UInt8} (h : 0 < l.length) : Lx.sgn l ≤ 2 ∧ Lx.sgn l ≤ l.length := by
  unfold Lx.sgn
  split
  · rename_i hc
    have := Lx.twos_len _ (by simpa using hc)
    rw [List.length_take] at this
    omega
  · split
    · omega
    · split <;> omega
/-- What the document's token says: a kind and an end, or an error. -/
def RTokSays (l : List UInt8) (j : Nat) (e : Ending) : Prop :=
  e = .returned (.tuple #[.int .i64 (if (Lx.token (l.drop j)).2.2 = 0 then (Lx.token (l.drop j)).1 else 0 : Nat), .int .i64 (if (Lx.token (l.drop j)).2.2 = 0 then j + (Lx.token (l.drop j)).2.1.length else 0 : Nat), .int .i64 ((Lx.token (l.drop j)).2.2 : Nat)])
theorem rtok_says {l : List UInt8} {j k n e : Nat} (h : (if (Lx.token (l.drop j)).2.2 = 0 then (Lx.token (l.drop j)).1 else 0) = k ∧ (if (Lx.token (l.drop j)).2.2 = 0 then j + (Lx.token (l.drop j)).2.1.length else 0) = n ∧ (Lx.token (l.drop j)).2.2 = e) : RTokSays l j (.returned (.tuple #[.int .i64 k, .int .i64 n, .int .i64 e])) := by
  obtain ⟨h1, h2, h3⟩ := h
  unfold RTokSays
  rw [h1, h2, h3]

set_option maxRecDepth 100000 in
set_option maxHeartbeats 2000000 in
theorem rtoken_calls (l : List UInt8) (hl : l.length ≤ 1073741824) (j : Nat) (hj : j < l.length) (w : World) :
    Calls Tryz.prog 41 #[.string ⟨l.toArray⟩, .int .i64 j] w fun e w' => RTokSays l j e ∧ Below w.heap.size w w' := by
  have hl' : (l.length : Int) ≤ 1073741824 := by omega
  have hj' : (j : Int) < (l.length : Int) := by omega
  have hsz : j < (⟨l.toArray⟩ : ByteArray).size := by simpa [ByteArray.size] using hj
  have hget : l[j]? = some l[j] := List.getElem?_eq_getElem hj
  have HDJ := Lib.hid (List.drop_eq_getElem_cons hj : l.drop j = l[j] :: l.drop (j + 1))
  have HT : Hid (Lx.token (l.drop j) = if Lx.letter l[j] then Lx.word (l.drop j) else if Lx.digit l[j] then Lx.number (l.drop j) else match Lx.signList.find? (fun x => x.isPrefixOf (l.drop j)) with | some x => (4, x, 0) | none => (0, [], 20)) := Lib.hid (by rw [HDJ.out]; rfl)
  have hcl := fun w => rletter_calls l[j] w
  have hcd := fun w => rdigit_calls l[j] w
  cases hlet : Lx.letter l[j]
  · rw [hlet] at hcl
    cases hdig : Lx.digit l[j]
    · rw [hdig] at hcd
      have HT2 : Hid (Lx.token (l.drop j) = if Lx.sgn (l.drop j) = 0 then (0, [], 20) else (4, (l.drop j).take (Lx.sgn (l.drop j)), 0)) := Lib.hid (by
        rw [HT.out, hlet, hdig, HDJ.out, Lx.sgn_find]
        simp only [Bool.false_eq_true, if_false]
        by_cases hz : Lx.sgn (l[j] :: l.drop (j + 1)) = 0
        · simp only [if_pos hz]
        · simp only [if_neg hz])
      have HL := fun w => Lib.hid (hcl w)
      have HG := fun w => Lib.hid (hcd w)
      have HSG := fun w => Lib.hid (rsign_calls l hl j hj w)
      have hle : Lx.sgn (l.drop j) ≤ 2 ∧ (Lx.sgn (l.drop j) ≤ (l.drop j).length) := Lx.sgn_le (by rw [List.length_drop]; omega)
      obtain ⟨n, hn⟩ : ∃ n, Lx.sgn (l.drop j) = n := ⟨_, rfl⟩
      rw [hn] at HT2 HSG hle
      have HLE := Lib.hid hle
      have hn0 : (0 : Int) ≤ (n : Int) := by omega
      have hn2 : (n : Int) ≤ 2 := by omega
      clear hlet hdig hcl hcd hle hn
      by_cases hz : n = 0
      · subst hz
        go_enter Tryz.func41, Tryz.ntmps41
        go_wp2_with (first
          | (go_at_call 70; refine (HL _).out.mono ?_; rintro e w1 ⟨rfl, rfl⟩)
          | (go_at_call 71; refine (HG _).out.mono ?_; rintro e w1 ⟨rfl, rfl⟩)
          | (go_at_call 73; refine (HSG _).out.mono ?_; rintro e w2 ⟨rfl, hb2⟩; have HB2 := Lib.hid hb2; clear hb2))
        go_ret3
        exact ⟨rtok_says (k := 0) (n := 0) (e := 20) (by rw [HT2.out]; simp), HB2.out⟩
      · have hz' : ((n : Int) == 0) = false := by simp; omega
        have HZ := Lib.hid hz
        clear hz
        go_enter Tryz.func41, Tryz.ntmps41
        go_wp2_with (first
          | (go_at_call 70; refine (HL _).out.mono ?_; rintro e w1 ⟨rfl, rfl⟩)
          | (go_at_call 71; refine (HG _).out.mono ?_; rintro e w1 ⟨rfl, rfl⟩)
          | (go_at_call 73; refine (HSG _).out.mono ?_; rintro e w2 ⟨rfl, hb2⟩; have HB2 := Lib.hid hb2; clear hb2))
        go_ret3
        exact ⟨rtok_says (k := 4) (n := j + n) (e := 0) (by rw [HT2.out, if_neg HZ.out]; have := HLE.out.2; simp; rw [List.length_drop] at this; omega), HB2.out⟩
    · rw [hdig] at hcd
      have HTW : Hid (Lx.token (l.drop j) = Lx.number (l.drop j)) := Lib.hid (by rw [HT.out, hlet, hdig]; rfl)
      have HL0 := fun w => Lib.hid (hcl w)
      have HG0 := fun w => Lib.hid (hcd w)
      have HH : Hid ((l.drop j).head? = some l[j]) := Lib.hid (by rw [HDJ.out]; rfl)
      clear hlet hdig hcl hcd
      go_enter Tryz.func41, Tryz.ntmps41
      go_wp2_with (first
        | (go_at_call 70; refine (HL0 _).out.mono ?_; rintro e w1 ⟨rfl, rfl⟩)
        | (go_at_call 71; refine (HG0 _).out.mono ?_; rintro e w1 ⟨rfl, rfl⟩))
      skip
      go_loopg [7] (l.length - j) (fun k v7 wr => ∃ i : Nat, k = l.length - i ∧ j ≤ i ∧ i ≤ l.length ∧ v7 = .int .i64 i ∧ (l.drop j).takeWhile Lx.digit = (l.drop j).take (i - j) ++ (l.drop i).takeWhile Lx.digit ∧ wr = w)
      case atStart => exact ⟨j, rfl, Nat.le_refl _, by omega, rfl, by simp, rfl⟩
      case round =>
        obtain ⟨i, hk, hji, hi, rfl, htw, rfl⟩ := hrel
        have HK := Lib.hid (And.intro hk (And.intro hji htw))
        have hji' : (j : Int) ≤ (i : Int) := by omega
        have hil0 : (i : Int) ≤ (l.length : Int) := by omega
        clear hk hji htw
        by_cases hlt : i < l.length
        · have hlt' : (i : Int) < (l.length : Int) := by omega
          have hszi : i < (⟨l.toArray⟩ : ByteArray).size := by simpa [ByteArray.size] using hlt
          have hgi : l[i]? = some l[i] := List.getElem?_eq_getElem hlt
          have hL := fun w => rletter_calls l[i] w
          have hD := fun w => rdigit_calls l[i] w
          cases a2 : Lx.digit l[i]
          · rw [a2] at hD
            have HIN : Hid (Lx.digit l[i] = false) := Lib.hid a2
            have HL := fun w => Lib.hid (hL w)
            have HG := fun w => Lib.hid (hD w)
            clear hL hD a2
            have hWW := twl_stop HK.out.2.1 hlt HIN.out HK.out.2.2
            obtain ⟨X, hX⟩ : ∃ X, (l.drop j).takeWhile Lx.digit = X := ⟨_, rfl⟩
            rw [hX] at hWW
            have HX := Lib.hid (And.intro hX hWW)
            have hwl : (i : Int) - (j : Int) = (X.length : Int) := by have := hWW.2; have := HK.out.2.1; omega
            clear hX hWW
            by_cases h60 : 60 < X.length
            · have h60' : 60 < (i : Int) - (j : Int) := by omega
              clear hwl
              go_wp2_with (first
                | (go_at_call 70; refine (HL _).out.mono ?_; rintro e w1 ⟨rfl, rfl⟩)
                | (go_at_call 71; refine (HG _).out.mono ?_; rintro e w1 ⟨rfl, rfl⟩))
              go_ret3
              exact ⟨rtok_says (k := 0) (n := 0) (e := 21) (by rw [HTW.out]; unfold Lx.number; rw [HX.out.1, if_pos (Or.inl h60)]; simp), Below.refl _ _⟩
            · have h60' : (i : Int) - (j : Int) ≤ 60 := by omega
              by_cases h1 : 1 < X.length
              · have h1' : 1 < (i : Int) - (j : Int) := by omega
                by_cases h48 : l[j] = 48
                · have h48' : ((((⟨l.toArray⟩ : ByteArray)[j]'hsz).toNat : Int) == 48) = true := by show ((l[j].toNat : Int) == 48) = true; rw [h48]; rfl
                  have H48 := Lib.hid h48
                  clear hwl h48
                  go_wp2_with (first
                    | (go_at_call 70; refine (HL _).out.mono ?_; rintro e w1 ⟨rfl, rfl⟩)
                    | (go_at_call 71; refine (HG _).out.mono ?_; rintro e w1 ⟨rfl, rfl⟩))
                  go_ret3
                  exact ⟨rtok_says (k := 0) (n := 0) (e := 21) (by rw [HTW.out]; unfold Lx.number; rw [HX.out.1, HH.out, if_pos (Or.inr ⟨h1, by rw [H48.out]⟩)]; simp), Below.refl _ _⟩
                · have h48' : ((((⟨l.toArray⟩ : ByteArray)[j]'hsz).toNat : Int) == 48) = false := by
                    show ((l[j].toNat : Int) == 48) = false
                    have : l[j].toNat ≠ 48 := fun e => h48 (UInt8.toNat_inj.1 e)
                    simp; omega
                  have H48 := Lib.hid h48
                  clear hwl h48
                  go_wp2_with (first
                    | (go_at_call 70; refine (HL _).out.mono ?_; rintro e w1 ⟨rfl, rfl⟩)
                    | (go_at_call 71; refine (HG _).out.mono ?_; rintro e w1 ⟨rfl, rfl⟩))
                  go_ret3
                  exact ⟨rtok_says (k := 3) (n := i) (e := 0) (by rw [HTW.out]; unfold Lx.number; rw [HX.out.1, HH.out, if_neg (show ¬ (60 < X.length ∨ (1 < X.length ∧ some l[j] = some 48)) from fun h => h.elim h60 (fun h => H48.out (Option.some.inj h.2)))]; have := HX.out.2.2; have := HK.out.2.1; simp; omega), Below.refl _ _⟩
              · have h1' : (i : Int) - (j : Int) ≤ 1 := by omega
                clear hwl
                go_wp2_with (first
                  | (go_at_call 70; refine (HL _).out.mono ?_; rintro e w1 ⟨rfl, rfl⟩)
                  | (go_at_call 71; refine (HG _).out.mono ?_; rintro e w1 ⟨rfl, rfl⟩))
                go_ret3
                exact ⟨rtok_says (k := 3) (n := i) (e := 0) (by rw [HTW.out]; unfold Lx.number; rw [HX.out.1, if_neg (show ¬ (60 < X.length ∨ (1 < X.length ∧ (l.drop j).head? = some 48)) from fun h => h.elim h60 (fun h => h1 h.1))]; have := HX.out.2.2; have := HK.out.2.1; simp; omega), Below.refl _ _⟩
          · rw [a2] at hD
            have HIN : Hid (Lx.digit l[i] = true) := Lib.hid a2
            have HL := fun w => Lib.hid (hL w)
            have HG := fun w => Lib.hid (hD w)
            clear hL hD a2
            go_wp2_with (first
              | (go_at_call 70; refine (HL _).out.mono ?_; rintro e w1 ⟨rfl, rfl⟩)
              | (go_at_call 71; refine (HG _).out.mono ?_; rintro e w1 ⟨rfl, rfl⟩))
            go_roundg (l.length - (i + 1))
            case measure => have := HK.out.1; omega
            case rel => exact ⟨i + 1, rfl, by have := HK.out.2.1; omega, by omega, by go_num, twl_step HK.out.2.1 hlt HIN.out HK.out.2.2, rfl⟩
        · obtain rfl : i = l.length := by omega
          have HL := fun w => Lib.hid (rletter_calls 0 w)
          have HG := fun w => Lib.hid (rdigit_calls 0 w)
          have hWW := twl_end (by omega) HK.out.2.2
          obtain ⟨X, hX⟩ : ∃ X, (l.drop j).takeWhile Lx.digit = X := ⟨_, rfl⟩
          rw [hX] at hWW
          have HX := Lib.hid (And.intro hX hWW)
          have hwl : (l.length : Int) - (j : Int) = (X.length : Int) := by have := hWW.2; have := HK.out.2.1; omega
          clear hX hWW
          by_cases h60 : 60 < X.length
          · have h60' : 60 < (l.length : Int) - (j : Int) := by omega
            clear hwl
            go_wp2_with (first
              | (go_at_call 70; refine (HL _).out.mono ?_; rintro e w1 ⟨rfl, rfl⟩)
              | (go_at_call 71; refine (HG _).out.mono ?_; rintro e w1 ⟨rfl, rfl⟩))
            go_ret3
            exact ⟨rtok_says (k := 0) (n := 0) (e := 21) (by rw [HTW.out]; unfold Lx.number; rw [HX.out.1, if_pos (Or.inl h60)]; simp), Below.refl _ _⟩
          · have h60' : (l.length : Int) - (j : Int) ≤ 60 := by omega
            by_cases h1 : 1 < X.length
            · have h1' : 1 < (l.length : Int) - (j : Int) := by omega
              by_cases h48 : l[j] = 48
              · have h48' : ((((⟨l.toArray⟩ : ByteArray)[j]'hsz).toNat : Int) == 48) = true := by show ((l[j].toNat : Int) == 48) = true; rw [h48]; rfl
                have H48 := Lib.hid h48
                clear hwl h48
                go_wp2_with (first
                  | (go_at_call 70; refine (HL _).out.mono ?_; rintro e w1 ⟨rfl, rfl⟩)
                  | (go_at_call 71; refine (HG _).out.mono ?_; rintro e w1 ⟨rfl, rfl⟩))
                go_ret3
                exact ⟨rtok_says (k := 0) (n := 0) (e := 21) (by rw [HTW.out]; unfold Lx.number; rw [HX.out.1, HH.out, if_pos (Or.inr ⟨h1, by rw [H48.out]⟩)]; simp), Below.refl _ _⟩
              · have h48' : ((((⟨l.toArray⟩ : ByteArray)[j]'hsz).toNat : Int) == 48) = false := by
                  show ((l[j].toNat : Int) == 48) = false
                  have : l[j].toNat ≠ 48 := fun e => h48 (UInt8.toNat_inj.1 e)
                  simp; omega
                have H48 := Lib.hid h48
                clear hwl h48
                go_wp2_with (first
                  | (go_at_call 70; refine (HL _).out.mono ?_; rintro e w1 ⟨rfl, rfl⟩)
                  | (go_at_call 71; refine (HG _).out.mono ?_; rintro e w1 ⟨rfl, rfl⟩))
                go_ret3
                exact ⟨rtok_says (k := 3) (n := l.length) (e := 0) (by rw [HTW.out]; unfold Lx.number; rw [HX.out.1, HH.out, if_neg (show ¬ (60 < X.length ∨ (1 < X.length ∧ some l[j] = some 48)) from fun h => h.elim h60 (fun h => H48.out (Option.some.inj h.2)))]; have := HX.out.2.2; have := HK.out.2.1; simp; omega), Below.refl _ _⟩
            · have h1' : (l.length : Int) - (j : Int) ≤ 1 := by omega
              clear hwl
              go_wp2_with (first
                | (go_at_call 70; refine (HL _).out.mono ?_; rintro e w1 ⟨rfl, rfl⟩)
                | (go_at_call 71; refine (HG _).out.mono ?_; rintro e w1 ⟨rfl, rfl⟩))
              go_ret3
              exact ⟨rtok_says (k := 3) (n := l.length) (e := 0) (by rw [HTW.out]; unfold Lx.number; rw [HX.out.1, if_neg (show ¬ (60 < X.length ∨ (1 < X.length ∧ (l.drop j).head? = some 48)) from fun h => h.elim h60 (fun h => h1 h.1))]; have := HX.out.2.2; have := HK.out.2.1; simp; omega), Below.refl _ _⟩
  · rw [hlet] at hcl
    have HTW : Hid (Lx.token (l.drop j) = Lx.word (l.drop j)) := Lib.hid (by rw [HT.out, hlet]; rfl)
    have HL0 := fun w => Lib.hid (hcl w)
    clear hlet hcl hcd
    go_enter Tryz.func41, Tryz.ntmps41
    go_wp2_with (go_at_call 70; refine (HL0 _).out.mono ?_; rintro e w1 ⟨rfl, rfl⟩)
    skip
    go_loopg [7] (l.length - j) (fun k v7 wr => ∃ i : Nat, k = l.length - i ∧ j ≤ i ∧ i ≤ l.length ∧ v7 = .int .i64 i ∧ (l.drop j).takeWhile Lx.inside = (l.drop j).take (i - j) ++ (l.drop i).takeWhile Lx.inside ∧ wr = w)
    case atStart => exact ⟨j, rfl, Nat.le_refl _, by omega, rfl, by simp, rfl⟩
    case round =>
      obtain ⟨i, hk, hji, hi, rfl, htw, rfl⟩ := hrel
      have HK := Lib.hid (And.intro hk (And.intro hji htw))
      have hji' : (j : Int) ≤ (i : Int) := by omega
      have hil0 : (i : Int) ≤ (l.length : Int) := by omega
      clear hk hji htw
      by_cases hlt : i < l.length
      · have hlt' : (i : Int) < (l.length : Int) := by omega
        have hszi : i < (⟨l.toArray⟩ : ByteArray).size := by simpa [ByteArray.size] using hlt
        have hgi : l[i]? = some l[i] := List.getElem?_eq_getElem hlt
        have hL := fun w => rletter_calls l[i] w
        have hD := fun w => rdigit_calls l[i] w
        cases a1 : Lx.letter l[i]
        · rw [a1] at hL
          cases a2 : Lx.digit l[i]
          · rw [a2] at hD
            by_cases a3 : l[i] = 95
            · skip
              have HIN : Hid (Lx.inside l[i] = true) := Lib.hid (by unfold Lx.inside; rw [a3]; rfl)
              have a3' : ((((⟨l.toArray⟩ : ByteArray)[i]'hszi).toNat : Int) == 95) = true := by show ((l[i].toNat : Int) == 95) = true; rw [a3]; rfl
              clear a1 a2 a3
              have HL := fun w => Lib.hid (hL w)
              have HG := fun w => Lib.hid (hD w)
              clear hL hD
              go_wp2_with (first
                | (go_at_call 70; refine (HL _).out.mono ?_; rintro e w1 ⟨rfl, rfl⟩)
                | (go_at_call 71; refine (HG _).out.mono ?_; rintro e w1 ⟨rfl, rfl⟩))
              go_roundg (l.length - (i + 1))
              case measure => have := HK.out.1; omega
              case rel => exact ⟨i + 1, rfl, by have := HK.out.2.1; omega, by omega, by go_num, twl_step HK.out.2.1 hlt HIN.out HK.out.2.2, rfl⟩
            · skip
              have HIN : Hid (Lx.inside l[i] = false) := Lib.hid (by unfold Lx.inside; rw [a1, a2]; simpa using a3)
              have a3' : ((((⟨l.toArray⟩ : ByteArray)[i]'hszi).toNat : Int) == 95) = false := by
                show ((l[i].toNat : Int) == 95) = false
                have : l[i].toNat ≠ 95 := fun e => a3 (UInt8.toNat_inj.1 e)
                simp; omega
              clear a1 a2 a3
              have HL := fun w => Lib.hid (hL w)
              have HG := fun w => Lib.hid (hD w)
              clear hL hD
              have hWW := twl_stop HK.out.2.1 hlt HIN.out HK.out.2.2
              obtain ⟨X, hX⟩ : ∃ X, (l.drop j).takeWhile Lx.inside = X := ⟨_, rfl⟩
              rw [hX] at hWW
              have hext : (⟨l.toArray⟩ : ByteArray).extract j i = ⟨X.toArray⟩ := by rw [tx_extract, ← hWW.1]
              have HX := Lib.hid (And.intro hX (And.intro hWW hext))
              have hwl : (i : Int) - (j : Int) = (X.length : Int) := by have := hWW.2; have := HK.out.2.1; omega
              have hw0 : (0 : Int) ≤ (X.length : Int) := by omega
              clear hX hWW hext
              by_cases h40 : 40 < X.length
              · have h40' : 40 < (i : Int) - (j : Int) := by omega
                clear hwl hw0
                go_wp2_with (first
                  | (go_at_call 70; refine (HL _).out.mono ?_; rintro e w1 ⟨rfl, rfl⟩)
                  | (go_at_call 71; refine (HG _).out.mono ?_; rintro e w1 ⟨rfl, rfl⟩))
                go_ret3
                exact ⟨rtok_says (k := 0) (n := 0) (e := 20) (by rw [HTW.out]; unfold Lx.word; rw [HX.out.1, if_pos h40]; simp), Below.refl _ _⟩
              · have h40' : (i : Int) - (j : Int) ≤ 40 := by omega
                have HKC := fun w => Lib.hid (rkey_calls X w)
                clear hwl hw0
                cases hky : Lx.isKey X
                · have HKY := Lib.hid hky
                  rw [hky] at HKC
                  clear hky
                  go_wp2_with (first
                    | (go_at_call 70; refine (HL _).out.mono ?_; rintro e w1 ⟨rfl, rfl⟩)
                    | (go_at_call 71; refine (HG _).out.mono ?_; rintro e w1 ⟨rfl, rfl⟩))
                  rw [HX.out.2.2]
                  refine (HKC _).out.mono ?_
                  rintro e w2 ⟨rfl, hb2⟩
                  have HB2 := Lib.hid hb2
                  clear hb2
                  dsimp only
                  go_wp2_with fail
                  go_ret3
                  exact ⟨rtok_says (k := 1) (n := i) (e := 0) (by rw [HTW.out]; unfold Lx.word; rw [HX.out.1, if_neg h40, if_neg (show ¬ Lx.isKey X = true by rw [HKY.out]; simp)]; have := HX.out.2.1.2; have := HK.out.2.1; simp; omega), HB2.out⟩
                · have HKY := Lib.hid hky
                  rw [hky] at HKC
                  clear hky
                  go_wp2_with (first
                    | (go_at_call 70; refine (HL _).out.mono ?_; rintro e w1 ⟨rfl, rfl⟩)
                    | (go_at_call 71; refine (HG _).out.mono ?_; rintro e w1 ⟨rfl, rfl⟩))
                  rw [HX.out.2.2]
                  refine (HKC _).out.mono ?_
                  rintro e w2 ⟨rfl, hb2⟩
                  have HB2 := Lib.hid hb2
                  clear hb2
                  dsimp only
                  go_wp2_with fail
                  go_ret3
                  exact ⟨rtok_says (k := 2) (n := i) (e := 0) (by rw [HTW.out]; unfold Lx.word; rw [HX.out.1, if_neg h40, if_pos HKY.out]; have := HX.out.2.1.2; have := HK.out.2.1; simp; omega), HB2.out⟩
          · rw [a2] at hD
            have HIN : Hid (Lx.inside l[i] = true) := Lib.hid (by unfold Lx.inside; rw [a2]; simp)
            clear a1 a2
            have HL := fun w => Lib.hid (hL w)
            have HG := fun w => Lib.hid (hD w)
            clear hL hD
            go_wp2_with (first
              | (go_at_call 70; refine (HL _).out.mono ?_; rintro e w1 ⟨rfl, rfl⟩)
              | (go_at_call 71; refine (HG _).out.mono ?_; rintro e w1 ⟨rfl, rfl⟩))
            go_roundg (l.length - (i + 1))
            case measure => have := HK.out.1; omega
            case rel => exact ⟨i + 1, rfl, by have := HK.out.2.1; omega, by omega, by go_num, twl_step HK.out.2.1 hlt HIN.out HK.out.2.2, rfl⟩
        · rw [a1] at hL
          have HIN : Hid (Lx.inside l[i] = true) := Lib.hid (by unfold Lx.inside; rw [a1]; rfl)
          clear a1
          have HL := fun w => Lib.hid (hL w)
          have HG := fun w => Lib.hid (hD w)
          clear hL hD
          go_wp2_with (first
            | (go_at_call 70; refine (HL _).out.mono ?_; rintro e w1 ⟨rfl, rfl⟩)
            | (go_at_call 71; refine (HG _).out.mono ?_; rintro e w1 ⟨rfl, rfl⟩))
          go_roundg (l.length - (i + 1))
          case measure => have := HK.out.1; omega
          case rel => exact ⟨i + 1, rfl, by have := HK.out.2.1; omega, by omega, by go_num, twl_step HK.out.2.1 hlt HIN.out HK.out.2.2, rfl⟩
      · obtain rfl : i = l.length := by omega
        have HL := fun w => Lib.hid (rletter_calls 0 w)
        have HG := fun w => Lib.hid (rdigit_calls 0 w)
        have hWW := twl_end (by omega) HK.out.2.2
        obtain ⟨X, hX⟩ : ∃ X, (l.drop j).takeWhile Lx.inside = X := ⟨_, rfl⟩
        rw [hX] at hWW
        have hext : (⟨l.toArray⟩ : ByteArray).extract j l.length = ⟨X.toArray⟩ := by rw [tx_extract, ← hWW.1]
        have HX := Lib.hid (And.intro hX (And.intro hWW hext))
        have hwl : (l.length : Int) - (j : Int) = (X.length : Int) := by have := hWW.2; have := HK.out.2.1; omega
        have hw0 : (0 : Int) ≤ (X.length : Int) := by omega
        clear hX hWW hext
        by_cases h40 : 40 < X.length
        · have h40' : 40 < (l.length : Int) - (j : Int) := by omega
          clear hwl hw0
          go_wp2_with (first
            | (go_at_call 70; refine (HL _).out.mono ?_; rintro e w1 ⟨rfl, rfl⟩)
            | (go_at_call 71; refine (HG _).out.mono ?_; rintro e w1 ⟨rfl, rfl⟩))
          go_ret3
          exact ⟨rtok_says (k := 0) (n := 0) (e := 20) (by rw [HTW.out]; unfold Lx.word; rw [HX.out.1, if_pos h40]; simp), Below.refl _ _⟩
        · have h40' : (l.length : Int) - (j : Int) ≤ 40 := by omega
          have HKC := fun w => Lib.hid (rkey_calls X w)
          clear hwl hw0
          cases hky : Lx.isKey X
          · have HKY := Lib.hid hky
            rw [hky] at HKC
            clear hky
            go_wp2_with (first
              | (go_at_call 70; refine (HL _).out.mono ?_; rintro e w1 ⟨rfl, rfl⟩)
              | (go_at_call 71; refine (HG _).out.mono ?_; rintro e w1 ⟨rfl, rfl⟩))
            rw [HX.out.2.2]
            refine (HKC _).out.mono ?_
            rintro e w2 ⟨rfl, hb2⟩
            have HB2 := Lib.hid hb2
            clear hb2
            dsimp only
            go_wp2_with fail
            go_ret3
            exact ⟨rtok_says (k := 1) (n := l.length) (e := 0) (by rw [HTW.out]; unfold Lx.word; rw [HX.out.1, if_neg h40, if_neg (show ¬ Lx.isKey X = true by rw [HKY.out]; simp)]; have := HX.out.2.1.2; have := HK.out.2.1; simp; omega), HB2.out⟩
          · have HKY := Lib.hid hky
            rw [hky] at HKC
            clear hky
            go_wp2_with (first
              | (go_at_call 70; refine (HL _).out.mono ?_; rintro e w1 ⟨rfl, rfl⟩)
              | (go_at_call 71; refine (HG _).out.mono ?_; rintro e w1 ⟨rfl, rfl⟩))
            rw [HX.out.2.2]
            refine (HKC _).out.mono ?_
            rintro e w2 ⟨rfl, hb2⟩
            have HB2 := Lib.hid hb2
            clear hb2
            dsimp only
            go_wp2_with fail
            go_ret3
            exact ⟨rtok_says (k := 2) (n := l.length) (e := 0) (by rw [HTW.out]; unfold Lx.word; rw [HX.out.1, if_neg h40, if_pos HKY.out]; have := HX.out.2.1.2; have := HK.out.2.1; simp; omega), HB2.out⟩
end Go.Proofs.YtpkhdlnlkeehhaaGreatDoor
/- The document's lexer: a text's tokens: the walk. -/
namespace Go.Proofs.YtpkhdlnlkeehhaaGreatDoor
open Go.RowKit

theorem info_rtok : (Tryz.prog.info? 78).map (fun i => (i.zero, i.size, i.bytes)) = some (some (.agg #[.int .i64 0, .string ⟨#[]⟩, .string ⟨#[]⟩, .int .i64 0]), 4, 48) := by kernel_rfl
theorem rds_tok (w : World) (a b c d : Value) {r : Nat} (hr : r = w.heap.size) : RdS (w.alloc (.cells #[a, b, c, d] 78)) (fun k => k = w.heap.size) 4 (.slice (some ⟨r, 0, none⟩) 1 1) 1 [a, b, c, d] := by
  subst hr
  refine ⟨rfl, _, _, rfl, Nat.le_refl _, Or.inr ⟨_, _, rfl, Or.inr rfl, ?_⟩⟩
  intro j v hj
  rw [Nat.zero_add]
  exact cell_of_heap2 (heap_alloc_new w _) j (by simpa using hj)
def RLexSays (l : List UInt8) (w : World) (e : Ending) (w' : World) : Prop :=
  ∃ v, e = .returned (.tuple #[v, .int .i64 (Lx.lex l).2.1, .int .i64 (Lx.lex l).2.2]) ∧ w'.ownsRow w.heap.size 78 4 v (Lx.lex l).1.length (toksCells (Lx.lex l).1) ∧ Below w.heap.size w w'
def RLexRel (l : List UInt8) (w : World) (k : Nat) (v5 v6 : Value) (wr : World) : Prop :=
  ∃ (j : Nat) (acc : List Lx.Tok) (a : Option Addr) (c : Nat), v6 = .int .i64 j ∧ k = l.length - j ∧ j ≤ l.length ∧ acc.length ≤ j ∧ v5 = .slice a acc.length c ∧
    wr.ownsRow w.heap.size 78 4 (.slice a acc.length c) acc.length (toksCells acc) ∧ Below w.heap.size w wr ∧ Lx.lexGo ((l.drop j).length + 1) (l.drop j) j acc = Lx.lexGo (l.length + 1) l 0 []

set_option maxRecDepth 100000 in
set_option maxHeartbeats 2000000 in
theorem rlex_calls (l : List UInt8) (hl : l.length ≤ 1073741824) (w : World) : Calls Tryz.prog 20 #[.string ⟨l.toArray⟩] w (RLexSays l w) := by
  by_cases hbig : 65536 < l.length
  · have hbig' : 65536 < (l.length : Int) := by omega
    have HE := Lib.hid (show Lx.lex l = ([], 11, 0) from by unfold Lx.lex; rw [if_pos hbig])
    clear hbig
    go_enter Tryz.func20, Tryz.ntmps20
    go_wp2_with fail
    go_ret3
    exact ⟨.slice none 0 0, by rw [HE.out]; rfl, by rw [HE.out]; exact World.ownsRow_nil _ _ _ _, Below.refl _ _⟩
  · have hbig' : (l.length : Int) ≤ 65536 := by omega
    have HE := Lib.hid (show Lx.lex l = Lx.lexGo (l.length + 1) l 0 [] from by unfold Lx.lex; rw [if_neg hbig])
    clear hbig
    go_enter Tryz.func20, Tryz.ntmps20
    go_wp2_with fail
    go_loopg [5, 6] l.length (fun k v5 v6 wr => RLexRel l w k v5 v6 wr)
    case atStart => exact ⟨0, [], none, 0, rfl, rfl, Nat.zero_le _, Nat.le_refl _, rfl, World.ownsRow_nil _ _ _ _, Below.refl _ _, rfl⟩
    case round =>
      obtain ⟨j, acc, a, c, rfl, hk, hj, hacc, rfl, hown, hb, hlex⟩ := hrel
      have hbl := Lx.between_len (l.drop j)
      have hlead := rlead_calls l hl j hj wr
      have hbt := Lx.between_take (l.drop j)
      obtain ⟨ld, hld⟩ : ∃ x, Lx.between (l.drop j) = x := ⟨_, rfl⟩
      rw [hld] at hbl hbt
      have hrl := Lx.rst_len (l.drop j)
      have hfl : l.length - (Lx.rst (l.drop j)).length = j + ld.length := by
        have h2 : (Lx.rst (l.drop j)).length = (Lx.rest ((l.drop j).length + 1) (l.drop j)).length := rfl
        have hlen : (l.drop j).length = l.length - j := List.length_drop
        omega
      rw [hfl] at hlead
      obtain ⟨f, hf⟩ : ∃ f, j + ld.length = f := ⟨_, rfl⟩
      rw [hf] at hlead hfl
      have hfle : f ≤ l.length := by have hlen : (l.drop j).length = l.length - j := List.length_drop; omega
      have hjf : j ≤ f := by omega
      have hjf' : (j : Int) ≤ (f : Int) := by omega
      have hfle' : (f : Int) ≤ (l.length : Int) := by omega
      have hdd : (l.drop j).drop ld.length = l.drop f := by rw [List.drop_drop, hf]
      have hX1 : (⟨l.toArray⟩ : ByteArray).extract j f = ⟨ld.toArray⟩ := by
        rw [tx_extract, show f - j = ld.length by omega]
        rw [hbt.2]
      have hbad := @Lx.lexGo_bad (l.drop j).length j (l.drop j) acc
      have hend := @Lx.lexGo_end (l.drop j).length j (l.drop j) acc
      have hon := @Lx.lexGo_on (l.drop j).length j (l.drop j) acc
      rw [hld, hdd, hf] at hbad hend hon
      have HLD := Lib.hid hlead
      have HX1 := Lib.hid hX1
      have HH := Lib.hid (And.intro hk (And.intro hown (And.intro hb hlex)))
      have HAC : Hid (acc.length ≤ 65536) := Lib.hid (by omega)
      have HJ := Lib.hid (And.intro hacc hf)
      obtain ⟨i0, hii, hz0, hz1, hz2⟩ := info_split info_rtok
      have Hi := Lib.hid hii
      have Hz0 := Lib.hid hz0
      have Hz1 := Lib.hid hz1
      have Hz2 := Lib.hid hz2
      clear hbl hlead hbt hld hrl hfl hdd hk hown hb hlex hX1 hacc hf hii hz0 hz1 hz2
      by_cases hfe : f = l.length
      · subst hfe
        have hfe' : ((l.length : Int) == (l.length : Int)) = true := by simp
        have hnil : l.drop l.length = [] := List.drop_length
        rw [hnil] at hend
        have HE2 := Lib.hid (hend rfl rfl)
        clear hbad hend hon hnil
        go_wp2_with fail
        refine HLD.out.mono ?_
        rintro e w1 ⟨rfl, rfl⟩
        dsimp only
        go_wp2_with (at_builtin; refine wpList_append_row rfl _ _ 49 rfl w.heap.size 78 i0 (.agg #[.int .i64 0, .string ⟨#[]⟩, .string ⟨#[]⟩, .int .i64 0]) 4 48 Tryz.underlying49 Hi.out Hz0.out Hz1.out Hz2.out rfl (by decide) _ acc.length (toksCells acc) rfl (HH.out.2.1.alloc _) rfl (rds_tok _ _ _ _ _ rfl) (by simp [Value.oneCell']) (by have := HAC.out; unfold maxLen; omega) (by have := HAC.out; omega) (Nat.le_trans HH.out.2.2.1.size (Nat.le_of_lt (by rw [← size_alloc1]; omega))) ?_)
        intro a2 c2 w2 ho hg _
        have hTC : toksCells acc ++ [.int .i64 5, .string ((⟨l.toArray⟩ : ByteArray).extract j l.length), .string ⟨#[]⟩, .int .i64 (l.length : Int)] = toksCells (acc ++ [⟨5, ld, [], l.length⟩]) := by
          rw [HX1.out, toksCells_snoc]; rfl
        rw [hTC] at ho
        have hb3 := (HH.out.2.2.1.alloc HH.out.2.2.1.size _).grown hg (by rw [← size_alloc1]; have := HH.out.2.2.1.size; omega) (fun k hk => (HH.out.2.1.lt k hk).1)
        have H3 := Lib.hid (And.intro ho hb3)
        clear ho hg hTC hb3
        go_wp2_with fail
        go_ret3
        have e1 : Lx.lex l = (acc ++ [⟨5, ld, [], l.length⟩], 0, 0) := by rw [HE.out, ← HH.out.2.2.2]; exact HE2.out
        refine ⟨.slice a2 (acc.length + 1) c2, by rw [e1]; rfl, ?_, H3.out.2⟩
        rw [e1, List.length_append]
        exact H3.out.1
      · have hfe' : ((f : Int) == (l.length : Int)) = false := by simp; omega
        have hflt : f < l.length := by omega
        have hflt' : (f : Int) < (l.length : Int) := by omega
        have htk := fun w => rtoken_calls l hl f hflt w
        unfold RTokSays at htk
        have htt := Lx.token_text (l.drop f)
        have hne : l.drop f ≠ [] := by
          intro e
          have := congrArg List.length e
          rw [List.length_drop] at this
          simp at this
          omega
        obtain ⟨⟨kd, tx, er⟩, hT⟩ : ∃ q, Lx.token (l.drop f) = q := ⟨_, rfl⟩
        rw [hT] at htk htt hbad hend hon
        dsimp only at htk htt hbad hend hon
        by_cases he : er = 0
        · subst he
          obtain ⟨hpre, hk5, hkn⟩ := htt rfl
          have hkd : kd ≠ 5 := fun e => hne (hk5 e)
          have htx := hpre.length_le
          rw [List.length_drop] at htx
          have htl := hkn hkd
          have hX2 : (⟨l.toArray⟩ : ByteArray).extract f (f + tx.length) = ⟨tx.toArray⟩ := by
            rw [tx_extract, show f + tx.length - f = tx.length by omega, List.prefix_iff_eq_take.1 hpre]
            simp
          have HX2 := Lib.hid hX2
          have hon2 := hon rfl hkd
          rw [List.drop_drop] at hon2
          have HON := Lib.hid (And.intro hon2 (And.intro htx htl))
          have hft' : (f : Int) + (tx.length : Int) ≤ (l.length : Int) := by omega
          have ht0 : (0 : Int) ≤ (tx.length : Int) := by omega
          simp only [if_true] at htk
          have HTK := fun w => Lib.hid (htk w)
          clear hbad hend hon htk htt hpre hk5 hkn hkd htx htl hX2 hT hne hon2
          obtain ⟨E, hE⟩ : ∃ E, f + tx.length = E := ⟨_, rfl⟩
          rw [hE] at HTK HX2
          have hfE : (f : Int) ≤ (E : Int) := by omega
          have hEl : (E : Int) ≤ (l.length : Int) := by omega
          have HEE := Lib.hid hE
          clear hE hft' ht0
          go_wp2_with fail
          refine HLD.out.mono ?_
          rintro e w1 ⟨rfl, rfl⟩
          dsimp only
          go_wp2_with fail
          refine (HTK _).out.mono ?_
          rintro e w2 ⟨rfl, hb2⟩
          have HOW := Lib.hid (And.intro (ownsRow_below HH.out.2.1 hb2) (HH.out.2.2.1.trans (hb2.mono HH.out.2.2.1.size)))
          clear hb2
          dsimp only
          go_wp2_with fail
          go_region_law (refine step_append_row rfl (.tmp 41) (.tmp 53) 49 rfl w.heap.size 78 i0 (.agg #[.int .i64 0, .string ⟨#[]⟩, .string ⟨#[]⟩, .int .i64 0]) 4 48 Tryz.underlying49 Hi.out Hz0.out Hz1.out Hz2.out rfl (by decide) _ acc.length (toksCells acc) (by simp [Act.eval]) (HOW.out.1.drew.alloc _) (by simp [Act.eval]) (rds_tok _ _ _ _ _ rfl) (by simp [Value.oneCell']) (by have := HAC.out; unfold maxLen; omega) (by have := HAC.out; omega) (by have h1 := HOW.out.2.size; show w.heap.size ≤ (w2.alloc _).heap.size; rw [← size_alloc1]; omega) ?_; intro a3 c3 w3 ho hg _; have H3 := Lib.hid (And.intro ho hg); clear ho hg)
          all_goals
            have hTC : toksCells acc ++ [.int .i64 (kd : Int), .string ((⟨l.toArray⟩ : ByteArray).extract j f), .string ((⟨l.toArray⟩ : ByteArray).extract f E), .int .i64 (f : Int)] = toksCells (acc ++ [⟨kd, ld, tx, f⟩]) := by
              rw [HX1.out, HX2.out, toksCells_snoc]; rfl
            have hown := H3.out.1
            rw [hTC] at hown
            have hb3 := ((HOW.out.2.alloc HOW.out.2.size _).drew).grown H3.out.2 (by have h1 := HOW.out.2.size; show w.heap.size ≤ (w2.alloc _).heap.size; rw [← size_alloc1]; omega) (fun k hk => (HOW.out.1.lt k hk).1)
            have H4 := Lib.hid (And.intro hown hb3)
            clear hTC hown hb3
            go_wp2_with fail
            go_roundg (l.length - E)
            case measure =>
              have h1 := HH.out.1
              have h2 := HON.out.2
              have h3 := HEE.out
              have h4 := HJ.out.2
              omega
            case rel =>
              have h2 := HON.out.2
              have h3 := HEE.out
              have h4 := HJ.out
              refine ⟨E, acc ++ [⟨kd, ld, tx, f⟩], a3, c3, by go_num, rfl, by omega, by simp; omega, by simp, ?_, H4.out.2, ?_⟩
              · rw [List.length_append]
                exact H4.out.1
              · rw [← HH.out.2.2.2, HON.out.1, h3]
                exact Lx.lexGo_fuel _ _ _ _ _ (Nat.lt_succ_self _) (by simp; omega)
        · have he' : ((er : Int) != 0) = true := by simp [he]
          have HE2 := Lib.hid (And.intro (hbad he) he)
          simp only [if_neg he] at htk
          have HTK := fun w => Lib.hid (htk w)
          clear hbad hend hon htk htt hT hne he
          go_wp2_with fail
          refine HLD.out.mono ?_
          rintro e w1 ⟨rfl, rfl⟩
          dsimp only
          go_wp2_with fail
          refine (HTK _).out.mono ?_
          rintro e w2 ⟨rfl, hb2⟩
          have HB2 := Lib.hid hb2
          clear hb2
          dsimp only
          go_wp2_with fail
          go_ret3
          have e1 : Lx.lex l = ([], er, f) := by rw [HE.out, ← HH.out.2.2.2]; exact HE2.out.1
          refine ⟨.slice none 0 0, by rw [e1]; rfl, ?_, HH.out.2.2.1.trans (HB2.out.mono HH.out.2.2.1.size)⟩
          rw [e1]
          exact World.ownsRow_nil _ _ _ _
end Go.Proofs.YtpkhdlnlkeehhaaGreatDoor
/- slices.Index, slices.Contains at []string. -/
namespace Go.Proofs.YtpkhdlnlkeehhaaGreatDoor
open Go.RowKit

def strCells (l : List (List UInt8)) : List Value := l.map fun t => .string ⟨t.toArray⟩

set_option maxRecDepth 100000 in
theorem index_str {w : World} {P : Nat → Prop} {v : Value} {l : List (List UInt8)} {x : List UInt8} (h : RdS w P 1 v l.length (strCells l)) (hl : l.length ≤ 1073741824) :
    Calls Tryz.prog 109 #[v, .string ⟨x.toArray⟩] w fun e w' => ∃ r : Int, e = .returned (.int .i64 r) ∧ decide (0 ≤ r) = l.contains x ∧ w = w' := by
  obtain ⟨_, a, cl, rfl, _, hd⟩ := h
  have hl' : (l.length : Int) ≤ 1073741824 := by omega
  have HD := Lib.hid hd
  clear hd
  go_enter Tryz.func109, Tryz.ntmps109
  go_wp2
  go_loopg [8] l.length (fun k v8 wr => ∃ j : Nat, v8 = .int .i64 j ∧ k = l.length - j ∧ j ≤ l.length ∧ wr = w ∧ (l.take j).contains x = false)
  case atStart => exact ⟨0, rfl, rfl, Nat.zero_le _, rfl, by simp⟩
  case round =>
    obtain ⟨j, rfl, hk, hj, rfl, hall⟩ := hrel
    have HK := Lib.hid hk
    have HA := Lib.hid hall
    clear hk hall
    by_cases hlt : j < l.length
    · have hlt' : (j : Int) < (l.length : Int) := by omega
      obtain ⟨b2, off, rfl, _, hr⟩ := HD.out.resolve_left (fun h => by omega)
      have hcell : wr.cell? ⟨b2, off + j, none⟩ = some (.string ⟨(l[j]).toArray⟩) := hr j _ (by simp [strCells, List.getElem?_eq_getElem hlt])
      clear hr
      obtain ⟨y, hy⟩ : ∃ y, l[j] = y := ⟨_, rfl⟩
      rw [hy] at hcell
      have HY := Lib.hid hy
      clear hy
      by_cases he : x = y
      · subst he
        go_wp2
        go_ret
        refine ⟨(j : Int), rfl, ?_, rfl⟩
        have h2 : l.contains x = true := by
          rw [List.contains_iff_mem]
          have h3 := List.getElem_mem hlt
          rw [HY.out] at h3
          exact h3
        rw [h2]
        simp
      · have he2 : (x == y) = false := by simpa using he
        have HE := Lib.hid he
        clear he
        go_wp2
        go_roundg (l.length - (j + 1))
        case measure => have := HK.out; omega
        case rel =>
          refine ⟨j + 1, by go_num, rfl, by omega, rfl, ?_⟩
          rw [List.take_succ_eq_append_getElem hlt, HY.out]
          have := HA.out
          have h3 := HE.out
          simp only [List.contains_eq_mem, decide_eq_false_iff_not] at this ⊢
          simp [this, h3]
    · obtain rfl : j = l.length := by omega
      go_wp2
      go_ret
      refine ⟨-1, rfl, ?_, rfl⟩
      have h2 := HA.out
      rw [List.take_length] at h2
      rw [h2]
      rfl
theorem contains_str {w : World} {P : Nat → Prop} {v : Value} {l : List (List UInt8)} {x : List UInt8} (h : RdS w P 1 v l.length (strCells l)) (hl : l.length ≤ 1073741824) :
    Calls Tryz.prog 92 #[v, .string ⟨x.toArray⟩] w fun e w' => e = .returned (.bool (l.contains x)) ∧ w = w' := by
  have HI := Lib.hid (index_str (x := x) h hl)
  obtain ⟨a, c, rfl⟩ := h.form
  clear h
  go_enter Tryz.func92, Tryz.ntmps92
  go_wp2_with (go_at_call 109; refine HI.out.mono ?_; rintro e w1 ⟨r, rfl, hr, rfl⟩; have HR := Lib.hid hr; clear hr)
  go_ret
  exact ⟨by rw [← HR.out]; rfl, rfl⟩
end Go.Proofs.YtpkhdlnlkeehhaaGreatDoor
/- parse: ok, fail, next, must, kind, node, deep: the walks. -/
namespace Go.Proofs.YtpkhdlnlkeehhaaGreatDoor
open Go.RowKit

section
variable {Q : Nat → Prop}

/-- What the walks ask of a state. -/
def Wk (tk : List Tr.Tk) (s : Ps.St) : Prop := 0 < tk.length ∧ tk.length ≤ 1000000 ∧ s.used ≤ tk.length ∧ s.nodes.length ≤ 5000000

theorem anc_peek {w0 W : World} {b u : Nat} {tk : List Tr.Tk} {ns : List Tr.Nd} (h : Anc Q w0 W b ⟨tk, ns⟩ u) (h0 : 0 < tk.length) (h1 : tk.length ≤ 1000000) (hu : u ≤ tk.length) :
    Calls Tryz.prog 68 #[.pointer (some ⟨b, 0, none⟩)] W fun e W' => e = .returned (.agg #[.int .i64 (Ps.peek tk u).kind, .string ⟨(Ps.peek tk u).lead.toArray⟩, .string ⟨(Ps.peek tk u).text.toArray⟩, .int .i64 (Ps.peek tk u).pos]) ∧ Below W.heap.size W W' := by
  obtain ⟨B, vt, vn, _, hB, _⟩ := h
  refine peek_calls hB (by show tk.length ≤ _; omega) hu ?_
  show tk[min u (tk.length - 1)]? = _
  unfold Ps.peek
  rw [List.getElem?_eq_getElem (by omega)]
  rfl

theorem tok_field0 (k : Int) (l t : ByteArray) (q : Int) (w : World) : (Instr.field 85 (.agg #[.int .i64 k, .string l, .string t, .int .i64 q]) 0).run Tryz.prog w = .ok (.int .i64 k) w := by kernel_rfl
theorem tok_field3 (k : Int) (l t : ByteArray) (q : Int) (w : World) : (Instr.field 85 (.agg #[.int .i64 k, .string l, .string t, .int .i64 q]) 3).run Tryz.prog w = .ok (.int .i64 q) w := by kernel_rfl
section
variable {w0 W : World} {p b : Nat} {tk : List Tr.Tk} {dp : Int} {s : Ps.St}

set_option maxRecDepth 100000 in
set_option maxHeartbeats 2000000 in
theorem pok_calls (h : PI Q w0 W p b tk dp s) : Calls Tryz.prog 33 #[.pointer (some ⟨p, 0, none⟩)] W fun e W' => e = .returned (.bool (decide (s.e = 0))) ∧ W = W' := by
  have c3 := h.c3
  clear h
  go_enter Tryz.func33, Tryz.ntmps33
  go_wp2
  go_ret
  exact ⟨rfl, rfl⟩

set_option maxRecDepth 100000 in
set_option maxHeartbeats 2000000 in
theorem pfail_calls (h : PI Q w0 W p b tk dp s) (hw : Wk tk s) (x : Int) : Calls Tryz.prog 61 #[.pointer (some ⟨p, 0, none⟩), .int .i64 x] W (Does Q w0 p b tk dp (0, Ps.fail tk x s) W) := by
  have HP := Lib.hid h
  have HW := Lib.hid hw
  have hok := pok_calls h
  by_cases he : s.e = 0
  · rw [decide_eq_true he] at hok
    have HOK := Lib.hid hok
    have HF := Lib.hid (show Ps.fail tk x s = { s with e := x, pos := (Ps.peek tk s.used).pos } by unfold Ps.fail; rw [if_pos he])
    have c0 := h.c0
    clear h hw hok he
    go_enter Tryz.func61, Tryz.ntmps61
    go_wp2_with fail
    refine HOK.out.mono ?_
    rintro e W1 ⟨rfl, rfl⟩
    dsimp only
    go_wp2_with fail
    refine (anc_peek HP.out.anc HW.out.1 HW.out.2.1 HW.out.2.2.1).mono ?_
    rintro e W2 ⟨rfl, hb2⟩
    have hc2 := anc_box HP.out.cell hb2
    have d3 := (HP.out.past hb2).c3
    have d4 := (HP.out.past hb2).c4
    have f3 := frozen_of_heap hc2 3
    have f4 := frozen_of_heap hc2 4
    have H2 := Lib.hid (And.intro hb2 hc2)
    have t3 := tok_field3 (Ps.peek tk s.used).kind ⟨(Ps.peek tk s.used).lead.toArray⟩ ⟨(Ps.peek tk s.used).text.toArray⟩ (Ps.peek tk s.used).pos W2
    clear hb2 hc2 c0
    dsimp only
    go_wp2_with fail
    go_ret
    have h1 := setCell_row (j := 3) H2.out.2 (.int .i64 x)
    have h2 := setCell_row (j := 4) h1 (.int .i64 (Ps.peek tk s.used).pos)
    have h3 := (HP.out.past H2.out.1).set (s' := { s with e := x, pos := (Ps.peek tk s.used).pos }) ⟨rfl, rfl⟩ (W' := (W2.setCell ⟨p, 3, none⟩ (.int .i64 x)).setCell ⟨p, 4, none⟩ (.int .i64 (Ps.peek tk s.used).pos)) rfl rfl rfl (by simp [World.setCell]) h2 (fun k hk => by rw [Below.heap_setCell _ _ _ _ hk, Below.heap_setCell _ _ _ _ hk])
    refine ⟨rfl, ?_, (FrT.of H2.out.1).trans h3.2⟩
    rw [HF.out]
    exact h3.1
  · rw [decide_eq_false he] at hok
    have HOK := Lib.hid hok
    have HF := Lib.hid (show Ps.fail tk x s = s by unfold Ps.fail; rw [if_neg he])
    clear h hw hok he
    go_enter Tryz.func61, Tryz.ntmps61
    go_wp2_with fail
    refine HOK.out.mono ?_
    rintro e W1 ⟨rfl, rfl⟩
    dsimp only
    go_wp2_with fail
    go_ret
    exact ⟨rfl, by rw [HF.out]; exact HP.out, FrT.refl _ _⟩

set_option maxRecDepth 100000 in
set_option maxHeartbeats 2000000 in
/-- Does the next token stand among some texts? -/
theorem pnext_calls (h : PI Q w0 W p b tk dp s) (hw : Wk tk s) {ts : List (List UInt8)} {P : Nat → Prop} {v : Value} (hv : RdS W P 1 v ts.length (strCells ts)) (hP : ∀ k, P k → k < W.heap.size) (hl : ts.length ≤ 1000) :
    Calls Tryz.prog 60 #[.pointer (some ⟨p, 0, none⟩), v] W fun e W' => e = .returned (.bool (Ps.nextB tk ts s.used)) ∧ Below W.heap.size W W' := by
  have HP := Lib.hid h
  have HW := Lib.hid hw
  have HV := Lib.hid (And.intro hv (And.intro hP hl))
  obtain ⟨av, cv, rfl⟩ := hv.form
  have c0 := h.c0
  have hn : Ps.nextB tk ts s.used = ((decide ((Ps.peek tk s.used).kind = 2) || decide ((Ps.peek tk s.used).kind = 4)) && ts.contains (Ps.peek tk s.used).text) := rfl
  have hpk := anc_peek h.anc hw.1 hw.2.1 hw.2.2.1
  rw [hn]
  generalize Ps.peek tk s.used = t at *
  obtain ⟨kd, ld, tx, ps⟩ := t
  dsimp only at hpk ⊢
  have HPK := Lib.hid hpk
  clear h hw hv hP hn hpk
  by_cases hk : kd = 2 ∨ kd = 4
  · have e1 : (decide (kd = 2) || decide (kd = 4)) = true := by simpa using hk
    rw [e1, Bool.true_and]
    obtain ⟨y, hy⟩ : ∃ y, ts.contains tx = y := ⟨_, rfl⟩
    have hc0 : ∀ W', Below W.heap.size W W' → Calls Tryz.prog 92 #[.slice av ts.length cv, .string ⟨tx.toArray⟩] W' fun e w' => e = .returned (.bool y) ∧ W' = w' := fun W' hb => by
      have := contains_str (x := tx) (HV.out.1.keep (w' := W') (Keeps.of hb HV.out.2.1)) (by have := HV.out.2.2; omega)
      rwa [hy] at this
    have HC := Lib.hid hc0
    clear hc0
    rw [hy]
    clear hy
    rcases hk with rfl | rfl
    all_goals
      clear e1
      go_enter Tryz.func60, Tryz.ntmps60
      go_wp2_with fail
      refine HPK.out.mono ?_
      rintro e W2 ⟨rfl, hb2⟩
      have H2 := Lib.hid hb2
      clear hb2 c0
      dsimp only
      go_wp2_with fail
      refine (HC.out _ (H2.out.alloc H2.out.size _)).mono ?_
      rintro e W3 ⟨rfl, rfl⟩
      dsimp only
      go_wp2_with fail
      go_ret
      exact ⟨rfl, H2.out.alloc H2.out.size _⟩
  · have e1 : (decide (kd = 2) || decide (kd = 4)) = false := by simpa using hk
    rw [e1, Bool.false_and]
    have k1 : (kd == 2) = false := by simp; omega
    have k2 : (kd == 4) = false := by simp; omega
    clear hk e1
    go_enter Tryz.func60, Tryz.ntmps60
    go_wp2_with fail
    refine HPK.out.mono ?_
    rintro e W2 ⟨rfl, hb2⟩
    have H2 := Lib.hid hb2
    clear hb2 c0
    dsimp only
    go_wp2_with fail
    go_ret
    exact ⟨rfl, H2.out.alloc H2.out.size _⟩

set_option maxRecDepth 100000 in
set_option maxHeartbeats 2000000 in
/-- A leaf of the builder's. -/
theorem pleaf_calls (h : PI Q w0 W p b tk dp s) (hw : Wk tk s) : Calls Tryz.prog 62 #[.pointer (some ⟨b, 0, none⟩)] W (Does Q w0 p b tk dp (Ps.leaf tk s) W) := by
  unfold Ps.leaf
  by_cases hu : s.used = tk.length
  · rw [if_pos hu]
    have ha := h.anc
    rw [hu] at ha
    refine (anc_leaf_end (t := ⟨tk, s.nodes⟩) ha (by have := hw.2.2.2; show s.nodes.length ≤ _; omega) (by have := hw.2.1; show tk.length ≤ _; omega)).mono ?_
    rintro e W1 ⟨rfl, h1, h2⟩
    have h3 := h.step h1 h2
    refine ⟨rfl, ?_, h3.2⟩
    have h4 := h3.1
    have e1 : ({ s with nodes := s.nodes, used := tk.length } : Ps.St) = s := by rw [← hu]
    rw [e1] at h4
    exact h4
  · rw [if_neg hu]
    refine (anc_leaf (t := ⟨tk, s.nodes⟩) h.anc (by have := hw.2.2.2; show s.nodes.length ≤ _; omega) (by have := hw.2.1; show tk.length ≤ _; omega) (by have := hw.2.2.1; show s.used < tk.length; omega)).mono ?_
    rintro e W1 ⟨rfl, h1, h2⟩
    exact ⟨rfl, h.step h1 h2⟩
set_option maxRecDepth 100000 in
set_option maxHeartbeats 2000000 in
/-- A node of the builder's. -/
theorem pbnode_calls (h : PI Q w0 W p b tk dp s) (hw : Wk tk s) (he : s.e = 0) {P : Nat → Prop} {v : Value} {l : List Int} (hk : RdS W P 1 v l.length (intCells l)) (hP : ∀ k, P k → k < W.heap.size) (hl : l.length ≤ 1000000) (hQ : Up Q W) (k : Int) :
    Calls Tryz.prog 67 #[.pointer (some ⟨b, 0, none⟩), .int .i64 k, v] W (Does Q w0 p b tk dp (Ps.node k l s) W) := by
  have hbk : (l.any fun x => decide (x < 0) || decide ((s.nodes.length : Int) ≤ x)) = l.any (badKid s.nodes.length) := rfl
  unfold Ps.node
  rw [if_pos he, hbk]
  by_cases hb : l.any (badKid s.nodes.length) = true
  · rw [if_pos hb]
    refine (anc_node_bad (t := ⟨tk, s.nodes⟩) h.anc (by have := hw.2.2.2; show s.nodes.length ≤ _; omega) hk hP (by omega) hQ k hb).mono ?_
    rintro e W1 ⟨rfl, h1, h2⟩
    exact ⟨rfl, h.step h1 h2⟩
  · rw [if_neg hb]
    refine (anc_node (t := ⟨tk, s.nodes⟩) h.anc (by have := hw.2.2.2; show s.nodes.length ≤ _; omega) hk hP (by omega) hQ k (by simpa using hb)).mono ?_
    rintro e W1 ⟨rfl, h1, h2⟩
    exact ⟨rfl, h.step h1 h2⟩
theorem Wk.fail (hw : Wk tk s) (x : Int) : Wk tk (Ps.fail tk x s) := by
  unfold Ps.fail
  split
  · exact hw
  · exact hw

set_option maxRecDepth 100000 in
set_option maxHeartbeats 2000000 in
theorem pmust_calls (h : PI Q w0 W p b tk dp s) (hw : Wk tk s) {ts : List (List UInt8)} {P : Nat → Prop} {v : Value} (hv : RdS W P 1 v ts.length (strCells ts)) (hP : ∀ k, P k → k < W.heap.size) (hl : ts.length ≤ 1000) :
    Calls Tryz.prog 63 #[.pointer (some ⟨p, 0, none⟩), v] W (Does Q w0 p b tk dp (Ps.must tk ts s) W) := by
  have HP := Lib.hid h
  have HW := Lib.hid hw
  have hok := pok_calls h
  by_cases he : s.e = 0
  · rw [decide_eq_true he] at hok
    have HOK := Lib.hid hok
    have hnx := pnext_calls h hw hv hP hl
    obtain ⟨av, cv, rfl⟩ := hv.form
    unfold Ps.must
    by_cases hn : Ps.nextB tk ts s.used = true
    · rw [if_pos ⟨he, hn⟩]
      rw [hn] at hnx
      have HNX := Lib.hid hnx
      clear h hw hok he hn hnx hv hP
      go_enter Tryz.func63, Tryz.ntmps63
      go_wp2_with fail
      refine HOK.out.mono ?_
      rintro e W1 ⟨rfl, rfl⟩
      dsimp only
      go_wp2_with fail
      refine HNX.out.mono ?_
      rintro e W2 ⟨rfl, hb2⟩
      have c0 := (HP.out.past hb2).c0
      have H2 := Lib.hid hb2
      clear hb2
      dsimp only
      go_wp2_with fail
      refine (pleaf_calls (HP.out.past H2.out) HW.out).mono ?_
      rintro e W3 ⟨rfl, h3, h4⟩
      have H3 := Lib.hid (And.intro h3 h4)
      clear h3 h4 c0
      dsimp only
      go_wp2_with fail
      go_ret
      exact ⟨rfl, H3.out.1, (FrT.of H2.out).trans H3.out.2⟩
    · rw [if_neg (by simp [hn])]
      rw [Bool.not_eq_true] at hn
      rw [hn] at hnx
      have HNX := Lib.hid hnx
      clear h hw hok he hn hnx hv hP
      go_enter Tryz.func63, Tryz.ntmps63
      go_wp2_with fail
      refine HOK.out.mono ?_
      rintro e W1 ⟨rfl, rfl⟩
      dsimp only
      go_wp2_with fail
      refine HNX.out.mono ?_
      rintro e W2 ⟨rfl, hb2⟩
      have H2 := Lib.hid hb2
      clear hb2
      dsimp only
      go_wp2_with fail
      refine (pfail_calls (HP.out.past H2.out) HW.out 22).mono ?_
      rintro e W3 ⟨rfl, h3, h4⟩
      have H3 := Lib.hid (And.intro h3 h4)
      clear h3 h4
      dsimp only
      go_wp2_with fail
      go_ret
      exact ⟨rfl, H3.out.1, (FrT.of H2.out).trans H3.out.2⟩
  · rw [decide_eq_false he] at hok
    have HOK := Lib.hid hok
    obtain ⟨av, cv, rfl⟩ := hv.form
    unfold Ps.must
    rw [if_neg (by simp [he])]
    clear h hw hok he hv hP
    go_enter Tryz.func63, Tryz.ntmps63
    go_wp2_with fail
    refine HOK.out.mono ?_
    rintro e W1 ⟨rfl, rfl⟩
    dsimp only
    go_wp2_with fail
    refine (pfail_calls HP.out HW.out 22).mono ?_
    rintro e W3 ⟨rfl, h3, h4⟩
    have H3 := Lib.hid (And.intro h3 h4)
    clear h3 h4
    dsimp only
    go_wp2_with fail
    go_ret
    exact ⟨rfl, H3.out.1, H3.out.2⟩

set_option maxRecDepth 100000 in
set_option maxHeartbeats 2000000 in
theorem pkind_calls (h : PI Q w0 W p b tk dp s) (hw : Wk tk s) (k : Int) :
    Calls Tryz.prog 39 #[.pointer (some ⟨p, 0, none⟩), .int .i64 k] W (Does Q w0 p b tk dp (Ps.kind tk k s) W) := by
  have HP := Lib.hid h
  have HW := Lib.hid hw
  have hok := pok_calls h
  unfold Ps.kind
  by_cases he : s.e = 0
  · rw [decide_eq_true he] at hok
    have HOK := Lib.hid hok
    have hpk := anc_peek h.anc hw.1 hw.2.1 hw.2.2.1
    have c0 := h.c0
    by_cases hn : (Ps.peek tk s.used).kind = k
    · rw [if_pos ⟨he, hn⟩]
      rw [hn] at hpk
      have HPK := Lib.hid hpk
      clear h hw hok he hn hpk
      go_enter Tryz.func39, Tryz.ntmps39
      go_wp2_with fail
      refine HOK.out.mono ?_
      rintro e W1 ⟨rfl, rfl⟩
      dsimp only
      go_wp2_with fail
      refine HPK.out.mono ?_
      rintro e W2 ⟨rfl, hb2⟩
      have d0 := (HP.out.past hb2).c0
      have H2 := Lib.hid hb2
      have t0 := tok_field0 k ⟨(Ps.peek tk s.used).lead.toArray⟩ ⟨(Ps.peek tk s.used).text.toArray⟩ (Ps.peek tk s.used).pos W2
      clear hb2 c0
      dsimp only
      go_wp2_with fail
      refine (pleaf_calls (HP.out.past H2.out) HW.out).mono ?_
      rintro e W3 ⟨rfl, h3, h4⟩
      have H3 := Lib.hid (And.intro h3 h4)
      clear h3 h4 d0
      dsimp only
      go_wp2_with fail
      go_ret
      exact ⟨rfl, H3.out.1, (FrT.of H2.out).trans H3.out.2⟩
    · rw [if_neg (by simp [hn])]
      generalize (Ps.peek tk s.used).kind = kd at *
      have hn1 : (kd == k) = false := by simpa using hn
      have hn2 : (kd != k) = true := by simpa using hn
      have HPK := Lib.hid hpk
      clear h hw hok he hn hpk
      go_enter Tryz.func39, Tryz.ntmps39
      go_wp2_with fail
      refine HOK.out.mono ?_
      rintro e W1 ⟨rfl, rfl⟩
      dsimp only
      go_wp2_with fail
      refine HPK.out.mono ?_
      rintro e W2 ⟨rfl, hb2⟩
      have H2 := Lib.hid hb2
      have t0 := tok_field0 kd ⟨(Ps.peek tk s.used).lead.toArray⟩ ⟨(Ps.peek tk s.used).text.toArray⟩ (Ps.peek tk s.used).pos W2
      clear hb2 c0
      dsimp only
      go_wp2_with fail
      refine (pfail_calls (HP.out.past H2.out) HW.out 22).mono ?_
      rintro e W3 ⟨rfl, h3, h4⟩
      have H3 := Lib.hid (And.intro h3 h4)
      clear h3 h4
      dsimp only
      go_wp2_with fail
      go_ret
      exact ⟨rfl, H3.out.1, (FrT.of H2.out).trans H3.out.2⟩
  · rw [decide_eq_false he] at hok
    have HOK := Lib.hid hok
    rw [if_neg (by simp [he])]
    clear h hw hok he
    go_enter Tryz.func39, Tryz.ntmps39
    go_wp2_with fail
    refine HOK.out.mono ?_
    rintro e W1 ⟨rfl, rfl⟩
    dsimp only
    go_wp2_with fail
    refine (pfail_calls HP.out HW.out 22).mono ?_
    rintro e W3 ⟨rfl, h3, h4⟩
    have H3 := Lib.hid (And.intro h3 h4)
    clear h3 h4
    dsimp only
    go_wp2_with fail
    go_ret
    exact ⟨rfl, H3.out.1, H3.out.2⟩

set_option maxRecDepth 100000 in
set_option maxHeartbeats 2000000 in
theorem pnode_calls (h : PI Q w0 W p b tk dp s) (hw : Wk tk s) {P : Nat → Prop} {v : Value} {l : List Int} (hk : RdS W P 1 v l.length (intCells l)) (hP : ∀ k, P k → k < W.heap.size) (hl : l.length ≤ 1000000) (hQ : Up Q W) (k : Int) :
    Calls Tryz.prog 38 #[.pointer (some ⟨p, 0, none⟩), .int .i64 k, v] W (Does Q w0 p b tk dp (Ps.node k l s) W) := by
  have HP := Lib.hid h
  have hok := pok_calls h
  obtain ⟨av, cv, rfl⟩ := hk.form
  by_cases he : s.e = 0
  · have HN := Lib.hid (pbnode_calls h hw he hk hP hl hQ k)
    rw [decide_eq_true he] at hok
    have HOK := Lib.hid hok
    have c0 := h.c0
    clear h hw hok he hk hP hQ
    go_enter Tryz.func38, Tryz.ntmps38
    go_wp2_with fail
    refine HOK.out.mono ?_
    rintro e W1 ⟨rfl, rfl⟩
    dsimp only
    go_wp2_with fail
    refine HN.out.mono ?_
    rintro e W3 ⟨rfl, h3, h4⟩
    have H3 := Lib.hid (And.intro h3 h4)
    clear h3 h4 c0
    dsimp only
    go_wp2_with fail
    go_ret
    exact ⟨rfl, H3.out.1, H3.out.2⟩
  · rw [decide_eq_false he] at hok
    have HOK := Lib.hid hok
    have HE := Lib.hid he
    clear h hw hok he hk hP hQ
    go_enter Tryz.func38, Tryz.ntmps38
    go_wp2_with fail
    refine HOK.out.mono ?_
    rintro e W1 ⟨rfl, rfl⟩
    dsimp only
    go_wp2_with fail
    go_ret
    have e1 : Ps.node k l s = (0, s) := by unfold Ps.node; rw [if_neg HE.out]
    rw [e1]
    exact ⟨rfl, HP.out, FrT.refl _ _⟩

set_option maxRecDepth 100000 in
set_option maxHeartbeats 2000000 in
/-- Where d more may be nested. -/
theorem pdeep_calls (h : PI Q w0 W p b tk dp s) (hw : Wk tk s) {n : Int} {d : Nat} (hd : n + d = dp + 1) :
    Calls Tryz.prog 80 #[.pointer (some ⟨p, 0, none⟩), .int .i64 n] W fun e W' => e = .returned (.bool (decide ((Ps.deep tk d s).e ≠ 0))) ∧ PI Q w0 W' p b tk dp (Ps.deep tk d s) ∧ FrT PTs W W' := by
  have HP := Lib.hid h
  have HW := Lib.hid hw
  have c1 := h.c1
  unfold Ps.deep
  by_cases hz : d = 0
  · have hd1 : decide (dp < n) = true := decide_eq_true (by omega)
    rw [if_pos hz]
    clear h hw hz hd
    go_enter Tryz.func80, Tryz.ntmps80
    go_wp2_with fail
    refine (pfail_calls HP.out HW.out 23).mono ?_
    rintro e W3 ⟨rfl, h3, h4⟩
    have H3 := Lib.hid (And.intro h3 h4)
    clear h3 h4 c1
    dsimp only
    go_wp2_with fail
    refine (pok_calls H3.out.1).mono ?_
    rintro e W4 ⟨rfl, rfl⟩
    dsimp only
    go_wp2_with fail
    go_ret
    exact ⟨by simp, H3.out.1, H3.out.2⟩
  · have hd1 : decide (dp < n) = false := decide_eq_false (by omega)
    rw [if_neg hz]
    clear h hw hz hd
    go_enter Tryz.func80, Tryz.ntmps80
    go_wp2_with fail
    refine (pok_calls HP.out).mono ?_
    rintro e W4 ⟨rfl, rfl⟩
    dsimp only
    go_wp2_with fail
    go_ret
    exact ⟨by simp, HP.out, FrT.refl _ _⟩
end
end
end Go.Proofs.YtpkhdlnlkeehhaaGreatDoor
/- Plain: what each of the parser's functions keeps. No program in sight. -/
namespace Go.Proofs.YtpkhdlnlkeehhaaGreatDoor.Pc
open Tr Ps

section
variable {tk : List Tk}
/-- A document's state beside a program's. -/
def beside (s : St) : Pr.Rs := ⟨s.used, s.clause, s.e, s.pos⟩
theorem rel_beside (s : St) : Rel s (beside s) := ⟨rfl, fun _ => rfl, fun _ => ⟨rfl, rfl⟩⟩
theorem SimL.keep {f : St → List Int × St} {g : Pr.G} (h : SimL tk f g) {s : St} (hi : Inv tk s) : Inv tk (f s).2 := by
  by_cases he : s.e = 0
  · exact (h.go s (beside s) he hi (rel_beside s)).2.1
  · rw [h.df s he]
    exact hi
theorem SimL.used {f : St → List Int × St} {g : Pr.G} (h : SimL tk f g) {s : St} (hi : Inv tk s) (he : s.e = 0) (he2 : (f s).2.e = 0) : s.used ≤ (f s).2.used :=
  ((h.go s (beside s) he hi (rel_beside s)).2.2.2 he2).used
theorem Sim.keep {f : F} {g : Pr.G} (h : Sim tk f g) {s : St} (hi : Inv tk s) : Inv tk (f s).2 := SimL.keep h hi
theorem Out.inv {s0 s : St} {l : List Int} {r : Pr.Rs} {x : List UInt8} (o : Out tk s0 s l r x) : Inv tk s := o.2.1
/-- What a state and roots have come of. -/
def Og (tk : List Tk) (s : St) (l : List Int) : Prop := ∃ s0 r x, Out tk s0 s l r x
theorem Og.nil {s : St} (hi : Inv tk s) : Og tk s [] := ⟨s, beside s, [], Out.nil hi (rel_beside s)⟩
theorem Og.inv {s : St} {l : List Int} (h : Og tk s l) : Inv tk s := by
  obtain ⟨s0, r, x, o⟩ := h
  exact o.2.1
theorem Og.then {s : St} {l : List Int} (h : Og tk s l) {f : F} {g : Pr.G} (k : Sim tk f g) : Og tk (f s).2 (l ++ [(f s).1]) := by
  obtain ⟨s0, r, x, o⟩ := h
  exact ⟨s0, _, _, o.then k⟩
theorem Og.leaf (ht : Toks tk) {s : St} {l : List Int} (h : Og tk s l) (he : s.e = 0) (hk : (peek tk s.used).kind ≠ 5) : Og tk (Ps.leaf tk s).2 (l ++ [(Ps.leaf tk s).1]) ∧ (Ps.leaf tk s).2.e = 0 := by
  obtain ⟨s0, r, x, o⟩ := h
  exact ⟨⟨s0, _, _, (o.leaf ht he hk).1⟩, (o.leaf ht he hk).2⟩
theorem Og.node {s : St} {l : List Int} (h : Og tk s l) {k : Int} (hk : 1 ≤ k ∧ k ≤ 18) (hl : s.e = 0 → 2 ≤ l.length) : Og tk (Ps.node k l s).2 [(Ps.node k l s).1] := by
  obtain ⟨s0, r, x, o⟩ := h
  exact ⟨s0, _, _, o.node hk hl⟩
theorem Og.clause {s : St} {l : List Int} (h : Og tk s l) (b : Bool) : Og tk { s with clause := b } [] := Og.nil h.inv
theorem inv_room {s : St} (h : Inv tk s) (hl : tk.length ≤ 1000000) : 0 < tk.length ∧ tk.length ≤ 1000000 ∧ s.used ≤ tk.length ∧ s.nodes.length ≤ 5000000 := by
  have h1 := h.1
  have h2 := h.2.1
  omega
theorem node_used (k : Int) (l : List Int) (s : St) : (Ps.node k l s).2.used = s.used := by
  unfold Ps.node
  by_cases h : s.e = 0
  · rw [if_pos h]
    by_cases h2 : (l.any fun x => decide (x < 0) || decide ((s.nodes.length : Int) ≤ x)) = true
    · rw [if_pos h2]
    · rw [if_neg h2]
  · rw [if_neg h]
theorem leaf_used {s : St} (hi : Inv tk s) : (Ps.leaf tk s).2.used = s.used + 1 := by
  obtain ⟨t, h1, _⟩ := hi.get
  exact (got_leaf hi.2.2 h1).2.1
end
end Go.Proofs.YtpkhdlnlkeehhaaGreatDoor.Pc
