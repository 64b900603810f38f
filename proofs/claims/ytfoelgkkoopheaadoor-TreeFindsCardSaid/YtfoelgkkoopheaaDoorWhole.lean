/- lex.Whole: the text of tokens; (Tree).Show. -/
import Derived.Test.YtfoelgkkoopheaaDoorWstr
namespace Go.Proofs.YtfoelgkkoopheaaDoor
open Go.RowKit

/-- The text of tokens. -/
def wholeOf (l : List Tr.Tk) : List UInt8 := l.flatMap fun k => k.lead ++ k.text

theorem lt_heap2 {w : World} {k : Nat} {o : Obj} (h : w.heap[k]? = some o) : k < w.heap.size := by
  rcases Nat.lt_or_ge k w.heap.size with h1 | h1
  · exact h1
  · rw [Array.getElem?_eq_none h1] at h; cases h
theorem isBuilder_below {T e : TypeId} {B b : Nat} {bs : List Value} {w w' : World} (h : Lib.IsBuilder T e B b bs w) (hb : Below w.heap.size w w') : Lib.IsBuilder T e B b bs w' := by
  have hA : ∀ p, Lib.BuilderAt T e B b p bs w → Lib.BuilderAt T e B b p bs w' := by
    rintro p ⟨h1, v, h2, h3, h4⟩
    exact ⟨h1, v, by rw [hb.block b (lt_heap2 h2)]; exact h2, ownsRow_below h3 hb, h4⟩
  exact h.imp (hA _) (hA _)
theorem str_add (a b : List UInt8) : (⟨a.toArray⟩ : ByteArray) ++ ⟨b.toArray⟩ = ⟨(a ++ b).toArray⟩ := by
  apply ByteArray.ext
  simp
theorem whole_take {toks : List Tr.Tk} {j : Nat} {kd ps : Int} {ld tx : List UInt8} (h : toks[j]? = some ⟨kd, ld, tx, ps⟩) :
    wholeOf (toks.take (j + 1)) = wholeOf (toks.take j) ++ (ld ++ tx) ∧ (wholeOf (toks.take (j + 1))).length ≤ (wholeOf toks).length := by
  constructor
  · rw [List.take_add_one, h]
    simp [wholeOf]
  · have e : wholeOf toks = wholeOf (toks.take (j + 1)) ++ wholeOf (toks.drop (j + 1)) := by
      unfold wholeOf
      rw [← List.flatMap_append, List.take_append_drop]
    rw [e, List.length_append]
    omega
theorem whole_room {toks : List Tr.Tk} {j : Nat} {ld tx : List UInt8} (h : wholeOf (toks.take (j + 1)) = wholeOf (toks.take j) ++ (ld ++ tx) ∧ (wholeOf (toks.take (j + 1))).length ≤ (wholeOf toks).length) (hl : (wholeOf toks).length ≤ 1073741824) :
    (Lib.byteCells (wholeOf (toks.take j))).length + (⟨(ld ++ tx).toArray⟩ : ByteArray).size ≤ 140737488355328 := by
  have h1 := h.2
  rw [h.1, List.length_append] at h1
  have h2 : (⟨(ld ++ tx).toArray⟩ : ByteArray).size = (ld ++ tx).length := by simp [ByteArray.size]
  rw [Lib.byteCells_length, h2]
  omega

def WhRel (w : World) (toks : List Tr.Tk) (k : Nat) (v8 : Value) (wr : World) : Prop :=
  ∃ j : Nat, v8 = .int .i64 j ∧ k = toks.length - j ∧ j ≤ toks.length ∧ Lib.IsBuilder 83 5 w.heap.size w.heap.size (Lib.byteCells (wholeOf (toks.take j))) wr ∧ Below w.heap.size w wr

set_option maxRecDepth 100000 in
theorem whole_calls {w : World} {P : Nat → Prop} {v : Value} {toks : List Tr.Tk} (h : RdS w P 4 v toks.length (tksCells toks)) (hP : ∀ k, P k → k < w.heap.size) (hn : toks.length ≤ 1073741824) (hb : (wholeOf toks).length ≤ 1073741824) :
    Calls Tryd.prog 33 #[v] w fun e w' => e = .returned (.string ⟨(wholeOf toks).toArray⟩) ∧ Below w.heap.size w w' := by
  have hn' : (toks.length : Int) ≤ 1073741824 := by omega
  obtain ⟨_, a, c, rfl, _, hd⟩ := h
  have HD := Lib.hid (And.intro hd hP)
  have HL := Lib.hid hb
  clear hd hP hb
  go_enter Tryd.func33, Tryd.ntmps33
  go_wp2
  go_loopg [8] toks.length (fun k v8 wr => WhRel w toks k v8 wr)
  case atStart => exact ⟨0, rfl, rfl, Nat.zero_le _, Or.inl ⟨Nat.le_refl _, _, heap_alloc_new _ _, World.ownsRow_nil _ _ _ _, by simp [Value.ownBlock]⟩, (Below.refl _ _).alloc (Nat.le_refl _) _⟩
  case round =>
    obtain ⟨j, rfl, hk, hj, hbu, hbw⟩ := hrel
    have HR := Lib.hid (And.intro hk (And.intro hbu hbw))
    clear hk hbu hbw
    by_cases hlt : j < toks.length
    · have hlt' : (j : Int) < (toks.length : Int) := by omega
      obtain ⟨tk, htk⟩ : ∃ tk, toks[j]? = some tk := ⟨_, List.getElem?_eq_getElem hlt⟩
      obtain ⟨g, o, rfl, hg, hrg⟩ := HD.out.1.resolve_left (fun h => by omega)
      obtain ⟨kd, ld, tx, ps⟩ := tk
      have hrg' : wr.rangeAt g (o + j * 4) [.int .i64 kd, .string ⟨ld.toArray⟩, .string ⟨tx.toArray⟩, .int .i64 ps] := rangeAt_piece (f := tkCells) (s := 4) (fun _ => rfl) (rangeAt_same hrg (HR.out.2.2.block g (HD.out.2 g (hg.resolve_left (by omega))))) htk
      have HG := Lib.hid hrg'
      have HT := Lib.hid htk
      have HBB := Lib.hid (isBuilder_below HR.out.2.1 ((Below.refl wr.heap.size wr).alloc (Nat.le_refl _) (.cells #[.int .i64 kd, .string ⟨ld.toArray⟩, .string ⟨tx.toArray⟩, .int .i64 ps] 34)))
      have HSZ := Lib.hid (whole_take htk)
      have hlt2 : ld.length + tx.length ≤ 1073741824 := by have h1 := HSZ.out.2; rw [HSZ.out.1] at h1; have h2 := HL.out; simp only [List.length_append] at h1; omega
      have hlt3 : (ld.length : Int) + (tx.length : Int) ≤ 1073741824 := by omega
      clear hrg' hrg htk hg
      go_wp2_with (first
        | (refine wpList_load_mid rfl 34 _ rfl g (o + j * 4) rfl _ _ HG.out Tryd.underlying34 rfl rfl ?_)
        | (go_at_call 52; rw [str_add]; refine (wstr_calls w.heap.size w.heap.size _ _ _ HBB.out (whole_room HSZ.out HL.out) (Nat.le_trans HR.out.2.2.size (Nat.le_of_lt (by rw [← size_alloc1]; omega)))).mono ?_; rintro e w3 ⟨rfl, hb3, hw3⟩; have H3 := Lib.hid (And.intro hb3 hw3); clear hb3 hw3))
      go_roundg (toks.length - (j + 1))
      case measure => have := HR.out.1; omega
      case rel =>
        refine ⟨j + 1, by go_num, rfl, by omega, ?_, (HR.out.2.2.alloc HR.out.2.2.size _).trans H3.out.2⟩
        have := H3.out.1
        rw [show Lib.strCells ⟨(ld ++ tx).toArray⟩ = Lib.byteCells (ld ++ tx) from rfl, ← Lib.byteCells_append, ← HSZ.out.1] at this
        exact this
    · obtain rfl : j = toks.length := by omega
      go_wp2_with (go_at_call 39; refine (Tryd.Builder_String_any w.heap.size w.heap.size (wholeOf toks) _ (by have := HR.out.2.1; rwa [List.take_length] at this) HR.out.2.2.size).mono ?_; rintro e w2 ⟨rfl, hb2⟩; have HB2 := Lib.hid hb2; clear hb2)
      go_ret
      exact ⟨rfl, HR.out.2.2.trans HB2.out⟩

theorem show_calls {w : World} {P : Nat → Prop} {vt vn : Value} {toks : List Tr.Tk} (h : RdS w P 4 vt toks.length (tksCells toks)) (hP : ∀ k, P k → k < w.heap.size) (hn : toks.length ≤ 1073741824) (hb : (wholeOf toks).length ≤ 1073741824) :
    Calls Tryd.prog 14 #[.agg #[vt, vn]] w fun e w' => e = .returned (.string ⟨(wholeOf toks).toArray⟩) ∧ Below w.heap.size w w' := by
  have hb1 : Below w.heap.size w (w.alloc (.cells #[vt, vn] 41)) := (Below.refl _ _).alloc (Nat.le_refl _) _
  have HW := Lib.hid (whole_calls (h.keep (Keeps.of hb1 hP)) (fun k hk => Nat.lt_of_lt_of_le (hP k hk) hb1.size) hn hb)
  have HB := Lib.hid hb1
  obtain ⟨a, c, rfl⟩ := h.form
  clear h hP hb1 hb
  go_enter Tryd.func14, Tryd.ntmps14
  go_wp2_with (go_at_call 33; refine HW.out.mono ?_; rintro e w2 ⟨rfl, hb2⟩; have HB2 := Lib.hid hb2; clear hb2)
  go_ret
  exact ⟨rfl, HB.out.trans (HB2.out.mono HB.out.size)⟩
end Go.Proofs.YtfoelgkkoopheaaDoor
