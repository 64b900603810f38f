/- Contracts and plain laws, in one text. From a law's walk to its statement: what holds of every law that returns true and turns nothing that was there. | What the rows of this seat share: the closed facts, the world in which the listed variables are laid. | Layer 5 (lex) as plain functions on lists of bytes. No program in sight. | Layer 6 (tree) as plain functions. No program in sight. | One thing appended to a row of the call's own: the law with its side conditions paid. | A whole row stored at once into a block that was just made. | What is read of memory: slices of rows, in blocks of some kind. | lex: letter, digit, inside, run.  -/
import Derived.Test.YtlejecaanllghaaGreatDoorRows
import Derived.WalkKit
import Derived.ProofKit
import Derived.OpenShut
import Derived.JoinedCond
import Derived.Test.YtlejecaanllghaaGreatDoorCards
import Derived.Test.YtlejecaanllghaaGreatDoorTie
import Derived.Deep.Slices
import Derived.Deep.Fields
import Derived.Deep.Grids
import Derived.ChangeSame
import Derived.Lib.SmallJoins
import Derived.ChangeMaps5
import Derived.Lay
import Derived.LaidLaws
import Derived.MakeChecks
import Derived.SevenTiedAt
import Derived.Test.YtlejecaanllghaaGreatDoorChecked
import Derived.Laws.CopyRow
import Derived.Deep.MidRow
import Derived.WalkSpells
import Derived.Lib.Hide
import Derived.Deep.LoopGhost
import Derived.Shelf.Strings.Builder1
import Derived.Shelf.Strings.Trim
import Derived.Shelf.Strings.SlTrimAscii
import Derived.Shelf.Spec.SearchS
import Derived.Shelf.Small.Utf8
import Derived.Shelf.Small.Strs
import Derived.Shelf.Strings.BuilderF
import Derived.Shelf.Strings.BuilderK
import Derived.Shelf.Strconv.Itoa0
import Derived.Shelf.Strconv.Itoa1
import Derived.Shelf.LaysM
import Derived.Shelf.Strconv.Itoa2
import Derived.Shelf.Strconv.Itoa3
import Derived.Shelf.Strings.Search1
import Derived.Shelf.Strings.Search2
import Derived.Shelf.Strings.Search3
import Derived.Shelf.Strings.Shaped
import Derived.Shelf.Strings.Prefix
import Derived.Shelf.Strings.Runes
import Derived.Shelf.Strings.AsciiSet
import Derived.Shelf.Unicode.DecodeSlow
import Derived.Shelf.Strings.BuilderCap
import Derived.Ground.SlgnProg
import Derived.Shelf.SlicesE.Clone
import Derived.Test.YtlejecaanllghaaGreatDoorProg
/- From a law's walk to its statement: what holds of every law that returns true and turns nothing that was there. -/
namespace Go.Proofs.YtlejecaanllghaaGreatDoor
open Go.ChangeShapes Go.WideShapes Go.ChangeAt Go.RowKit

/-- The arguments read as they did. -/
theorem trodAll_below {H : Type} {enc : TypeId × Value → H} {P : Program} {W W' : World} (hl : laidOutB P = true) (hb : Below W.heap.size W W') :
    ∀ (ts : List TypeId) (vs : List Value) (ds : List (DataW H)) (p : List MemPlace), (ts.all fun t => P.readableRec t && decide (t < P.types.size)) = true →
      DataW.TrodAll enc P W 0 (fun _ => true) true ts vs ds p → (∀ x ∈ p, x.block < W.heap.size) →
      DataW.TrodAll enc P W' 0 (fun b => decide (b < W.heap.size)) true ts vs ds p
  | [], [], [], _, _, h, _ => h
  | t :: ts, v :: vs, d :: ds, ps, hr, h, hlt => by
    obtain ⟨p, q, h1, h2, rfl⟩ := h
    simp only [List.all_cons, Bool.and_eq_true, decide_eq_true_eq] at hr
    exact ⟨p, q, Below.trod hl hr.1.1 hr.1.2 h1 hb (fun x hx => hlt x (List.mem_append_left _ hx)),
      trodAll_below hl hb ts vs ds q hr.2 h2 (fun x hx => hlt x (List.mem_append_right _ hx)), rfl⟩
  | [], [], _ :: _, _, _, h, _ => h.elim
  | [], _ :: _, _, _, _, h, _ => by cases h
  | _ :: _, [], _, _, _, h, _ => by cases h
  | _ :: _, _ :: _, [], _, _, h, _ => by cases h

/-- What 'post' asks of a law. -/
theorem law_post {H : Type} {enc : TypeId × Value → H} {P : Program} {f : Func} {s : ChangeSpec} {W W' : World} {args : Array Value} {ds gs : List (DataW H)} {before : List MemPlace} {tb : TypeId}
    (hl : laidOutB P = true) (hr : (f.params.toList.all fun t => P.readableRec t && decide (t < P.types.size)) = true) (hres : f.resultTypes = #[tb]) (htb : P.underlying tb = some .bool) (hv : s.vars = [])
    (hs : (s.fn H ds).results = [.lit (.bool true)] ∧ (s.fn H ds).args = ds ∧ (s.fn H ds).vars = [])
    (hW : DataW.Whole enc P f.params.toList s.vars false W args.toList ds gs before) (hb : Below W.heap.size W W') :
    s.post enc P f false true false false W args (.bool true) W' := by
  have hW' := hW
  have hlt := hW.lt
  obtain ⟨p, q, hA, hV, rfl, hfz, hnd⟩ := hW
  rw [hv] at hV
  obtain ⟨rfl, rfl⟩ := trodVars_none hV
  refine ⟨ds, [], p ++ [], [], p, [], hW', ?_, ?_, ?_, hb.frame _, fun h => by cases h⟩
  · rw [List.append_nil, hs.1, hres]
    exact trodAll_cons_mk (shut_bool htb _) trodAll_mk0
  · rw [List.append_nil, hs.2.1]
    exact trodAll_below hl hb _ _ _ _ hr hA (fun x hx => hlt x (List.mem_append_left _ hx))
  · rw [List.append_nil, hs.2.2, hv]
    exact rfl

/-- What a law's walk is to give, for arguments as they come in. -/
def LawWalk {H : Type} (enc : TypeId × Value → H) (P : Program) (fid : FuncId) (f : Func) (W : World) (args : Array Value) (ds : List (DataW H)) : Prop :=
  (∀ (base : Nat), (∀ (j : Nat) t v, f.params[j]? = some t → args[j]? = some v → Value.okWide P W .any base t v) → ∀ p : List MemPlace, DataW.TrodAll enc P W 0 (fun _ => true) true f.params.toList args.toList ds p →
    (∀ x ∈ p, x.block < W.heap.size) → Calls P fid args W fun e W' => e = .returned (.bool true) ∧ Below W.heap.size W W')

theorem law_contract {H : Type} {enc : TypeId × Value → H} {P : Program} {fid : FuncId} {f : Func} {s : ChangeSpec} {W : World} {args : Array Value} {ds gs : List (DataW H)} {before : List MemPlace} {tb : TypeId} {base : Nat}
    (hl : laidOutB P = true) (hr : (f.params.toList.all fun t => P.readableRec t && decide (t < P.types.size)) = true) (hres : f.resultTypes = #[tb]) (htb : P.underlying tb = some .bool) (hv : s.vars = [])
    (hs : (s.fn H ds).results = [.lit (.bool true)] ∧ (s.fn H ds).args = ds ∧ (s.fn H ds).vars = [])
    (hval : ∀ (j : Nat) t v, f.params[j]? = some t → args[j]? = some v → Value.okWide P W .any base t v)
    (hW : DataW.Whole enc P f.params.toList s.vars false W args.toList ds gs before) (h : LawWalk enc P fid f W args ds) :
    Calls P fid args W fun e W' => ∃ v, e = .returned v ∧ s.post enc P f false true false false W args v W' := by
  have hlt := hW.lt
  obtain ⟨p, q, hA, hV, hp, _⟩ := id hW
  refine (h base hval p hA (fun x hx => hlt x (by rw [hp]; exact List.mem_append_left _ hx))).mono fun e W' ⟨he, hb⟩ => ?_
  exact ⟨_, he, law_post hl hr hres htb hv hs hW hb⟩
end Go.Proofs.YtlejecaanllghaaGreatDoor
/- What the rows of this seat share: the closed facts, the world in which the listed variables are laid. -/
namespace Go.Proofs.YtlejecaanllghaaGreatDoor
open Go.ChangeShapes Go.WideShapes Go.ChangeAt Go.RowKit Go.Deep

theorem own : ownKnob Tryz.prog.godebug = none := by kernel_rfl
theorem laidOut : laidOutB Tryz.prog = true := by kernel_rfl
/-- What the rows list. -/
def theLaid : List (String × DataW Unit) := Rows.parseLimitsRow.laid
theorem laid_plain (w : World) : laidMetH Tryz.prog theLaid w = laidMet Tryz.prog theLaid w := MakeChecks.laidMetH_plain _ _ _ (by kernel_rfl)
set_option maxRecDepth 100000 in
theorem laid_met (os : Os) (args : Array Value) : laidMet Tryz.prog theLaid ((World.laidAll Tryz.prog os theLaid).forCall (fun _ _ => 0) ⟨#[], args, []⟩).memory := laidMet_laidAll _ (by kernel_rfl) (by kernel_rfl)
end Go.Proofs.YtlejecaanllghaaGreatDoor
/- Layer 5 (lex) as plain functions on lists of bytes. No program in sight. -/
namespace Go.Proofs.YtlejecaanllghaaGreatDoor.Lx

def letter (c : UInt8) : Bool := (97 ≤ c && c ≤ 122) || (65 ≤ c && c ≤ 90)
def digit (c : UInt8) : Bool := 48 ≤ c && c ≤ 57
def inside (c : UInt8) : Bool := letter c || digit c || c == 95
def blank (c : UInt8) : Bool := c == 32 || c == 9 || c == 13 || c == 10

/-- Where a line ends: the feed stays. -/
def line (l : List UInt8) : List UInt8 := l.dropWhile fun c => c != 10

/-- What is left behind what stands ahead of a token (with so much fuel). -/
def rest : Nat → List UInt8 → List UInt8
  | 0, l => l
  | n + 1, l =>
    match l.dropWhile blank with
    | 45 :: 45 :: r => rest n (line r)
    | r => r

theorem dropWhile_len {α : Type} (p : α → Bool) (l : List α) : (l.dropWhile p).length ≤ l.length := by
  induction l with
  | nil => simp
  | cons x l ih =>
    simp only [List.dropWhile_cons]
    split
    · simp only [List.length_cons]; omega
    · simp

theorem takeWhile_len {α : Type} (p : α → Bool) (l : List α) : (l.takeWhile p).length ≤ l.length := by
  induction l with
  | nil => simp
  | cons x l ih =>
    simp only [List.takeWhile_cons]
    split
    · simp only [List.length_cons]; omega
    · simp

theorem rest_len : ∀ (n : Nat) (l : List UInt8), (rest n l).length ≤ l.length
  | 0, _ => Nat.le_refl _
  | n + 1, l => by
    have h1 := dropWhile_len blank l
    unfold rest
    split
    · rename_i r h
      have h2 := rest_len n (line r)
      have h3 := dropWhile_len (fun c : UInt8 => c != 10) r
      rw [h] at h1
      simp only [List.length_cons] at h1
      unfold line at h2
      unfold line
      omega
    · exact h1

/-- So much fuel is enough. -/
theorem rest_fuel : ∀ (n m : Nat) (l : List UInt8), l.length < n → l.length < m → rest n l = rest m l
  | 0, _, _, h, _ => absurd h (by omega)
  | _, 0, _, _, h => absurd h (by omega)
  | n + 1, m + 1, l, h1, h2 => by
    have h := dropWhile_len blank l
    unfold rest
    split
    · rename_i r hr
      have h3 := dropWhile_len (fun c : UInt8 => c != 10) r
      rw [hr] at h
      simp only [List.length_cons] at h
      exact rest_fuel n m (line r) (by unfold line; omega) (by unfold line; omega)
    · rfl

/-- What stands ahead of a token. -/
def between (l : List UInt8) : List UInt8 := l.take (l.length - (rest (l.length + 1) l).length)
/-- All keys, rising. -/
def keyList : List (List UInt8) := [[97, 115, 115, 101, 114, 116], [98, 111, 111, 108], [101, 108, 115, 101], [102, 97, 108, 115, 101], [102, 117, 110], [105, 102], [105, 109, 112, 111, 114, 116], [105, 110], [105, 110, 116], [108, 101, 116], [110, 111, 116], [112, 117, 98], [114, 101, 115], [116, 104, 101, 110], [116, 114, 117, 101]]
/-- All signs, the longer ones first. -/
def signList : List (List UInt8) := [[60, 62], [60, 61], [62, 61], [38, 38], [124, 124], [61, 62], [40], [41], [123], [125], [44], [58], [59], [46], [43], [45], [42], [47], [37], [61], [60], [62]]
def isKey (w : List UInt8) : Bool := keyList.contains w

/-- A word's token, a number's, any: its kind, its text, an error's number. -/
def word (l : List UInt8) : Nat × List UInt8 × Nat :=
  if 40 < (l.takeWhile inside).length then (0, [], 20) else if isKey (l.takeWhile inside) then (2, l.takeWhile inside, 0) else (1, l.takeWhile inside, 0)
def number (l : List UInt8) : Nat × List UInt8 × Nat :=
  if 60 < (l.takeWhile digit).length ∨ (1 < (l.takeWhile digit).length ∧ l.head? = some 48) then (0, [], 21) else (3, l.takeWhile digit, 0)
def token (l : List UInt8) : Nat × List UInt8 × Nat :=
  match l with
  | [] => (5, [], 0)
  | c :: t =>
    if letter c then word (c :: t) else if digit c then number (c :: t) else
    match signList.find? (fun x => x.isPrefixOf (c :: t)) with
    | some x => (4, x, 0)
    | none => (0, [], 20)

/-- A token. -/
structure Tok where
  kind : Nat
  lead : List UInt8
  text : List UInt8
  pos : Nat

/-- The tokens of what is left, from a place on, behind those that were read; an error's number, and its place. -/
def lexGo : Nat → List UInt8 → Nat → List Tok → List Tok × Nat × Nat
  | 0, _, _, _ => ([], 0, 0)
  | n + 1, r, pos, acc =>
    let lead := between r
    let p := pos + lead.length
    let r1 := r.drop lead.length
    let t := token r1
    if t.2.2 ≠ 0 then ([], t.2.2, p) else
    if t.1 = 5 then (acc ++ [⟨t.1, lead, t.2.1, p⟩], 0, 0) else
    lexGo n (r1.drop t.2.1.length) (p + t.2.1.length) (acc ++ [⟨t.1, lead, t.2.1, p⟩])
def lex (l : List UInt8) : List Tok × Nat × Nat := if 65536 < l.length then ([], 11, 0) else lexGo (l.length + 1) l 0 []
end Go.Proofs.YtlejecaanllghaaGreatDoor.Lx
/- Layer 6 (tree) as plain functions. No program in sight. -/
namespace Go.Proofs.YtlejecaanllghaaGreatDoor.Tr

/-- A token, a node, a tree. -/
structure Tk where
  kind : Int
  lead : List UInt8
  text : List UInt8
  pos : Int
structure Nd where
  kind : Int
  tok : Int
  kids : List Int
structure T where
  toks : List Tk
  nodes : List Nd

def root (t : T) : Int := (t.nodes.length : Int) - 1
def formed (t : T) (i : Nat) (n : Nd) : Bool :=
  if n.kind < 1 ∨ 19 < n.kind then false
  else if n.kind = 19 then n.kids.isEmpty && decide (0 ≤ n.tok) && decide (n.tok < (t.toks.length : Int))
  else decide (n.tok = -1) && !(n.kids.any fun k => decide (k < 0) || decide ((i : Int) ≤ k))

/-- The nodes of a kind, from a place on. -/
def allGo (kind : Int) : Nat → List Nd → List Int
  | _, [] => []
  | i, n :: l => if n.kind = kind then (i : Int) :: allGo kind (i + 1) l else allGo kind (i + 1) l
def all (t : T) (kind : Int) : List Int := allGo kind 0 t.nodes
end Go.Proofs.YtlejecaanllghaaGreatDoor.Tr
/- One thing appended to a row of the call's own: the law with its side conditions paid. -/
namespace Go.Proofs.YtlejecaanllghaaGreatDoor
open Go.RowKit

/-- 'append(s, x)': x, of so many cells, has just been laid into a block of its own. -/
theorem wpList_append_one {P : Program} {ops : Array Oper} {rest : List Oper} {o : Oper} {a : Act} {Q : Exit → Act → World → Prop} {w1 : World} (hgd : o.guard = none) (s x : Operand) (t : TypeId)
    (ho : o.op = .call { callee := .builtin .append, args := #[s, x], argTypes := #[t, t] })
    (base : Nat) (e T : TypeId) (i : TypeInfo) (z : Value) (size bytes : Nat) (ht : P.underlying t = some (.slice e)) (hi : P.info? e = some i) (hz : i.zero = some z)
    (hsize : i.size = size) (hby : i.bytes = bytes) (hzs : z.cells.size = size) (hsz : 0 < size)
    (v : Value) (n : Nat) (xs : List Value) (hs : a.eval s = v) (hown : w1.ownsRow base e size v n xs)
    (c : Nat) (news : List Value) (hx : a.eval x = .slice (some ⟨w1.heap.size, 0, none⟩) 1 c) (hl : news.length = size) (h1 : ∀ u ∈ news, u.oneCell' = true)
    (hn : n ≤ 1073741824) (hb : bytes ≤ 4096) (hbase : base ≤ w1.heap.size)
    (h : ∀ v' w', w'.ownsRow base e size v' (n + 1) (xs ++ news) → (w1.alloc (.cells news.toArray T)).grownBy w' v.ownBlock → wpList P ops Q rest (a.put o.dst v') w') :
    wpList P ops Q (o :: rest) a (w1.alloc (.cells news.toArray T)) := by
  refine wpList_append_own _ hgd s x t ho base e i z size bytes ht hi hz hsize hby hzs hsz v n xs hs (hown.alloc _) ⟨w1.heap.size, 0, none⟩ 1 c news hx (by omega) ?_ h1 (by unfold maxLen; omega) ?_ ?_ (fun v' w' h2 h3 _ => h v' w' h2 h3)
  · intro j u hj
    have e : (⟨w1.heap.size, 0, none⟩ : Addr).add j = ⟨w1.heap.size, j, none⟩ := by
      unfold Addr.add
      split <;> simp_all
    rw [e]
    unfold World.cell?
    simp only
    rw [heap_alloc_new]
    simpa using hj
  · calc (n + 1) * bytes ≤ 1073741825 * 4096 := Nat.mul_le_mul (by omega) hb
      _ ≤ 140737488355328 := by decide
  · simp only [World.size_alloc]; omega
theorem cell_set_ne {w : World} {b o b' o' : Nat} {v : Value} (h : b ≠ b' ∨ o ≠ o') : (w.setCell ⟨b, o, none⟩ v).cell? ⟨b', o', none⟩ = w.cell? ⟨b', o', none⟩ :=
  World.cell?_setCell_other (w := w) (a := ⟨b, o, none⟩) (b := ⟨b', o', none⟩) (v := v) (h := fun e => by simp only [Addr.mk.injEq] at e; omega)
theorem cell_set_eq {w : World} {b o : Nat} {u v : Value} (h : w.cell? ⟨b, o, none⟩ = some u) : (w.setCell ⟨b, o, none⟩ v).cell? ⟨b, o, none⟩ = some v :=
  World.cell?_setCell_same (w := w) (a := ⟨b, o, none⟩) (v := v) (h := h)
end Go.Proofs.YtlejecaanllghaaGreatDoor
/- A whole row stored at once into a block that was just made. -/
namespace Go.Proofs.YtlejecaanllghaaGreatDoor
open Go.RowKit

theorem setRow_new (w : World) (zs vs : Array Value) (T : TypeId) : (w.alloc (.cells zs T)).setRow w.heap.size vs = w.alloc (.cells vs T) := by
  simp only [World.setRow, World.alloc]
  congr 1
  apply Array.ext_getElem?
  intro i
  simp only [Array.getElem?_modify, Array.getElem?_push]
  by_cases h : w.heap.size = i
  · subst h; simp
  · simp [h, Ne.symm h]

theorem wpList_store_new {P : Program} {ops : Array Oper} {rest : List Oper} {o : Oper} {a : Act} {Q : Exit → Act → World → Prop} {w1 : World} (hgd : o.guard = none) (ty : TypeId) (x v : Operand) (ho : o.op = .store ty x v)
    (T : TypeId) (zs vs : Array Value) (hx : a.eval x = .pointer (some ⟨w1.heap.size, 0, none⟩)) (hv : a.eval v = .agg vs) (hz : zs.size = vs.size) (hi : (P.info? ty).map (·.size) = some vs.size) (h1 : ∀ u ∈ vs.toList, u.oneCell' = true)
    (h : wpList P ops Q rest (a.put o.dst undef) (w1.alloc (.cells vs T))) : wpList P ops Q (o :: rest) a (w1.alloc (.cells zs T)) := by
  refine wpList_plain hgd fun K hK => ?_
  have hst := run_storeCells_at (P := P) w1.heap.size 0 T vs.toList 0 zs (w1.alloc (.cells zs T)) (heap_alloc_new _ _) (by simp; omega) h1
  have e : (zs.toList.take (0 + 0) ++ vs.toList ++ zs.toList.drop (0 + 0 + vs.toList.length)).toArray = vs := by
    have hd : zs.toList.drop (0 + 0 + vs.toList.length) = [] := List.drop_eq_nil_of_le (by simp; omega)
    rw [hd]
    simp
  rw [e, setRow_new] at hst
  cases hq : P.info? ty with
  | none => simp [hq] at hi
  | some i =>
    have hs : i.size = vs.size := by simpa [hq] using hi
    unfold Oper.wp execOp
    simp only [ho, hx, hv, Instr.storeAt, Instr.sureAddr, Sem.run_bind, Sem.run_pure, Result.andThen_ok, storeVar, sizeOf, typeInfo, Value.cells]
    simp [hq, hs, hst]
    exact hK _ _ h

/-- The same where the place is written otherwise. -/
theorem wpList_store_new2 {P : Program} {ops : Array Oper} {rest : List Oper} {o : Oper} {a : Act} {Q : Exit → Act → World → Prop} {w1 : World} (hgd : o.guard = none) (ty : TypeId) (x v : Operand) (ho : o.op = .store ty x v)
    (T : TypeId) (r : Nat) (zs vs : Array Value) (hx : a.eval x = .pointer (some ⟨r, 0, none⟩)) (hr : r = w1.heap.size) (hv : a.eval v = .agg vs) (hz : zs.size = vs.size) (hi : (P.info? ty).map (·.size) = some vs.size) (h1 : ∀ u ∈ vs.toList, u.oneCell' = true)
    (h : wpList P ops Q rest (a.put o.dst undef) (w1.alloc (.cells vs T))) : wpList P ops Q (o :: rest) a (w1.alloc (.cells zs T)) :=
  wpList_store_new hgd ty x v ho T zs vs (hr ▸ hx) hv hz hi h1 h
theorem size_alloc1 (w : World) (o : Obj) : w.heap.size + 1 = (w.alloc o).heap.size := (Array.size_push (xs := w.heap) o).symm

/-- Two results: a plain one, and a row of its own. -/
theorem results_tmp_row {P : Program} {fn : Func} {u p : Tmp} {ty : TypeId} (h : fn.results = #[.tmp u, .cell p ty]) (tmps : Array Value) (w : World) (g : Nat) (t : TypeId) (cs : Array Value) (fr : Nat × Nat) (d : TypeDesc)
    (hp : tmps.getD p undef = .pointer (some ⟨g, 0, none⟩)) (hg : w.heap[g]? = some (.cells cs t fr))
    (hu : P.underlying ty = some d) (hd : (match d with | .struct _ | .array _ _ => true | _ => false) = true) (hi : (P.info? ty).map (·.size) = some cs.size) :
    (results fn tmps).run P w = .ok (.tuple #[tmps.getD u undef, .agg cs]) w := by
  have hp' : tmps[p]?.getD undef = .pointer (some ⟨g, 0, none⟩) := by simpa using hp
  simp [results, h, hp', asAddr, run_loadVar_row w g t ty cs fr d hg hu hd hi]

/-- A whole row stored at once into a block that is there. -/
theorem wpList_store_row {P : Program} {ops : Array Oper} {rest : List Oper} {o : Oper} {a : Act} {Q : Exit → Act → World → Prop} {w1 : World} (hgd : o.guard = none) (ty : TypeId) (x v : Operand) (ho : o.op = .store ty x v)
    (T : TypeId) (g : Nat) (zs vs : Array Value) (hx : a.eval x = .pointer (some ⟨g, 0, none⟩)) (hg : w1.heap[g]? = some (.cells zs T (0, 0))) (hv : a.eval v = .agg vs) (hz : zs.size = vs.size) (hi : (P.info? ty).map (·.size) = some vs.size) (h1 : ∀ u ∈ vs.toList, u.oneCell' = true)
    (h : wpList P ops Q rest (a.put o.dst undef) (w1.setRow g vs)) : wpList P ops Q (o :: rest) a w1 := by
  refine wpList_plain hgd fun K hK => ?_
  have hst := run_storeCells_at (P := P) g 0 T vs.toList 0 zs w1 hg (by simp; omega) h1
  have e : (zs.toList.take (0 + 0) ++ vs.toList ++ zs.toList.drop (0 + 0 + vs.toList.length)).toArray = vs := by
    have hd : zs.toList.drop (0 + 0 + vs.toList.length) = [] := List.drop_eq_nil_of_le (by simp; omega)
    rw [hd]
    simp
  rw [e] at hst
  cases hq : P.info? ty with
  | none => simp [hq] at hi
  | some i =>
    have hs : i.size = vs.size := by simpa [hq] using hi
    unfold Oper.wp execOp
    simp only [ho, hx, hv, Instr.storeAt, Instr.sureAddr, Sem.run_bind, Sem.run_pure, Result.andThen_ok, storeVar, sizeOf, typeInfo, Value.cells]
    simp [hq, hs, hst]
    exact hK _ _ h
theorem setRow_at {w : World} {g : Nat} {zs vs : Array Value} {T : TypeId} (hg : w.heap[g]? = some (.cells zs T (0, 0))) : (w.setRow g vs).heap[g]? = some (.cells vs T (0, 0)) := setRow_heap w g zs vs T (0, 0) hg
theorem setRow_ne {w : World} {g k : Nat} {vs : Array Value} (h : k ≠ g) : (w.setRow g vs).heap[k]? = w.heap[k]? := by
  simp only [World.setRow, Array.getElem?_modify]
  rw [if_neg (by omega)]
theorem below_setRow {B : Nat} {a w : World} (h : Below B a w) {g : Nat} (hg : B ≤ g) (vs : Array Value) : Below B a (w.setRow g vs) :=
  h.trans ⟨rfl, rfl, rfl, by simp [World.setRow], fun k hk => setRow_ne (by omega)⟩
theorem ownsRow_setRow {w : World} {base : Nat} {e : TypeId} {size : Nat} {v : Value} {n : Nat} {xs : List Value} (h : w.ownsRow base e size v n xs) {g : Nat} (ha : g < base) (vs : Array Value) : (w.setRow g vs).ownsRow base e size v n xs := by
  obtain ⟨h1, h2⟩ := h
  refine ⟨h1, ?_⟩
  rcases h2 with h2 | ⟨k, cap, cur, hv, hg, hh, r⟩
  · exact Or.inl h2
  · exact Or.inr ⟨k, cap, cur, hv, hg, by rw [setRow_ne (by omega)]; exact hh, r⟩
/-- What is owned from a place on stays so while only what lies from a higher place on is written, and none of it. -/
theorem ownsRow_below {w w' : World} {base : Nat} {e : TypeId} {size : Nat} {v : Value} {n : Nat} {xs : List Value} (h : w.ownsRow base e size v n xs) (hb : Below w.heap.size w w') : w'.ownsRow base e size v n xs := by
  obtain ⟨h1, h2⟩ := h
  refine ⟨h1, ?_⟩
  rcases h2 with h2 | ⟨k, cap, cur, hv, hg, hh, r⟩
  · exact Or.inl h2
  · have hlt : k < w.heap.size := by
      rcases Nat.lt_or_ge k w.heap.size with h | h
      · exact h
      · rw [Array.getElem?_eq_none h] at hh; cases hh
    exact Or.inr ⟨k, cap, cur, hv, hg, by rw [hb.block k hlt]; exact hh, r⟩
theorem ownsRow_low {w : World} {base base' : Nat} {e : TypeId} {size : Nat} {v : Value} {n : Nat} {xs : List Value} (h : w.ownsRow base e size v n xs) (hb : base' ≤ base) : w.ownsRow base' e size v n xs := by
  obtain ⟨h1, h2⟩ := h
  refine ⟨h1, ?_⟩
  rcases h2 with h2 | ⟨k, cap, cur, hv, hg, r⟩
  · exact Or.inl h2
  · exact Or.inr ⟨k, cap, cur, hv, Nat.le_trans hb hg, r⟩
/-- 'append(s, x)' of one, where the place of x is written otherwise. -/
theorem wpList_append_one2 {P : Program} {ops : Array Oper} {rest : List Oper} {o : Oper} {a : Act} {Q : Exit → Act → World → Prop} {w1 : World} (hgd : o.guard = none) (s x : Operand) (t : TypeId)
    (ho : o.op = .call { callee := .builtin .append, args := #[s, x], argTypes := #[t, t] })
    (base : Nat) (e T : TypeId) (i : TypeInfo) (z : Value) (size bytes : Nat) (ht : P.underlying t = some (.slice e)) (hi : P.info? e = some i) (hz : i.zero = some z)
    (hsize : i.size = size) (hby : i.bytes = bytes) (hzs : z.cells.size = size) (hsz : 0 < size)
    (v : Value) (n : Nat) (xs : List Value) (hs : a.eval s = v) (hown : w1.ownsRow base e size v n xs)
    (r c : Nat) (news : List Value) (hx : a.eval x = .slice (some ⟨r, 0, none⟩) 1 c) (hr : r = w1.heap.size) (hl : news.length = size) (h1 : ∀ u ∈ news, u.oneCell' = true)
    (hn : n ≤ 1073741824) (hb : bytes ≤ 4096) (hbase : base ≤ w1.heap.size)
    (h : ∀ v' w', w'.ownsRow base e size v' (n + 1) (xs ++ news) → (w1.alloc (.cells news.toArray T)).grownBy w' v.ownBlock → wpList P ops Q rest (a.put o.dst v') w') :
    wpList P ops Q (o :: rest) a (w1.alloc (.cells news.toArray T)) :=
  wpList_append_one hgd s x t ho base e T i z size bytes ht hi hz hsize hby hzs hsz v n xs hs hown c news (hr ▸ hx) hl h1 hn hb hbase h
end Go.Proofs.YtlejecaanllghaaGreatDoor
/- What is read of memory: slices of rows, in blocks of some kind. -/
namespace Go.Proofs.YtlejecaanllghaaGreatDoor
open Go.RowKit

/-- v is a slice of n elements of so many cells; these are xs; they lie in a block that P names. -/
def RdS (w : World) (P : Nat → Prop) (size : Nat) (v : Value) (n : Nat) (xs : List Value) : Prop :=
  xs.length = n * size ∧ ∃ a c, v = .slice a n c ∧ n ≤ c ∧ ((a = none ∧ n = 0) ∨ ∃ b off, a = some ⟨b, off, none⟩ ∧ (n = 0 ∨ P b) ∧ w.rangeAt b off xs)

/-- All blocks that P names stand as they stood. -/
def Keeps (P : Nat → Prop) (w w' : World) : Prop := ∀ k, P k → w'.heap[k]? = w.heap[k]?
theorem Keeps.refl (P : Nat → Prop) (w : World) : Keeps P w w := fun _ _ => rfl
theorem Keeps.trans {P : Nat → Prop} {a b c : World} (h : Keeps P a b) (k : Keeps P b c) : Keeps P a c := fun i hi => (k i hi).trans (h i hi)
theorem Keeps.imp {P Q : Nat → Prop} {a b : World} (h : Keeps P a b) (k : ∀ i, Q i → P i) : Keeps Q a b := fun i hi => h i (k i hi)
theorem Keeps.of {B : Nat} {a b : World} (h : Below B a b) {P : Nat → Prop} (k : ∀ i, P i → i < B) : Keeps P a b := fun i hi => h.block i (k i hi)

theorem rangeAt_same {w w' : World} {b off : Nat} {xs : List Value} (h : w.rangeAt b off xs) (hb : w'.heap[b]? = w.heap[b]?) : w'.rangeAt b off xs := by
  intro j v hj
  have h2 := h j v hj
  rw [← h2]
  exact World.cell?_of_block (a := ⟨b, off + j, none⟩) hb
theorem rangeAt_nil (w : World) (b off : Nat) : w.rangeAt b off [] := fun j v hj => by simp at hj
theorem RdS.keep {w w' : World} {P : Nat → Prop} {size : Nat} {v : Value} {n : Nat} {xs : List Value} (h : RdS w P size v n xs) (hb : Keeps P w w') : RdS w' P size v n xs := by
  obtain ⟨h1, a, c, h2, hc, h3⟩ := h
  refine ⟨h1, a, c, h2, hc, ?_⟩
  rcases h3 with h3 | ⟨b, off, h4, h5, h6⟩
  · exact Or.inl h3
  · refine Or.inr ⟨b, off, h4, h5, ?_⟩
    rcases h5 with h5 | h5
    · have : xs = [] := List.eq_nil_of_length_eq_zero (by rw [h1, h5]; simp)
      rw [this]
      exact rangeAt_nil _ _ _
    · exact rangeAt_same h6 (hb b h5)
theorem RdS.imp {w : World} {P Q : Nat → Prop} {size : Nat} {v : Value} {n : Nat} {xs : List Value} (h : RdS w P size v n xs) (hb : ∀ k, P k → Q k) : RdS w Q size v n xs := by
  obtain ⟨h1, a, c, h2, hc, h3⟩ := h
  refine ⟨h1, a, c, h2, hc, ?_⟩
  rcases h3 with h3 | ⟨b, off, h4, h5, h6⟩
  · exact Or.inl h3
  · exact Or.inr ⟨b, off, h4, h5.imp_right (hb b), h6⟩
theorem RdS.nil (w : World) (P : Nat → Prop) (size : Nat) : RdS w P size (.slice none 0 0) 0 [] := ⟨by simp, none, 0, rfl, Nat.le_refl _, Or.inl ⟨rfl, rfl⟩⟩
theorem RdS.form {w : World} {P : Nat → Prop} {size : Nat} {v : Value} {n : Nat} {xs : List Value} (h : RdS w P size v n xs) : ∃ a c, v = .slice a n c := by
  obtain ⟨h1, a, c, h2, _⟩ := h
  exact ⟨a, c, h2⟩
theorem RdS.one {w : World} {P : Nat → Prop} {size : Nat} {v : Value} {n : Nat} {xs : List Value} (h : RdS w P size v n xs) : v.oneCell' = true := by
  obtain ⟨a, c, rfl⟩ := h.form
  rfl

/-- The same, where of a slice of none nothing is said of its place. -/
def RdW (w : World) (P : Nat → Prop) (size : Nat) (v : Value) (n : Nat) (xs : List Value) : Prop :=
  xs.length = n * size ∧ ∃ a c, v = .slice a n c ∧ n ≤ c ∧ ((n = 0 ∧ n = 0) ∨ ∃ b off, a = some ⟨b, off, none⟩ ∧ (n = 0 ∨ P b) ∧ w.rangeAt b off xs)
theorem RdS.weak {w : World} {P : Nat → Prop} {size : Nat} {v : Value} {n : Nat} {xs : List Value} (h : RdS w P size v n xs) : RdW w P size v n xs := by
  obtain ⟨h1, a, c, h2, hc, h3⟩ := h
  exact ⟨h1, a, c, h2, hc, h3.imp_left fun h => ⟨h.2, h.2⟩⟩
theorem RdW.keep {w w' : World} {P : Nat → Prop} {size : Nat} {v : Value} {n : Nat} {xs : List Value} (h : RdW w P size v n xs) (hb : Keeps P w w') : RdW w' P size v n xs := by
  obtain ⟨h1, a, c, h2, hc, h3⟩ := h
  refine ⟨h1, a, c, h2, hc, ?_⟩
  rcases h3 with h3 | ⟨b, off, h4, h5, h6⟩
  · exact Or.inl h3
  · refine Or.inr ⟨b, off, h4, h5, ?_⟩
    rcases h5 with h5 | h5
    · have : xs = [] := List.eq_nil_of_length_eq_zero (by rw [h1, h5]; simp)
      rw [this]
      exact rangeAt_nil _ _ _
    · exact rangeAt_same h6 (hb b h5)
theorem RdW.imp {w : World} {P Q : Nat → Prop} {size : Nat} {v : Value} {n : Nat} {xs : List Value} (h : RdW w P size v n xs) (hb : ∀ k, P k → Q k) : RdW w Q size v n xs := by
  obtain ⟨h1, a, c, h2, hc, h3⟩ := h
  refine ⟨h1, a, c, h2, hc, ?_⟩
  rcases h3 with h3 | ⟨b, off, h4, h5, h6⟩
  · exact Or.inl h3
  · exact Or.inr ⟨b, off, h4, h5.imp_right (hb b), h6⟩
theorem RdW.form {w : World} {P : Nat → Prop} {size : Nat} {v : Value} {n : Nat} {xs : List Value} (h : RdW w P size v n xs) : ∃ a c, v = .slice a n c := by
  obtain ⟨h1, a, c, h2, _⟩ := h
  exact ⟨a, c, h2⟩

/-- What the call owns is read. -/
theorem RdS.own {w : World} {base : Nat} {e : TypeId} {size : Nat} {v : Value} {n : Nat} {xs : List Value} (h : w.ownsRow base e size v n xs) : RdS w (fun k => v.ownBlock = some k ∧ base ≤ k ∧ k < w.heap.size) size v n xs := by
  have hlt := h.lt
  obtain ⟨h1, h2⟩ := h
  refine ⟨h1, ?_⟩
  rcases h2 with ⟨rfl, rfl⟩ | ⟨g, cap, cur, rfl, hg, hh, hn, hm, hs, ht⟩
  · exact ⟨none, 0, rfl, Nat.le_refl _, Or.inl ⟨rfl, rfl⟩⟩
  · refine ⟨_, cap, rfl, hn, Or.inr ⟨g, 0, rfl, Or.inr ⟨rfl, hlt g rfl⟩, ?_⟩⟩
    intro j u hj
    rw [← ht, List.getElem?_take] at hj
    split at hj
    · simp only [World.cell?, hh, Nat.zero_add]
      simpa using hj
    · cases hj

/-- A piece of a range. -/
theorem rangeAt_piece {w : World} {b off s : Nat} {α : Type} {f : α → List Value} (hf : ∀ x, (f x).length = s) : ∀ {l : List α} {i : Nat} {x : α}, w.rangeAt b off (l.flatMap f) → l[i]? = some x → w.rangeAt b (off + i * s) (f x)
  | [], _, _, _, h => by simp at h
  | y :: l, 0, x, h, hx => by
    simp only [List.getElem?_cons_zero, Option.some.injEq] at hx
    subst hx
    intro j v hj
    rw [Nat.zero_mul, Nat.add_zero]
    refine h j v ?_
    have hlt : j < (f y).length := by
      rcases Nat.lt_or_ge j (f y).length with h | h
      · exact h
      · rw [List.getElem?_eq_none h] at hj; cases hj
    rw [List.flatMap_cons, List.getElem?_append_left hlt]
    exact hj
  | y :: l, i + 1, x, h, hx => by
    have h2 : w.rangeAt b (off + s) (l.flatMap f) := by
      intro j v hj
      rw [Nat.add_assoc]
      refine h (s + j) v ?_
      rw [List.flatMap_cons, List.getElem?_append_right (by rw [hf]; omega), hf]
      simpa using hj
    have h3 := rangeAt_piece hf h2 (by simpa using hx : l[i]? = some x)
    rw [show off + (i + 1) * s = off + s + i * s from by rw [Nat.add_mul]; omega]
    exact h3
theorem flatMap_len {α : Type} {f : α → List Value} {s : Nat} (hf : ∀ x, (f x).length = s) : ∀ (l : List α), (l.flatMap f).length = l.length * s
  | [] => by simp
  | x :: l => by rw [List.flatMap_cons, List.length_append, hf, flatMap_len hf l, List.length_cons, Nat.add_mul]; omega
end Go.Proofs.YtlejecaanllghaaGreatDoor
/- lex: letter, digit, inside, run. -/
namespace Go.Proofs.YtlejecaanllghaaGreatDoor
open Go.RowKit

theorem letter_calls (c : UInt8) (w : World) : Calls Tryz.prog 175 #[.int .u8 c.toNat] w fun e w' => e = .returned (.bool (Lx.letter c)) ∧ w = w' := by
  have e1 : Lx.letter c = ((decide (97 ≤ (c.toNat : Int)) && decide ((c.toNat : Int) ≤ 122)) || (decide (65 ≤ (c.toNat : Int)) && decide ((c.toNat : Int) ≤ 90))) := by
    unfold Lx.letter
    rw [Bool.eq_iff_iff]; simp [UInt8.le_iff_toNat_le]; omega
  rw [e1]
  have hc := c.toNat_lt
  have hc' : (c.toNat : Int) < 256 := by omega
  have hc0 : (0 : Int) ≤ (c.toNat : Int) := by omega
  clear e1 hc
  generalize (c.toNat : Int) = x at *
  by_cases a : 97 ≤ x <;> by_cases b : x ≤ 122 <;> by_cases d : 65 ≤ x <;> by_cases f : x ≤ 90
  all_goals
    first
    | (exfalso; omega)
    | (go_enter Tryz.func175, Tryz.ntmps175
       go_wp2
       go_ret
       exact ⟨by simp [*], rfl⟩)

theorem digit_calls (c : UInt8) (w : World) : Calls Tryz.prog 177 #[.int .u8 c.toNat] w fun e w' => e = .returned (.bool (Lx.digit c)) ∧ w = w' := by
  have e1 : Lx.digit c = (decide (48 ≤ (c.toNat : Int)) && decide ((c.toNat : Int) ≤ 57)) := by
    unfold Lx.digit
    rw [Bool.eq_iff_iff]; simp [UInt8.le_iff_toNat_le]; omega
  rw [e1]
  have hc := c.toNat_lt
  have hc' : (c.toNat : Int) < 256 := by omega
  have hc0 : (0 : Int) ≤ (c.toNat : Int) := by omega
  clear e1 hc
  generalize (c.toNat : Int) = x at *
  by_cases a : 48 ≤ x <;> by_cases b : x ≤ 57
  all_goals
    first
    | (exfalso; omega)
    | (go_enter Tryz.func177, Tryz.ntmps177
       go_wp2
       go_ret
       exact ⟨by simp [*], rfl⟩)
end Go.Proofs.YtlejecaanllghaaGreatDoor
/- Small facts on texts as lists of bytes. -/
namespace Go.Proofs.YtlejecaanllghaaGreatDoor
open Go.RowKit

/-- A text of a list of bytes. -/
abbrev tx (l : List UInt8) : ByteArray := ⟨l.toArray⟩

theorem tx_extract (l : List UInt8) (a b : Nat) : (⟨l.toArray⟩ : ByteArray).extract a b = ⟨((l.drop a).take (b - a)).toArray⟩ := by
  apply ByteArray.ext
  simp [ByteArray.data_extract]

theorem takeWhile_stop {α : Type} {p : α → Bool} {l : List α} {j : Nat} (hj : j < l.length) (h1 : (l.take j).all p = true) (h2 : p l[j] = false) : l.takeWhile p = l.take j := by
  have e : l = l.take j ++ l[j] :: l.drop (j + 1) := by
    conv => lhs; rw [← List.take_append_drop j l, List.drop_eq_getElem_cons hj]
  conv => lhs; rw [e]
  rw [List.takeWhile_append_of_pos (by simpa using h1)]
  have e2 : (l[j] :: l.drop (j + 1)).takeWhile p = [] := by rw [List.takeWhile_cons, h2]; rfl
  rw [e2, List.append_nil]

theorem takeWhile_whole {α : Type} {p : α → Bool} {l : List α} (h1 : l.all p = true) : l.takeWhile p = l := by
  induction l with
  | nil => rfl
  | cons x l ih =>
    simp only [List.all_cons, Bool.and_eq_true] at h1
    rw [List.takeWhile_cons, if_pos h1.1, ih h1.2]

theorem take_all_succ {α : Type} {p : α → Bool} {l : List α} {j : Nat} (hj : j < l.length) (h1 : (l.take j).all p = true) (h2 : p l[j] = true) : (l.take (j + 1)).all p = true := by
  rw [List.take_succ_eq_append_getElem hj, List.all_append, h1]
  simp [h2]
end Go.Proofs.YtlejecaanllghaaGreatDoor
/- lex: inside, run. -/
namespace Go.Proofs.YtlejecaanllghaaGreatDoor
open Go.RowKit

theorem inside_calls (c : UInt8) (w : World) : Calls Tryz.prog 220 #[.int .u8 c.toNat] w fun e w' => e = .returned (.bool (Lx.inside c)) ∧ w = w' := by
  have h1 := Lib.hid (letter_calls c w)
  have h2 := Lib.hid (digit_calls c w)
  have e1 : Lx.inside c = (Lx.letter c || Lx.digit c || ((c.toNat : Int) == 95)) := by
    unfold Lx.inside
    congr 1
    rw [Bool.eq_iff_iff]; simp [← UInt8.toNat_inj]; omega
  rw [e1]
  clear e1
  cases hl : Lx.letter c
  · rw [hl] at h1
    cases hd : Lx.digit c
    · rw [hd] at h2
      clear hl hd
      go_enter Tryz.func220, Tryz.ntmps220
      go_wp2_with (first
        | (go_at_call 175; refine h1.out.mono ?_; rintro e w' ⟨rfl, rfl⟩)
        | (go_at_call 177; refine h2.out.mono ?_; rintro e w' ⟨rfl, rfl⟩))
      go_ret
      exact ⟨by simp, rfl⟩
    · rw [hd] at h2
      clear hl hd
      go_enter Tryz.func220, Tryz.ntmps220
      go_wp2_with (first
        | (go_at_call 175; refine h1.out.mono ?_; rintro e w' ⟨rfl, rfl⟩)
        | (go_at_call 177; refine h2.out.mono ?_; rintro e w' ⟨rfl, rfl⟩))
      go_ret
      exact ⟨by simp, rfl⟩
  · rw [hl] at h1
    clear hl
    go_enter Tryz.func220, Tryz.ntmps220
    go_wp2_with (go_at_call 175; refine h1.out.mono ?_; rintro e w' ⟨rfl, rfl⟩)
    go_ret
    exact ⟨by simp, rfl⟩

theorem run_inside (l : List UInt8) (hl : l.length ≤ 1073741824) (w : World) :
    Calls Tryz.prog 219 #[.string ⟨l.toArray⟩, .func (.func 220) #[] #[]] w fun e w' => e = .returned (.string ⟨(l.takeWhile Lx.inside).toArray⟩) ∧ w = w' := by
  have hl' : (l.length : Int) ≤ 1073741824 := by omega
  go_enter Tryz.func219, Tryz.ntmps219
  go_wp2_with fail
  go_loopg [5] l.length (fun k i wr => ∃ j : Nat, k = l.length - j ∧ j ≤ l.length ∧ i = .int .i64 j ∧ ((l.take j).all Lx.inside) = true ∧ wr = w)
  case atStart => exact ⟨0, by omega, by omega, rfl, rfl, rfl⟩
  case round =>
    obtain ⟨j, hk, hj, rfl, hall, rfl⟩ := hrel
    have HK := Lib.hid hk
    have HA := Lib.hid hall
    clear hk hall
    by_cases hlt : j < l.length
    · have hlt' : (j : Int) < (l.length : Int) := by omega
      have hget : l[j]? = some l[j] := List.getElem?_eq_getElem hlt
      cases hp : Lx.inside l[j]
      · have hc := inside_calls l[j] wr
        rw [hp] at hc
        have HC := Lib.hid hc
        clear hc
        go_wp2_with (go_at_call 220; refine HC.out.mono ?_; rintro e w' ⟨rfl, rfl⟩)
        go_ret
        exact ⟨by rw [tx_extract, takeWhile_stop hlt HA.out hp]; simp, rfl⟩
      · have hc := inside_calls l[j] wr
        rw [hp] at hc
        have HC := Lib.hid hc
        clear hc
        go_wp2_with (go_at_call 220; refine HC.out.mono ?_; rintro e w' ⟨rfl, rfl⟩)
        go_roundg (l.length - (j + 1))
        case measure => have := HK.out; omega
        case rel => exact ⟨j + 1, rfl, by omega, by go_num, take_all_succ hlt HA.out hp, rfl⟩
    · obtain rfl : j = l.length := by omega
      go_wp2
      go_ret
      have h := HA.out
      rw [List.take_length] at h
      exact ⟨by rw [tx_extract, takeWhile_whole h]; simp, rfl⟩

theorem run_digit (l : List UInt8) (hl : l.length ≤ 1073741824) (w : World) :
    Calls Tryz.prog 219 #[.string ⟨l.toArray⟩, .func (.func 177) #[] #[]] w fun e w' => e = .returned (.string ⟨(l.takeWhile Lx.digit).toArray⟩) ∧ w = w' := by
  have hl' : (l.length : Int) ≤ 1073741824 := by omega
  go_enter Tryz.func219, Tryz.ntmps219
  go_wp2_with fail
  go_loopg [5] l.length (fun k i wr => ∃ j : Nat, k = l.length - j ∧ j ≤ l.length ∧ i = .int .i64 j ∧ ((l.take j).all Lx.digit) = true ∧ wr = w)
  case atStart => exact ⟨0, by omega, by omega, rfl, rfl, rfl⟩
  case round =>
    obtain ⟨j, hk, hj, rfl, hall, rfl⟩ := hrel
    have HK := Lib.hid hk
    have HA := Lib.hid hall
    clear hk hall
    by_cases hlt : j < l.length
    · have hlt' : (j : Int) < (l.length : Int) := by omega
      have hget : l[j]? = some l[j] := List.getElem?_eq_getElem hlt
      cases hp : Lx.digit l[j]
      · have hc := digit_calls l[j] wr
        rw [hp] at hc
        have HC := Lib.hid hc
        clear hc
        go_wp2_with (go_at_call 177; refine HC.out.mono ?_; rintro e w' ⟨rfl, rfl⟩)
        go_ret
        exact ⟨by rw [tx_extract, takeWhile_stop hlt HA.out hp]; simp, rfl⟩
      · have hc := digit_calls l[j] wr
        rw [hp] at hc
        have HC := Lib.hid hc
        clear hc
        go_wp2_with (go_at_call 177; refine HC.out.mono ?_; rintro e w' ⟨rfl, rfl⟩)
        go_roundg (l.length - (j + 1))
        case measure => have := HK.out; omega
        case rel => exact ⟨j + 1, rfl, by omega, by go_num, take_all_succ hlt HA.out hp, rfl⟩
    · obtain rfl : j = l.length := by omega
      go_wp2
      go_ret
      have h := HA.out
      rw [List.take_length] at h
      exact ⟨by rw [tx_extract, takeWhile_whole h]; simp, rfl⟩
end Go.Proofs.YtlejecaanllghaaGreatDoor
/- DERIVED: THE SHELF's CONTRACTS AT THIS DUMP, IN PLAIN WORDS (tools/lay-plain.mjs out of 'TryzShelf.lean', which tools/lay-shelf.mjs wrote): THE SAME DECLARATIONS UNDER THE SAME NAMES: 'import', 'namespace', 'open', 'def', 'theorem' AND NOTHING ELSE: no command of the shelf's: FOR A HAND-IN. Each laying: the table of numbers ('.._ren') and one theorem, a field a fact of the dump's own or the kernel's comparison; each contract: ONE APPLICATION. -/
namespace Go.Proofs
open Go.Shelf
def Tryz.lays169_ren : Go.Shelf.Ren := ⟨fun | 169 => 59 | n => n, fun | 70 => 112 | 9 => 9 | 0 => 0 | 72 => 115 | 37 => 113 | 127 => 185 | 3 => 3 | 5 => 5 | n => n, fun | n => n⟩
theorem Tryz.lays169 : Go.Proofs.Lays.n169 Tryz.prog Tryz.lays169_ren := {
  mixed := by kernel_rfl
  f169 := Tryz.func59.trans (congrArg some (by kernel_rfl))
  t0 := Tryz.underlying0
  a0 := Tryz.isAgg0
  z0 := Tryz.sizeOf0
  v0 := Tryz.zeroValue0
  t3 := Tryz.underlying3
  a3 := Tryz.isAgg3
  z3 := Tryz.sizeOf3
  v3 := Tryz.zeroValue3
  t9 := Tryz.underlying9
  a9 := Tryz.isAgg9
  z9 := Tryz.sizeOf9
  v9 := Tryz.zeroValue9
  t37 := Tryz.underlying113
  a37 := Tryz.isAgg113
  z37 := Tryz.sizeOf113
  v37 := Tryz.zeroValue113
  t70 := Tryz.underlying112
  a70 := Tryz.isAgg112
  z70 := Tryz.sizeOf112
  v70 := Tryz.zeroValue112
  t72 := Tryz.underlying115
  a72 := Tryz.isAgg115
  z72 := Tryz.sizeOf115
  v72 := Tryz.zeroValue115
  t127 := Tryz.underlying185
  a127 := Tryz.isAgg185
  z127 := Tryz.sizeOf185
  v127 := Tryz.zeroValue185 }
theorem Tryz.Builder_Extra_169 : Builder.Extra Tryz.prog Tryz.lays169_ren := {
  sizeBuilder := by kernel_rfl
  liesBuilder := by kernel_rfl
  t5 := Tryz.underlying5
  a5 := Tryz.isAgg5
  z5 := Tryz.sizeOf5
  v5 := Tryz.zeroValue5
  infoByte := by kernel_rfl
  cellsByte := by kernel_rfl
  sizeByte := by kernel_rfl
  neB5 := by decide }
open Go.RowKit in
/-- (*strings.Builder).String: "String returns the accumulated string.": OF A BUILDER THAT HOLDS AT LEAST ONE BYTE. ✋ THE MODEL FREEZES THOSE BYTES IN THE BUFFER (unsafe.String): a later write INTO them ends the model's run without an answer; a later append BEHIND them goes on. The statement's order of evaluation is drawn: one draw. (LAID: no walk: one application.) -/
theorem Tryz.Builder_String (B b : Nat) (l : List UInt8) (w : World) (h : Lib.IsBuilder 115 5 B b (Lib.byteCells l) w) (h0 : l ≠ []) :
    Calls Tryz.prog 59 #[.pointer (some ⟨b, 0, none⟩)] w fun e w' => e = .returned (.string ⟨l.toArray⟩) ∧ Below B w w' := Any.Builder_String Tryz.lays169 Tryz.Builder_Extra_169 B b l w h h0
open Go.RowKit in
/-- (*strings.Builder).String OF A BUILDER THAT HOLDS NO BYTE: the empty string. (Its buffer is nil, or a row of which it has taken nothing yet; where that row has NO capacity the model lays one new block for unsafe.SliceData's 'some address'.) One draw. (LAID: no walk: one application.) -/
theorem Tryz.Builder_String_empty (B b : Nat) (w : World) (h : Lib.IsBuilder 115 5 B b [] w) (hBw : B ≤ w.heap.size) :
    Calls Tryz.prog 59 #[.pointer (some ⟨b, 0, none⟩)] w fun e w' => e = .returned (.string ⟨#[]⟩) ∧ Below B w w' := Any.Builder_String_empty Tryz.lays169 Tryz.Builder_Extra_169 B b w h hBw
open Go.RowKit in
/-- (*strings.Builder).String: "String returns the accumulated string.": WHATEVER THE BUILDER HOLDS. (LAID: no walk: one application.) -/
theorem Tryz.Builder_String_any (B b : Nat) (l : List UInt8) (w : World) (h : Lib.IsBuilder 115 5 B b (Lib.byteCells l) w) (hBw : B ≤ w.heap.size) :
    Calls Tryz.prog 59 #[.pointer (some ⟨b, 0, none⟩)] w fun e w' => e = .returned (.string ⟨l.toArray⟩) ∧ Below B w w' := Any.Builder_String_any Tryz.lays169 Tryz.Builder_Extra_169 B b l w h hBw
def Tryz.lays161_ren : Go.Shelf.Ren := ⟨fun | 161 => 172 | 231 => 151 | 227 => 122 | 233 => 152 | 235 => 153 | 228 => 164 | 197 => 189 | 151 => 166 | 260 => 226 | 152 => 207 | 137 => 237 | 119 => 238 | 224 => 239 | 225 => 240 | 217 => 247 | 266 => 259 | n => n, fun | 9 => 9 | 4 => 4 | 3 => 3 | 5 => 5 | 117 => 197 | 116 => 196 | 0 => 0 | 124 => 200 | 105 => 235 | 21 => 21 | 119 => 297 | 46 => 193 | 139 => 300 | 138 => 299 | n => n, fun | 3 => 1 | 4 => 2 | n => n⟩
theorem Tryz.lays161 : Go.Proofs.Lays.n161 Tryz.prog Tryz.lays161_ren := {
  mixed := by kernel_rfl
  f119 := Tryz.func238.trans (congrArg some (by kernel_rfl))
  f137 := Tryz.func237.trans (congrArg some (by kernel_rfl))
  f151 := Tryz.func166.trans (congrArg some (by kernel_rfl))
  f152 := Tryz.func207.trans (congrArg some (by kernel_rfl))
  f161 := Tryz.func172.trans (congrArg some (by kernel_rfl))
  f197 := Tryz.func189.trans (congrArg some (by kernel_rfl))
  f217 := Tryz.func247.trans (congrArg some (by kernel_rfl))
  f224 := Tryz.func239.trans (congrArg some (by kernel_rfl))
  f225 := Tryz.func240.trans (congrArg some (by kernel_rfl))
  f227 := Tryz.func122.trans (congrArg some (by kernel_rfl))
  f228 := Tryz.func164.trans (congrArg some (by kernel_rfl))
  f231 := Tryz.func151.trans (congrArg some (by kernel_rfl))
  f233 := Tryz.func152.trans (congrArg some (by kernel_rfl))
  f235 := Tryz.func153.trans (congrArg some (by kernel_rfl))
  f260 := Tryz.func226.trans (congrArg some (by kernel_rfl))
  f266 := Tryz.func259.trans (congrArg some (by kernel_rfl))
  t0 := Tryz.underlying0
  a0 := Tryz.isAgg0
  z0 := Tryz.sizeOf0
  v0 := Tryz.zeroValue0
  t3 := Tryz.underlying3
  a3 := Tryz.isAgg3
  z3 := Tryz.sizeOf3
  v3 := Tryz.zeroValue3
  t4 := Tryz.underlying4
  a4 := Tryz.isAgg4
  z4 := Tryz.sizeOf4
  v4 := Tryz.zeroValue4
  t5 := Tryz.underlying5
  a5 := Tryz.isAgg5
  z5 := Tryz.sizeOf5
  v5 := Tryz.zeroValue5
  t9 := Tryz.underlying9
  a9 := Tryz.isAgg9
  z9 := Tryz.sizeOf9
  v9 := Tryz.zeroValue9
  t21 := Tryz.underlying21
  a21 := Tryz.isAgg21
  z21 := Tryz.sizeOf21
  v21 := Tryz.zeroValue21
  t46 := Tryz.underlying193
  a46 := Tryz.isAgg193
  z46 := Tryz.sizeOf193
  v46 := Tryz.zeroValue193
  t105 := Tryz.underlying235
  a105 := Tryz.isAgg235
  z105 := Tryz.sizeOf235
  v105 := Tryz.zeroValue235
  t116 := Tryz.underlying196
  a116 := Tryz.isAgg196
  z116 := Tryz.sizeOf196
  t117 := Tryz.underlying197
  a117 := Tryz.isAgg197
  z117 := Tryz.sizeOf197
  v117 := Tryz.zeroValue197
  t119 := Tryz.underlying297
  a119 := Tryz.isAgg297
  z119 := Tryz.sizeOf297
  t124 := Tryz.underlying200
  a124 := Tryz.isAgg200
  z124 := Tryz.sizeOf200
  v124 := Tryz.zeroValue200
  t138 := Tryz.underlying299
  a138 := Tryz.isAgg299
  z138 := Tryz.sizeOf299
  v138 := Tryz.zeroValue299
  t139 := Tryz.underlying300
  a139 := Tryz.isAgg300
  z139 := Tryz.sizeOf300
  v139 := Tryz.zeroValue300
  g3 := by kernel_rfl
  g4 := by kernel_rfl }
def Tryz.lays171_ren : Go.Shelf.Ren := ⟨fun | 171 => 130 | 243 => 171 | 246 => 217 | 283 => 243 | 284 => 244 | 285 => 245 | 286 => 246 | 129 => 255 | 317 => 254 | 318 => 256 | 319 => 257 | 320 => 258 | 337 => 263 | 338 => 264 | n => n, fun | 3 => 3 | 9 => 9 | 2 => 2 | 4 => 4 | 171 => 291 | 0 => 0 | 53 => 139 | 37 => 113 | 5 => 5 | 173 => 294 | 212 => 302 | 51 => 192 | 20 => 20 | 213 => 303 | 46 => 193 | 232 => 307 | 233 => 308 | n => n, fun | 17 => 3 | 18 => 4 | 19 => 5 | n => n⟩
theorem Tryz.lays171 : Go.Proofs.Lays.n171 Tryz.prog Tryz.lays171_ren := {
  mixed := by kernel_rfl
  f129 := Tryz.func255.trans (congrArg some (by kernel_rfl))
  f171 := Tryz.func130.trans (congrArg some (by kernel_rfl))
  f243 := Tryz.func171.trans (congrArg some (by kernel_rfl))
  f246 := Tryz.func217.trans (congrArg some (by kernel_rfl))
  f283 := Tryz.func243.trans (congrArg some (by kernel_rfl))
  f284 := Tryz.func244.trans (congrArg some (by kernel_rfl))
  f285 := Tryz.func245.trans (congrArg some (by kernel_rfl))
  f286 := Tryz.func246.trans (congrArg some (by kernel_rfl))
  f317 := Tryz.func254.trans (congrArg some (by kernel_rfl))
  f318 := Tryz.func256.trans (congrArg some (by kernel_rfl))
  f319 := Tryz.func257.trans (congrArg some (by kernel_rfl))
  f320 := Tryz.func258.trans (congrArg some (by kernel_rfl))
  f337 := Tryz.func263.trans (congrArg some (by kernel_rfl))
  f338 := Tryz.func264.trans (congrArg some (by kernel_rfl))
  t0 := Tryz.underlying0
  a0 := Tryz.isAgg0
  z0 := Tryz.sizeOf0
  v0 := Tryz.zeroValue0
  t2 := Tryz.underlying2
  a2 := Tryz.isAgg2
  z2 := Tryz.sizeOf2
  v2 := Tryz.zeroValue2
  t3 := Tryz.underlying3
  a3 := Tryz.isAgg3
  z3 := Tryz.sizeOf3
  v3 := Tryz.zeroValue3
  t4 := Tryz.underlying4
  a4 := Tryz.isAgg4
  z4 := Tryz.sizeOf4
  v4 := Tryz.zeroValue4
  t5 := Tryz.underlying5
  a5 := Tryz.isAgg5
  z5 := Tryz.sizeOf5
  v5 := Tryz.zeroValue5
  t9 := Tryz.underlying9
  a9 := Tryz.isAgg9
  z9 := Tryz.sizeOf9
  v9 := Tryz.zeroValue9
  t20 := Tryz.underlying20
  a20 := Tryz.isAgg20
  z20 := Tryz.sizeOf20
  v20 := Tryz.zeroValue20
  t37 := Tryz.underlying113
  a37 := Tryz.isAgg113
  z37 := Tryz.sizeOf113
  v37 := Tryz.zeroValue113
  t46 := Tryz.underlying193
  a46 := Tryz.isAgg193
  z46 := Tryz.sizeOf193
  v46 := Tryz.zeroValue193
  t51 := Tryz.underlying192
  a51 := Tryz.isAgg192
  z51 := Tryz.sizeOf192
  v51 := Tryz.zeroValue192
  t53 := Tryz.underlying139
  a53 := Tryz.isAgg139
  z53 := Tryz.sizeOf139
  v53 := Tryz.zeroValue139
  t171 := Tryz.underlying291
  a171 := Tryz.isAgg291
  z171 := Tryz.sizeOf291
  v171 := Tryz.zeroValue291
  t173 := Tryz.underlying294
  a173 := Tryz.isAgg294
  z173 := Tryz.sizeOf294
  v173 := Tryz.zeroValue294
  t212 := Tryz.underlying302
  a212 := Tryz.isAgg302
  z212 := Tryz.sizeOf302
  v212 := Tryz.zeroValue302
  t213 := Tryz.underlying303
  a213 := Tryz.isAgg303
  z213 := Tryz.sizeOf303
  t232 := Tryz.underlying307
  a232 := Tryz.isAgg307
  z232 := Tryz.sizeOf307
  v232 := Tryz.zeroValue307
  t233 := Tryz.underlying308
  a233 := Tryz.isAgg308
  z233 := Tryz.sizeOf308
  v233 := Tryz.zeroValue308
  g17 := by kernel_rfl
  g18 := by kernel_rfl
  g19 := by kernel_rfl }
open Go.RowKit Go.Sort Go.Lib in
/-- THE ROAD WITHOUT THE TABLE: 0 <= i < 100: NO PREMISE ON THE WORLD, AND THE WORLD IS AS IT WAS: a row that keeps its argument in that range need list no table ('laid = []'). (LAID: no walk: one application.) -/
theorem Tryz.strconv_Itoa_small (i : Nat) (hi : i < 100) (w : World) :
    Calls Tryz.prog 130 #[.int .i64 i] w fun e w' => e = .returned (.string ⟨(Lib.decDigits i).toArray⟩) ∧ w' = w := Any.strconv_Itoa_small Tryz.lays171 i hi w
def Tryz.lays143_ren : Go.Shelf.Ren := ⟨fun | 143 => 174 | 219 => 218 | 217 => 247 | 225 => 240 | 224 => 239 | 267 => 248 | 266 => 259 | 314 => 260 | n => n, fun | 9 => 9 | 3 => 3 | 4 => 4 | 5 => 5 | 46 => 193 | 146 => 264 | 51 => 192 | n => n, fun | 1 => 0 | n => n⟩
theorem Tryz.lays143 : Go.Proofs.Lays.n143 Tryz.prog Tryz.lays143_ren := {
  mixed := by kernel_rfl
  f143 := Tryz.func174.trans (congrArg some (by kernel_rfl))
  f217 := Tryz.func247.trans (congrArg some (by kernel_rfl))
  f219 := Tryz.func218.trans (congrArg some (by kernel_rfl))
  f224 := Tryz.func239.trans (congrArg some (by kernel_rfl))
  f225 := Tryz.func240.trans (congrArg some (by kernel_rfl))
  f266 := Tryz.func259.trans (congrArg some (by kernel_rfl))
  f267 := Tryz.func248.trans (congrArg some (by kernel_rfl))
  f314 := Tryz.func260.trans (congrArg some (by kernel_rfl))
  t3 := Tryz.underlying3
  a3 := Tryz.isAgg3
  z3 := Tryz.sizeOf3
  v3 := Tryz.zeroValue3
  t4 := Tryz.underlying4
  a4 := Tryz.isAgg4
  z4 := Tryz.sizeOf4
  v4 := Tryz.zeroValue4
  t5 := Tryz.underlying5
  a5 := Tryz.isAgg5
  z5 := Tryz.sizeOf5
  v5 := Tryz.zeroValue5
  t9 := Tryz.underlying9
  a9 := Tryz.isAgg9
  z9 := Tryz.sizeOf9
  v9 := Tryz.zeroValue9
  t46 := Tryz.underlying193
  a46 := Tryz.isAgg193
  z46 := Tryz.sizeOf193
  v46 := Tryz.zeroValue193
  t51 := Tryz.underlying192
  a51 := Tryz.isAgg192
  z51 := Tryz.sizeOf192
  v51 := Tryz.zeroValue192
  t146 := Tryz.underlying264
  a146 := Tryz.isAgg264
  z146 := Tryz.sizeOf264
  v146 := Tryz.zeroValue264
  g1 := by kernel_rfl }
open Go.RowKit Go.Lib in
/-- strings.Index: "Index returns the index of the first instance of substr in s, or -1 if substr is not present in s.": AT A substr OF ONE BYTE c: IT RETURNS 'Lib.indexByte s c'; the world is as it was. (LAID: no walk: one application.) -/
theorem Tryz.strings_Index_one (s : ByteArray) (c : UInt8) (w : World) :
    Calls Tryz.prog 174 #[.string s, .string ⟨#[c]⟩] w fun e w' => e = .returned (.int .i64 (Lib.indexByte s.data.toList c)) ∧ w' = w := Any.strings_Index_one Tryz.lays143 s c w
def Tryz.lays99_ren : Go.Shelf.Ren := ⟨fun | 99 => 173 | 206 => 188 | n => n, fun | 9 => 9 | 4 => 4 | 3 => 3 | n => n, fun | n => n⟩
theorem Tryz.lays99 : Go.Proofs.Lays.n99 Tryz.prog Tryz.lays99_ren := {
  mixed := by kernel_rfl
  f99 := Tryz.func173.trans (congrArg some (by kernel_rfl))
  f206 := Tryz.func188.trans (congrArg some (by kernel_rfl))
  t3 := Tryz.underlying3
  a3 := Tryz.isAgg3
  z3 := Tryz.sizeOf3
  v3 := Tryz.zeroValue3
  t4 := Tryz.underlying4
  a4 := Tryz.isAgg4
  z4 := Tryz.sizeOf4
  v4 := Tryz.zeroValue4
  t9 := Tryz.underlying9
  a9 := Tryz.isAgg9
  z9 := Tryz.sizeOf9
  v9 := Tryz.zeroValue9 }
open Go.RowKit Go.Lib in
/-- strings.HasPrefix: "HasPrefix reports whether the string s begins with prefix.": IT RETURNS 'Lib.hasPrefix s prefix'; the world is as it was. (LAID: no walk: one application.) -/
theorem Tryz.strings_HasPrefix (s p : ByteArray) (w : World) :
    Calls Tryz.prog 173 #[.string s, .string p] w fun e w' => e = .returned (.bool (Lib.hasPrefix s.data.toList p.data.toList)) ∧ w' = w := Any.strings_HasPrefix Tryz.lays99 s p w
open Go.RowKit in
/-- strings.TrimLeft at the four blanks. -/
theorem Tryz.TrimLeft_blank (s : ByteArray) (w : World) :
    Calls Tryz.prog 172 #[.string s, .string ⟨#[32, 9, 13, 10]⟩] w fun e w' => e = .returned (.string ⟨(Lib.trimLeftS s.data.toList [32, 9, 13, 10]).toArray⟩) ∧ Below w.heap.size w w' := Any.strings_TrimLeft_laid Tryz.lays161 (by kernel_rfl) s ⟨#[32, 9, 13, 10]⟩ w (by decide) (ascii_of_all (by decide))
def Tryz.laysBS26_ren : Go.Shelf.Ren := ⟨fun | 26 => 222 | 33 => 249 | 34 => 250 | 38 => 160 | n => n, fun | 24 => 54 | 9 => 9 | 3 => 3 | 4 => 4 | 40 => 193 | 0 => 0 | n => n, fun | n => n⟩
theorem Tryz.laysBS26 : Go.Proofs.Lays2.n26 Tryz.prog Tryz.laysBS26_ren := {
  mixed := by kernel_rfl
  f26 := Tryz.func222.trans (congrArg some (by kernel_rfl))
  f33 := Tryz.func249.trans (congrArg some (by kernel_rfl))
  f34 := Tryz.func250.trans (congrArg some (by kernel_rfl))
  f38 := Tryz.func160.trans (congrArg some (by kernel_rfl))
  t0 := Tryz.underlying0
  a0 := Tryz.isAgg0
  z0 := Tryz.sizeOf0
  v0 := Tryz.zeroValue0
  t3 := Tryz.underlying3
  a3 := Tryz.isAgg3
  z3 := Tryz.sizeOf3
  v3 := Tryz.zeroValue3
  t4 := Tryz.underlying4
  a4 := Tryz.isAgg4
  z4 := Tryz.sizeOf4
  v4 := Tryz.zeroValue4
  t9 := Tryz.underlying9
  a9 := Tryz.isAgg9
  z9 := Tryz.sizeOf9
  v9 := Tryz.zeroValue9
  t24 := Tryz.underlying54
  a24 := Tryz.isAgg54
  z24 := Tryz.sizeOf54
  v24 := Tryz.zeroValue54
  t40 := Tryz.underlying193
  a40 := Tryz.isAgg193
  z40 := Tryz.sizeOf193
  v40 := Tryz.zeroValue193 }
open Go.RowKit in
/-- slices.BinarySearch at []string: as Go's text goes. -/
theorem Tryz.BinarySearch_string (b off n c : Nat) (Sx : Nat → ByteArray) (x : ByteArray) (w : World) (hbig : n < 4611686018427387904) (hc : ∀ j, j < n → w.cell? ⟨b, off + j, none⟩ = some (.string (Sx j))) :
    Calls Tryz.prog 222 #[.slice (some ⟨b, off, none⟩) n c, .string x] w fun e w' =>
      e = .returned (.tuple #[.int .i64 (Lib.bsGo (fun t => Op.bytesLess (Sx t).toList x.toList) n 0 n : Nat), .bool (decide (Lib.bsGo (fun t => Op.bytesLess (Sx t).toList x.toList) n 0 n < n ∧ Sx (Lib.bsGo (fun t => Op.bytesLess (Sx t).toList x.toList) n 0 n) = x))]) ∧ ∃ q, w' = w.drewN q := Any2.slices_BinarySearch_string Tryz.laysBS26 b off n c Sx x w hbig hc
end Go.Proofs
/- lex: what stands ahead of a token. -/
namespace Go.Proofs.YtlejecaanllghaaGreatDoor
open Go.RowKit

theorem trim_calls (r : List UInt8) (w : World) :
    Calls Tryz.prog 172 #[.string ⟨r.toArray⟩, .string ⟨#[32, 9, 13, 10]⟩] w fun e w' => e = .returned (.string ⟨(r.dropWhile Lx.blank).toArray⟩) ∧ Below w.heap.size w w' := by
  have h := Tryz.TrimLeft_blank ⟨r.toArray⟩ w
  have e1 : Lib.trimLeftS (⟨r.toArray⟩ : ByteArray).data.toList [32, 9, 13, 10] = r.dropWhile Lx.blank := by
    unfold Lib.trimLeftS
    congr 1
    funext c
    rw [Bool.eq_iff_iff]
    simp [Lx.blank, or_assoc]
  rw [e1] at h
  exact h
theorem pre2_calls (r p : List UInt8) (w : World) :
    Calls Tryz.prog 173 #[.string ⟨r.toArray⟩, .string ⟨p.toArray⟩] w fun e w' => e = .returned (.bool (p.isPrefixOf r)) ∧ w = w' :=
  (Tryz.strings_HasPrefix ⟨r.toArray⟩ ⟨p.toArray⟩ w).mono fun _ _ ⟨h1, h2⟩ => ⟨by simpa [Lib.hasPrefix] using h1, h2.symm⟩
theorem feed_calls (r : List UInt8) (w : World) :
    Calls Tryz.prog 174 #[.string ⟨r.toArray⟩, .string ⟨#[10]⟩] w fun e w' => e = .returned (.int .i64 (Lib.indexByte r 10)) ∧ w = w' :=
  (Tryz.strings_Index_one ⟨r.toArray⟩ 10 w).mono fun _ _ ⟨h1, h2⟩ => ⟨by simpa using h1, h2.symm⟩

theorem line_none {r : List UInt8} (h : Lib.indexByte r 10 = -1) : Lx.line r = [] := by
  have h2 := Lib.indexByte_none h
  unfold Lx.line
  have : ∀ (r : List UInt8), (∀ k : Nat, r[k]? ≠ some 10) → r.dropWhile (fun c => c != 10) = [] := by
    intro r
    induction r with
    | nil => intro _; rfl
    | cons x r ih =>
      intro h
      have h0 := h 0
      simp only [List.getElem?_cons_zero, ne_eq, Option.some.injEq] at h0
      rw [List.dropWhile_cons, if_pos (by simpa using h0)]
      exact ih fun k => by have := h (k + 1); simpa using this
  exact this r h2
theorem line_some {r : List UInt8} {o : Nat} (h : Lib.indexByte r 10 = o) : Lx.line r = r.drop o ∧ o < r.length := by
  obtain ⟨h1, h2⟩ := Lib.indexByte_some h
  have : ∀ (r : List UInt8) (o : Nat), r[o]? = some 10 → (∀ k, k < o → r[k]? ≠ some 10) → r.dropWhile (fun c => c != 10) = r.drop o ∧ o < r.length := by
    intro r
    induction r with
    | nil => intro o h _; simp at h
    | cons x r ih =>
      intro o h1 h2
      cases o with
      | zero =>
        simp only [List.getElem?_cons_zero, Option.some.injEq] at h1
        subst h1
        exact ⟨by rw [List.dropWhile_cons, if_neg (by simp)]; rfl, by simp⟩
      | succ o =>
        have h0 := h2 0 (by omega)
        simp only [List.getElem?_cons_zero, ne_eq, Option.some.injEq] at h0
        rw [List.dropWhile_cons, if_pos (by simpa using h0)]
        have h3 := ih o (by simpa using h1) (fun k hk => by have := h2 (k + 1) (by omega); simpa using this)
        exact ⟨by simpa using h3.1, by simp; omega⟩
  exact this r o h1 h2

theorem pre_dash {r : List UInt8} : ([45, 45] : List UInt8).isPrefixOf r = true ↔ ∃ t, r = 45 :: 45 :: t := by
  constructor
  · intro h
    obtain ⟨t, rfl⟩ := List.isPrefixOf_iff_prefix.1 h
    exact ⟨t, rfl⟩
  · rintro ⟨t, rfl⟩
    simp [List.isPrefixOf]

/-- One step of what is left. -/
theorem rest_dash {r t : List UInt8} {n : Nat} (h : r.dropWhile Lx.blank = 45 :: 45 :: t) : Lx.rest (n + 1) r = Lx.rest n (Lx.line t) := by
  conv => lhs; unfold Lx.rest
  rw [h]
  rfl
theorem rest_else {r : List UInt8} {n : Nat} (h : ([45, 45] : List UInt8).isPrefixOf (r.dropWhile Lx.blank) = false) : Lx.rest (n + 1) r = r.dropWhile Lx.blank := by
  unfold Lx.rest
  split
  · rename_i t ht
    rw [ht] at h
    simp [List.isPrefixOf] at h
  · rfl

def BtRel (l : List UInt8) (w : World) (k : Nat) (v : Value) (wr : World) : Prop :=
  ∃ r : List UInt8, v = .string ⟨r.toArray⟩ ∧ k = r.length ∧ r.length ≤ l.length ∧ Lx.rest (r.length + 1) r = Lx.rest (l.length + 1) l ∧ Below w.heap.size w wr

theorem line_dash (t : List UInt8) : Lx.line (45 :: 45 :: t) = Lx.line t := by
  unfold Lx.line
  rw [List.dropWhile_cons, if_pos (by decide), List.dropWhile_cons, if_pos (by decide)]
theorem rest_nil (n : Nat) : Lx.rest n [] = [] := by cases n <;> rfl

set_option maxHeartbeats 1000000 in
theorem between_calls (l : List UInt8) (hl : l.length ≤ 1073741824) (w : World) :
    Calls Tryz.prog 131 #[.string ⟨l.toArray⟩] w fun e w' => e = .returned (.string ⟨(Lx.between l).toArray⟩) ∧ Below w.heap.size w w' := by
  have hl' : (l.length : Int) ≤ 1073741824 := by omega
  go_enter Tryz.func131, Tryz.ntmps131
  go_wp2_with fail
  go_loopg [3] l.length (fun k v wr => BtRel l w k v wr)
  case atStart => exact ⟨l, rfl, rfl, Nat.le_refl _, rfl, Below.refl _ _⟩
  case round =>
    obtain ⟨r, rfl, hk, hr, hrest, hb⟩ := hrel
    have hlen := Lx.dropWhile_len Lx.blank r
    have HX := Lib.hid (And.intro hk (And.intro hrest hb))
    clear hk hrest hb
    generalize hd : r.dropWhile Lx.blank = d at hlen
    have HT := Lib.hid (hd ▸ trim_calls r wr)
    have HD := Lib.hid hd
    clear hd
    have hlen' : (d.length : Int) ≤ (l.length : Int) := by omega
    cases hp : ([45, 45] : List UInt8).isPrefixOf d
    · have HP := Lib.hid hp
      clear hp
      have HC := fun w => Lib.hid (HP.out ▸ pre2_calls d [45, 45] w)
      go_wp2_with (first
        | (go_at_call 172; refine HT.out.mono ?_; rintro e w1 ⟨rfl, hb1⟩; have HB1 := Lib.hid hb1; clear hb1)
        | (go_at_call 173; refine (HC _).out.mono ?_; rintro e w2 ⟨rfl, rfl⟩))
      go_ret
      obtain ⟨_, hrest, hb⟩ := HX.out
      refine ⟨?_, hb.trans (HB1.out.mono hb.size)⟩
      have e1 : Lx.rest (l.length + 1) l = d := by rw [← hrest, rest_else (by rw [HD.out]; exact HP.out), HD.out]
      rw [tx_extract]
      simp [Lx.between, e1]
    · have hp' := hp
      obtain ⟨t, rfl⟩ := pre_dash.1 hp
      have HP := Lib.hid hp'
      clear hp hp'
      have HC := fun w => Lib.hid (HP.out ▸ pre2_calls (45 :: 45 :: t) [45, 45] w)
      have hge := Lib.indexByte_ge (45 :: 45 :: t) 10
      have HF := fun w => Lib.hid (feed_calls (45 :: 45 :: t) w)
      have HN := Lib.hid (show Lib.indexByte (45 :: 45 :: t) 10 = -1 → Lx.line t = [] from fun h => by rw [← line_dash]; exact line_none h)
      have HS := Lib.hid (show ∀ o : Nat, Lib.indexByte (45 :: 45 :: t) 10 = o → Lx.line t = (45 :: 45 :: t).drop o ∧ o < (45 :: 45 :: t).length ∧ 0 < o from fun o h => by
        obtain ⟨h1, h2⟩ := line_some h
        refine ⟨by rw [← line_dash]; exact h1, h2, ?_⟩
        rcases Nat.eq_zero_or_pos o with h0 | h0
        · subst h0
          obtain ⟨h3, _⟩ := Lib.indexByte_some h
          simp at h3
        · exact h0)
      generalize hdt : 45 :: 45 :: t = d at *
      have HDT := Lib.hid hdt
      clear hdt
      generalize Lib.indexByte d 10 = o at *
      by_cases ho : o < 0
      · obtain rfl : o = -1 := by omega
        go_wp2_with (first
          | (go_at_call 172; refine HT.out.mono ?_; rintro e w1 ⟨rfl, hb1⟩; have HB1 := Lib.hid hb1; clear hb1)
          | (go_at_call 173; refine (HC _).out.mono ?_; rintro e w2 ⟨rfl, rfl⟩)
          | (go_at_call 174; refine (HF _).out.mono ?_; rintro e w2 ⟨rfl, rfl⟩))
        go_ret
        obtain ⟨_, hrest, hb⟩ := HX.out
        refine ⟨?_, hb.trans (HB1.out.mono hb.size)⟩
        have e1 : Lx.rest (l.length + 1) l = [] := by
          rw [← hrest, rest_dash (r := r) (t := t) (by rw [HD.out]; exact HDT.out.symm), HN.out (by first | trivial | rfl), rest_nil]
        simp [Lx.between, e1]
      · obtain ⟨n, rfl⟩ := Int.eq_ofNat_of_zero_le (show 0 ≤ o by omega)
        obtain ⟨hs1, hs2, hs3⟩ := HS.out n rfl
        have hs2' : (n : Int) < (d.length : Int) := by omega
        have HL := Lib.hid hs1
        clear hs1
        go_wp2_with (first
          | (go_at_call 172; refine HT.out.mono ?_; rintro e w1 ⟨rfl, hb1⟩; have HB1 := Lib.hid hb1; clear hb1)
          | (go_at_call 173; refine (HC _).out.mono ?_; rintro e w2 ⟨rfl, rfl⟩)
          | (go_at_call 174; refine (HF _).out.mono ?_; rintro e w2 ⟨rfl, rfl⟩))
        go_roundg (d.length - n)
        case measure => have := HX.out.1; omega
        case rel =>
          obtain ⟨_, hrest, hb⟩ := HX.out
          refine ⟨d.drop n, by rw [tx_extract, List.take_of_length_le (by simp)], by simp, by simp; omega, ?_, hb.trans (HB1.out.mono hb.size)⟩
          rw [← hrest, rest_dash (r := r) (t := t) (by rw [HD.out]; exact HDT.out.symm), HL.out]
          exact Lx.rest_fuel _ _ _ (by omega) (by simp; omega)
end Go.Proofs.YtlejecaanllghaaGreatDoor
/- lex: the keys and the signs as they stand in memory. -/
namespace Go.Proofs.YtlejecaanllghaaGreatDoor
open Go.RowKit

def keysA : Array Value := #[.string ⟨#[97, 115, 115, 101, 114, 116]⟩, .string ⟨#[98, 111, 111, 108]⟩, .string ⟨#[101, 108, 115, 101]⟩, .string ⟨#[102, 97, 108, 115, 101]⟩, .string ⟨#[102, 117, 110]⟩, .string ⟨#[105, 102]⟩, .string ⟨#[105, 109, 112, 111, 114, 116]⟩, .string ⟨#[105, 110]⟩, .string ⟨#[105, 110, 116]⟩, .string ⟨#[108, 101, 116]⟩, .string ⟨#[110, 111, 116]⟩, .string ⟨#[112, 117, 98]⟩, .string ⟨#[114, 101, 115]⟩, .string ⟨#[116, 104, 101, 110]⟩, .string ⟨#[116, 114, 117, 101]⟩]
def keysZ : Array Value := #[.string ⟨#[]⟩, .string ⟨#[]⟩, .string ⟨#[]⟩, .string ⟨#[]⟩, .string ⟨#[]⟩, .string ⟨#[]⟩, .string ⟨#[]⟩, .string ⟨#[]⟩, .string ⟨#[]⟩, .string ⟨#[]⟩, .string ⟨#[]⟩, .string ⟨#[]⟩, .string ⟨#[]⟩, .string ⟨#[]⟩, .string ⟨#[]⟩]
theorem keysSize : (Tryz.prog.info? 278).map (·.size) = some keysA.size := by kernel_rfl
theorem keys_build (w : World) : (Instr.build 278 #[(0, .string ⟨#[97, 115, 115, 101, 114, 116]⟩), (1, .string ⟨#[98, 111, 111, 108]⟩), (2, .string ⟨#[101, 108, 115, 101]⟩), (3, .string ⟨#[102, 97, 108, 115, 101]⟩), (4, .string ⟨#[102, 117, 110]⟩), (5, .string ⟨#[105, 102]⟩), (6, .string ⟨#[105, 109, 112, 111, 114, 116]⟩), (7, .string ⟨#[105, 110]⟩), (8, .string ⟨#[105, 110, 116]⟩), (9, .string ⟨#[108, 101, 116]⟩), (10, .string ⟨#[110, 111, 116]⟩), (11, .string ⟨#[112, 117, 98]⟩), (12, .string ⟨#[114, 101, 115]⟩), (13, .string ⟨#[116, 104, 101, 110]⟩), (14, .string ⟨#[116, 114, 117, 101]⟩)]).run Tryz.prog w = .ok (.agg keysA) w := by kernel_rfl
theorem keys_alloc (w : World) : (Instr.alloc 278 true (.tuple #[])).run Tryz.prog w = .ok (.pointer (some ⟨w.heap.size, 0, none⟩)) (w.alloc (.cells keysZ 278)) := by kernel_rfl
theorem keysZsize : keysZ.size = keysA.size := by kernel_rfl
theorem keys_one : ∀ u ∈ keysA.toList, u.oneCell' = true := by
  have h : keysA.toList.all (fun u => u.oneCell') = true := by rfl
  intro u hu
  exact List.all_eq_true.1 h u hu
set_option maxRecDepth 100000 in
theorem keys_calls (w : World) : Calls Tryz.prog 221 #[] w fun e w' => e = .returned (.agg keysA) ∧ w.alloc (.cells keysA 278) = w' := by
  have hb := keys_build
  have ha := keys_alloc
  go_enter Tryz.func221, Tryz.ntmps221
  go_wp2_with (refine wpList_store_new rfl 278 _ _ rfl 278 keysZ keysA rfl rfl keysZsize keysSize keys_one ?_)
  exact bodyPost_ret (v := _) (results_cell_row rfl _ _ w.heap.size _ _ _ _ rfl (heap_alloc_new _ _) Tryz.underlying278 rfl keysSize) rfl ⟨rfl, rfl⟩

def signsA : Array Value := #[.string ⟨#[60, 62]⟩, .string ⟨#[60, 61]⟩, .string ⟨#[62, 61]⟩, .string ⟨#[38, 38]⟩, .string ⟨#[124, 124]⟩, .string ⟨#[61, 62]⟩, .string ⟨#[40]⟩, .string ⟨#[41]⟩, .string ⟨#[123]⟩, .string ⟨#[125]⟩, .string ⟨#[44]⟩, .string ⟨#[58]⟩, .string ⟨#[59]⟩, .string ⟨#[46]⟩, .string ⟨#[43]⟩, .string ⟨#[45]⟩, .string ⟨#[42]⟩, .string ⟨#[47]⟩, .string ⟨#[37]⟩, .string ⟨#[61]⟩, .string ⟨#[60]⟩, .string ⟨#[62]⟩]
def signsZ : Array Value := #[.string ⟨#[]⟩, .string ⟨#[]⟩, .string ⟨#[]⟩, .string ⟨#[]⟩, .string ⟨#[]⟩, .string ⟨#[]⟩, .string ⟨#[]⟩, .string ⟨#[]⟩, .string ⟨#[]⟩, .string ⟨#[]⟩, .string ⟨#[]⟩, .string ⟨#[]⟩, .string ⟨#[]⟩, .string ⟨#[]⟩, .string ⟨#[]⟩, .string ⟨#[]⟩, .string ⟨#[]⟩, .string ⟨#[]⟩, .string ⟨#[]⟩, .string ⟨#[]⟩, .string ⟨#[]⟩, .string ⟨#[]⟩]
theorem signsSize : (Tryz.prog.info? 243).map (·.size) = some signsA.size := by kernel_rfl
theorem signs_build (w : World) : (Instr.build 243 #[(0, .string ⟨#[60, 62]⟩), (1, .string ⟨#[60, 61]⟩), (2, .string ⟨#[62, 61]⟩), (3, .string ⟨#[38, 38]⟩), (4, .string ⟨#[124, 124]⟩), (5, .string ⟨#[61, 62]⟩), (6, .string ⟨#[40]⟩), (7, .string ⟨#[41]⟩), (8, .string ⟨#[123]⟩), (9, .string ⟨#[125]⟩), (10, .string ⟨#[44]⟩), (11, .string ⟨#[58]⟩), (12, .string ⟨#[59]⟩), (13, .string ⟨#[46]⟩), (14, .string ⟨#[43]⟩), (15, .string ⟨#[45]⟩), (16, .string ⟨#[42]⟩), (17, .string ⟨#[47]⟩), (18, .string ⟨#[37]⟩), (19, .string ⟨#[61]⟩), (20, .string ⟨#[60]⟩), (21, .string ⟨#[62]⟩)]).run Tryz.prog w = .ok (.agg signsA) w := by kernel_rfl
theorem signs_alloc (w : World) : (Instr.alloc 243 true (.tuple #[])).run Tryz.prog w = .ok (.pointer (some ⟨w.heap.size, 0, none⟩)) (w.alloc (.cells signsZ 243)) := by kernel_rfl
theorem signsZsize : signsZ.size = signsA.size := by kernel_rfl
theorem signs_one : ∀ u ∈ signsA.toList, u.oneCell' = true := by
  have h : signsA.toList.all (fun u => u.oneCell') = true := by rfl
  intro u hu
  exact List.all_eq_true.1 h u hu
set_option maxRecDepth 100000 in
theorem signs_calls (w : World) : Calls Tryz.prog 179 #[] w fun e w' => e = .returned (.agg signsA) ∧ w.alloc (.cells signsA 243) = w' := by
  have hb := signs_build
  have ha := signs_alloc
  go_enter Tryz.func179, Tryz.ntmps179
  go_wp2_with (refine wpList_store_new rfl 243 _ _ rfl 243 signsZ signsA rfl rfl signsZsize signsSize signs_one ?_)
  exact bodyPost_ret (v := _) (results_cell_row rfl _ _ w.heap.size _ _ _ _ rfl (heap_alloc_new _ _) Tryz.underlying243 rfl signsSize) rfl ⟨rfl, rfl⟩
end Go.Proofs.YtlejecaanllghaaGreatDoor
/- lex: a word's token, a number's. -/
namespace Go.Proofs.YtlejecaanllghaaGreatDoor
open Go.RowKit

/-- A key's place is found, and a word that is none is not. -/
theorem key_found (x : List UInt8) :
    (decide (Lib.bsGo (fun t => Op.bytesLess (⟨(Lx.keyList.getD t []).toArray⟩ : ByteArray).toList (⟨x.toArray⟩ : ByteArray).toList) 15 0 15 < 15 ∧
      (⟨(Lx.keyList.getD (Lib.bsGo (fun t => Op.bytesLess (⟨(Lx.keyList.getD t []).toArray⟩ : ByteArray).toList (⟨x.toArray⟩ : ByteArray).toList) 15 0 15) []).toArray⟩ : ByteArray) = ⟨x.toArray⟩)) = Lx.isKey x := by
  cases h : Lx.isKey x
  · generalize Lib.bsGo _ 15 0 15 = I
    apply decide_eq_false
    rintro ⟨h1, h2⟩
    have h3 : Lx.keyList.getD I [] = x := by simpa using h2
    have h4 : I < Lx.keyList.length := h1
    have h5 : x ∈ Lx.keyList := by
      rw [← h3]
      simp [List.getD, List.getElem?_eq_getElem h4]
    have h6 : Lx.isKey x = true := by simpa [Lx.isKey] using h5
    rw [h] at h6
    exact absurd h6 (by simp)
  · have h5 : x ∈ Lx.keyList := by simpa [Lx.isKey] using h
    have h6 : ∀ x ∈ Lx.keyList, (decide (Lib.bsGo (fun t => Op.bytesLess (⟨(Lx.keyList.getD t []).toArray⟩ : ByteArray).toList (⟨x.toArray⟩ : ByteArray).toList) 15 0 15 < 15 ∧
      (Lx.keyList.getD (Lib.bsGo (fun t => Op.bytesLess (⟨(Lx.keyList.getD t []).toArray⟩ : ByteArray).toList (⟨x.toArray⟩ : ByteArray).toList) 15 0 15) []) = x)) = true := by
      have hl : ∀ x : List UInt8, (⟨x.toArray⟩ : ByteArray).toList = x := fun x => by rw [Lib.toList_data]
      simp only [hl]
      decide
    have h7 := of_decide_eq_true (h6 x h5)
    apply decide_eq_true
    exact ⟨h7.1, by rw [h7.2]⟩

theorem keys_cell (w : World) (j : Nat) (hj : j < 15) : (w.alloc (.cells keysA 278)).cell? ⟨w.heap.size, 0 + j, none⟩ = some (.string ⟨(Lx.keyList.getD j []).toArray⟩) := by
  have h : ∀ j, j < 15 → keysA[0 + j]? = some (.string ⟨(Lx.keyList.getD j []).toArray⟩) := by
    intro j hj
    match j, hj with
    | 0, _ | 1, _ | 2, _ | 3, _ | 4, _ | 5, _ | 6, _ | 7, _ | 8, _ | 9, _ | 10, _ | 11, _ | 12, _ | 13, _ | 14, _ => rfl
    | n + 15, h => omega
  have h2 := heap_alloc_new w (.cells keysA 278)
  unfold World.cell?
  simp only [h2, h j hj]
  rfl

set_option maxRecDepth 100000 in
theorem word_calls (l : List UInt8) (hl : l.length ≤ 1073741824) (w : World) :
    Calls Tryz.prog 176 #[.string ⟨l.toArray⟩] w fun e w' => e = .returned (.tuple #[.int .i64 (Lx.word l).1, .string ⟨(Lx.word l).2.1.toArray⟩, .int .i64 (Lx.word l).2.2]) ∧ Below w.heap.size w w' := by
  have HR := fun w => Lib.hid (run_inside l hl w)
  obtain ⟨v, hv⟩ : ∃ v, l.takeWhile Lx.inside = v := ⟨_, rfl⟩
  have HW := Lib.hid (show Lx.word l = if 40 < v.length then (0, [], 20) else if Lx.isKey v then (2, v, 0) else (1, v, 0) from by rw [← hv]; rfl)
  rw [hv] at HR
  have hvl : (v.length : Int) ≤ 1073741824 := by
    have := Lx.takeWhile_len Lx.inside l
    rw [hv] at this
    omega
  have ha := keys_alloc
  by_cases hlt : 40 < v.length
  · have hlt' : 40 < (v.length : Int) := by omega
    go_enter Tryz.func176, Tryz.ntmps176
    go_wp2_with (go_at_call 219; refine (HR _).out.mono ?_; rintro e w1 ⟨rfl, rfl⟩)
    go_ret3
    exact ⟨by rw [HW.out, if_pos hlt]; rfl, Below.refl _ _⟩
  · have hlt' : ¬ 40 < (v.length : Int) := by omega
    cases hk : Lx.isKey v
    all_goals
      have HK := Lib.hid hk
      clear hk
      go_enter Tryz.func176, Tryz.ntmps176
      go_wp2_with (first
        | (go_at_call 219; refine (HR _).out.mono ?_; rintro e w1 ⟨rfl, rfl⟩)
        | (go_at_call 221; refine (keys_calls _).mono ?_; rintro e w2 ⟨rfl, rfl⟩)
        | (refine wpList_store_new2 rfl 278 _ _ rfl 278 _ keysZ keysA rfl (size_alloc1 _ _) rfl keysZsize keysSize keys_one ?_)
        | (go_at_call 222; refine (Tryz.BinarySearch_string _ 0 15 15 (fun t => ⟨(Lx.keyList.getD t []).toArray⟩) ⟨v.toArray⟩ _ (by decide) (by rw [size_alloc1 _ (.cells keysA 278)]; exact keys_cell _)).mono ?_; rintro e w2 ⟨rfl, q, rfl⟩; rw [key_found, HK.out]))
      go_ret3
      exact ⟨by rw [HW.out, if_neg hlt, HK.out]; rfl, by
        have h1 : Below w.heap.size w (w.alloc (.cells keysA 278)) := (Below.refl _ _).alloc (Nat.le_refl _) _
        exact (h1.alloc h1.size (.cells keysA 278)).trans ⟨rfl, rfl, rfl, Nat.le_refl _, fun _ _ => rfl⟩⟩

theorem number_eq (l : List UInt8) : Lx.number l = if 60 < (l.takeWhile Lx.digit).length ∨ (1 < (l.takeWhile Lx.digit).length ∧ (l.takeWhile Lx.digit).head? = some 48) then (0, [], 21) else (3, l.takeWhile Lx.digit, 0) := by
  unfold Lx.number
  cases l with
  | nil => rfl
  | cons c t =>
    rw [List.takeWhile_cons]
    cases Lx.digit c <;> simp
theorem number_calls (l : List UInt8) (hl : l.length ≤ 1073741824) (w : World) :
    Calls Tryz.prog 178 #[.string ⟨l.toArray⟩] w fun e w' => e = .returned (.tuple #[.int .i64 (Lx.number l).1, .string ⟨(Lx.number l).2.1.toArray⟩, .int .i64 (Lx.number l).2.2]) ∧ w = w' := by
  have HR := fun w => Lib.hid (run_digit l hl w)
  obtain ⟨v, hv⟩ : ∃ v, l.takeWhile Lx.digit = v := ⟨_, rfl⟩
  have HW := Lib.hid (show Lx.number l = if 60 < v.length ∨ (1 < v.length ∧ v.head? = some 48) then (0, [], 21) else (3, v, 0) from by rw [← hv]; exact number_eq l)
  rw [hv] at HR
  have hvl : (v.length : Int) ≤ 1073741824 := by
    have := Lx.takeWhile_len Lx.digit l
    rw [hv] at this
    omega
  clear hv
  by_cases hlt : 60 < v.length
  · have hlt' : 60 < (v.length : Int) := by omega
    go_enter Tryz.func178, Tryz.ntmps178
    go_wp2_with (go_at_call 219; refine (HR _).out.mono ?_; rintro e w1 ⟨rfl, rfl⟩)
    go_ret3
    exact ⟨by rw [HW.out, if_pos (Or.inl hlt)]; rfl, rfl⟩
  · have hlt' : ¬ 60 < (v.length : Int) := by omega
    by_cases h1 : 1 < v.length
    · have h0 : 0 < v.length := by omega
      have h1' : 1 < (v.length : Int) := by omega
      have h0' : 0 < (v.length : Int) := by omega
      have hget : v[0]? = some (v[0]'h0) := List.getElem?_eq_getElem h0
      have HH := Lib.hid (show v.head? = some (v[0]'h0) from by rw [List.head?_eq_getElem?]; exact hget)
      clear hget
      go_enter Tryz.func178, Tryz.ntmps178
      go_wp2_with (go_at_call 219; refine (HR _).out.mono ?_; rintro e w1 ⟨rfl, rfl⟩)
      · rename_i hx
        have hx' : v[0]'h0 = 48 := by
          rcases hx with h | h
          · exact absurd h (by omega)
          · have h2 : (((v[0]'h0).toNat : Int) == 48) = true := h
            exact UInt8.toNat_inj.1 (Int.ofNat.inj (by simpa using h2))
        go_ret3
        exact ⟨by rw [HW.out, if_pos (Or.inr ⟨h1, by rw [HH.out, hx']⟩)]; rfl, rfl⟩
      · rename_i hx
        have hx' : v[0]'h0 ≠ 48 := by
          intro h3
          have h2 : (((v[0]'h0).toNat : Int) == 48) = false := hx.2
          rw [h3] at h2
          exact absurd h2 (by decide)
        go_ret3
        exact ⟨by rw [HW.out, if_neg (by rw [HH.out]; simp [hx']; omega)]; rfl, rfl⟩
    · have h1' : ¬ 1 < (v.length : Int) := by omega
      go_enter Tryz.func178, Tryz.ntmps178
      go_wp2_with (go_at_call 219; refine (HR _).out.mono ?_; rintro e w1 ⟨rfl, rfl⟩)
      go_ret3
      exact ⟨by rw [HW.out, if_neg (by omega)]; rfl, rfl⟩
end Go.Proofs.YtlejecaanllghaaGreatDoor
/- lex: the token with which a text begins. -/
namespace Go.Proofs.YtlejecaanllghaaGreatDoor
open Go.RowKit

theorem signs_at (w : World) : ∀ j : Nat, j < 22 → (Instr.index 243 (.agg signsA) (.int .i64 j)).run Tryz.prog w = .ok (.string ⟨(Lx.signList.getD j []).toArray⟩) w := by
  intro j hj
  match j, hj with
  | 0, _ | 1, _ | 2, _ | 3, _ | 4, _ | 5, _ | 6, _ | 7, _ | 8, _ | 9, _ | 10, _ | 11, _ | 12, _ | 13, _ | 14, _ | 15, _ | 16, _ | 17, _ | 18, _ | 19, _ | 20, _ | 21, _ => refine Eq.trans ?_ rfl; kernel_rfl
  | n + 22, h => omega

/-- The signs from a place on. -/
theorem signs_drop {j : Nat} (hj : j < 22) : Lx.signList.drop j = Lx.signList.getD j [] :: Lx.signList.drop (j + 1) := by
  match j, hj with
  | 0, _ | 1, _ | 2, _ | 3, _ | 4, _ | 5, _ | 6, _ | 7, _ | 8, _ | 9, _ | 10, _ | 11, _ | 12, _ | 13, _ | 14, _ | 15, _ | 16, _ | 17, _ | 18, _ | 19, _ | 20, _ | 21, _ => rfl
  | n + 22, h => omega

theorem signs_some : ∃ S : Array Value, S.size = 22 ∧ (∀ (w : World) (j : Nat), j < 22 → (Instr.index 243 (.agg S) (.int .i64 j)).run Tryz.prog w = .ok (.string ⟨(Lx.signList.getD j []).toArray⟩) w) ∧ ∀ w, Calls Tryz.prog 179 #[] w fun e w' => e = .returned (.agg S) ∧ w.alloc (.cells S 243) = w' :=
  ⟨signsA, rfl, signs_at, signs_calls⟩

def TokSays (l : List UInt8) (e : Ending) : Prop := e = .returned (.tuple #[.int .i64 (Lx.token l).1, .string ⟨(Lx.token l).2.1.toArray⟩, .int .i64 (Lx.token l).2.2])

set_option maxRecDepth 100000 in
theorem token_calls (l : List UInt8) (hl : l.length ≤ 1073741824) (w : World) :
    Calls Tryz.prog 132 #[.string ⟨l.toArray⟩] w fun e w' => TokSays l e ∧ Below w.heap.size w w' := by
  obtain ⟨S, hsz, hsa, hsc⟩ := signs_some
  have HSA := Lib.hid hsa
  have HSC := fun w => Lib.hid (hsc w)
  clear hsa hsc
  cases hc0 : l with
  | nil =>
    go_enter Tryz.func132, Tryz.ntmps132
    go_wp2
    go_ret3
    exact ⟨rfl, Below.refl _ _⟩
  | cons c t =>
    rw [← hc0]
    have hlen : 0 < l.length := by rw [hc0]; simp
    have hlen' : 0 < (l.length : Int) := by omega
    have hget : l[0]'hlen = c := by simp [hc0]
    have hne : l.isEmpty = false := by rw [hc0]; rfl
    have HE := Lib.hid (show Lx.token l = if Lx.letter c then Lx.word l else if Lx.digit c then Lx.number l else match Lx.signList.find? (fun x => x.isPrefixOf l) with | some x => (4, x, 0) | none => (0, [], 20) from by rw [hc0]; rfl)
    clear hc0
    have HL := fun w => Lib.hid (letter_calls (l[0]'hlen) w)
    have HD := fun w => Lib.hid (digit_calls (l[0]'hlen) w)
    rw [← hget] at HE
    cases hlet : Lx.letter (l[0]'hlen)
    · rw [hlet] at HL HE
      clear hlet
      simp only [Bool.false_eq_true, if_false] at HE
      cases hdig : Lx.digit (l[0]'hlen)
      · rw [hdig] at HD HE
        clear hdig
        simp only [Bool.false_eq_true, if_false] at HE
        go_enter Tryz.func132, Tryz.ntmps132
        go_wp2_with (first
          | (go_at_call 175; refine (HL _).out.mono ?_; rintro e w1 ⟨rfl, rfl⟩)
          | (go_at_call 177; refine (HD _).out.mono ?_; rintro e w1 ⟨rfl, rfl⟩)
          | (go_at_call 179; refine (HSC _).out.mono ?_; rintro e w2 ⟨rfl, rfl⟩))
        go_loopg [29, 6] 22 (fun k i _ wr => ∃ j : Nat, k = 22 - j ∧ j ≤ 22 ∧ i = .int .i64 j ∧ (Lx.signList.find? (fun x => x.isPrefixOf l) = (Lx.signList.drop j).find? (fun x => x.isPrefixOf l)) ∧ Below w.heap.size w wr)
        case atStart => exact ⟨0, by omega, by omega, rfl, rfl, (Below.refl _ _).alloc (Nat.le_refl _) _⟩
        case round =>
          obtain ⟨j, hk, hj, rfl, hf, hb⟩ := hrel
          have HK := Lib.hid hk
          have HF := Lib.hid hf
          have HB := Lib.hid hb
          clear hk hf hb
          by_cases hlt : j < 22
          · have hlt' : (j : Int) < 22 := by omega
            have hs := fun w => (HSA.out w j hlt)
            have HS := Lib.hid (signs_drop hlt)
            generalize Lx.signList.getD j [] = x at *
            cases hp : x.isPrefixOf l
            · have HP := fun w => Lib.hid (hp ▸ pre2_calls l x w)
              have HN := Lib.hid hp
              clear hp
              go_wp2_with (go_at_call 173; refine (HP _).out.mono ?_; rintro e w2 ⟨rfl, rfl⟩)
              go_roundg (22 - (j + 1))
              case measure => have := HK.out; omega
              case rel => exact ⟨j + 1, rfl, by omega, by go_num, by rw [HF.out, HS.out, List.find?_cons, HN.out], HB.out⟩
            · have HP := fun w => Lib.hid (hp ▸ pre2_calls l x w)
              have HN := Lib.hid hp
              clear hp
              go_wp2_with (go_at_call 173; refine (HP _).out.mono ?_; rintro e w2 ⟨rfl, rfl⟩)
              go_ret3
              have e1 : Lx.signList.find? (fun x => x.isPrefixOf l) = some x := by rw [HF.out, HS.out, List.find?_cons, HN.out]
              refine ⟨?_, HB.out⟩
              unfold TokSays
              rw [HE.out, e1]
              rfl
          · obtain rfl : j = 22 := by omega
            go_wp2
            go_ret3
            have e1 : Lx.signList.find? (fun x => x.isPrefixOf l) = none := by rw [HF.out]; rfl
            refine ⟨?_, HB.out⟩
            unfold TokSays
            rw [HE.out, e1]
            rfl
      · rw [hdig] at HD HE
        clear hdig
        simp only [if_true] at HE
        go_enter Tryz.func132, Tryz.ntmps132
        go_wp2_with (first
          | (go_at_call 175; refine (HL _).out.mono ?_; rintro e w1 ⟨rfl, rfl⟩)
          | (go_at_call 177; refine (HD _).out.mono ?_; rintro e w1 ⟨rfl, rfl⟩)
          | (go_at_call 178; refine (number_calls l hl _).mono ?_; rintro e w2 ⟨rfl, rfl⟩))
        go_ret3
        refine ⟨?_, Below.refl _ _⟩
        unfold TokSays
        rw [HE.out]
        rfl
    · rw [hlet] at HL HE
      clear hlet
      simp only [if_true] at HE
      go_enter Tryz.func132, Tryz.ntmps132
      go_wp2_with (first
        | (go_at_call 175; refine (HL _).out.mono ?_; rintro e w1 ⟨rfl, rfl⟩)
        | (go_at_call 176; refine (word_calls l hl _).mono ?_; rintro e w2 ⟨rfl, hb⟩; have HB := Lib.hid hb; clear hb))
      go_ret3
      refine ⟨?_, HB.out⟩
      unfold TokSays
      rw [HE.out]
      rfl
end Go.Proofs.YtlejecaanllghaaGreatDoor
/- Plain laws of the layer lex. No program in sight. -/
namespace Go.Proofs.YtlejecaanllghaaGreatDoor.Lx

theorem between_len (l : List UInt8) : (between l).length = l.length - (rest (l.length + 1) l).length := by
  have := rest_len (l.length + 1) l
  simp [between]
theorem between_take (l : List UInt8) : l.take (between l).length ++ l.drop (between l).length = l ∧ l.take (between l).length = between l := by
  refine ⟨List.take_append_drop _ _, ?_⟩
  rw [between_len]
  rfl

theorem takeWhile_pos {α : Type} {p : α → Bool} {c : α} {t : List α} (h : p c = true) : 0 < ((c :: t).takeWhile p).length := by
  simp [h]

/-- A token's text begins the text; it is none just at the end. -/
theorem token_text (r : List UInt8) (h : (token r).2.2 = 0) : (token r).2.1 <+: r ∧ ((token r).1 = 5 → r = []) ∧ ((token r).1 ≠ 5 → 0 < (token r).2.1.length) := by
  cases r with
  | nil => exact ⟨List.prefix_refl _, fun _ => rfl, fun h => absurd rfl h⟩
  | cons c t =>
    unfold token at h ⊢
    simp only at h ⊢
    by_cases hl : letter c = true
    · rw [if_pos hl] at h ⊢
      unfold word at h ⊢
      have hi : inside c = true := by simp [inside, hl]
      by_cases h1 : 40 < ((c :: t).takeWhile inside).length
      · rw [if_pos h1] at h
        exact absurd h (by simp)
      · rw [if_neg h1] at h ⊢
        split <;> exact ⟨List.takeWhile_prefix _, fun h => absurd h (by simp), fun _ => takeWhile_pos hi⟩
    · rw [if_neg hl] at h ⊢
      by_cases hd : digit c = true
      · rw [if_pos hd] at h ⊢
        unfold number at h ⊢
        split
        · rename_i h1
          rw [if_pos h1] at h
          exact absurd h (by simp)
        · exact ⟨List.takeWhile_prefix _, fun h => absurd h (by simp), fun _ => takeWhile_pos hd⟩
      · rw [if_neg hd] at h ⊢
        cases hf : signList.find? (fun x => x.isPrefixOf (c :: t)) with
        | none => rw [hf] at h; exact absurd h (by simp)
        | some x =>
          have h1 := List.find?_some hf
          have h2 := List.mem_of_find?_eq_some hf
          have h3 : ∀ y ∈ signList, 0 < y.length := by decide
          exact ⟨List.isPrefixOf_iff_prefix.1 h1, fun h => absurd h (by simp), fun _ => h3 x h2⟩

theorem lexGo_fuel : ∀ (n m : Nat) (r : List UInt8) (p : Nat) (acc : List Tok), r.length < n → r.length < m → lexGo n r p acc = lexGo m r p acc
  | 0, _, _, _, _, h, _ => absurd h (by omega)
  | _, 0, _, _, _, _, h => absurd h (by omega)
  | n + 1, m + 1, r, p, acc, h1, h2 => by
    unfold lexGo
    simp only
    by_cases he : (token (r.drop (between r).length)).2.2 ≠ 0
    · rw [if_pos he, if_pos he]
    · rw [if_neg he, if_neg he]
      by_cases hk : (token (r.drop (between r).length)).1 = 5
      · rw [if_pos hk, if_pos hk]
      · rw [if_neg hk, if_neg hk]
        have ht := token_text (r.drop (between r).length) (by omega)
        have h3 := ht.2.2 hk
        have h4 := ht.1.length_le
        simp only [List.length_drop] at h4
        exact lexGo_fuel n m _ _ _ (by simp only [List.length_drop]; omega) (by simp only [List.length_drop]; omega)

/-- One step. -/
theorem lexGo_bad {n p : Nat} {r : List UInt8} {acc : List Tok} (he : (token (r.drop (between r).length)).2.2 ≠ 0) :
    lexGo (n + 1) r p acc = ([], (token (r.drop (between r).length)).2.2, p + (between r).length) := by
  conv => lhs; unfold lexGo
  simp only
  rw [if_pos he]
theorem lexGo_end {n p : Nat} {r : List UInt8} {acc : List Tok} (he : (token (r.drop (between r).length)).2.2 = 0) (hk : (token (r.drop (between r).length)).1 = 5) :
    lexGo (n + 1) r p acc = (acc ++ [⟨(token (r.drop (between r).length)).1, between r, (token (r.drop (between r).length)).2.1, p + (between r).length⟩], 0, 0) := by
  conv => lhs; unfold lexGo
  simp only
  rw [if_neg (by omega), if_pos hk]
theorem lexGo_on {n p : Nat} {r : List UInt8} {acc : List Tok} (he : (token (r.drop (between r).length)).2.2 = 0) (hk : (token (r.drop (between r).length)).1 ≠ 5) :
    lexGo (n + 1) r p acc = lexGo n ((r.drop (between r).length).drop (token (r.drop (between r).length)).2.1.length) (p + (between r).length + (token (r.drop (between r).length)).2.1.length)
      (acc ++ [⟨(token (r.drop (between r).length)).1, between r, (token (r.drop (between r).length)).2.1, p + (between r).length⟩]) := by
  conv => lhs; unfold lexGo
  simp only
  rw [if_neg (by omega), if_neg hk]
end Go.Proofs.YtlejecaanllghaaGreatDoor.Lx
/- lex: a text's tokens. -/
namespace Go.Proofs.YtlejecaanllghaaGreatDoor
open Go.RowKit

/-- A token as it stands in memory; and tokens. -/
def tokCells (t : Lx.Tok) : List Value := [.int .i64 t.kind, .string ⟨t.lead.toArray⟩, .string ⟨t.text.toArray⟩, .int .i64 t.pos]
def toksCells (ts : List Lx.Tok) : List Value := ts.flatMap tokCells
theorem toksCells_len (ts : List Lx.Tok) : (toksCells ts).length = ts.length * 4 := by
  induction ts with
  | nil => rfl
  | cons t ts ih => simp only [toksCells, List.flatMap_cons, List.length_append, List.length_cons] at ih ⊢; rw [ih]; simp [tokCells]; omega
theorem toksCells_snoc (ts : List Lx.Tok) (t : Lx.Tok) : toksCells (ts ++ [t]) = toksCells ts ++ tokCells t := by simp [toksCells]

theorem info_tok : (Tryz.prog.info? 169).map (fun i => (i.zero, i.size, i.bytes)) = some (some (.agg #[.int .i64 0, .string ⟨#[]⟩, .string ⟨#[]⟩, .int .i64 0]), 4, 48) := by kernel_rfl
theorem info_split {P : Program} {t : TypeId} {z : Option Value} {n m : Nat} (h : (P.info? t).map (fun i => (i.zero, i.size, i.bytes)) = some (z, n, m)) : ∃ i, P.info? t = some i ∧ i.zero = z ∧ i.size = n ∧ i.bytes = m := by
  cases hq : P.info? t with
  | none => rw [hq] at h; cases h
  | some i =>
    rw [hq] at h
    simp only [Option.map_some, Option.some.injEq, Prod.mk.injEq] at h
    exact ⟨i, rfl, h⟩

def LexSays (l : List UInt8) (w : World) (e : Ending) (w' : World) : Prop :=
  ∃ v, e = .returned (.tuple #[v, .agg #[.int .i64 (Lx.lex l).2.1, .int .i64 (Lx.lex l).2.2]]) ∧ w'.ownsRow w.heap.size 169 4 v (Lx.lex l).1.length (toksCells (Lx.lex l).1) ∧ Below w.heap.size w w'

def LexRel (l : List UInt8) (w : World) (k : Nat) (v4 v5 : Value) (wr : World) : Prop :=
  ∃ (j : Nat) (acc : List Lx.Tok) (a : Option Addr) (c : Nat), v5 = .int .i64 j ∧ k = l.length - j ∧ j ≤ l.length ∧ acc.length ≤ j ∧ v4 = .slice a acc.length c ∧
    wr.ownsRow (w.heap.size + 1) 169 4 (.slice a acc.length c) acc.length (toksCells acc) ∧
    Below (w.heap.size + 1) (w.alloc (.cells #[.int .i64 0, .int .i64 0] 25)) wr ∧
    Lx.lexGo ((l.drop j).length + 1) (l.drop j) j acc = Lx.lexGo (l.length + 1) l 0 []

theorem ownsRow_form {w : World} {base : Nat} {e : TypeId} {size : Nat} {v : Value} {n : Nat} {xs : List Value} (h : w.ownsRow base e size v n xs) : ∃ a c, v = .slice a n c := by
  obtain ⟨_, ⟨rfl, rfl⟩ | ⟨g, cap, cur, rfl, _⟩⟩ := h
  · exact ⟨none, 0, rfl⟩
  · exact ⟨_, cap, rfl⟩

theorem lex_fault {w wr w1 w2 : World} {cs : Array Value} {T : TypeId} (h : Below (w.heap.size + 1) (w.alloc (.cells cs T)) wr) (h1 : Below wr.heap.size wr w1) (h2 : Below w1.heap.size w1 w2) :
    w2.heap[w.heap.size]? = some (.cells cs T (0, 0)) ∧ Below w.heap.size w w2 := by
  have hs := h.size
  rw [← size_alloc1] at hs
  have h3 := (h.trans (h1.mono hs)).trans (h2.mono (Nat.le_trans hs h1.size))
  refine ⟨by rw [h3.block _ (by omega)]; exact heap_alloc_new _ _, ?_⟩
  exact ((Below.refl w.heap.size w).alloc (Nat.le_refl _) _).trans (h3.mono (by omega))

theorem lex_base {w w2 : World} {cs : Array Value} {T : TypeId} (h : w2.heap[w.heap.size]? = some (.cells cs T (0, 0)) ∧ Below w.heap.size w w2) : w.heap.size + 1 ≤ w2.heap.size := by
  rcases Nat.lt_or_ge w.heap.size w2.heap.size with h1 | h1
  · exact h1
  · rw [Array.getElem?_eq_none h1] at h; cases h.1

theorem lex_step {w wr w1 w2 w3 : World} {cs : Array Value} {T T2 : TypeId} {e n m : Nat} {v : Value} {xs : List Value} {news : Array Value} (h : Below (w.heap.size + 1) (w.alloc (.cells cs T)) wr) (h1 : Below wr.heap.size wr w1) (h2 : Below w1.heap.size w1 w2)
    (ho : wr.ownsRow (w.heap.size + 1) e m v n xs) (hg : (w2.alloc (.cells news T2)).grownBy w3 v.ownBlock) :
    Below (w.heap.size + 1) (w.alloc (.cells cs T)) w3 ∧ w3.heap[w.heap.size]? = some (.cells cs T (0, 0)) ∧ Below w.heap.size w w3 := by
  have hs := h.size
  rw [← size_alloc1] at hs
  have h3 := (h.trans (h1.mono hs)).trans (h2.mono (Nat.le_trans hs h1.size))
  have hs3 := h3.size
  rw [← size_alloc1] at hs3
  have h4 := h3.alloc hs3 (.cells news T2)
  have h5 := h4.grown hg (by rw [← size_alloc1]; omega) (fun k hk => (ho.lt k hk).1)
  refine ⟨h5, by rw [h5.block _ (by omega)]; exact heap_alloc_new _ _, ?_⟩
  exact ((Below.refl w.heap.size w).alloc (Nat.le_refl _) _).trans (h5.mono (by omega))

set_option maxRecDepth 100000 in
set_option maxHeartbeats 1000000 in
theorem lex_calls (l : List UInt8) (hl : l.length ≤ 1073741824) (w : World) :
    Calls Tryz.prog 89 #[.string ⟨l.toArray⟩] w fun e w' => LexSays l w e w' := by
  by_cases hbig : 65536 < l.length
  · have hbig' : 65536 < (l.length : Int) := by omega
    have HE := Lib.hid (show Lx.lex l = ([], 11, 0) from by unfold Lx.lex; rw [if_pos hbig])
    go_enter Tryz.func89, Tryz.ntmps89
    go_wp2
    refine bodyPost_ret (results_tmp_row rfl _ _ w.heap.size _ _ _ _ rfl (heap_alloc_new _ _) Tryz.underlying25 rfl rfl) rfl ?_
    refine ⟨_, by rw [HE.out]; rfl, ?_, (Below.refl _ _).alloc (Nat.le_refl _) _⟩
    rw [HE.out]
    exact World.ownsRow_nil _ _ _ _
  · have hbig' : ¬ 65536 < (l.length : Int) := by omega
    have HE := Lib.hid (show Lx.lex l = Lx.lexGo (l.length + 1) l 0 [] from by unfold Lx.lex; rw [if_neg hbig])
    go_enter Tryz.func89, Tryz.ntmps89
    go_wp2
    go_loopg [4, 5] l.length (fun k v4 v5 wr => LexRel l w k v4 v5 wr)
    case atStart => exact ⟨0, [], none, 0, rfl, rfl, Nat.zero_le _, Nat.le_refl _, rfl, World.ownsRow_nil _ _ _ _, Below.refl _ _, rfl⟩
    case round =>
      obtain ⟨j, acc, a, c, rfl, hk, hj, hacc, rfl, hown, hb, hlex⟩ := hrel
      have hr : (l.drop j).length ≤ 1073741824 := by simp; omega
      have hbl := Lx.between_len (l.drop j)
      obtain ⟨ld, hld⟩ : ∃ x, Lx.between (l.drop j) = x := ⟨_, rfl⟩
      have HB1 := fun w => Lib.hid (hld ▸ between_calls (l.drop j) hr w)
      rw [hld] at hbl
      have hp : j + ld.length ≤ l.length := by rw [List.length_drop] at hbl; omega
      clear hbl
      have hp' : (j : Int) + (ld.length : Int) ≤ (l.length : Int) := by omega
      have hj' : (j : Int) ≤ (l.length : Int) := by omega
      have hdd : (l.drop j).drop ld.length = l.drop (j + ld.length) := by rw [List.drop_drop]
      have htl := token_calls (l.drop (j + ld.length)) (by simp; omega)
      have htt := Lx.token_text (l.drop (j + ld.length))
      have hbad := @Lx.lexGo_bad (l.drop j).length j (l.drop j) acc
      have hend := @Lx.lexGo_end (l.drop j).length j (l.drop j) acc
      have hon := @Lx.lexGo_on (l.drop j).length j (l.drop j) acc
      unfold TokSays at htl
      rw [hld, hdd] at hbad hend hon
      obtain ⟨⟨kd, tx, er⟩, hT⟩ : ∃ q, Lx.token (l.drop (j + ld.length)) = q := ⟨_, rfl⟩
      rw [hT] at htl htt hbad hend hon
      simp only [] at htl htt hbad hend hon
      have HT1 := fun w => Lib.hid (htl w)
      have HX1 := Lib.hid (show (⟨l.toArray⟩ : ByteArray).extract j l.length = ⟨(l.drop j).toArray⟩ from by rw [tx_extract, List.take_of_length_le (by simp)])
      have HX2 := Lib.hid (show (⟨l.toArray⟩ : ByteArray).extract (j + ld.length) l.length = ⟨(l.drop (j + ld.length)).toArray⟩ from by rw [tx_extract, List.take_of_length_le (by simp)])
      have HH := Lib.hid (And.intro hk (And.intro hown (And.intro hb hlex)))
      have HTT := Lib.hid htt
      have HLB := Lib.hid hbad
      have HLE := Lib.hid hend
      have HLO := Lib.hid hon
      clear hld hT htl htt hbad hend hon hk hown hb hlex hdd
      by_cases he : er = 0
      · subst he
        obtain ⟨hpre, hkz, hkn⟩ := HTT.out rfl
        have htx := hpre.length_le
        rw [List.length_drop] at htx
        have htx' : (j : Int) + (ld.length : Int) + (tx.length : Int) ≤ (l.length : Int) := by omega
        have HPRE := Lib.hid hpre
        have HKN := Lib.hid hkn
        clear hpre hkz hkn
        obtain ⟨i0, hi, hz0, hz1, hz2⟩ := info_split info_tok
        have Hi := Lib.hid hi
        have Hz0 := Lib.hid hz0
        have Hz1 := Lib.hid hz1
        have Hz2 := Lib.hid hz2
        have HAC := Lib.hid hacc
        clear hi hz0 hz1 hz2 hacc htx
        have hn : acc.length ≤ 1073741824 := by have := HAC.out; omega
        have HN := Lib.hid hn
        clear hn
        have HTC := Lib.hid (show toksCells acc ++ [.int .i64 kd, .string ⟨ld.toArray⟩, .string ⟨tx.toArray⟩, .int .i64 ((j : Int) + (ld.length : Int))] = toksCells (acc ++ [⟨kd, ld, tx, j + ld.length⟩]) from by rw [toksCells_snoc]; simp [tokCells])
        by_cases hk : kd = 5
        · have hk' : ((kd : Int) == 5) = true := by simp; omega
          have HKD := Lib.hid hk
          clear hk
          go_wp2_with (first
            | (go_at_call 131; rw [HX1.out]; refine (HB1 _).out.mono ?_; rintro e w1 ⟨rfl, hb1⟩; have HC1 := Lib.hid hb1; clear hb1)
            | (go_at_call 132; rw [HX2.out]; refine (HT1 _).out.mono ?_; rintro e w2 ⟨rfl, hb2⟩; have HC2 := Lib.hid hb2; clear hb2; have HF := Lib.hid (lex_fault HH.out.2.2.1 HC1.out HC2.out))
            | (at_builtin; refine wpList_append_one rfl _ _ 27 rfl (w.heap.size + 1) 169 169 i0 (.agg #[.int .i64 0, .string ⟨#[]⟩, .string ⟨#[]⟩, .int .i64 0]) 4 48 Tryz.underlying27 Hi.out Hz0.out Hz1.out Hz2.out rfl (by decide) _ acc.length (toksCells acc) rfl (ownsRow_below (ownsRow_below HH.out.2.1 HC1.out) HC2.out) 1 [.int .i64 kd, .string ⟨ld.toArray⟩, .string ⟨tx.toArray⟩, .int .i64 ((j : Int) + (ld.length : Int))] rfl rfl (by simp [Value.oneCell']) HN.out (by decide) (lex_base HF.out) ?_))
          intro v3 w3 hown3 hg3
          obtain ⟨a3, c3, rfl⟩ := ownsRow_form hown3
          have H3 := Lib.hid (lex_step HH.out.2.2.1 HC1.out HC2.out HH.out.2.1 hg3)
          have HO := Lib.hid hown3
          clear hown3 hg3
          go_wp2_with (refine wpList_store_row rfl 25 _ _ rfl 25 w.heap.size _ _ rfl H3.out.2.1 rfl rfl rfl (by simp [Value.oneCell']) ?_)
          refine bodyPost_ret (results_tmp_row rfl _ _ w.heap.size _ _ _ _ rfl (setRow_at H3.out.2.1) Tryz.underlying25 rfl rfl) rfl ?_
          have e1 : Lx.lex l = (acc ++ [⟨kd, ld, tx, j + ld.length⟩], 0, 0) := by rw [HE.out, ← HH.out.2.2.2]; exact HLE.out (by first | trivial | rfl) HKD.out
          have hb := H3.out.2.2
          have ho := HO.out
          refine ⟨.slice a3 (acc.length + 1) c3, by rw [e1]; rfl, ?_, below_setRow hb (Nat.le_refl _) _⟩
          rw [e1, ← HTC.out, List.length_append]
          exact ownsRow_low (ownsRow_setRow ho (Nat.lt_succ_self _) _) (Nat.le_succ _)
        · have hk' : ((kd : Int) == 5) = false := by simp; omega
          have HKD := Lib.hid hk
          clear hk
          go_wp2_with (first
            | (go_at_call 131; rw [HX1.out]; refine (HB1 _).out.mono ?_; rintro e w1 ⟨rfl, hb1⟩; have HC1 := Lib.hid hb1; clear hb1)
            | (go_at_call 132; rw [HX2.out]; refine (HT1 _).out.mono ?_; rintro e w2 ⟨rfl, hb2⟩; have HC2 := Lib.hid hb2; clear hb2; have HF := Lib.hid (lex_fault HH.out.2.2.1 HC1.out HC2.out))
            | (at_builtin; refine wpList_append_one rfl _ _ 27 rfl (w.heap.size + 1) 169 169 i0 (.agg #[.int .i64 0, .string ⟨#[]⟩, .string ⟨#[]⟩, .int .i64 0]) 4 48 Tryz.underlying27 Hi.out Hz0.out Hz1.out Hz2.out rfl (by decide) _ acc.length (toksCells acc) rfl (ownsRow_below (ownsRow_below HH.out.2.1 HC1.out) HC2.out) 1 [.int .i64 kd, .string ⟨ld.toArray⟩, .string ⟨tx.toArray⟩, .int .i64 ((j : Int) + (ld.length : Int))] rfl rfl (by simp [Value.oneCell']) HN.out (by decide) (lex_base HF.out) ?_))
          intro v3 w3 hown3 hg3
          obtain ⟨a3, c3, rfl⟩ := ownsRow_form hown3
          have H3 := Lib.hid (lex_step HH.out.2.2.1 HC1.out HC2.out HH.out.2.1 hg3)
          have HO := Lib.hid hown3
          clear hown3 hg3
          go_wp2
          go_roundg (l.length - (j + ld.length + tx.length))
          case measure =>
            have h1 := HH.out.1
            have h2 := HKN.out HKD.out
            omega
          case rel =>
            have h2 := HKN.out HKD.out
            have h4 := HAC.out
            refine ⟨j + ld.length + tx.length, acc ++ [⟨kd, ld, tx, j + ld.length⟩], a3, c3, by go_num, rfl, by omega, by simp; omega, by simp, ?_, H3.out.1, ?_⟩
            · rw [← HTC.out, List.length_append]
              exact HO.out
            · rw [← HH.out.2.2.2]
              refine Eq.trans ?_ (HLO.out (by first | trivial | rfl) HKD.out).symm
              rw [List.drop_drop]
              exact Lx.lexGo_fuel _ _ _ _ _ (Nat.lt_succ_self _) (by simp; omega)
      · have he' : ((er : Int) == 0) = false := by simp; omega
        have he2 : (er : Int) ≠ 0 := by omega
        go_wp2_with (first
          | (go_at_call 131; rw [HX1.out]; refine (HB1 _).out.mono ?_; rintro e w1 ⟨rfl, hb1⟩; have HC1 := Lib.hid hb1; clear hb1)
          | (go_at_call 132; rw [HX2.out]; refine (HT1 _).out.mono ?_; rintro e w2 ⟨rfl, hb2⟩; have HC2 := Lib.hid hb2; clear hb2; have HF := Lib.hid (lex_fault HH.out.2.2.1 HC1.out HC2.out))
          | (refine wpList_store_row rfl 25 _ _ rfl 25 w.heap.size _ _ rfl HF.out.1 rfl rfl rfl (by simp [Value.oneCell']) ?_))
        refine bodyPost_ret (results_tmp_row rfl _ _ w.heap.size _ _ _ _ rfl (setRow_at HF.out.1) Tryz.underlying25 rfl rfl) rfl ?_
        have e1 : Lx.lex l = ([], er, j + ld.length) := by rw [HE.out, ← HH.out.2.2.2]; exact HLB.out he
        refine ⟨_, by rw [e1]; simp; rfl, ?_, below_setRow HF.out.2 (Nat.le_refl _) _⟩
        rw [e1]
        exact World.ownsRow_nil _ _ _ _
end Go.Proofs.YtlejecaanllghaaGreatDoor
