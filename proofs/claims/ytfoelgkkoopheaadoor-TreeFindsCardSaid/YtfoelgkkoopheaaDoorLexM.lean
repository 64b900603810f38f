/- Layer 5 (lex) as plain functions on lists of bytes. No program in sight. -/
namespace Go.Proofs.YtfoelgkkoopheaaDoor.Lx

def letter (c : UInt8) : Bool := (97 ≤ c && c ≤ 122) || (65 ≤ c && c ≤ 90)
def digit (c : UInt8) : Bool := 48 ≤ c && c ≤ 57
def inside (c : UInt8) : Bool := letter c || digit c || c == 95
def blank (c : UInt8) : Bool := c == 32 || c == 9 || c == 13 || c == 10

/-- Where a line ends: the feed stays. -/
def line (l : List UInt8) : List UInt8 := l.dropWhile fun c => c != 10

/-- What is left behind what stands ahead of a token (with so much fuel). -/
def rest : Nat → List UInt8 → List UInt8
  | 0, l => l
  | n + 1, l =>
    match l.dropWhile blank with
    | 45 :: 45 :: r => rest n (line r)
    | r => r

theorem dropWhile_len {α : Type} (p : α → Bool) (l : List α) : (l.dropWhile p).length ≤ l.length := by
  induction l with
  | nil => simp
  | cons x l ih =>
    simp only [List.dropWhile_cons]
    split
    · simp only [List.length_cons]; omega
    · simp

theorem takeWhile_len {α : Type} (p : α → Bool) (l : List α) : (l.takeWhile p).length ≤ l.length := by
  induction l with
  | nil => simp
  | cons x l ih =>
    simp only [List.takeWhile_cons]
    split
    · simp only [List.length_cons]; omega
    · simp

theorem rest_len : ∀ (n : Nat) (l : List UInt8), (rest n l).length ≤ l.length
  | 0, _ => Nat.le_refl _
  | n + 1, l => by
    have h1 := dropWhile_len blank l
    unfold rest
    split
    · rename_i r h
      have h2 := rest_len n (line r)
      have h3 := dropWhile_len (fun c : UInt8 => c != 10) r
      rw [h] at h1
      simp only [List.length_cons] at h1
      unfold line at h2
      unfold line
      omega
    · exact h1

/-- So much fuel is enough. -/
theorem rest_fuel : ∀ (n m : Nat) (l : List UInt8), l.length < n → l.length < m → rest n l = rest m l
  | 0, _, _, h, _ => absurd h (by omega)
  | _, 0, _, _, h => absurd h (by omega)
  | n + 1, m + 1, l, h1, h2 => by
    have h := dropWhile_len blank l
    unfold rest
    split
    · rename_i r hr
      have h3 := dropWhile_len (fun c : UInt8 => c != 10) r
      rw [hr] at h
      simp only [List.length_cons] at h
      exact rest_fuel n m (line r) (by unfold line; omega) (by unfold line; omega)
    · rfl

/-- What stands ahead of a token. -/
def between (l : List UInt8) : List UInt8 := l.take (l.length - (rest (l.length + 1) l).length)
/-- All keys, rising. -/
def keyList : List (List UInt8) := [[97, 115, 115, 101, 114, 116], [98, 111, 111, 108], [101, 108, 115, 101], [102, 97, 108, 115, 101], [102, 117, 110], [105, 102], [105, 109, 112, 111, 114, 116], [105, 110], [105, 110, 116], [108, 101, 116], [110, 111, 116], [112, 117, 98], [114, 101, 115], [116, 104, 101, 110], [116, 114, 117, 101]]
/-- All signs, the longer ones first. -/
def signList : List (List UInt8) := [[60, 62], [60, 61], [62, 61], [38, 38], [124, 124], [61, 62], [40], [41], [123], [125], [44], [58], [59], [46], [43], [45], [42], [47], [37], [61], [60], [62]]
def isKey (w : List UInt8) : Bool := keyList.contains w

/-- A word's token, a number's, any: its kind, its text, an error's number. -/
def word (l : List UInt8) : Nat × List UInt8 × Nat :=
  if 40 < (l.takeWhile inside).length then (0, [], 20) else if isKey (l.takeWhile inside) then (2, l.takeWhile inside, 0) else (1, l.takeWhile inside, 0)
def number (l : List UInt8) : Nat × List UInt8 × Nat :=
  if 60 < (l.takeWhile digit).length ∨ (1 < (l.takeWhile digit).length ∧ l.head? = some 48) then (0, [], 21) else (3, l.takeWhile digit, 0)
def token (l : List UInt8) : Nat × List UInt8 × Nat :=
  match l with
  | [] => (5, [], 0)
  | c :: t =>
    if letter c then word (c :: t) else if digit c then number (c :: t) else
    match signList.find? (fun x => x.isPrefixOf (c :: t)) with
    | some x => (4, x, 0)
    | none => (0, [], 20)

/-- A token. -/
structure Tok where
  kind : Nat
  lead : List UInt8
  text : List UInt8
  pos : Nat

/-- The tokens of what is left, from a place on, behind those that were read; an error's number, and its place. -/
def lexGo : Nat → List UInt8 → Nat → List Tok → List Tok × Nat × Nat
  | 0, _, _, _ => ([], 0, 0)
  | n + 1, r, pos, acc =>
    let lead := between r
    let p := pos + lead.length
    let r1 := r.drop lead.length
    let t := token r1
    if t.2.2 ≠ 0 then ([], t.2.2, p) else
    if t.1 = 5 then (acc ++ [⟨t.1, lead, t.2.1, p⟩], 0, 0) else
    lexGo n (r1.drop t.2.1.length) (p + t.2.1.length) (acc ++ [⟨t.1, lead, t.2.1, p⟩])
def lex (l : List UInt8) : List Tok × Nat × Nat := if 65536 < l.length then ([], 11, 0) else lexGo (l.length + 1) l 0 []
end Go.Proofs.YtfoelgkkoopheaaDoor.Lx
