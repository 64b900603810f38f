/- Layer 6 (tree) as plain functions. No program in sight. -/
import Derived.Test.YtfoelgkkoopheaaDoorLexM
namespace Go.Proofs.YtfoelgkkoopheaaDoor.Tr

/-- A token, a node, a tree. -/
structure Tk where
  kind : Int
  lead : List UInt8
  text : List UInt8
  pos : Int
structure Nd where
  kind : Int
  tok : Int
  kids : List Int
structure T where
  toks : List Tk
  nodes : List Nd

def root (t : T) : Int := (t.nodes.length : Int) - 1
def formed (t : T) (i : Nat) (n : Nd) : Bool :=
  if n.kind < 1 ∨ 19 < n.kind then false
  else if n.kind = 19 then n.kids.isEmpty && decide (0 ≤ n.tok) && decide (n.tok < (t.toks.length : Int))
  else decide (n.tok = -1) && !(n.kids.any fun k => decide (k < 0) || decide ((i : Int) ≤ k))

/-- The nodes of a kind, from a place on. -/
def allGo (kind : Int) : Nat → List Nd → List Int
  | _, [] => []
  | i, n :: l => if n.kind = kind then (i : Int) :: allGo kind (i + 1) l else allGo kind (i + 1) l
def all (t : T) (kind : Int) : List Int := allGo kind 0 t.nodes
end Go.Proofs.YtfoelgkkoopheaaDoor.Tr
