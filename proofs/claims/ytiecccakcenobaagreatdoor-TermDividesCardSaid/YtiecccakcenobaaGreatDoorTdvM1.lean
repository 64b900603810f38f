/- A part of the proof. -/
import Derived.Deep.RegionHeld3
import Derived.Lib.Hide
import Derived.Test.YtiecccakcenobaaGreatDoorChecked
import Derived.WalkKit
import Derived.Laws.CopyRow
import Derived.Deep.MidRow
import Derived.WalkSpells
import Derived.Deep.LoopGhost
import Derived.Shelf.Strings.Builder1
import Derived.Shelf.Strings.Trim
import Derived.Shelf.Strings.SlTrimAscii
import Derived.Shelf.Spec.SearchS
import Derived.Shelf.Small.Utf8
import Derived.Shelf.Small.Strs
import Derived.Shelf.Strings.BuilderF
import Derived.Shelf.Strings.BuilderK
import Derived.Shelf.Strconv.Itoa0
import Derived.Shelf.Strconv.Itoa1
import Derived.Shelf.LaysM
import Derived.Shelf.Strconv.Itoa2
import Derived.Shelf.Strconv.Itoa3
import Derived.Shelf.Strings.Search1
import Derived.Shelf.Strings.Search2
import Derived.Shelf.Strings.Search3
import Derived.Shelf.Strings.Shaped
import Derived.Shelf.Strings.Prefix
import Derived.Shelf.Strings.Runes
import Derived.Shelf.Strings.AsciiSet
import Derived.Shelf.Unicode.DecodeSlow
import Derived.Shelf.Strings.BuilderCap
import Derived.Ground.SlgnProg
import Derived.Shelf.SlicesE.Clone
import Derived.Test.YtiecccakcenobaaGreatDoorProg
import Derived.Deep.AppendLies
import Derived.Deep.RegionLaw
set_option linter.all false
set_option maxRecDepth 100000
set_option maxHeartbeats 64000000
namespace Go.RowKit
theorem Hid.o {p:Prop} (h:Hid p):p:=h
theorem Hid.B {p q:Prop} (h:Hid (p/\q)):q:=h.2
theorem Hid.C {p q r:Prop} (h:Hid (p/\q/\r)):r:=h.2.2
theorem Hid.D {p q r s:Prop} (h:Hid (p/\q/\r/\s)):s:=h.2.2.2
theorem Hid.E {p q r s t:Prop} (h:Hid (p/\q/\r/\s/\t)):t:=h.2.2.2.2
theorem Hid.F {p q r s t u:Prop} (h:Hid (p/\q/\r/\s/\t/\u)):u:=h.2.2.2.2.2
theorem Hid.G {p q r s t u v:Prop} (h:Hid (p/\q/\r/\s/\t/\u/\v)):v:=h.2.2.2.2.2.2
theorem Hid.H {p q r s t u v x:Prop} (h:Hid (p/\q/\r/\s/\t/\u/\v/\x)):x:=h.2.2.2.2.2.2.2
theorem Hid.I {p q r s t u v x y:Prop} (h:Hid (p/\q/\r/\s/\t/\u/\v/\x/\y)):y:=h.2.2.2.2.2.2.2.2
theorem Hid.J {p q r s t u v x y z:Prop} (h:Hid (p/\q/\r/\s/\t/\u/\v/\x/\y/\z)):z:=h.2.2.2.2.2.2.2.2.2
theorem Hid.K {p q r s t u v x y z a:Prop} (h:Hid (p/\q/\r/\s/\t/\u/\v/\x/\y/\z/\a)):a:=h.2.2.2.2.2.2.2.2.2.2
theorem Hid.L {p q r s t u v x y z a b:Prop} (h:Hid (p/\q/\r/\s/\t/\u/\v/\x/\y/\z/\a/\b)):b:=h.2.2.2.2.2.2.2.2.2.2.2
theorem Hid.M {p q r s t u v x y z a b c:Prop} (h:Hid (p/\q/\r/\s/\t/\u/\v/\x/\y/\z/\a/\b/\c)):c:=h.2.2.2.2.2.2.2.2.2.2.2.2
theorem Hid.N {p q r s t u v x y z a b c d:Prop} (h:Hid (p/\q/\r/\s/\t/\u/\v/\x/\y/\z/\a/\b/\c/\d)):d:=h.2.2.2.2.2.2.2.2.2.2.2.2.2
theorem Hid.O {p q r s t u v x y z a b c d e:Prop} (h:Hid (p/\q/\r/\s/\t/\u/\v/\x/\y/\z/\a/\b/\c/\d/\e)):e:=h.2.2.2.2.2.2.2.2.2.2.2.2.2.2
theorem Hid.a {p q:Prop} (h:Hid (p/\q)):p:=h.1
theorem Hid.b {p q r:Prop} (h:Hid (p/\q/\r)):q:=h.2.1
theorem Hid.c {p q r s:Prop} (h:Hid (p/\q/\r/\s)):r:=h.2.2.1
theorem Hid.d {p q r s t:Prop} (h:Hid (p/\q/\r/\s/\t)):s:=h.2.2.2.1
theorem Hid.e {p q r s t u:Prop} (h:Hid (p/\q/\r/\s/\t/\u)):t:=h.2.2.2.2.1
theorem Hid.f {p q r s t u v:Prop} (h:Hid (p/\q/\r/\s/\t/\u/\v)):u:=h.2.2.2.2.2.1
theorem Hid.g {p q r s t u v x:Prop} (h:Hid (p/\q/\r/\s/\t/\u/\v/\x)):v:=h.2.2.2.2.2.2.1
theorem Hid.h {p q r s t u v x y:Prop} (h:Hid (p/\q/\r/\s/\t/\u/\v/\x/\y)):x:=h.2.2.2.2.2.2.2.1
theorem Hid.i {p q r s t u v x y z:Prop} (h:Hid (p/\q/\r/\s/\t/\u/\v/\x/\y/\z)):y:=h.2.2.2.2.2.2.2.2.1
theorem Hid.j {p q r s t u v x y z a:Prop} (h:Hid (p/\q/\r/\s/\t/\u/\v/\x/\y/\z/\a)):z:=h.2.2.2.2.2.2.2.2.2.1
theorem Hid.k {p q r s t u v x y z a b:Prop} (h:Hid (p/\q/\r/\s/\t/\u/\v/\x/\y/\z/\a/\b)):a:=h.2.2.2.2.2.2.2.2.2.2.1
theorem Hid.l {p q r s t u v x y z a b c:Prop} (h:Hid (p/\q/\r/\s/\t/\u/\v/\x/\y/\z/\a/\b/\c)):b:=h.2.2.2.2.2.2.2.2.2.2.2.1
theorem Hid.m {p q r s t u v x y z a b c d:Prop} (h:Hid (p/\q/\r/\s/\t/\u/\v/\x/\y/\z/\a/\b/\c/\d)):c:=h.2.2.2.2.2.2.2.2.2.2.2.2.1
theorem Hid.n {p q r s t u v x y z a b c d e:Prop} (h:Hid (p/\q/\r/\s/\t/\u/\v/\x/\y/\z/\a/\b/\c/\d/\e)):d:=h.2.2.2.2.2.2.2.2.2.2.2.2.2.1
end Go.RowKit
namespace Go.Proofs.YtiecccakcenobaaGreatDoor
open Go.RowKit
variable {ops:Array Oper} {Q:Exit->Act->World->Prop} {P:Program} {p:Prop} {S:World->Prop}
def eA_:=@List.getElem?_eq_getElem
def eB_:=@Below.refl
def eC_:=@List.length_append
def eD_:=@heap_alloc_new
def eE_:=@Nat.le_trans
def eF_:=@List.getElem?_eq_some_iff
def eG_:=@bodyPost_ret
def eH_:=@Calls.mono
def eI_:=@Nat.lt_of_lt_of_le
def eJ_:=@Below.heap_alloc
def eK_:=@decide_eq_false
def eL_:=@List.length_cons
def eM_:=@decide_eq_true
def eN_:=@List.length_take
def eO_:=@List.getElem?_append_right
def eP_:=@List.mem_of_getElem?
def eQ_:=@List.append_assoc
def eR_:=@List.mem_cons_of_mem
def eS_:=@Nat.lt_or_ge
def eT_:=@List.getElem?_append_left
def eU_:=@List.length_nil
def eV_:=@Nat.zero_le
def eW_:=@List.take_append_drop
def eX_:=@List.mem_cons_self
def eY_:=@results_cell_row
def eZ_:=@List.getElem?_cons_zero
universe u0_
theorem an_ {q:Prop} (a:p) (b:q):p/\q:=⟨a,b⟩
theorem hd_ (h:p):Hid p:=Lib.hid h
theorem rl_ (n:Nat):n<=n:=Nat.le_refl n
theorem gA_ {α:Type u0_}:(∀ (l:List α) (i:Nat) (h:i < l.toArray.size),l.toArray[i]=l[i]'(by simpa using h))/\(∀ (a:α) (l:List α) (h:0 < (a::l).length),(a::l)[0]=a)/\(∀ (a:α) (l:List α) (i:Nat) (h:i+1 < (a::l).length),(a::l)[i+1]=l[i]'(Nat.lt_of_succ_lt_succ h)):=⟨fun _ _ _=>List.getElem_toArray _,fun _ _ _=>rfl,fun _ _ _ _=>rfl⟩
theorem sA_ {α:Type u0_}:(∀ (l:List α) (i:Nat) (a:α),l.toArray.setIfInBounds i a=(l.set i a).toArray)/\(∀ (x a:α) (l:List α),(x::l).set 0 a=a::l)/\(∀ (x a:α) (l:List α) (i:Nat),(x::l).set (i+1) a=x::l.set i a):=⟨fun l i a=>List.setIfInBounds_toArray l i a,fun _ _ _=>rfl,fun _ _ _ _=>rfl⟩
theorem gP_:((∀ {α:Type} (l:List α) (i:Nat) (h:i < l.toArray.size),l.toArray[i]=l[i]'(by simpa using h))/\(∀ {α:Type} (a:α) (l:List α) (h:0 < (a::l).length),(a::l)[0]=a)/\(∀ {α:Type} (a:α) (l:List α) (i:Nat) (h:i+1 < (a::l).length),(a::l)[i+1]=l[i]'(Nat.lt_of_succ_lt_succ h)))/\(∀ {α:Type} (l:List α) (i:Nat) (a:α),l.toArray.setIfInBounds i a=(l.set i a).toArray)/\(∀ {α:Type} (x a:α) (l:List α),(x::l).set 0 a=a::l)/\(∀ {α:Type} (x a:α) (l:List α) (i:Nat),(x::l).set (i+1) a=x::l.set i a):=⟨⟨fun _ _ _=>List.getElem_toArray _,fun _ _ _=>rfl,fun _ _ _ _=>rfl⟩,fun l i a=>List.setIfInBounds_toArray l i a,fun _ _ _=>rfl,fun _ _ _ _=>rfl⟩
theorem tk_ {P:Program} {ops:Array Oper} {Q:Exit->Act->World->Prop} {md:Region.Mode} {S:World->Prop} {v:Value} {fuel:Nat} {listed:Array Bool} {a:Act} {w:World} (i:Nat) {oi:Oper} (hi:ops[i]? = some oi) (h:wpAnyH P md ops Q S fuel (listed.setIfInBounds i true) (a.put oi.dst v) w) (hy:∀ w,S w->(execOp a.eval oi).run P w = .ok (.value v) w:=by ((try simp only[Act.put,gP_]);intro w hSw;(try dsimp only at hSw);go_simp;try with_reducible rfl)) (hs:Region.noSelect ops=true:=by kernel_rfl) (hf:Region.free md ops listed i=true:=by kernel_rfl) (hr:(Region.ready md ops listed).contains i=true:=by kernel_rfl) (hQ:∀ c a w,Q (.panic c) (a.put oi.dst v) w->Q (.panic c) a w:=by exact fun _ _ _ h=>h) (hg:Region.wanted oi (yielded ops a.tmps)=true:=by rfl) (hS:S w:=by assumption):wpAnyH P md ops Q S (fuel+1) listed a w:=wpAnyH_take hi hs hf hr hQ (Or.inl ⟨hg,hy⟩) hS h
theorem rd_ {md:Region.Mode} (i:Nat) {o:Oper} {fuel:Nat} {listed:Array Bool} {a:Act} {w:World} (ho:ops[i]? = some o) (h:∀ K':Act->World->Prop,Shut (∀ a w,S w->(S w->wpAnyH P md ops Q S fuel (listed.setIfInBounds i true) a w)->K' a w)->if Region.wanted o (yielded ops a.tmps)=true then Oper.wp P o a w K' Q else K' (a.put o.dst undef) w) (hr:Region.ready md ops listed = [i]:=by kernel_rfl):wpAnyH P md ops Q S (fuel+1) listed a w:=wpAnyH_ready hr (by simp) (AllReadyH.cons ho h AllReadyH.nil)
theorem lA_ {α:Type u0_}:(∀ (x y:α) (l:List α),(x::y::l).dropLast=x::(y::l).dropLast)/\(∀ x:α,[x].dropLast = [])/\(∀ (x y:α) (l:List α) (h:x::y::l ≠ []),(x::y::l).getLast h=(y::l).getLast (List.cons_ne_nil y l))/\(∀ (x:α) (h:[x] ≠ []),[x].getLast h=x)/\(∀ (x:α) (l:List α),(x::l).length=l.length+1)/\(([]:List α).length=0):=⟨fun _ _ _=>rfl,fun _=>rfl,fun _ _ _ _=>rfl,fun _ _=>rfl,fun _ _=>rfl,rfl⟩
theorem h2_ {p q:Prop} (P:p) (Q:q):Hid (p/\q):=⟨P,Q⟩
theorem h3_ {p q r:Prop} (P:p) (Q:q) (R:r):Hid (p/\q/\r):=⟨P,Q,R⟩
theorem h4_ {p q r s:Prop} (P:p) (Q:q) (R:r) (S:s):Hid (p/\q/\r/\s):=⟨P,Q,R,S⟩
theorem h5_ {p q r s t:Prop} (P:p) (Q:q) (R:r) (S:s) (T:t):Hid (p/\q/\r/\s/\t):=⟨P,Q,R,S,T⟩
theorem h6_ {p q r s t u:Prop} (P:p) (Q:q) (R:r) (S:s) (T:t) (U:u):Hid (p/\q/\r/\s/\t/\u):=⟨P,Q,R,S,T,U⟩
theorem h7_ {p q r s t u v:Prop} (P:p) (Q:q) (R:r) (S:s) (T:t) (U:u) (V:v):Hid (p/\q/\r/\s/\t/\u/\v):=⟨P,Q,R,S,T,U,V⟩
theorem h8_ {p q r s t u v x:Prop} (P:p) (Q:q) (R:r) (S:s) (T:t) (U:u) (V:v) (X:x):Hid (p/\q/\r/\s/\t/\u/\v/\x):=⟨P,Q,R,S,T,U,V,X⟩
theorem h9_ {p q r s t u v x y:Prop} (P:p) (Q:q) (R:r) (S:s) (T:t) (U:u) (V:v) (X:x) (Y:y):Hid (p/\q/\r/\s/\t/\u/\v/\x/\y):=⟨P,Q,R,S,T,U,V,X,Y⟩
theorem h10_ {p q r s t u v x y z:Prop} (P:p) (Q:q) (R:r) (S:s) (T:t) (U:u) (V:v) (X:x) (Y:y) (Z:z):Hid (p/\q/\r/\s/\t/\u/\v/\x/\y/\z):=⟨P,Q,R,S,T,U,V,X,Y,Z⟩
theorem h11_ {p q r s t u v x y z a:Prop} (P:p) (Q:q) (R:r) (S:s) (T:t) (U:u) (V:v) (X:x) (Y:y) (Z:z) (A:a):Hid (p/\q/\r/\s/\t/\u/\v/\x/\y/\z/\a):=⟨P,Q,R,S,T,U,V,X,Y,Z,A⟩
theorem h12_ {p q r s t u v x y z a b:Prop} (P:p) (Q:q) (R:r) (S:s) (T:t) (U:u) (V:v) (X:x) (Y:y) (Z:z) (A:a) (B:b):Hid (p/\q/\r/\s/\t/\u/\v/\x/\y/\z/\a/\b):=⟨P,Q,R,S,T,U,V,X,Y,Z,A,B⟩
theorem h13_ {p q r s t u v x y z a b c:Prop} (P:p) (Q:q) (R:r) (S:s) (T:t) (U:u) (V:v) (X:x) (Y:y) (Z:z) (A:a) (B:b) (C:c):Hid (p/\q/\r/\s/\t/\u/\v/\x/\y/\z/\a/\b/\c):=⟨P,Q,R,S,T,U,V,X,Y,Z,A,B,C⟩
theorem h14_ {p q r s t u v x y z a b c d:Prop} (P:p) (Q:q) (R:r) (S:s) (T:t) (U:u) (V:v) (X:x) (Y:y) (Z:z) (A:a) (B:b) (C:c) (D:d):Hid (p/\q/\r/\s/\t/\u/\v/\x/\y/\z/\a/\b/\c/\d):=⟨P,Q,R,S,T,U,V,X,Y,Z,A,B,C,D⟩
theorem n3_ {p q r:Prop} (P:p) (Q:q) (R:r):p/\q/\r:=⟨P,Q,R⟩
theorem n4_ {p q r s:Prop} (P:p) (Q:q) (R:r) (S:s):p/\q/\r/\s:=⟨P,Q,R,S⟩
theorem n5_ {p q r s t:Prop} (P:p) (Q:q) (R:r) (S:s) (T:t):p/\q/\r/\s/\t:=⟨P,Q,R,S,T⟩
theorem n6_ {p q r s t u:Prop} (P:p) (Q:q) (R:r) (S:s) (T:t) (U:u):p/\q/\r/\s/\t/\u:=⟨P,Q,R,S,T,U⟩
theorem n7_ {p q r s t u v:Prop} (P:p) (Q:q) (R:r) (S:s) (T:t) (U:u) (V:v):p/\q/\r/\s/\t/\u/\v:=⟨P,Q,R,S,T,U,V⟩
theorem n8_ {p q r s t u v x:Prop} (P:p) (Q:q) (R:r) (S:s) (T:t) (U:u) (V:v) (X:x):p/\q/\r/\s/\t/\u/\v/\x:=⟨P,Q,R,S,T,U,V,X⟩
theorem n9_ {p q r s t u v x y:Prop} (P:p) (Q:q) (R:r) (S:s) (T:t) (U:u) (V:v) (X:x) (Y:y):p/\q/\r/\s/\t/\u/\v/\x/\y:=⟨P,Q,R,S,T,U,V,X,Y⟩
theorem n10_ {p q r s t u v x y z:Prop} (P:p) (Q:q) (R:r) (S:s) (T:t) (U:u) (V:v) (X:x) (Y:y) (Z:z):p/\q/\r/\s/\t/\u/\v/\x/\y/\z:=⟨P,Q,R,S,T,U,V,X,Y,Z⟩
theorem n11_ {p q r s t u v x y z a:Prop} (P:p) (Q:q) (R:r) (S:s) (T:t) (U:u) (V:v) (X:x) (Y:y) (Z:z) (A:a):p/\q/\r/\s/\t/\u/\v/\x/\y/\z/\a:=⟨P,Q,R,S,T,U,V,X,Y,Z,A⟩
theorem n12_ {p q r s t u v x y z a b:Prop} (P:p) (Q:q) (R:r) (S:s) (T:t) (U:u) (V:v) (X:x) (Y:y) (Z:z) (A:a) (B:b):p/\q/\r/\s/\t/\u/\v/\x/\y/\z/\a/\b:=⟨P,Q,R,S,T,U,V,X,Y,Z,A,B⟩
theorem n13_ {p q r s t u v x y z a b c:Prop} (P:p) (Q:q) (R:r) (S:s) (T:t) (U:u) (V:v) (X:x) (Y:y) (Z:z) (A:a) (B:b) (C:c):p/\q/\r/\s/\t/\u/\v/\x/\y/\z/\a/\b/\c:=⟨P,Q,R,S,T,U,V,X,Y,Z,A,B,C⟩
theorem n14_ {p q r s t u v x y z a b c d:Prop} (P:p) (Q:q) (R:r) (S:s) (T:t) (U:u) (V:v) (X:x) (Y:y) (Z:z) (A:a) (B:b) (C:c) (D:d):p/\q/\r/\s/\t/\u/\v/\x/\y/\z/\a/\b/\c/\d:=⟨P,Q,R,S,T,U,V,X,Y,Z,A,B,C,D⟩
end Go.Proofs.YtiecccakcenobaaGreatDoor
namespace Go.Proofs.YtiecccakcenobaaGreatDoor.Zp
open Tryz
variable {l r:List Nat} {B b c d n x:Nat}
def val (B:Nat):List Nat->Nat
 | []=> 0
 | d::r=> d+B*val B r
def digs (B n:Nat):List Nat:=if _h:n=0\/B < 2 then [] else n % B::digs B (n / B)
termination_by n
decreasing_by exact Nat.div_lt_self (by omega) (by omega)
def trim:List Nat->List Nat
 | []=> []
 | d::r=> if trim r= []/\d=0 then [] else d::trim r
def Dig (B:Nat) (l:List Nat):Prop:=∀ d∈l,d < B
theorem Dig.tail (h:Dig B (d::r)):Dig B r:=fun x hx=> h x (eR_ _ hx)
theorem Dig.head (h:Dig B (d::r)):d < B:=h d eX_
theorem Dig.cons (hd:d < B) (h:Dig B r):Dig B (d::r):=fun x hx=> by
 rcases List.mem_cons.1 hx with rfl | hx
 ·exact hd
 ·exact h x hx
theorem Dig.nil:Dig B []:=fun x hx=> by simp at hx
theorem Dig.append (h:Dig B l) (h2:Dig B r):Dig B (l++r):=fun x hx=> by
 rcases List.mem_append.1 hx with hx | hx
 ·exact h x hx
 ·exact h2 x hx
theorem Dig.take {B:Nat} {l:List Nat} (h:Dig B l) (k:Nat):Dig B (l.take k):=fun x hx=> h x (List.mem_of_mem_take hx)
theorem Dig.drop {B:Nat} {l:List Nat} (h:Dig B l) (k:Nat):Dig B (l.drop k):=fun x hx=> h x (List.mem_of_mem_drop hx)
theorem Dig.get (h:Dig B l) (i:Nat) (hi:i < l.length):l[i]! < B:=by
 rw[getElem!_pos l i hi];exact h _ (List.getElem_mem hi)
theorem QG (B:Nat):digs B 0= []:=by rw[digs];simp
theorem Yy (hB:2<=B) (hn:n≠0):digs B n=n % B::digs B (n / B):=by
 rw[digs];rw[dif_neg (by omega)]
theorem Xy (hB:2<=B):digs B n= []↔n=0:=by
 constructor
 ·intro h;by_cases hn:n=0
  ·exact hn
  ·rw[Yy hB hn] at h;simp at h
 ·rintro rfl;exact QG B
theorem Qi (hB:2<=B) (n:Nat):val B (digs B n)=n:=by
 induction n using Nat.strongRecOn with
 | _ n ih=>
  by_cases hn:n=0
  ·subst hn;rw[QG];rfl
  ·rw[Yy hB hn];show n % B+B*val B (digs B (n / B))=n;rw[ih _ (Nat.div_lt_self (by omega) (by omega))];exact Nat.mod_add_div n B
theorem Qo (hB:2<=B) (n:Nat):Dig B (digs B n):=by
 induction n using Nat.strongRecOn with
 | _ n ih=>
  by_cases hn:n=0
  ·subst hn;rw[QG];exact Dig.nil
  ·rw[Yy hB hn];exact Dig.cons (Nat.mod_lt _ (by omega)) (ih _ (Nat.div_lt_self (by omega) (by omega)))
theorem Y7 (B:Nat):∀ (l r:List Nat),val B (l++r)=val B l+B ^ l.length*val B r
 | [],r=> by simp[val]
 | d::l,r=> by
  show d+B*val B (l++r)=d+B*val B l+B ^ (l.length+1)*val B r;rw[Y7 B l r,Nat.mul_add,Nat.pow_succ,Nat.mul_comm (B ^ l.length) B,Nat.mul_assoc];omega
theorem Xs {B:Nat} (hB:2<=B):∀ {l:List Nat},Dig B l->val B l < B ^ l.length
 | [],_=> by simp[val]
 | d::l,h=> by
  show d+B*val B l < B ^ (l.length+1);have h1:=Xs hB h.tail;have h2:=h.head;have h3:B*(val B l+1)<=B*B ^ l.length:=Nat.mul_le_mul_left _ h1;rw[Nat.pow_succ,Nat.mul_comm (B ^ l.length)];rw[Nat.mul_add] at h3;omega
theorem Xh {B:Nat} (hB:2<=B):∀ {l:List Nat},Dig B l->trim l=digs B (val B l)
 | [],_=> by rw[val,QG];rfl
 | d::r,h=> by
  have ih:=Xh hB h.tail;have hd:=h.head;rw[trim,ih];show (if digs B (val B r)= []/\d=0 then [] else d::digs B (val B r))=digs B (d+B*val B r);by_cases h0:val B r=0
  ·rw[h0,QG,Nat.mul_zero,Nat.add_zero];by_cases hd0:d=0
   ·rw[if_pos ⟨rfl,hd0⟩,hd0,QG]
   ·rw[if_neg (fun h=> hd0 h.2),Yy hB hd0,Nat.mod_eq_of_lt hd,Nat.div_eq_of_lt hd,QG]
  ·have h1:B*1<=B*val B r:=Nat.mul_le_mul_left _ (by omega);rw[if_neg (fun h=> h0 ((Xy hB).1 h.1)),Yy (n:=d+B*val B r) hB (by omega)];rw[Nat.add_mul_mod_self_left,Nat.mod_eq_of_lt hd,Nat.add_mul_div_left _ _ (by omega),Nat.div_eq_of_lt hd,Nat.zero_add]
theorem Q4T (hB:2<=B) (n:Nat):trim (digs B n)=digs B n:=by rw[Xh hB (Qo hB n),Qi hB]
theorem Y8:∀ (l:List Nat),(∀ i,i < l.length->l[i]! =0)->trim l= []
 | [],_=> rfl
 | d::r,h=> by
  have h1:=Y8 r (fun i hi=> by have:=h (i+1) (by simpa using hi);simpa using this);rw[trim,h1,if_pos ⟨rfl,by simpa using h 0 (by simp)⟩]
theorem Z5:∀ (l:List Nat) (n:Nat),n<=l.length->(∀ i,n<=i->i < l.length->l[i]! =0)->(n=0\/l[n - 1]! ≠0)->trim l=l.take n
 | [],n,hn,_,_=> by simp[trim]
 | d::r,0,hn,h,_=> by rw[Y8 _ (fun i hi=> h i (eV_ _) hi)];rfl
 | d::r,n+1,hn,h,h2=> by
  have hr:∀ i,n<=i->i < r.length->r[i]! =0:=fun i h1 h3=> by have:=h (i+1) (by omega) (by simpa using h3);simpa using this
  have hl:n<=r.length:=by simpa using hn
  by_cases h0:n=0
  ·subst h0;rw[trim,Y8 r (fun i hi=> hr i (eV_ _) hi),if_neg (fun h=> h2.elim (fun h3=> by omega) (fun h3=> h3 (by simpa using h.2)))];rfl
  ·have ih:=Z5 r n (by simpa using hn) hr (Or.inr (by
    rcases h2 with h2 | h2
    ·omega
    ·obtain ⟨m,rfl⟩:∃ m,n=m+1:=⟨n - 1,by omega⟩
     simpa using h2))
   rw[trim,ih,if_neg (fun h=> h0 (by
    have h5:=congrArg List.length h.1;rw[eN_,eU_] at h5;omega))]
   rfl
theorem QR {B:Nat} (hB:2<=B):∀ (k n:Nat),n < B ^ k->(digs B n).length<=k
 | 0,n,h=> by
  have:n=0:=by simpa using h
  rw[this,QG];simp
 | k+1,n,h=> by
  by_cases hn:n=0
  ·rw[hn,QG];simp
  ·rw[Yy hB hn];have h1:n / B < B ^ k:=(Nat.div_lt_iff_lt_mul (by omega)).2 (by rw[<-Nat.pow_succ];exact h);have:=QR hB k (n / B) h1;simpa using this
theorem ZH {B:Nat} (hB:2<=B):∀ (k n:Nat),k < (digs B n).length->B ^ k<=n
 | 0,n,h=> by
  by_cases hn:n=0
  ·rw[hn,QG] at h;simp at h
  ·simpa using (by omega:1<=n)
 | k+1,n,h=> by
  by_cases hn:n=0
  ·rw[hn,QG] at h;simp at h
  ·rw[Yy hB hn] at h;have h1:=ZH hB k (n / B) (by simpa using h);have h2:B ^ k*B<=n / B*B:=Nat.mul_le_mul_right _ h1;have h3:=Nat.div_mul_le_self n B;rw[Nat.pow_succ];omega
theorem Lr (hB:2<=B) {l:List Nat} (h:Dig B l) {n:Nat} (hl:l.length < (digs B n).length):val B l < n:=eI_ (Xs hB h) (ZH hB _ _ hl)
theorem Q63 (B:Nat) (l:List Nat) (i:Nat) (hi:i < l.length):val B l=val B (l.take i)+B ^ i*(l[i]! +B*val B (l.drop (i+1))):=by
 have h:l=l.take i++l[i]! ::l.drop (i+1):=by
  rw[getElem!_pos l i hi,List.getElem_cons_drop,eW_]
 have h2:=congrArg (val B) h;rw[Y7,eN_,Nat.min_eq_left (by omega)] at h2;exact h2
theorem J7 (hB:2<=B) {x y:List Nat} (hx:Dig B x) (i:Nat) (hi:i < x.length) (hj:i < y.length) (hd:x.drop (i+1)=y.drop (i+1)) (h:x[i]! < y[i]!):val B x < val B y:=by
 rw[Q63 B x i hi,Q63 B y i hj,hd];have h1:=Xs hB (hx.take i);rw[eN_,Nat.min_eq_left (by omega)] at h1;have h2:B ^ i*(x[i]! +B*val B (y.drop (i+1))+1)<=B ^ i*(y[i]! +B*val B (y.drop (i+1))):=Nat.mul_le_mul_left _ (by omega);rw[Nat.mul_add,Nat.mul_one] at h2;omega
theorem Ls {x y:List Nat} (i:Nat) (hi:i < x.length) (hj:i < y.length) (hd:x.drop (i+1)=y.drop (i+1)) (h:x[i]! =y[i]!):x.drop i=y.drop i:=by
 rw[List.drop_eq_getElem_cons hi,List.drop_eq_getElem_cons hj,hd];rw[getElem!_pos x i hi,getElem!_pos y i hj] at h;rw[h]
def ord (a b:Nat):Int:=if a < b then -1 else if a=b then 0 else 1
def plus (B:Nat):List Nat->List Nat->Nat->List Nat
 | [],_,c=> [c]
 | x::xs,ys,c=> (x+ys.headD 0+c) % B::plus B xs ys.tail ((x+ys.headD 0+c) / B)
theorem Yb (B:Nat) (ys:List Nat):val B ys=ys.headD 0+B*val B ys.tail:=by cases ys <;> simp[val]
theorem GO {B:Nat}:∀ (xs ys:List Nat) (c:Nat),ys.length<=xs.length->val B (plus B xs ys c)=val B xs+val B ys+c
 | [],ys,c,h=> by
  have:ys= []:=List.length_eq_zero_iff.1 (by simpa using h);subst this;simp[plus,val]
 | x::xs,ys,c,h=> by
  rw[plus,val,GO xs ys.tail _ (by simp at h |-;omega),Yb B ys];show _=x+B*val B xs+_+c;have:=Nat.mod_add_div (x+ys.headD 0+c) B;rw[Nat.mul_add,Nat.mul_add];omega
theorem J8 (hB:0 < B) {ys:List Nat} (h:Dig B ys):ys.headD 0 < B:=by
 cases ys with
 | nil=> simpa using hB
 | cons y r=> simpa using h.head
theorem Dig.tl {ys:List Nat} (h:Dig B ys):Dig B ys.tail:=fun x hx=> h x (List.mem_of_mem_tail hx)
theorem GP {B:Nat} (hB:2<=B):∀ (xs ys:List Nat) (c:Nat),Dig B xs->Dig B ys->c<=1->Dig B (plus B xs ys c)
 | [],ys,c,_,_,hc=> Dig.cons (by omega) Dig.nil
 | x::xs,ys,c,hx,hy,hc=> by
  have h1:=hx.head;have h2:=J8 (by omega) hy;refine Dig.cons (Nat.mod_lt _ (by omega)) (GP hB xs ys.tail _ hx.tail hy.tl ?_);have:(x+ys.headD 0+c) / B < 2:=(Nat.div_lt_iff_lt_mul (by omega)).2 (by omega);omega
theorem GQ (B:Nat):∀ (xs ys:List Nat) (c:Nat),(plus B xs ys c).length=xs.length+1
 | [],_,_=> rfl
 | x::xs,ys,c=> by rw[plus,eL_,GQ B xs];rfl
def minus (B:Nat):List Nat->List Nat->Nat->List Nat
 | [],_,_=> []
 | x::xs,ys,c=> (if x < ys.headD 0+c then x+B - (ys.headD 0+c) else x - (ys.headD 0+c))::minus B xs ys.tail (if x < ys.headD 0+c then 1 else 0)
theorem UD {B:Nat} (hB:2<=B):∀ (xs ys:List Nat) (c:Nat),Dig B xs->Dig B ys->c<=1->ys.length<=xs.length->val B ys+c<=val B xs->val B (minus B xs ys c)+val B ys+c=val B xs
 | [],ys,c,_,hy,hc,hl,h=> by
  have:ys= []:=List.length_eq_zero_iff.1 (by simpa using hl);subst this;simp[minus,val] at h |-;omega
 | x::xs,ys,c,hx,hy,hc,hl,h=> by
  have hx1:=hx.head;have h2:=J8 (by omega) hy;rw[Yb B ys] at h |-;rw[minus,val];show _=x+B*val B xs;replace h:ys.headD 0+B*val B ys.tail+c<=x+B*val B xs:=h;have hl2:ys.tail.length<=xs.length:=by simp at hl |-;omega
  by_cases hlt:x < ys.headD 0+c
  ·rw[if_pos hlt,if_pos hlt];have h3:val B ys.tail+1<=val B xs:=by
    have:¬ val B xs<=val B ys.tail:=fun hle=> by
     have:=Nat.mul_le_mul_left B hle;omega
    omega
   have ih:=UD hB xs ys.tail 1 hx.tail hy.tl (by omega) hl2 h3;have ih2:=congrArg (B*·) ih;simp only[Nat.mul_add,Nat.mul_one] at ih2;omega
  ·rw[if_neg hlt,if_neg hlt];have h3:val B ys.tail+0<=val B xs:=by
    have:¬ val B xs < val B ys.tail:=fun hle=> by
     have h4:=Nat.mul_le_mul_left B hle;rw[Nat.succ_eq_add_one,Nat.mul_add,Nat.mul_one] at h4;omega
    omega
   have ih:=UD hB xs ys.tail 0 hx.tail hy.tl (by omega) hl2 h3;have ih2:=congrArg (B*·) ih;simp only[Nat.mul_add,Nat.add_zero] at ih2;omega
theorem UE {B:Nat} (hB:2<=B):∀ (xs ys:List Nat) (c:Nat),Dig B xs->Dig B ys->c<=1->Dig B (minus B xs ys c)
 | [],ys,c,_,_,_=> Dig.nil
 | x::xs,ys,c,hx,hy,hc=> by
  have h1:=hx.head;have h2:=J8 (by omega) hy;refine Dig.cons ?_ (UE hB xs ys.tail _ hx.tail hy.tl ?_)
  ·split <;> omega
  ·split <;> omega
theorem Z6 (B:Nat):∀ (xs ys:List Nat) (c:Nat),(minus B xs ys c).length=xs.length
 | [],_,_=> rfl
 | x::xs,ys,c=> by rw[minus,eL_,Z6 B xs];rfl
def scale (B by':Nat):List Nat->Nat->List Nat
 | [],c=> [c]
 | d::r,c=> (c+d*by') % B::scale B by' r ((c+d*by') / B)
theorem Z7 (B b:Nat):∀ (l:List Nat) (c:Nat),val B (scale B b l c)=val B l*b+c
 | [],c=> by simp[scale,val]
 | d::r,c=> by
  rw[scale,val,Z7 B b r];show _=(d+B*val B r)*b+c;have:=Nat.mod_add_div (c+d*b) B;rw[Nat.mul_add,Nat.add_mul,Nat.mul_assoc];omega
theorem YK (hc:c < b) (hd:d < B):(c+d*b) / B < b:=by
 refine (Nat.div_lt_iff_lt_mul (by omega)).2 ?_;have h1:d*b+b<=B*b:=by
  have:=Nat.mul_le_mul_right b (show d+1<=B by omega);rw[Nat.add_mul,Nat.one_mul] at this;exact this
 rw[Nat.mul_comm b B];omega
theorem Z8 {B b:Nat} (hb:b<=B):∀ (l:List Nat) (c:Nat),Dig B l->c < b->Dig B (scale B b l c)
 | [],c,_,hc=> Dig.cons (by omega) Dig.nil
 | d::r,c,h,hc=> Dig.cons (Nat.mod_lt _ (by have:=h.head;omega)) (Z8 hb r _ h.tail (YK hc h.head))
theorem Yv (B b:Nat):∀ (l:List Nat) (c:Nat),(scale B b l c).length=l.length+1
 | [],_=> rfl
 | d::r,c=> by rw[scale,eL_,Yv B b r];rfl
def mrow (B x:Nat):List Nat->List Nat->Nat->List Nat
 | [], [],_=> []
 | [],_::os,c=> c::os
 | _::_, [],_=> []
 | y::ys,o::os,c=> (c+x*y+o) % B::mrow B x ys os ((c+x*y+o) / B)
theorem JW (B x:Nat):∀ (ys os:List Nat) (c:Nat),ys.length < os.length->(mrow B x ys os c).length=os.length
 | [], [],_,h=> by simp at h
 | [],_::os,c,_=> rfl
 | _::_, [],_,h=> by simp at h
 | y::ys,o::os,c,h=> by rw[mrow,eL_,JW B x ys os _ (by simpa using h)];rfl
theorem Lt (B x:Nat):∀ (ys os:List Nat) (c:Nat),ys.length < os.length->(mrow B x ys os c).drop (ys.length+1)=os.drop (ys.length+1)
 | [], [],_,h=> by simp at h
 | [],_::os,c,_=> rfl
 | _::_, [],_,h=> by simp at h
 | y::ys,o::os,c,h=> by
  rw[mrow];exact Lt B x ys os _ (by simpa using h)
theorem Q1e (B x:Nat):∀ (ys os:List Nat) (c:Nat),ys.length < os.length->os[ys.length]! =0->val B (mrow B x ys os c)=val B os+x*val B ys+c
 | [], [],_,h,_=> by simp at h
 | [],o::os,c,_,h0=> by
  have:o=0:=by simpa using h0
  subst this;simp[mrow,val];omega
 | _::_, [],_,h,_=> by simp at h
 | y::ys,o::os,c,h,h0=> by
  rw[mrow,val,Q1e B x ys os _ (by simpa using h) (by simpa using h0)];show _=o+B*val B os+x*(y+B*val B ys)+c;have:=Nat.mod_add_div (c+x*y+o) B;rw[Nat.mul_add,Nat.mul_add,Nat.mul_add,Nat.mul_left_comm x B];omega
theorem Lu {y o:Nat} (hx:x < B) (hy:y < B) (hc:c < B) (ho:o < B):c+x*y+o < B*B:=by
 have h1:x*y<=(B - 1)*(B - 1):=Nat.mul_le_mul (by omega) (by omega);obtain ⟨m,rfl⟩:∃ m,B=m+1:=⟨B - 1,by omega⟩
 rw[Nat.add_sub_cancel] at h1;rw[Nat.add_mul,Nat.mul_add];omega
theorem GR {B x:Nat} (hx:x < B):∀ (ys os:List Nat) (c:Nat),Dig B ys->Dig B os->c < B->Dig B (mrow B x ys os c)
 | [], [],_,_,_,_=> Dig.nil
 | [],_::os,c,_,ho,hc=> Dig.cons hc ho.tail
 | _::_, [],_,_,_,_=> Dig.nil
 | y::ys,o::os,c,hy,ho,hc=> by
  refine Dig.cons (Nat.mod_lt _ (by omega)) (GR hx ys os _ hy.tail ho.tail ?_);exact (Nat.div_lt_iff_lt_mul (by omega)).2 (Lu hx hy.head hc ho.head)
def mul (B:Nat):List Nat->List Nat->List Nat->List Nat
 | [],_,os=> os
 | x::xs,ys,os=> (mrow B x ys os 0).headD 0::mul B xs ys (mrow B x ys os 0).tail
theorem Q4p (B:Nat):∀ (xs ys os:List Nat),xs.length+ys.length < os.length->(mul B xs ys os).length=os.length
 | [],_,os,_=> rfl
 | x::xs,ys,os,h=> by
  have h1:=JW B x ys os 0 (by simp at h;omega);simp at h;rw[mul,eL_,Q4p B xs ys _ (by rw[List.length_tail,h1];omega),List.length_tail,h1];omega
theorem Q4q (B:Nat):∀ (xs ys os:List Nat),xs.length+ys.length < os.length->(∀ i,ys.length<=i->i < os.length->os[i]! =0)->val B (mul B xs ys os)=val B os+val B xs*val B ys
 | [],_,os,_,_=> by simp[mul,val]
 | x::xs,ys,os,h,h0=> by
  simp at h;have h1:=JW B x ys os 0 (by omega);have h2:=Lt B x ys os 0 (by omega);have h3:=Q1e B x ys os 0 (by omega) (h0 _ (rl_ _) (by omega));rw[Yb B (mrow B x ys os 0)] at h3;rw[mul,val,Q4q B xs ys _ (by rw[List.length_tail,h1];omega) ?_]
  ·show _=val B os+(x+B*val B xs)*val B ys;rw[Nat.mul_add,Nat.add_mul,Nat.mul_assoc];omega
  ·intro i hi hl;rw[List.length_tail,h1] at hl;have h4:(mrow B x ys os 0)[i+1]! =os[i+1]! :=by
    have e:=congrArg (fun l:List Nat=> l[i - ys.length]!) h2;simp only[List.getElem!_eq_getElem?_getD,List.getElem?_drop] at e;rw[show ys.length+1+(i - ys.length)=i+1 by omega] at e;rw[List.getElem!_eq_getElem?_getD,List.getElem!_eq_getElem?_getD];exact e
   have h5:(mrow B x ys os 0).tail[i]! =(mrow B x ys os 0)[i+1]! :=by
    rw[List.getElem!_eq_getElem?_getD,List.getElem!_eq_getElem?_getD,List.getElem?_tail]
   rw[h5,h4];exact h0 _ (by omega) (by omega)
theorem Q4r {B:Nat} (hB:2<=B):∀ (xs ys os:List Nat),Dig B xs->Dig B ys->Dig B os->Dig B (mul B xs ys os)
 | [],_,os,_,_,ho=> ho
 | x::xs,ys,os,hx,hy,ho=> by
  have h1:=GR hx.head ys os 0 hy ho (by omega);exact Dig.cons (J8 (by omega) h1) (Q4r hB xs ys _ hx.tail hy h1.tl)
def short (B b:Nat):List Nat->List Nat × Nat
 | []=> ([],0)
 | d::r=> (((short B b r).2*B+d) / b::(short B b r).1,((short B b r).2*B+d) % b)
theorem Zi {B b:Nat} (hb:0 < b):∀ (l:List Nat),val B (short B b l).1*b+(short B b l).2=val B l/\(short B b l).2 < b
 | []=> ⟨by simp[short,val],hb⟩
 | d::r=> by
  obtain ⟨h1,h2⟩:=Zi hb (B:=B) r;refine ⟨?_,Nat.mod_lt _ hb⟩;show (((short B b r).2*B+d) / b+B*val B (short B b r).1)*b+((short B b r).2*B+d) % b=d+B*val B r;rw[<-h1,Nat.add_mul,Nat.mul_add];have:=Nat.mod_add_div ((short B b r).2*B+d) b;rw[Nat.mul_comm b] at this;rw[Nat.mul_assoc B,Nat.mul_comm B (short B b r).2];omega
theorem Lw (B b:Nat):∀ (l:List Nat),(short B b l).1.length=l.length
 | []=> rfl
 | d::r=> by show (short B b r).1.length+1=_;rw[Lw B b r];rfl
theorem Ly {B b:Nat} (hb:0 < b):∀ (l:List Nat),Dig B l->Dig B (short B b l).1
 | [],_=> Dig.nil
 | d::r,h=> by
  refine Dig.cons ?_ (Ly hb r h.tail);have h1:=(Zi hb (B:=B) r).2;have h2:=h.head;refine (Nat.div_lt_iff_lt_mul hb).2 ?_;have h3:((short B b r).2+1)*B<=b*B:=Nat.mul_le_mul_right _ h1;rw[Nat.add_mul,Nat.one_mul,Nat.mul_comm b B] at h3;omega
theorem Q4U (hb:0 < b) (l:List Nat):val B (short B b l).1=val B l / b/\(short B b l).2=val B l % b:=by
 obtain ⟨h1,h2⟩:=Zi hb (B:=B) l;rw[<-h1];constructor
 ·rw[Nat.mul_comm,Nat.mul_add_div hb,Nat.div_eq_of_lt h2,Nat.add_zero]
 ·rw[Nat.mul_comm,Nat.mul_add_mod,Nat.mod_eq_of_lt h2]
def dec (n:Nat):List UInt8:=if n=0 then [48] else (digs 10 n).reverse.map fun d=> (48+d).toUInt8
def text (z:Int):List UInt8:=if z < 0 then 45::dec z.natAbs else dec z.natAbs
end Go.Proofs.YtiecccakcenobaaGreatDoor.Zp
namespace Go.Proofs.YtiecccakcenobaaGreatDoor.Tp
open Tryz
abbrev Nm:=List UInt8
abbrev L:=List (Nm × Int)
structure T where
 l:L
 rest:Int
def look:L->Nm->Int
 | [],_=> 0
 | p::r,s=> if p.1=s then p.2 else look r s
def has:L->Nm->Bool
 | [],_=> false
 | p::r,s=> if p.1=s then true else has r s
def ins:L->Nm->Int->L
 | [],s,v=> [(s,v)]
 | p::r,s,v=> if p.1 < s then p::ins r s v else if p.1=s then (s,v)::r else (s,v)::p::r
def del:L->Nm->L
 | [],_=> []
 | p::r,s=> if p.1=s then r else p::del r s
def setz (l:L) (s:Nm) (v:Int):L:=if v=0 then del l s else ins l s v
def Rise (l:L):Prop:=l.Pairwise fun a b=> a.1 < b.1
def NonZ (l:L):Prop:=∀ p∈l,p.2≠0
theorem XW (a:Nm):¬ a < a:=List.lt_irrefl a
theorem ZE {a b c:Nm} (h:a < b) (h2:b < c):a < c:=List.lt_trans h h2
theorem ZI (a b:Nm):a < b\/a=b\/b < a:=by
 by_cases h:a < b
 ·exact Or.inl h
 ·by_cases h2:b < a
  ·exact Or.inr (Or.inr h2)
  ·exact Or.inr (Or.inl (List.le_antisymm (List.not_lt.1 h2) (List.not_lt.1 h)))
theorem XX {a b:Nm} (h:a < b):a≠b:=fun e=> XW b (e ▸ h)
theorem Q1f {a b:Nm} (h:a < b):¬ b < a:=fun h2=> XW a (ZE h h2)
theorem GS (s:Nm):look [] s=0:=rfl
theorem QX {p:Nm × Int} {r:L} {s:Nm} (h:p.1=s):look (p::r) s=p.2:=if_pos h
theorem QL {p:Nm × Int} {r:L} {s:Nm} (h:¬ p.1=s):look (p::r) s=look r s:=if_neg h
theorem Xo {l:L} {s:Nm} (h:∀ p∈l,p.1≠s):look l s=0:=by
 induction l with
 | nil=> rfl
 | cons p r ih=> rw[look,if_neg (h p eX_),ih fun q hq=> h q (eR_ _ hq)]
theorem Rise.tail {p:Nm × Int} {r:L} (h:Rise (p::r)):Rise r:=(List.pairwise_cons.1 h).2
theorem Rise.above {p:Nm × Int} {r:L} (h:Rise (p::r)):∀ q∈r,p.1 < q.1:=(List.pairwise_cons.1 h).1
theorem Rise.nil:Rise []:=List.Pairwise.nil
theorem Rise.cons {p:Nm × Int} {r:L} (h:∀ q∈r,p.1 < q.1) (hr:Rise r):Rise (p::r):=List.pairwise_cons.2 ⟨h,hr⟩
theorem NonZ.tail {p:Nm × Int} {r:L} (h:NonZ (p::r)):NonZ r:=fun q hq=> h q (eR_ _ hq)
theorem NonZ.head {p:Nm × Int} {r:L} (h:NonZ (p::r)):p.2≠0:=h p eX_
theorem NonZ.nil:NonZ []:=fun _ h=> by simp at h
theorem Q64 (l:L) (s:Nm) (v:Int) (x:Nm):look (ins l s v) x=if x=s then v else look l x:=by
 induction l with
 | nil=>
  rw[ins];by_cases h:x=s
  ·rw[QX h.symm,if_pos h]
  ·rw[QL (fun e=> h e.symm),if_neg h]
 | cons p r ih=>
  rw[ins];by_cases h1:p.1 < s
  ·rw[if_pos h1];by_cases h2:x=s
   ·subst h2;rw[QL (XX h1),ih,if_pos rfl,if_pos rfl]
   ·rw[if_neg h2];by_cases h3:p.1=x
    ·rw[QX h3,QX h3]
    ·rw[QL h3,QL h3,ih,if_neg h2]
  ·rw[if_neg h1];by_cases h2:p.1=s
   ·rw[if_pos h2];by_cases h3:x=s
    ·rw[QX h3.symm,if_pos h3]
    ·rw[QL (fun e=> h3 e.symm),if_neg h3,QL (fun e=> h3 (e.symm.trans h2))]
   ·rw[if_neg h2];by_cases h3:x=s
    ·rw[QX h3.symm,if_pos h3]
    ·rw[QL (fun e=> h3 e.symm),if_neg h3]
theorem Q0o {l:L} {s:Nm} {v:Int} {q:Nm × Int} (h:q∈ins l s v):q=(s,v)\/q∈l:=by
 induction l with
 | nil=> exact Or.inl (by simpa [ins] using h)
 | cons p r ih=>
  rw[ins] at h;split at h
  ·rcases List.mem_cons.1 h with h | h
   ·exact Or.inr (by rw[h];exact eX_)
   ·exact (ih h).imp id (eR_ _)
  ·split at h
   ·exact (List.mem_cons.1 h).imp id (eR_ _)
   ·exact List.mem_cons.1 h
theorem Q65 {l:L} (h:Rise l) (s:Nm) (v:Int):Rise (ins l s v):=by
 induction l with
 | nil=> exact Rise.cons (fun q hq=> by simp at hq) Rise.nil
 | cons p r ih=>
  rw[ins];by_cases h1:p.1 < s
  ·rw[if_pos h1];refine Rise.cons (fun q hq=> ?_) (ih h.tail);rcases Q0o hq with rfl | hq
   ·exact h1
   ·exact h.above q hq
  ·rw[if_neg h1];by_cases h2:p.1=s
   ·rw[if_pos h2];exact Rise.cons (fun q hq=> by show s < q.1;rw[<-h2];exact h.above q hq) h.tail
   ·rw[if_neg h2];have h3:s < p.1:=(ZI s p.1).elim id fun h4=> h4.elim (fun e=> absurd e.symm h2) fun e=> absurd e h1;refine Rise.cons (fun q hq=> ?_) h;rcases List.mem_cons.1 hq with rfl | hq
    ·exact h3
    ·exact ZE h3 (h.above q hq)
theorem Q0p {l:L} {s:Nm} {q:Nm × Int} (h:q∈del l s):q∈l:=by
 induction l with
 | nil=> simp[del] at h
 | cons p r ih=>
  rw[del] at h;split at h
  ·exact eR_ _ h
  ·rcases List.mem_cons.1 h with h | h
   ·rw[h];exact eX_
   ·exact eR_ _ (ih h)
theorem Q66 {l:L} (h:Rise l) (s:Nm):Rise (del l s):=by
 induction l with
 | nil=> exact Rise.nil
 | cons p r ih=>
  rw[del];split
  ·exact h.tail
  ·exact Rise.cons (fun q hq=> h.above q (Q0p hq)) (ih h.tail)
theorem Q67 {l:L} (h:Rise l) (s x:Nm):look (del l s) x=if x=s then 0 else look l x:=by
 induction l with
 | nil=> simp[del,look]
 | cons p r ih=>
  rw[del];by_cases h1:p.1=s
  ·rw[if_pos h1];by_cases h2:x=s
   ·rw[if_pos h2,Xo fun q hq=> by rw[h2, <-h1];exact (XX (h.above q hq)).symm]
   ·rw[if_neg h2,QL (fun e=> h2 (e.symm.trans h1))]
  ·rw[if_neg h1];by_cases h2:x=s
   ·rw[if_pos h2,QL (fun e=> h1 (e.trans h2)),ih h.tail,if_pos h2]
   ·rw[if_neg h2];by_cases h3:p.1=x
    ·rw[QX h3,QX h3]
    ·rw[QL h3,QL h3,ih h.tail,if_neg h2]
theorem Q4V {l:L} (h:Rise l) (s:Nm) (v:Int):Rise (setz l s v):=by
 unfold setz;split
 ·exact Q66 h s
 ·exact Q65 h s v
theorem Q4W {l:L} (h:NonZ l) (s:Nm) (v:Int):NonZ (setz l s v):=by
 unfold setz;split
 ·exact fun q hq=> h q (Q0p hq)
 ·rename_i hv;intro q hq;rcases Q0o hq with rfl | hq
  ·exact hv
  ·exact h q hq
theorem Lz {l:L} (h:Rise l) (s:Nm) (v:Int) (x:Nm):look (setz l s v) x=if x=s then v else look l x:=by
 unfold setz;split
 ·rename_i hv;rw[Q67 h,hv]
 ·exact Q64 l s v x
theorem ext:∀ {l m:L},Rise l->Rise m->NonZ l->NonZ m->(∀ s,look l s=look m s)->l=m
 | [], [],_,_,_,_,_=> rfl
 | [],q::m,_,_,_,hz,h=> absurd ((h q.1).symm.trans (GS _)) (by rw[QX rfl];exact hz.head)
 | p::l, [],_,_,hz,_,h=> absurd ((h p.1).trans (GS _)) (by rw[QX rfl];exact hz.head)
 | p::l,q::m,h1,h2,z1,z2,h=> by
  rcases ZI p.1 q.1 with hl | he | hl
  ·have h3:=h p.1;rw[QX rfl,Xo (l:=q::m) fun x hx=> ?_] at h3
   ·exact absurd h3 z1.head
   ·rcases List.mem_cons.1 hx with rfl | hx
    ·exact (XX hl).symm
    ·exact (XX (ZE hl (h2.above x hx))).symm
  ·have h3:=h p.1;rw[QX rfl,QX he.symm] at h3;have h4:l=m:=ext h1.tail h2.tail z1.tail z2.tail fun s=> by
    by_cases hs:p.1=s
    ·rw[Xo fun x hx=> by rw[<-hs];exact (XX (h1.above x hx)).symm,Xo fun x hx=> by rw[<-hs,he];exact (XX (h2.above x hx)).symm]
    ·have h5:=h s;rw[QL hs,QL (he ▸ hs)] at h5;exact h5
   rw[h4,show p=q from Prod.ext he h3]
  ·have h3:=h q.1;rw[Xo (l:=p::l) fun x hx=> ?_,QX rfl] at h3
   ·exact absurd h3.symm z2.head
   ·rcases List.mem_cons.1 hx with rfl | hx
    ·exact (XX hl).symm
    ·exact (XX (ZE hl (h1.above x hx))).symm
def addGo (n:Int) (l:L) (p:Nm × Int):L:=setz l p.1 (look l p.1+p.2*n)
def addL (n:Int) (l u:L):L:=u.foldl (addGo n) l
def add (t u:T) (n:Int):T:=⟨addL n t.l u.l,t.rest+u.rest*n⟩
structure Ok (l:L):Prop where
 rise:Rise l
 nonz:NonZ l
theorem Ok.nil:Ok []:=⟨Rise.nil,NonZ.nil⟩
theorem Ok.setz {l:L} (h:Ok l) (s:Nm) (v:Int):Ok (setz l s v):=⟨Q4V h.rise s v,Q4W h.nonz s v⟩
theorem Ok.one (s:Nm) {v:Int} (h:v≠0):Ok [(s,v)]:=⟨Rise.cons (fun q hq=> by simp at hq) Rise.nil,fun q hq=> by rw[List.mem_singleton.1 hq];exact h⟩
theorem Zj (n:Int):∀ (u:L) {l:L},Ok l->Ok (addL n l u)
 | [],_,h=> h
 | p::u,_,h=> Zj n u (h.setz p.1 _)
theorem UF (n:Int) (x:Nm):∀ (u:L) {l:L},Ok l->Rise u->look (addL n l u) x=look l x+look u x*n
 | [],l,_,_=> by simp[addL,look]
 | p::u,l,h,hu=> by
  show look (addL n (addGo n l p) u) x=_;have h5:Ok (addGo n l p):=h.setz p.1 _;rw[UF n x u h5 hu.tail,addGo,Lz h.rise];by_cases hx:x=p.1
  ·subst hx;rw[if_pos rfl,QX rfl,Xo (l:=u) fun q hq=> (XX (hu.above q hq)).symm];omega
  ·rw[if_neg hx,QL (fun e=> hx e.symm)]
def wz (p:Nm × Int) (l:L):L:=if p.2=0 then l else p::l
def merge (n:Int):L->L->L
 | [], []=> []
 | p::t, []=> wz p (merge n t [])
 | [],q::u=> wz (q.1,q.2*n) (merge n [] u)
 | p::t,q::u=> if p.1 < q.1 then wz p (merge n t (q::u)) else if q.1 < p.1 then wz (q.1,q.2*n) (merge n (p::t) u) else wz (p.1,p.2+q.2*n) (merge n t u)
termination_by t u=> t.length+u.length
theorem GT {p q:Nm × Int} {l:L} (h:q∈wz p l):q=p\/q∈l:=by
 unfold wz at h;split at h
 ·exact Or.inr h
 ·exact List.mem_cons.1 h
theorem Ok.wz {p:Nm × Int} {l:L} (h:Ok l) (ha:∀ q∈l,p.1 < q.1):Ok (wz p l):=by
 unfold Tp.wz;split
 ·exact h
 ·rename_i hp;exact ⟨Rise.cons ha h.rise,fun q hq=> by
   rcases List.mem_cons.1 hq with rfl | hq
   ·exact hp
   ·exact h.nonz q hq⟩
theorem JX {p:Nm × Int} {l:L} (ha:∀ q∈l,p.1 < q.1) (x:Nm):look (wz p l) x=if p.1=x then p.2 else look l x:=by
 unfold wz;split
 ·rename_i hp;by_cases hx:p.1=x
  ·rw[if_pos hx,hp,Xo fun q hq=> by rw[<-hx];exact (XX (ha q hq)).symm]
  ·rw[if_neg hx]
 ·rfl
theorem Q2V (n:Int) (t u:L) (ht:Rise t) (hu:Rise u):
  Ok (merge n t u)/\(∀ q∈merge n t u,(∃ p∈t,p.1=q.1)\/∃ p∈u,p.1=q.1)/\∀ x,look (merge n t u) x=look t x+look u x*n:=by
 fun_induction merge n t u with
 | case1=> exact ⟨Ok.nil,fun q hq=> by simp at hq,fun x=> by simp[look]⟩
 | case2 p t ih=>
  obtain ⟨h1,h2,h3⟩:=ih ht.tail Rise.nil;have ha:∀ q∈merge n t [],p.1 < q.1:=fun q hq=> by
   rcases h2 q hq with ⟨r,hr,e⟩ | ⟨r,hr,e⟩
   ·rw[<-e];exact ht.above r hr
   ·simp at hr
  refine ⟨h1.wz ha,fun q hq=> ?_,fun x=> ?_⟩
  ·rcases GT hq with rfl | hq
   ·exact Or.inl ⟨q,eX_,rfl⟩
   ·exact (h2 q hq).imp (fun ⟨r,hr,e⟩=> ⟨r,eR_ _ hr,e⟩) id
  ·rw[JX ha,h3];by_cases hx:p.1=x
   ·rw[if_pos hx,QX hx];simp[look]
   ·rw[if_neg hx,QL hx]
 | case3 q u ih=>
  obtain ⟨h1,h2,h3⟩:=ih Rise.nil hu.tail;have ha:∀ r∈merge n [] u,(q.1,q.2*n).1 < r.1:=fun r hr=> by
   rcases h2 r hr with ⟨p,hp,e⟩ | ⟨p,hp,e⟩
   ·simp at hp
   ·rw[<-e];exact hu.above p hp
  refine ⟨h1.wz ha,fun r hr=> ?_,fun x=> ?_⟩
  ·rcases GT hr with rfl | hr
   ·exact Or.inr ⟨q,eX_,rfl⟩
   ·exact (h2 r hr).imp id (fun ⟨p,hp,e⟩=> ⟨p,eR_ _ hp,e⟩)
  ·rw[JX ha,h3];show (if q.1=x then q.2*n else _)=look [] x+(if q.1=x then q.2 else look u x)*n;by_cases hx:q.1=x
   ·rw[if_pos hx,if_pos hx];simp[look]
   ·rw[if_neg hx,if_neg hx]
 | case4 p t q u hl ih=>
  obtain ⟨h1,h2,h3⟩:=ih ht.tail hu;have ha:∀ r∈merge n t (q::u),p.1 < r.1:=fun r hr=> by
   rcases h2 r hr with ⟨p',hp,e⟩ | ⟨p',hp,e⟩
   ·rw[<-e];exact ht.above p' hp
   ·rw[<-e];rcases List.mem_cons.1 hp with rfl | hp
    ·exact hl
    ·exact ZE hl (hu.above p' hp)
  refine ⟨h1.wz ha,fun r hr=> ?_,fun x=> ?_⟩
  ·rcases GT hr with rfl | hr
   ·exact Or.inl ⟨r,eX_,rfl⟩
   ·exact (h2 r hr).imp (fun ⟨p',hp,e⟩=> ⟨p',eR_ _ hp,e⟩) id
  ·rw[JX ha,h3];by_cases hx:p.1=x
   ·rw[if_pos hx,QX hx,Xo (l:=q::u) fun r hr=> ?_]
    ·omega
    ·rw[<-hx];rcases List.mem_cons.1 hr with rfl | hr
     ·exact (XX hl).symm
     ·exact (XX (ZE hl (hu.above r hr))).symm
   ·rw[if_neg hx,QL hx]
 | case5 p t q u hl hl2 ih=>
  obtain ⟨h1,h2,h3⟩:=ih ht hu.tail;have ha:∀ r∈merge n (p::t) u,(q.1,q.2*n).1 < r.1:=fun r hr=> by
   rcases h2 r hr with ⟨p',hp,e⟩ | ⟨p',hp,e⟩
   ·rw[<-e];rcases List.mem_cons.1 hp with rfl | hp
    ·exact hl2
    ·exact ZE hl2 (ht.above p' hp)
   ·rw[<-e];exact hu.above p' hp
  refine ⟨h1.wz ha,fun r hr=> ?_,fun x=> ?_⟩
  ·rcases GT hr with rfl | hr
   ·exact Or.inr ⟨q,eX_,rfl⟩
   ·exact (h2 r hr).imp id (fun ⟨p',hp,e⟩=> ⟨p',eR_ _ hp,e⟩)
  ·rw[JX ha,h3];show (if q.1=x then q.2*n else _)=look (p::t) x+(if q.1=x then q.2 else look u x)*n;by_cases hx:q.1=x
   ·rw[if_pos hx,if_pos hx,Xo (l:=p::t) fun r hr=> ?_]
    ·omega
    ·rw[<-hx];rcases List.mem_cons.1 hr with rfl | hr
     ·exact (XX hl2).symm
     ·exact (XX (ZE hl2 (ht.above r hr))).symm
   ·rw[if_neg hx,if_neg hx]
 | case6 p t q u hl hl2 ih=>
  obtain ⟨h1,h2,h3⟩:=ih ht.tail hu.tail;have he:p.1=q.1:=(ZI p.1 q.1).elim (fun h=> absurd h hl) fun h=> h.elim id fun h=> absurd h hl2;have ha:∀ r∈merge n t u,(p.1,p.2+q.2*n).1 < r.1:=fun r hr=> by
   rcases h2 r hr with ⟨p',hp,e⟩ | ⟨p',hp,e⟩
   ·rw[<-e];exact ht.above p' hp
   ·rw[<-e];show p.1 < _;rw[he];exact hu.above p' hp
  refine ⟨h1.wz ha,fun r hr=> ?_,fun x=> ?_⟩
  ·rcases GT hr with rfl | hr
   ·exact Or.inl ⟨p,eX_,rfl⟩
   ·exact (h2 r hr).imp (fun ⟨p',hp,e⟩=> ⟨p',eR_ _ hp,e⟩) (fun ⟨p',hp,e⟩=> ⟨p',eR_ _ hp,e⟩)
  ·rw[JX ha,h3];show (if p.1=x then p.2+q.2*n else _)=(if p.1=x then p.2 else look t x)+(if q.1=x then q.2 else look u x)*n;rw[<-he];by_cases hx:p.1=x
   ·rw[if_pos hx,if_pos hx,if_pos hx]
   ·rw[if_neg hx,if_neg hx,if_neg hx]
theorem Q2W (n:Int) {t u:L} (ht:Ok t) (hu:Rise u):addL n t u=merge n t u:=by
 obtain ⟨h1,_,h3⟩:=Q2V n t u ht.rise hu;have h4:=Zj n u ht;exact ext h4.rise h1.rise h4.nonz h1.nonz fun s=> by rw[UF n s u ht hu,h3]
def text (t:T):List UInt8:=(t.l.flatMap fun p=> Zp.text p.2++([42]++(p.1++ [43])))++Zp.text t.rest
def name (s:Nm):T:=⟨[(s,1)],0⟩
end Go.Proofs.YtiecccakcenobaaGreatDoor.Tp
namespace Go.Proofs.YtiecccakcenobaaGreatDoor.Tp
open Tryz
theorem Q4X {l:L} (h:Ok l) (s:Nm):setz l s (look l s)=l:=
 ext (h.setz s _).rise h.rise (h.setz s _).nonz h.nonz fun x=> by
  rw[Lz h.rise];split
  ·rename_i e;rw[e]
  ·rfl
def zero:T:=⟨[],0⟩
theorem Q68 {t:T} (h:Ok t.l) (s:Nm) (n:Int):add t (add zero (name s) n) 1=add t (name s) n:=by
 simp only[add,zero,name,addL,List.foldl_cons,List.foldl_nil,addGo,GS,Int.zero_add,Int.one_mul,Int.zero_mul,Int.add_zero];by_cases hn:n=0
 ·subst hn;simp only[setz,if_true,del,List.foldl_nil,Int.add_zero];congr 1;exact (Q4X h s).symm
 ·simp only[setz,if_neg hn,ins,List.foldl_cons,List.foldl_nil,addGo,Int.mul_one]
def sum (t:T) (ps:List (Nm × Int)):T:=ps.foldl (fun t p=> add t (name p.1) p.2) t
theorem ZJ {t:T} (h:Ok t.l) (u:T) (n:Int):Ok (add t u n).l:=Zj n u.l h
theorem Q69:∀ (ps:List (Nm × Int)) {t:T},Ok t.l->Ok (sum t ps).l
 | [],_,h=> h
 | p::r,_,h=> Q69 r (ZJ h _ _)
theorem JG {k:Nm}:∀ {a b:L},(∀ p∈a,p.1 < k)->look (a++b) k=look b k
 | [],_,_=> rfl
 | p::r,b,h=> by
  rw[List.cons_append,QL (XX (h p eX_))];exact JG fun q hq=> h q (eR_ _ hq)
theorem UG {k:Nm}:∀ {a b:L},(∀ p∈a,p.1 < k)->has (a++b) k=has b k
 | [],_,_=> rfl
 | p::r,b,h=> by
  rw[List.cons_append,has,if_neg (XX (h p eX_))];exact UG fun q hq=> h q (eR_ _ hq)
theorem J9 {k:Nm} {v:Int}:∀ {a b:L},(∀ p∈a,p.1 < k)->ins (a++b) k v=a++ins b k v
 | [],_,_=> rfl
 | p::r,b,h=> by
  rw[List.cons_append,ins,if_pos (h p eX_),List.cons_append];rw[J9 fun q hq=> h q (eR_ _ hq)]
theorem UH {k:Nm}:∀ {a b:L},(∀ p∈a,p.1 < k)->del (a++b) k=a++del b k
 | [],_,_=> rfl
 | p::r,b,h=> by
  rw[List.cons_append,del,if_neg (XX (h p eX_)),List.cons_append];rw[UH fun q hq=> h q (eR_ _ hq)]
theorem GU {k:Nm} {p:Nm × Int} {r:L} (h:Rise (p::r)) (hp:¬ p.1 < k):has (p::r) k=decide (p.1=k):=by
 by_cases e:p.1=k
 ·rw[has,if_pos e];simp[e]
 ·rw[has,if_neg e];have hk:k < p.1:=((ZI p.1 k).resolve_left hp).resolve_left e;have:∀ {l:L},(∀ q∈l,k < q.1)->has l k=false:=by
   intro l
   induction l with
   | nil=> intro _;rfl
   | cons q l ih=>
    intro hl;rw[has,if_neg (XX (hl q eX_)).symm];exact ih fun x hx=> hl x (eR_ _ hx)
  rw[this fun q hq=> ZE hk (h.above q hq)];simp[e]
theorem Rise.drop {l:L} (h:Rise l) (i:Nat):Rise (l.drop i):=List.Pairwise.sublist (List.drop_sublist i l) h
structure At (l:L) (k:Nm) (i:Nat):Prop where
 le:i<=l.length
 low:∀ p∈l.take i,p.1 < k
 high:∀ p∈l.drop i,¬ p.1 < k
theorem At.has {l:L} (hr:Rise l) {k:Nm} {i:Nat} (h:At l k i):Tp.has l k=decide (∃ p,l[i]? =some p/\p.1=k):=by
 conv=> lhs;rw[<-eW_ i l]
 rw[UG h.low];have hd:=hr.drop i;have hh:=h.high;have he:l[i]? =(l.drop i).head? :=by rw[List.head?_drop]
 rw[he];cases hl:l.drop i with
 | nil=> simp[Tp.has]
 | cons p r=>
  rw[hl] at hd hh;rw[GU hd (hh p eX_)];simp
theorem At.hit {l:L} {k:Nm} {i:Nat} (h:At l k i) {p:Nm × Int} (hp:l[i]? =some p) (e:p.1=k):look l k=p.2/\(∀ v,ins l k v=l.set i (k,v))/\del l k=l.eraseIdx i:=by
 have hi:i < l.length:=by
  rcases eS_ i l.length with h | h
  ·exact h
  ·rw[List.getElem?_eq_none h] at hp;cases hp
 have hg:l[i]=p:=by rw[eA_ hi] at hp;exact Option.some.inj hp
 have hd:l.drop i=p::l.drop (i+1):=by rw[List.drop_eq_getElem_cons hi,hg]
 have hs:l=l.take i++p::l.drop (i+1):=by rw[<-hd,eW_]
 have hn:¬ p.1 < k:=h.high p (by rw[hd];exact eX_);refine ⟨?_,fun v=> ?_,?_⟩
 ·conv=> lhs;rw[hs]
  rw[JG h.low,QX e]
 ·conv=> lhs;rw[hs]
  rw[J9 h.low,ins,if_neg hn,if_pos e,List.set_eq_take_append_cons_drop,if_pos hi]
 ·conv=> lhs;rw[hs]
  rw[UH h.low,del,if_pos e,List.eraseIdx_eq_take_drop_succ]
theorem At.miss {l:L} (hr:Rise l) {k:Nm} {i:Nat} (h:At l k i) (hm:Tp.has l k=false):look l k=0/\(∀ v,ins l k v=l.take i++(k,v)::l.drop i)/\del l k=l:=by
 have hd:=hr.drop i;have hh:=h.high;have hb:look (l.drop i) k=0/\(∀ v,ins (l.drop i) k v=(k,v)::l.drop i)/\del (l.drop i) k=l.drop i:=by
  have hm2:Tp.has (l.drop i) k=false:=by rw[<-hm];conv=> rhs;rw[<-eW_ i l,UG h.low]
  cases hl:l.drop i with
  | nil=> exact ⟨rfl,fun v=> rfl,rfl⟩
  | cons p r=>
   rw[hl] at hd hh hm2;have hn:=hh p eX_;rw[GU hd hn] at hm2;have e:¬ p.1=k:=(by simpa using hm2);have hk:k < p.1:=((ZI p.1 k).resolve_left hn).resolve_left e;have hne:∀ q∈p::r,q.1≠k:=by
    intro q hq;rcases List.mem_cons.1 hq with rfl | hq
    ·exact e
    ·exact fun e2=> XW k (by have h3:=ZE hk (hd.above q hq);rw[e2] at h3;exact h3)
   refine ⟨Xo hne,fun v=> by rw[ins,if_neg hn,if_neg e],?_⟩;have:∀ {m:L},(∀ q∈m,q.1≠k)->del m k=m:=by
    intro m
    induction m with
    | nil=> intro _;rfl
    | cons q m ih=>
     intro hm;rw[del,if_neg (hm q eX_),ih fun x hx=> hm x (eR_ _ hx)]
   exact this hne
 refine ⟨?_,fun v=> ?_,?_⟩
 ·rw[<-hb.1];conv=> lhs;rw[<-eW_ i l,JG h.low]
 ·conv=> lhs;rw[<-eW_ i l,J9 h.low,hb.2.1]
 ·conv=> lhs;rw[<-eW_ i l,UH h.low,hb.2.2,eW_]
end Go.Proofs.YtiecccakcenobaaGreatDoor.Tp
namespace Go.Proofs.YtiecccakcenobaaGreatDoor.Lx
open Tryz
def letter (c:UInt8):Bool:=(97<=c && c<=122) || (65<=c && c<=90)
def digit (c:UInt8):Bool:=48<=c && c<=57
def inside (c:UInt8):Bool:=letter c || digit c || c==95
def blank (c:UInt8):Bool:=c==32 || c==9 || c==13 || c==10
def line (l:List UInt8):List UInt8:=l.dropWhile fun c=> c !=10
def rest:Nat->List UInt8->List UInt8
 | 0,l=> l
 | n+1,l=>
  match l.dropWhile blank with
  | 45::45::r=> rest n (line r)
  | r=> r
theorem XJ {α:Type} (p:α->Bool) (l:List α):(l.dropWhile p).length<=l.length:=by
 induction l with
 | nil=> simp
 | cons x l ih=>
  simp only[List.dropWhile_cons];split
  ·simp only[eL_];omega
  ·simp
theorem Jq {α:Type} (p:α->Bool) (l:List α):(l.takeWhile p).length<=l.length:=by
 induction l with
 | nil=> simp
 | cons x l ih=>
  simp only[List.takeWhile_cons];split
  ·simp only[eL_];omega
  ·simp
theorem rest_len:∀ (n:Nat) (l:List UInt8),(rest n l).length<=l.length
 | 0,_=> rl_ _
 | n+1,l=> by
  have h1:=XJ blank l;unfold rest;split
  ·rename_i r h;have h2:=rest_len n (line r);have h3:=XJ (fun c:UInt8=> c !=10) r;rw[h] at h1;simp only[eL_] at h1;unfold line at h2;unfold line;omega
  ·exact h1
theorem LA:∀ (n m:Nat) (l:List UInt8),l.length < n->l.length < m->rest n l=rest m l
 | 0,_,_,h,_=> absurd h (by omega)
 | _,0,_,_,h=> absurd h (by omega)
 | n+1,m+1,l,h1,h2=> by
  have h:=XJ blank l;unfold rest;split
  ·rename_i r hr;have h3:=XJ (fun c:UInt8=> c !=10) r;rw[hr] at h;simp only[eL_] at h;exact LA n m (line r) (by unfold line;omega) (by unfold line;omega)
  ·rfl
def between (l:List UInt8):List UInt8:=l.take (l.length - (rest (l.length+1) l).length)
def keyList:List (List UInt8):= [[97,115,115,101,114,116], [98,111,111,108], [101,108,115,101], [102,97,108,115,101], [102,117,110], [105,102], [105,109,112,111,114,116], [105,110], [105,110,116], [108,101,116], [110,111,116], [112,117,98], [114,101,115], [116,104,101,110], [116,114,117,101]]
def signList:List (List UInt8):= [[60,62], [60,61], [62,61], [38,38], [124,124], [61,62], [40], [41], [123], [125], [44], [58], [59], [46], [43], [45], [42], [47], [37], [61], [60], [62]]
def isKey (w:List UInt8):Bool:=keyList.contains w
def word (l:List UInt8):Nat × List UInt8 × Nat:=
 if 40 < (l.takeWhile inside).length then (0, [],20) else if isKey (l.takeWhile inside) then (2,l.takeWhile inside,0) else (1,l.takeWhile inside,0)
def number (l:List UInt8):Nat × List UInt8 × Nat:=
 if 60 < (l.takeWhile digit).length\/(1 < (l.takeWhile digit).length/\l.head? =some 48) then (0, [],21) else (3,l.takeWhile digit,0)
def token (l:List UInt8):Nat × List UInt8 × Nat:=
 match l with
 | []=> (5, [],0)
 | c::t=>
  if letter c then word (c::t) else if digit c then number (c::t) else
  match signList.find? (fun x=> x.isPrefixOf (c::t)) with
  | some x=> (4,x,0)
  | none=> (0, [],20)
structure Tok where
 kind:Nat
 lead:List UInt8
 text:List UInt8
 pos:Nat
def lexGo:Nat->List UInt8->Nat->List Tok->List Tok × Nat × Nat
 | 0,_,_,_=> ([],0,0)
 | n+1,r,pos,acc=>
  let lead:=between r;let p:=pos+lead.length;let r1:=r.drop lead.length;let t:=token r1
  if t.2.2≠0 then ([],t.2.2,p) else
  if t.1=5 then (acc++ [⟨t.1,lead,t.2.1,p⟩],0,0) else
  lexGo n (r1.drop t.2.1.length) (p+t.2.1.length) (acc++ [⟨t.1,lead,t.2.1,p⟩])
def lex (l:List UInt8):List Tok × Nat × Nat:=if 65536 < l.length then ([],11,0) else lexGo (l.length+1) l 0 []
end Go.Proofs.YtiecccakcenobaaGreatDoor.Lx
namespace Go.Proofs.YtiecccakcenobaaGreatDoor.Tr
open Tryz
structure Tk where
 kind:Int
 lead:List UInt8
 text:List UInt8
 pos:Int
structure Nd where
 kind:Int
 tok:Int
 kids:List Int
structure T where
 toks:List Tk
 nodes:List Nd
def root (t:T):Int:=(t.nodes.length:Int) - 1
def formed (t:T) (i:Nat) (n:Nd):Bool:=
 if n.kind < 1\/19 < n.kind then false
 else if n.kind=19 then n.kids.isEmpty && decide (0<=n.tok) && decide (n.tok < (t.toks.length:Int))
 else decide (n.tok=-1) && !(n.kids.any fun k=> decide (k < 0) || decide ((i:Int)<=k))
end Go.Proofs.YtiecccakcenobaaGreatDoor.Tr
namespace Go.Proofs.YtiecccakcenobaaGreatDoor
open Tryz
open Go.RowKit
variable {a:Act} {ops:Array Oper} {vs:Array Value} {Q:Exit->Act->World->Prop} {xs:List Value} {B g j n off s:Nat} {P:Nat->Prop} {o:Oper} {e:TypeId} {v:Value} {b w w' w1:World}
theorem XY {P:Program} {rest:List Oper} (hgd:o.guard=none) (s x:Operand) (t:TypeId)
  (ho:o.op= .call {callee:= .builtin .append,args:= #[s,x],argTypes:= #[t,t]})
  (base:Nat) (e T:TypeId) (i:TypeInfo) (z:Value) (size bytes:Nat) (ht:P.underlying t=some (.slice e)) (hi:P.info? e=some i) (hz:i.zero=some z)
  (hsize:i.size=size) (hby:i.bytes=bytes) (hzs:z.cells.size=size) (hsz:0 < size)
  (v:Value) (n:Nat) (xs:List Value) (hs:a.eval s=v) (hown:w1.ownsRow base e size v n xs)
  (c:Nat) (news:List Value) (hx:a.eval x= .slice (some ⟨w1.heap.size,0,none⟩) 1 c) (hl:news.length=size) (h1:∀ u∈news,u.oneCell'=true)
  (hn:n<=1073741824) (hb:bytes<=4096) (hbase:base<=w1.heap.size)
  (h:∀ v' w',w'.ownsRow base e size v' (n+1) (xs++news)->(w1.alloc (.cells news.toArray T)).grownBy w' v.ownBlock->wpList P ops Q rest (a.put o.dst v') w'):
  wpList P ops Q (o::rest) a (w1.alloc (.cells news.toArray T)):=by
 refine wpList_append_own _ hgd s x t ho base e i z size bytes ht hi hz hsize hby hzs hsz v n xs hs (hown.alloc _) ⟨w1.heap.size,0,none⟩ 1 c news hx (by omega) ?_ h1 (by unfold maxLen;omega) ?_ ?_ (fun v' w' h2 h3 _=> h v' w' h2 h3)
 ·intro j u hj;have e:(⟨w1.heap.size,0,none⟩:Addr).add j=⟨w1.heap.size,j,none⟩:=by
   unfold Addr.add;split <;> simp_all
  rw[e];unfold World.cell?;simp only;rw[eD_];simpa using hj
 ·calc (n+1)*bytes<=1073741825*4096:=Nat.mul_le_mul (by omega) hb
   _<=140737488355328:=by decide
 ·simp only[World.size_alloc];omega
theorem Q2X (w:World) (zs vs:Array Value) (T:TypeId):(w.alloc (.cells zs T)).setRow w.heap.size vs=w.alloc (.cells vs T):=by
 simp only[World.setRow,World.alloc];congr 1;apply Array.ext_getElem?;intro i;simp only[Array.getElem?_modify,Array.getElem?_push];by_cases h:w.heap.size=i
 ·subst h;simp
 ·simp[h,Ne.symm h]
theorem Qa {P:Program} {rest:List Oper} (hgd:o.guard=none) (ty:TypeId) (x v:Operand) (ho:o.op= .store ty x v)
  (T:TypeId) (zs vs:Array Value) (hx:a.eval x= .pointer (some ⟨w1.heap.size,0,none⟩)) (hv:a.eval v= .agg vs) (hz:zs.size=vs.size) (hi:(P.info? ty).map (·.size)=some vs.size) (h1:∀ u∈vs.toList,u.oneCell'=true)
  (h:wpList P ops Q rest (a.put o.dst undef) (w1.alloc (.cells vs T))):wpList P ops Q (o::rest) a (w1.alloc (.cells zs T)):=by
 refine wpList_plain hgd fun K hK=> ?_;have hst:=run_storeCells_at (P:=P) w1.heap.size 0 T vs.toList 0 zs (w1.alloc (.cells zs T)) (eD_ _ _) (by simp;omega) h1;have e:(zs.toList.take (0+0)++vs.toList++zs.toList.drop (0+0+vs.toList.length)).toArray=vs:=by
  have hd:zs.toList.drop (0+0+vs.toList.length)= []:=List.drop_eq_nil_of_le (by simp;omega);rw[hd];simp
 rw[e,Q2X] at hst;cases hq:P.info? ty with
 | none=> simp[hq] at hi
 | some i=>
  have hs:i.size=vs.size:=by simpa [hq] using hi
  unfold Oper.wp execOp;simp only[ho,hx,hv,Instr.storeAt,Instr.sureAddr,Sem.run_bind,Sem.run_pure,Result.andThen_ok,storeVar,sizeOf,typeInfo,Value.cells];simp[hq,hs,hst];exact hK _ _ h
theorem JY {P:Program} {rest:List Oper} (hgd:o.guard=none) (ty:TypeId) (x v:Operand) (ho:o.op= .store ty x v)
  (T:TypeId) (r:Nat) (zs vs:Array Value) (hx:a.eval x= .pointer (some ⟨r,0,none⟩)) (hr:r=w1.heap.size) (hv:a.eval v= .agg vs) (hz:zs.size=vs.size) (hi:(P.info? ty).map (·.size)=some vs.size) (h1:∀ u∈vs.toList,u.oneCell'=true)
  (h:wpList P ops Q rest (a.put o.dst undef) (w1.alloc (.cells vs T))):wpList P ops Q (o::rest) a (w1.alloc (.cells zs T)):=
 Qa hgd ty x v ho T zs vs (hr ▸ hx) hv hz hi h1 h
theorem Q5 (w:World) (o:Obj):w.heap.size+1=(w.alloc o).heap.size:=(Array.size_push (xs:=w.heap) o).symm
theorem Yn {P:Program} {fn:Func} {u p:Tmp} {ty:TypeId} (h:fn.results= #[.tmp u,.cell p ty]) (tmps:Array Value) (w:World) (g:Nat) (t:TypeId) (cs:Array Value) (fr:Nat × Nat) (d:TypeDesc)
  (hp:tmps.getD p undef= .pointer (some ⟨g,0,none⟩)) (hg:w.heap[g]? =some (.cells cs t fr))
  (hu:P.underlying ty=some d) (hd:(match d with | .struct _ | .array _ _=> true | _=> false)=true) (hi:(P.info? ty).map (·.size)=some cs.size):
  (results fn tmps).run P w= .ok (.tuple #[tmps.getD u undef,.agg cs]) w:=by
 have hp':tmps[p]?.getD undef= .pointer (some ⟨g,0,none⟩):=by simpa using hp
 simp[results,h,hp',asAddr,run_loadVar_row w g t ty cs fr d hg hu hd hi]
theorem Qc {P:Program} {rest:List Oper} (hgd:o.guard=none) (ty:TypeId) (x v:Operand) (ho:o.op= .store ty x v)
  (T:TypeId) (g:Nat) (zs vs:Array Value) (hx:a.eval x= .pointer (some ⟨g,0,none⟩)) (hg:w1.heap[g]? =some (.cells zs T (0,0))) (hv:a.eval v= .agg vs) (hz:zs.size=vs.size) (hi:(P.info? ty).map (·.size)=some vs.size) (h1:∀ u∈vs.toList,u.oneCell'=true)
  (h:wpList P ops Q rest (a.put o.dst undef) (w1.setRow g vs)):wpList P ops Q (o::rest) a w1:=by
 refine wpList_plain hgd fun K hK=> ?_;have hst:=run_storeCells_at (P:=P) g 0 T vs.toList 0 zs w1 hg (by simp;omega) h1;have e:(zs.toList.take (0+0)++vs.toList++zs.toList.drop (0+0+vs.toList.length)).toArray=vs:=by
  have hd:zs.toList.drop (0+0+vs.toList.length)= []:=List.drop_eq_nil_of_le (by simp;omega);rw[hd];simp
 rw[e] at hst;cases hq:P.info? ty with
 | none=> simp[hq] at hi
 | some i=>
  have hs:i.size=vs.size:=by simpa [hq] using hi
  unfold Oper.wp execOp;simp only[ho,hx,hv,Instr.storeAt,Instr.sureAddr,Sem.run_bind,Sem.run_pure,Result.andThen_ok,storeVar,sizeOf,typeInfo,Value.cells];simp[hq,hs,hst];exact hK _ _ h
theorem Qb {zs:Array Value} {T:TypeId} (hg:w.heap[g]? =some (.cells zs T (0,0))):(w.setRow g vs).heap[g]? =some (.cells vs T (0,0)):=setRow_heap w g zs vs T (0,0) hg
theorem Q8 {k:Nat} (h:k≠g):(w.setRow g vs).heap[k]? =w.heap[k]? :=by
 simp only[World.setRow,Array.getElem?_modify];rw[if_neg (by omega)]
theorem Q9 {a:World} (h:Below B a w) {g:Nat} (hg:B<=g) (vs:Array Value):Below B a (w.setRow g vs):=
 h.trans ⟨rfl,rfl,rfl,by simp[World.setRow],fun k hk=> Q8 (by omega)⟩
theorem GV {base:Nat} {size:Nat} (h:w.ownsRow base e size v n xs) {g:Nat} (ha:g < base) (vs:Array Value):(w.setRow g vs).ownsRow base e size v n xs:=by
 obtain ⟨h1,h2⟩:=h;refine ⟨h1,?_⟩;rcases h2 with h2 | ⟨k,cap,cur,hv,hg,hh,r⟩
 ·exact Or.inl h2
 ·exact Or.inr ⟨k,cap,cur,hv,hg,by rw[Q8 (by omega)];exact hh,r⟩
theorem Qz {base:Nat} {size:Nat} (h:w.ownsRow base e size v n xs) (hb:Below w.heap.size w w'):w'.ownsRow base e size v n xs:=by
 obtain ⟨h1,h2⟩:=h;refine ⟨h1,?_⟩;rcases h2 with h2 | ⟨k,cap,cur,hv,hg,hh,r⟩
 ·exact Or.inl h2
 ·have hlt:k < w.heap.size:=by
   rcases eS_ k w.heap.size with h | h
   ·exact h
   ·rw[Array.getElem?_eq_none h] at hh;cases hh
  exact Or.inr ⟨k,cap,cur,hv,hg,by rw[hb.block k hlt];exact hh,r⟩
theorem Ge {base base':Nat} {size:Nat} (h:w.ownsRow base e size v n xs) (hb:base'<=base):w.ownsRow base' e size v n xs:=by
 obtain ⟨h1,h2⟩:=h;refine ⟨h1,?_⟩;rcases h2 with h2 | ⟨k,cap,cur,hv,hg,r⟩
 ·exact Or.inl h2
 ·exact Or.inr ⟨k,cap,cur,hv,eE_ hb hg,r⟩
theorem Yz {P:Program} {rest:List Oper} (hgd:o.guard=none) (s x:Operand) (t:TypeId)
  (ho:o.op= .call {callee:= .builtin .append,args:= #[s,x],argTypes:= #[t,t]})
  (base:Nat) (e T:TypeId) (i:TypeInfo) (z:Value) (size bytes:Nat) (ht:P.underlying t=some (.slice e)) (hi:P.info? e=some i) (hz:i.zero=some z)
  (hsize:i.size=size) (hby:i.bytes=bytes) (hzs:z.cells.size=size) (hsz:0 < size)
  (v:Value) (n:Nat) (xs:List Value) (hs:a.eval s=v) (hown:w1.ownsRow base e size v n xs)
  (r c:Nat) (news:List Value) (hx:a.eval x= .slice (some ⟨r,0,none⟩) 1 c) (hr:r=w1.heap.size) (hl:news.length=size) (h1:∀ u∈news,u.oneCell'=true)
  (hn:n<=1073741824) (hb:bytes<=4096) (hbase:base<=w1.heap.size)
  (h:∀ v' w',w'.ownsRow base e size v' (n+1) (xs++news)->(w1.alloc (.cells news.toArray T)).grownBy w' v.ownBlock->wpList P ops Q rest (a.put o.dst v') w'):
  wpList P ops Q (o::rest) a (w1.alloc (.cells news.toArray T)):=
 XY hgd s x t ho base e T i z size bytes ht hi hz hsize hby hzs hsz v n xs hs hown c news (hr ▸ hx) hl h1 hn hb hbase h
def RdS (w:World) (P:Nat->Prop) (size:Nat) (v:Value) (n:Nat) (xs:List Value):Prop:=
 xs.length=n*size/\∃ a c,v= .slice a n c/\n<=c/\((a=none/\n=0)\/∃ b off,a=some ⟨b,off,none⟩/\(n=0\/P b)/\w.rangeAt b off xs)
def Keeps (P:Nat->Prop) (w w':World):Prop:=∀ k,P k->w'.heap[k]? =w.heap[k]?
theorem Keeps.refl (P:Nat->Prop) (w:World):Keeps P w w:=fun _ _=> rfl
theorem Keeps.trans {P:Nat->Prop} {a b c:World} (h:Keeps P a b) (k:Keeps P b c):Keeps P a c:=fun i hi=> (k i hi).trans (h i hi)
theorem Keeps.of {a:World} (h:Below B a b) {P:Nat->Prop} (k:∀ i,P i->i < B):Keeps P a b:=fun i hi=> h.block i (k i hi)
theorem Xi {b:Nat} (h:w.rangeAt b off xs) (hb:w'.heap[b]? =w.heap[b]?):w'.rangeAt b off xs:=by
 intro j v hj;have h2:=h j v hj;rw[<-h2];exact World.cell?_of_block (a:=⟨b,off+j,none⟩) hb
theorem YL (w:World) (b off:Nat):w.rangeAt b off []:=fun j v hj=> by simp at hj
theorem RdS.keep {size:Nat} (h:RdS w P size v n xs) (hb:Keeps P w w'):RdS w' P size v n xs:=by
 obtain ⟨h1,a,c,h2,hc,h3⟩:=h;refine ⟨h1,a,c,h2,hc,?_⟩;rcases h3 with h3 | ⟨b,off,h4,h5,h6⟩
 ·exact Or.inl h3
 ·refine Or.inr ⟨b,off,h4,h5,?_⟩;rcases h5 with h5 | h5
  ·have:xs= []:=List.eq_nil_of_length_eq_zero (by rw[h1,h5];simp);rw[this];exact YL _ _ _
  ·exact Xi h6 (hb b h5)
theorem RdS.imp {Q:Nat->Prop} {size:Nat} (h:RdS w P size v n xs) (hb:∀ k,P k->Q k):RdS w Q size v n xs:=by
 obtain ⟨h1,a,c,h2,hc,h3⟩:=h;refine ⟨h1,a,c,h2,hc,?_⟩;rcases h3 with h3 | ⟨b,off,h4,h5,h6⟩
 ·exact Or.inl h3
 ·exact Or.inr ⟨b,off,h4,h5.imp_right (hb b),h6⟩
theorem RdS.nil (w:World) (P:Nat->Prop) (size:Nat):RdS w P size (.slice none 0 0) 0 []:=⟨by simp,none,0,rfl,rl_ _,Or.inl ⟨rfl,rfl⟩⟩
theorem RdS.form {size:Nat} (h:RdS w P size v n xs):∃ a c,v= .slice a n c:=by
 obtain ⟨h1,a,c,h2,_⟩:=h;exact ⟨a,c,h2⟩
def RdW (w:World) (P:Nat->Prop) (size:Nat) (v:Value) (n:Nat) (xs:List Value):Prop:=
 xs.length=n*size/\∃ a c,v= .slice a n c/\n<=c/\((n=0/\n=0)\/∃ b off,a=some ⟨b,off,none⟩/\(n=0\/P b)/\w.rangeAt b off xs)
theorem RdS.weak {size:Nat} (h:RdS w P size v n xs):RdW w P size v n xs:=by
 obtain ⟨h1,a,c,h2,hc,h3⟩:=h;exact ⟨h1,a,c,h2,hc,h3.imp_left fun h=> ⟨h.2,h.2⟩⟩
theorem RdW.keep {size:Nat} (h:RdW w P size v n xs) (hb:Keeps P w w'):RdW w' P size v n xs:=by
 obtain ⟨h1,a,c,h2,hc,h3⟩:=h;refine ⟨h1,a,c,h2,hc,?_⟩;rcases h3 with h3 | ⟨b,off,h4,h5,h6⟩
 ·exact Or.inl h3
 ·refine Or.inr ⟨b,off,h4,h5,?_⟩;rcases h5 with h5 | h5
  ·have:xs= []:=List.eq_nil_of_length_eq_zero (by rw[h1,h5];simp);rw[this];exact YL _ _ _
  ·exact Xi h6 (hb b h5)
theorem RdW.imp {Q:Nat->Prop} {size:Nat} (h:RdW w P size v n xs) (hb:∀ k,P k->Q k):RdW w Q size v n xs:=by
 obtain ⟨h1,a,c,h2,hc,h3⟩:=h;refine ⟨h1,a,c,h2,hc,?_⟩;rcases h3 with h3 | ⟨b,off,h4,h5,h6⟩
 ·exact Or.inl h3
 ·exact Or.inr ⟨b,off,h4,h5.imp_right (hb b),h6⟩
theorem RdW.form {size:Nat} (h:RdW w P size v n xs):∃ a c,v= .slice a n c:=by
 obtain ⟨h1,a,c,h2,_⟩:=h;exact ⟨a,c,h2⟩
theorem RdS.own {base:Nat} {size:Nat} (h:w.ownsRow base e size v n xs):RdS w (fun k=> v.ownBlock=some k/\base<=k/\k < w.heap.size) size v n xs:=by
 have hlt:=h.lt;obtain ⟨h1,h2⟩:=h;refine ⟨h1,?_⟩;rcases h2 with ⟨rfl,rfl⟩ | ⟨g,cap,cur,rfl,hg,hh,hn,hm,hs,ht⟩
 ·exact ⟨none,0,rfl,rl_ _,Or.inl ⟨rfl,rfl⟩⟩
 ·refine ⟨_,cap,rfl,hn,Or.inr ⟨g,0,rfl,Or.inr ⟨rfl,hlt g rfl⟩,?_⟩⟩;intro j u hj;rw[<-ht,List.getElem?_take] at hj;split at hj
  ·simp only[World.cell?,hh,Nat.zero_add];simpa using hj
  ·cases hj
theorem QV {w:World} {b off s:Nat} {α:Type} {f:α->List Value} (hf:∀ x,(f x).length=s):∀ {l:List α} {i:Nat} {x:α},w.rangeAt b off (l.flatMap f)->l[i]? =some x->w.rangeAt b (off+i*s) (f x)
 | [],_,_,_,h=> by simp at h
 | y::l,0,x,h,hx=> by
  simp only[eZ_,Option.some.injEq] at hx;subst hx;intro j v hj;rw[Nat.zero_mul,Nat.add_zero];refine h j v ?_;have hlt:j < (f y).length:=by
   rcases eS_ j (f y).length with h | h
   ·exact h
   ·rw[List.getElem?_eq_none h] at hj;cases hj
  rw[List.flatMap_cons,eT_ hlt];exact hj
 | y::l,i+1,x,h,hx=> by
  have h2:w.rangeAt b (off+s) (l.flatMap f):=by
   intro j v hj;rw[Nat.add_assoc];refine h (s+j) v ?_;rw[List.flatMap_cons,eO_ (by rw[hf];omega),hf];simpa using hj
  have h3:=QV hf h2 (by simpa using hx:l[i]? =some x);rw[show off+(i+1)*s=off+s+i*s from by rw[Nat.add_mul];omega];exact h3
theorem ZK {α:Type} {f:α->List Value} {s:Nat} (hf:∀ x,(f x).length=s):∀ (l:List α),(l.flatMap f).length=l.length*s
 | []=> by simp
 | x::l=> by rw[List.flatMap_cons,eC_,hf,ZK hf l,eL_,Nat.add_mul];omega
theorem JZ (c:UInt8) (w:World):Calls prog 188 #[.int .u8 c.toNat] w fun e w'=> e= .returned (.bool (Lx.letter c))/\w=w':=by
 have e1:Lx.letter c=((decide (97<=(c.toNat:Int)) && decide ((c.toNat:Int)<=122)) || (decide (65<=(c.toNat:Int)) && decide ((c.toNat:Int)<=90))):=by
  unfold Lx.letter;rw[Bool.eq_iff_iff];simp[UInt8.le_iff_toNat_le];omega
 rw[e1];have hc:=c.toNat_lt;have hc':(c.toNat:Int) < 256:=by omega
 have hc0:(0:Int)<=(c.toNat:Int):=by omega
 clear e1 hc;generalize (c.toNat:Int)=x at*;by_cases a:97<=x <;> by_cases b:x<=122 <;> by_cases d:65<=x <;> by_cases f:x<=90
 all_goals
  first
  | (exfalso;omega)
  | (go_in
     go_wp2;go_ret;exact ⟨by simp[*],rfl⟩)
theorem YM (c:UInt8) (w:World):Calls prog 190 #[.int .u8 c.toNat] w fun e w'=> e= .returned (.bool (Lx.digit c))/\w=w':=by
 have e1:Lx.digit c=(decide (48<=(c.toNat:Int)) && decide ((c.toNat:Int)<=57)):=by
  unfold Lx.digit;rw[Bool.eq_iff_iff];simp[UInt8.le_iff_toNat_le];omega
 rw[e1];have hc:=c.toNat_lt;have hc':(c.toNat:Int) < 256:=by omega
 have hc0:(0:Int)<=(c.toNat:Int):=by omega
 clear e1 hc;generalize (c.toNat:Int)=x at*;by_cases a:48<=x <;> by_cases b:x<=57
 all_goals
  first
  | (exfalso;omega)
  | (go_in
     go_wp2;go_ret;exact ⟨by simp[*],rfl⟩)
theorem QY (l:List UInt8) (a b:Nat):(⟨l.toArray⟩:ByteArray).extract a b=⟨((l.drop a).take (b - a)).toArray⟩:=by
 apply ByteArray.ext;simp[ByteArray.data_extract]
theorem ZL {α:Type} {p:α->Bool} {l:List α} (hj:j < l.length) (h1:(l.take j).all p=true) (h2:p l[j]=false):l.takeWhile p=l.take j:=by
 have e:l=l.take j++l[j]::l.drop (j+1):=by
  conv=> lhs;rw[<-eW_ j l,List.drop_eq_getElem_cons hj]
 conv=> lhs;rw[e]
 rw[List.takeWhile_append_of_pos (by simpa using h1)];have e2:(l[j]::l.drop (j+1)).takeWhile p= []:=by rw[List.takeWhile_cons,h2];rfl
 rw[e2,List.append_nil]
theorem ZF {α:Type} {p:α->Bool} {l:List α} (h1:l.all p=true):l.takeWhile p=l:=by
 induction l with
 | nil=> rfl
 | cons x l ih=>
  simp only[List.all_cons,Bool.and_eq_true] at h1;rw[List.takeWhile_cons,if_pos h1.1,ih h1.2]
theorem Jr {α:Type} {p:α->Bool} {l:List α} (hj:j < l.length) (h1:(l.take j).all p=true) (h2:p l[j]=true):(l.take (j+1)).all p=true:=by
 rw[List.take_succ_eq_append_getElem hj,List.all_append,h1];simp[h2]
theorem U0 (c:UInt8) (w:World):Calls prog 218 #[.int .u8 c.toNat] w fun e w'=> e= .returned (.bool (Lx.inside c))/\w=w':=by
 have h1:=hd_ (JZ c w);have h2:=hd_ (YM c w);have e1:Lx.inside c=(Lx.letter c || Lx.digit c || ((c.toNat:Int)==95)):=by
  unfold Lx.inside;congr 1;rw[Bool.eq_iff_iff];simp[<-UInt8.toNat_inj];omega
 rw[e1];clear e1;cases hl:Lx.letter c
 ·rw[hl] at h1;cases hd:Lx.digit c
  ·rw[hd] at h2;clear hl hd;go_in;go_wp2_with (first
    | (go_at_call 188;refine h1.out.mono ?_;rintro e w' ⟨rfl,rfl⟩)
    | (go_at_call 190;refine h2.out.mono ?_;rintro e w' ⟨rfl,rfl⟩))
   go_ret;exact ⟨by simp,rfl⟩
  ·rw[hd] at h2;clear hl hd;go_in;go_wp2_with (first
    | (go_at_call 188;refine h1.out.mono ?_;rintro e w' ⟨rfl,rfl⟩)
    | (go_at_call 190;refine h2.out.mono ?_;rintro e w' ⟨rfl,rfl⟩))
   go_ret;exact ⟨by simp,rfl⟩
 ·rw[hl] at h1;clear hl;go_in;go_wp2_with (go_at_call 188;refine h1.out.mono ?_;rintro e w' ⟨rfl,rfl⟩);go_ret;exact ⟨by simp,rfl⟩
theorem Q2Y (l:List UInt8) (hl:l.length<=1073741824) (w:World):
  Calls prog 217 #[.string ⟨l.toArray⟩,.func (.func 218) #[] #[]] w fun e w'=> e= .returned (.string ⟨(l.takeWhile Lx.inside).toArray⟩)/\w=w':=by
 have hl':(l.length:Int)<=1073741824:=by omega
 go_in;go_wp2_with fail;go_loopg [5] l.length (fun k i wr=> ∃ j:Nat,k=l.length - j/\j<=l.length/\i= .int .i64 j/\((l.take j).all Lx.inside)=true/\wr=w)
 case atStart=> exact ⟨0,by omega,by omega,rfl,rfl,rfl⟩
 case round=>
  obtain ⟨j,hk,hj,rfl,hall,rfl⟩:=hrel;have HK:=hd_ hk;have HA:=hd_ hall;clear hk hall;by_cases hlt:j < l.length
  ·have hlt':(j:Int) < (l.length:Int):=(by omega);have hget:l[j]? =some l[j]:=eA_ hlt;cases hp:Lx.inside l[j]
   ·have hc:=U0 l[j] wr;rw[hp] at hc;have HC:=hd_ hc;clear hc;go_wp2_with (go_at_call 218;refine HC.o.mono ?_;rintro e w' ⟨rfl,rfl⟩);go_ret;exact ⟨by rw[QY,ZL hlt HA.o hp];simp,rfl⟩
   ·have hc:=U0 l[j] wr;rw[hp] at hc;have HC:=hd_ hc;clear hc;go_wp2_with (go_at_call 218;refine HC.o.mono ?_;rintro e w' ⟨rfl,rfl⟩);go_roundg (l.length - (j+1))
    case measure=> have:=HK.o;omega
    case rel=> exact ⟨j+1,rfl,by omega,by go_num,Jr hlt HA.o hp,rfl⟩
  ·obtain rfl:j=l.length:=(by omega);go_wp2;go_ret;have h:=HA.o;rw[List.take_length] at h;exact ⟨by rw[QY,ZF h];simp,rfl⟩
theorem Q4Y (l:List UInt8) (hl:l.length<=1073741824) (w:World):
  Calls prog 217 #[.string ⟨l.toArray⟩,.func (.func 190) #[] #[]] w fun e w'=> e= .returned (.string ⟨(l.takeWhile Lx.digit).toArray⟩)/\w=w':=by
 have hl':(l.length:Int)<=1073741824:=by omega
 go_in;go_wp2_with fail;go_loopg [5] l.length (fun k i wr=> ∃ j:Nat,k=l.length - j/\j<=l.length/\i= .int .i64 j/\((l.take j).all Lx.digit)=true/\wr=w)
 case atStart=> exact ⟨0,by omega,by omega,rfl,rfl,rfl⟩
 case round=>
  obtain ⟨j,hk,hj,rfl,hall,rfl⟩:=hrel;have HK:=hd_ hk;have HA:=hd_ hall;clear hk hall;by_cases hlt:j < l.length
  ·have hlt':(j:Int) < (l.length:Int):=(by omega);have hget:l[j]? =some l[j]:=eA_ hlt;cases hp:Lx.digit l[j]
   ·have hc:=YM l[j] wr;rw[hp] at hc;have HC:=hd_ hc;clear hc;go_wp2_with (go_at_call 190;refine HC.o.mono ?_;rintro e w' ⟨rfl,rfl⟩);go_ret;exact ⟨by rw[QY,ZL hlt HA.o hp];simp,rfl⟩
   ·have hc:=YM l[j] wr;rw[hp] at hc;have HC:=hd_ hc;clear hc;go_wp2_with (go_at_call 190;refine HC.o.mono ?_;rintro e w' ⟨rfl,rfl⟩);go_roundg (l.length - (j+1))
    case measure=> have:=HK.o;omega
    case rel=> exact ⟨j+1,rfl,by omega,by go_num,Jr hlt HA.o hp,rfl⟩
  ·obtain rfl:j=l.length:=(by omega);go_wp2;go_ret;have h:=HA.o;rw[List.take_length] at h;exact ⟨by rw[QY,ZF h];simp,rfl⟩
end Go.Proofs.YtiecccakcenobaaGreatDoor
namespace Go.Proofs
open Go.Shelf
def Tryz.lays169_ren:Go.Shelf.Ren:=⟨fun | 169=> 49 | n=> n,fun | 70=> 105 | 9=> 9 | 0=> 0 | 72=> 108 | 37=> 106 | 127=> 167 | 3=> 3 | 5=> 5 | n=> n,fun | n=> n⟩
theorem Tryz.lays169:Go.Proofs.Lays.n169 prog Tryz.lays169_ren:={
 mixed:=by kernel_rfl
 f169:=Tryz.func49.trans (congrArg some (by kernel_rfl))
 t0:=underlying0
 a0:=isAgg0
 z0:=sizeOf0
 v0:=zeroValue0
 t3:=underlying3
 a3:=isAgg3
 z3:=sizeOf3
 v3:=zeroValue3
 t9:=underlying9
 a9:=isAgg9
 z9:=sizeOf9
 v9:=zeroValue9
 t37:=underlying106
 a37:=isAgg106
 z37:=sizeOf106
 v37:=zeroValue106
 t70:=underlying105
 a70:=isAgg105
 z70:=sizeOf105
 v70:=zeroValue105
 t72:=underlying108
 a72:=isAgg108
 z72:=sizeOf108
 v72:=zeroValue108
 t127:=underlying167
 a127:=isAgg167
 z127:=sizeOf167
 v127:=zeroValue167}
theorem Tryz.Builder_Extra_169:Builder.Extra prog Tryz.lays169_ren:={
 sizeBuilder:=by kernel_rfl
 liesBuilder:=by kernel_rfl
 t5:=underlying5
 a5:=isAgg5
 z5:=sizeOf5
 v5:=zeroValue5
 infoByte:=by kernel_rfl
 cellsByte:=by kernel_rfl
 sizeByte:=by kernel_rfl
 neB5:=by decide}
open Go.RowKit in
open Go.RowKit in
open Go.RowKit in
theorem Tryz.Builder_String_any (B b:Nat) (l:List UInt8) (w:World) (h:Lib.IsBuilder 108 5 B b (Lib.byteCells l) w) (hBw:B<=w.heap.size):
  Calls prog 49 #[.pointer (some ⟨b,0,none⟩)] w fun e w'=> e= .returned (.string ⟨l.toArray⟩)/\Below B w w':=Any.Builder_String_any Tryz.lays169 Tryz.Builder_Extra_169 B b l w h hBw
def Tryz.lays161_ren:Go.Shelf.Ren:=⟨fun | 161=> 185 | 231=> 125 | 227=> 103 | 233=> 126 | 235=> 127 | 228=> 138 | 197=> 160 | 151=> 140 | 260=> 200 | 152=> 178 | 137=> 211 | 119=> 212 | 224=> 213 | 225=> 214 | 217=> 230 | 266=> 240 | n=> n,fun | 9=> 9 | 4=> 4 | 3=> 3 | 5=> 5 | 117=> 179 | 116=> 178 | 0=> 0 | 124=> 182 | 105=> 216 | 21=> 21 | 119=> 282 | 46=> 175 | 139=> 285 | 138=> 284 | n=> n,fun | 3=> 0 | 4=> 1 | n=> n⟩
theorem Tryz.lays161:Go.Proofs.Lays.n161 prog Tryz.lays161_ren:={
 mixed:=by kernel_rfl
 f119:=Tryz.func212.trans (congrArg some (by kernel_rfl))
 f137:=Tryz.func211.trans (congrArg some (by kernel_rfl))
 f151:=Tryz.func140.trans (congrArg some (by kernel_rfl))
 f152:=Tryz.func178.trans (congrArg some (by kernel_rfl))
 f161:=Tryz.func185.trans (congrArg some (by kernel_rfl))
 f197:=Tryz.func160.trans (congrArg some (by kernel_rfl))
 f217:=Tryz.func230.trans (congrArg some (by kernel_rfl))
 f224:=Tryz.func213.trans (congrArg some (by kernel_rfl))
 f225:=Tryz.func214.trans (congrArg some (by kernel_rfl))
 f227:=Tryz.func103.trans (congrArg some (by kernel_rfl))
 f228:=Tryz.func138.trans (congrArg some (by kernel_rfl))
 f231:=Tryz.func125.trans (congrArg some (by kernel_rfl))
 f233:=Tryz.func126.trans (congrArg some (by kernel_rfl))
 f235:=Tryz.func127.trans (congrArg some (by kernel_rfl))
 f260:=Tryz.func200.trans (congrArg some (by kernel_rfl))
 f266:=Tryz.func240.trans (congrArg some (by kernel_rfl))
 t0:=underlying0
 a0:=isAgg0
 z0:=sizeOf0
 v0:=zeroValue0
 t3:=underlying3
 a3:=isAgg3
 z3:=sizeOf3
 v3:=zeroValue3
 t4:=underlying4
 a4:=isAgg4
 z4:=sizeOf4
 v4:=zeroValue4
 t5:=underlying5
 a5:=isAgg5
 z5:=sizeOf5
 v5:=zeroValue5
 t9:=underlying9
 a9:=isAgg9
 z9:=sizeOf9
 v9:=zeroValue9
 t21:=underlying21
 a21:=isAgg21
 z21:=sizeOf21
 v21:=zeroValue21
 t46:=underlying175
 a46:=isAgg175
 z46:=sizeOf175
 v46:=zeroValue175
 t105:=underlying216
 a105:=isAgg216
 z105:=sizeOf216
 v105:=zeroValue216
 t116:=underlying178
 a116:=isAgg178
 z116:=sizeOf178
 t117:=underlying179
 a117:=isAgg179
 z117:=sizeOf179
 v117:=zeroValue179
 t119:=underlying282
 a119:=isAgg282
 z119:=sizeOf282
 t124:=underlying182
 a124:=isAgg182
 z124:=sizeOf182
 v124:=zeroValue182
 t138:=underlying284
 a138:=isAgg284
 z138:=sizeOf284
 v138:=zeroValue284
 t139:=underlying285
 a139:=isAgg285
 z139:=sizeOf285
 v139:=zeroValue285
 g3:=by kernel_rfl
 g4:=by kernel_rfl}
def Tryz.lays171_ren:Go.Shelf.Ren:=⟨fun | 171=> 199 | 243=> 228 | 246=> 239 | 283=> 245 | 284=> 246 | 285=> 247 | 286=> 248 | 129=> 251 | 317=> 250 | 318=> 252 | 319=> 253 | 320=> 254 | 337=> 257 | 338=> 258 | n=> n,fun | 3=> 3 | 9=> 9 | 2=> 2 | 4=> 4 | 171=> 294 | 0=> 0 | 53=> 132 | 37=> 106 | 5=> 5 | 173=> 297 | 212=> 299 | 51=> 174 | 20=> 20 | 213=> 300 | 46=> 175 | 232=> 303 | 233=> 304 | n=> n,fun | 17=> 3 | 18=> 4 | 19=> 5 | n=> n⟩
theorem Tryz.lays171:Go.Proofs.Lays.n171 prog Tryz.lays171_ren:={
 mixed:=by kernel_rfl
 f129:=Tryz.func251.trans (congrArg some (by kernel_rfl))
 f171:=Tryz.func199.trans (congrArg some (by kernel_rfl))
 f243:=Tryz.func228.trans (congrArg some (by kernel_rfl))
 f246:=Tryz.func239.trans (congrArg some (by kernel_rfl))
 f283:=Tryz.func245.trans (congrArg some (by kernel_rfl))
 f284:=Tryz.func246.trans (congrArg some (by kernel_rfl))
 f285:=Tryz.func247.trans (congrArg some (by kernel_rfl))
 f286:=Tryz.func248.trans (congrArg some (by kernel_rfl))
 f317:=Tryz.func250.trans (congrArg some (by kernel_rfl))
 f318:=Tryz.func252.trans (congrArg some (by kernel_rfl))
 f319:=Tryz.func253.trans (congrArg some (by kernel_rfl))
 f320:=Tryz.func254.trans (congrArg some (by kernel_rfl))
 f337:=Tryz.func257.trans (congrArg some (by kernel_rfl))
 f338:=Tryz.func258.trans (congrArg some (by kernel_rfl))
 t0:=underlying0
 a0:=isAgg0
 z0:=sizeOf0
 v0:=zeroValue0
 t2:=underlying2
 a2:=isAgg2
 z2:=sizeOf2
 v2:=zeroValue2
 t3:=underlying3
 a3:=isAgg3
 z3:=sizeOf3
 v3:=zeroValue3
 t4:=underlying4
 a4:=isAgg4
 z4:=sizeOf4
 v4:=zeroValue4
 t5:=underlying5
 a5:=isAgg5
 z5:=sizeOf5
 v5:=zeroValue5
 t9:=underlying9
 a9:=isAgg9
 z9:=sizeOf9
 v9:=zeroValue9
 t20:=underlying20
 a20:=isAgg20
 z20:=sizeOf20
 v20:=zeroValue20
 t37:=underlying106
 a37:=isAgg106
 z37:=sizeOf106
 v37:=zeroValue106
 t46:=underlying175
 a46:=isAgg175
 z46:=sizeOf175
 v46:=zeroValue175
 t51:=underlying174
 a51:=isAgg174
 z51:=sizeOf174
 v51:=zeroValue174
 t53:=underlying132
 a53:=isAgg132
 z53:=sizeOf132
 v53:=zeroValue132
 t171:=underlying294
 a171:=isAgg294
 z171:=sizeOf294
 v171:=zeroValue294
 t173:=underlying297
 a173:=isAgg297
 z173:=sizeOf297
 v173:=zeroValue297
 t212:=underlying299
 a212:=isAgg299
 z212:=sizeOf299
 v212:=zeroValue299
 t213:=underlying300
 a213:=isAgg300
 z213:=sizeOf300
 t232:=underlying303
 a232:=isAgg303
 z232:=sizeOf303
 v232:=zeroValue303
 t233:=underlying304
 a233:=isAgg304
 z233:=sizeOf304
 v233:=zeroValue304
 g17:=by kernel_rfl
 g18:=by kernel_rfl
 g19:=by kernel_rfl}
open Go.RowKit Go.Sort Go.Lib in
theorem Tryz.strconv_Itoa_small (i:Nat) (hi:i < 100) (w:World):
  Calls prog 199 #[.int .i64 i] w fun e w'=> e= .returned (.string ⟨(Lib.decDigits i).toArray⟩)/\w'=w:=Any.strconv_Itoa_small Tryz.lays171 i hi w
def Tryz.lays143_ren:Go.Shelf.Ren:=⟨fun | 143=> 187 | 219=> 216 | 217=> 230 | 225=> 214 | 224=> 213 | 267=> 231 | 266=> 240 | 314=> 241 | n=> n,fun | 9=> 9 | 3=> 3 | 4=> 4 | 5=> 5 | 46=> 175 | 146=> 251 | 51=> 174 | n=> n,fun | 1=> 2 | n=> n⟩
theorem Tryz.lays143:Go.Proofs.Lays.n143 prog Tryz.lays143_ren:={
 mixed:=by kernel_rfl
 f143:=Tryz.func187.trans (congrArg some (by kernel_rfl))
 f217:=Tryz.func230.trans (congrArg some (by kernel_rfl))
 f219:=Tryz.func216.trans (congrArg some (by kernel_rfl))
 f224:=Tryz.func213.trans (congrArg some (by kernel_rfl))
 f225:=Tryz.func214.trans (congrArg some (by kernel_rfl))
 f266:=Tryz.func240.trans (congrArg some (by kernel_rfl))
 f267:=Tryz.func231.trans (congrArg some (by kernel_rfl))
 f314:=Tryz.func241.trans (congrArg some (by kernel_rfl))
 t3:=underlying3
 a3:=isAgg3
 z3:=sizeOf3
 v3:=zeroValue3
 t4:=underlying4
 a4:=isAgg4
 z4:=sizeOf4
 v4:=zeroValue4
 t5:=underlying5
 a5:=isAgg5
 z5:=sizeOf5
 v5:=zeroValue5
 t9:=underlying9
 a9:=isAgg9
 z9:=sizeOf9
 v9:=zeroValue9
 t46:=underlying175
 a46:=isAgg175
 z46:=sizeOf175
 v46:=zeroValue175
 t51:=underlying174
 a51:=isAgg174
 z51:=sizeOf174
 v51:=zeroValue174
 t146:=underlying251
 a146:=isAgg251
 z146:=sizeOf251
 v146:=zeroValue251
 g1:=by kernel_rfl}
open Go.RowKit Go.Lib in
theorem Tryz.strings_Index_one (s:ByteArray) (c:UInt8) (w:World):
  Calls prog 187 #[.string s,.string ⟨#[c]⟩] w fun e w'=> e= .returned (.int .i64 (Lib.indexByte s.data.toList c))/\w'=w:=Any.strings_Index_one Tryz.lays143 s c w
def Tryz.lays99_ren:Go.Shelf.Ren:=⟨fun | 99=> 186 | 206=> 159 | n=> n,fun | 9=> 9 | 4=> 4 | 3=> 3 | n=> n,fun | n=> n⟩
theorem Tryz.lays99:Go.Proofs.Lays.n99 prog Tryz.lays99_ren:={
 mixed:=by kernel_rfl
 f99:=Tryz.func186.trans (congrArg some (by kernel_rfl))
 f206:=Tryz.func159.trans (congrArg some (by kernel_rfl))
 t3:=underlying3
 a3:=isAgg3
 z3:=sizeOf3
 v3:=zeroValue3
 t4:=underlying4
 a4:=isAgg4
 z4:=sizeOf4
 v4:=zeroValue4
 t9:=underlying9
 a9:=isAgg9
 z9:=sizeOf9
 v9:=zeroValue9}
open Go.RowKit Go.Lib in
theorem Tryz.strings_HasPrefix (s p:ByteArray) (w:World):
  Calls prog 186 #[.string s,.string p] w fun e w'=> e= .returned (.bool (Lib.hasPrefix s.data.toList p.data.toList))/\w'=w:=Any.strings_HasPrefix Tryz.lays99 s p w
open Go.RowKit in
theorem Tryz.TrimLeft_blank (s:ByteArray) (w:World):
  Calls prog 185 #[.string s,.string ⟨#[32,9,13,10]⟩] w fun e w'=> e= .returned (.string ⟨(Lib.trimLeftS s.data.toList [32,9,13,10]).toArray⟩)/\Below w.heap.size w w':=Any.strings_TrimLeft_laid Tryz.lays161 (by kernel_rfl) s ⟨#[32,9,13,10]⟩ w (by decide) (ascii_of_all (by decide))
def Tryz.laysBS26_ren:Go.Shelf.Ren:=⟨fun | 26=> 220 | 33=> 232 | 34=> 233 | 38=> 134 | n=> n,fun | 24=> 44 | 9=> 9 | 3=> 3 | 4=> 4 | 40=> 175 | 0=> 0 | n=> n,fun | n=> n⟩
theorem Tryz.laysBS26:Go.Proofs.Lays2.n26 prog Tryz.laysBS26_ren:={
 mixed:=by kernel_rfl
 f26:=Tryz.func220.trans (congrArg some (by kernel_rfl))
 f33:=Tryz.func232.trans (congrArg some (by kernel_rfl))
 f34:=Tryz.func233.trans (congrArg some (by kernel_rfl))
 f38:=Tryz.func134.trans (congrArg some (by kernel_rfl))
 t0:=underlying0
 a0:=isAgg0
 z0:=sizeOf0
 v0:=zeroValue0
 t3:=underlying3
 a3:=isAgg3
 z3:=sizeOf3
 v3:=zeroValue3
 t4:=underlying4
 a4:=isAgg4
 z4:=sizeOf4
 v4:=zeroValue4
 t9:=underlying9
 a9:=isAgg9
 z9:=sizeOf9
 v9:=zeroValue9
 t24:=underlying44
 a24:=isAgg44
 z24:=sizeOf44
 v24:=zeroValue44
 t40:=underlying175
 a40:=isAgg175
 z40:=sizeOf175
 v40:=zeroValue175}
open Go.RowKit in
theorem Tryz.BinarySearch_string (b off n c:Nat) (Sx:Nat->ByteArray) (x:ByteArray) (w:World) (hbig:n < 4611686018427387904) (hc:∀ j,j < n->w.cell? ⟨b,off+j,none⟩=some (.string (Sx j))):
  Calls prog 220 #[.slice (some ⟨b,off,none⟩) n c,.string x] w fun e w'=>
   e= .returned (.tuple #[.int .i64 (Lib.bsGo (fun t=> Op.bytesLess (Sx t).toList x.toList) n 0 n:Nat),.bool (decide (Lib.bsGo (fun t=> Op.bytesLess (Sx t).toList x.toList) n 0 n < n/\Sx (Lib.bsGo (fun t=> Op.bytesLess (Sx t).toList x.toList) n 0 n)=x))])/\∃ q,w'=w.drewN q:=Any2.slices_BinarySearch_string Tryz.laysBS26 b off n c Sx x w hbig hc
end Go.Proofs
namespace Go.Proofs.YtiecccakcenobaaGreatDoor
open Tryz
open Go.RowKit
variable {r:List UInt8} {n:Nat}
theorem Q2Z (r:List UInt8) (w:World):
  Calls prog 185 #[.string ⟨r.toArray⟩,.string ⟨#[32,9,13,10]⟩] w fun e w'=> e= .returned (.string ⟨(r.dropWhile Lx.blank).toArray⟩)/\Below w.heap.size w w':=by
 have h:=Tryz.TrimLeft_blank ⟨r.toArray⟩ w;have e1:Lib.trimLeftS (⟨r.toArray⟩:ByteArray).data.toList [32,9,13,10]=r.dropWhile Lx.blank:=by
  unfold Lib.trimLeftS;congr 1;funext c;rw[Bool.eq_iff_iff];simp[Lx.blank,or_assoc]
 rw[e1] at h;exact h
theorem Zk (r p:List UInt8) (w:World):
  Calls prog 186 #[.string ⟨r.toArray⟩,.string ⟨p.toArray⟩] w fun e w'=> e= .returned (.bool (p.isPrefixOf r))/\w=w':=
 (Tryz.strings_HasPrefix ⟨r.toArray⟩ ⟨p.toArray⟩ w).mono fun _ _ ⟨h1,h2⟩=> ⟨by simpa [Lib.hasPrefix] using h1,h2.symm⟩
theorem Q30 (r:List UInt8) (w:World):
  Calls prog 187 #[.string ⟨r.toArray⟩,.string ⟨#[10]⟩] w fun e w'=> e= .returned (.int .i64 (Lib.indexByte r 10))/\w=w':=
 (Tryz.strings_Index_one ⟨r.toArray⟩ 10 w).mono fun _ _ ⟨h1,h2⟩=> ⟨by simpa using h1,h2.symm⟩
theorem Q4Z (h:Lib.indexByte r 10=-1):Lx.line r= []:=by
 have h2:=Lib.indexByte_none h;unfold Lx.line;have:∀ (r:List UInt8),(∀ k:Nat,r[k]? ≠some 10)->r.dropWhile (fun c=> c !=10)= []:=by
  intro r
  induction r with
  | nil=> intro _;rfl
  | cons x r ih=>
   intro h;have h0:=h 0;simp only[eZ_,ne_eq,Option.some.injEq] at h0;rw[List.dropWhile_cons,if_pos (by simpa using h0)];exact ih fun k=> by have:=h (k+1);simpa using this
 exact this r h2
theorem Q50 {o:Nat} (h:Lib.indexByte r 10=o):Lx.line r=r.drop o/\o < r.length:=by
 obtain ⟨h1,h2⟩:=Lib.indexByte_some h;have:∀ (r:List UInt8) (o:Nat),r[o]? =some 10->(∀ k,k < o->r[k]? ≠some 10)->r.dropWhile (fun c=> c !=10)=r.drop o/\o < r.length:=by
  intro r
  induction r with
  | nil=> intro o h _;simp at h
  | cons x r ih=>
   intro o h1 h2;cases o with
   | zero=>
    simp only[eZ_,Option.some.injEq] at h1;subst h1;exact ⟨by rw[List.dropWhile_cons,if_neg (by simp)];rfl,by simp⟩
   | succ o=>
    have h0:=h2 0 (by omega);simp only[eZ_,ne_eq,Option.some.injEq] at h0;rw[List.dropWhile_cons,if_pos (by simpa using h0)];have h3:=ih o (by simpa using h1) (fun k hk=> by have:=h2 (k+1) (by omega);simpa using this);exact ⟨by simpa using h3.1,by simp;omega⟩
 exact this r o h1 h2
theorem Q6a:([45,45]:List UInt8).isPrefixOf r=true↔∃ t,r=45::45::t:=by
 constructor
 ·intro h;obtain ⟨t,rfl⟩:=List.isPrefixOf_iff_prefix.1 h;exact ⟨t,rfl⟩
 ·rintro ⟨t,rfl⟩;simp[List.isPrefixOf]
theorem LB {t:List UInt8} (h:r.dropWhile Lx.blank=45::45::t):Lx.rest (n+1) r=Lx.rest n (Lx.line t):=by
 conv=> lhs;unfold Lx.rest
 rw[h];rfl
theorem Q51 (h:([45,45]:List UInt8).isPrefixOf (r.dropWhile Lx.blank)=false):Lx.rest (n+1) r=r.dropWhile Lx.blank:=by
 unfold Lx.rest;split
 ·rename_i t ht;rw[ht] at h;simp[List.isPrefixOf] at h
 ·rfl
def BtRel (l:List UInt8) (w:World) (k:Nat) (v:Value) (wr:World):Prop:=
 ∃ r:List UInt8,v= .string ⟨r.toArray⟩/\k=r.length/\r.length<=l.length/\Lx.rest (r.length+1) r=Lx.rest (l.length+1) l/\Below w.heap.size w wr
theorem LC (t:List UInt8):Lx.line (45::45::t)=Lx.line t:=by
 unfold Lx.line;rw[List.dropWhile_cons,if_pos (by decide),List.dropWhile_cons,if_pos (by decide)]
theorem Q6b (n:Nat):Lx.rest n []= []:=by cases n <;> rfl
theorem L8 (l:List UInt8) (hl:l.length<=1073741824) (w:World):
  Calls prog 142 #[.string ⟨l.toArray⟩] w fun e w'=> e= .returned (.string ⟨(Lx.between l).toArray⟩)/\Below w.heap.size w w':=by
 have hl':(l.length:Int)<=1073741824:=by omega
 go_in;go_wp2_with fail;go_loopg [3] l.length (fun k v wr=> BtRel l w k v wr)
 case atStart=> exact ⟨l,rfl,rfl,rl_ _,rfl,eB_ _ _⟩
 case round=>
  obtain ⟨r,rfl,hk,hr,hrest,hb⟩:=hrel;have hlen:=Lx.XJ Lx.blank r;have HX:=h3_ hk hrest hb;clear hk hrest hb;generalize hd:r.dropWhile Lx.blank=d at hlen;have HT:=hd_ (hd ▸ Q2Z r wr);have HD:=hd_ hd;clear hd;have hlen':(d.length:Int)<=(l.length:Int):=by omega
  cases hp:([45,45]:List UInt8).isPrefixOf d
  ·have HP:=hd_ hp;clear hp;have HC:=fun w=> hd_ (HP.o ▸ Zk d [45,45] w);go_wp2_with (first
    | (go_at_call 185;refine HT.o.mono ?_;rintro e w1 ⟨rfl,hb1⟩;have HB1:=hd_ hb1;clear hb1)
    | (go_at_call 186;refine (HC _).out.mono ?_;rintro e w2 ⟨rfl,rfl⟩))
   go_ret;obtain ⟨_,hrest,hb⟩:=HX.o;refine ⟨?_,hb.trans (HB1.o.mono hb.size)⟩;have e1:Lx.rest (l.length+1) l=d:=(by rw[<-hrest,Q51 (by rw[HD.o];exact HP.o),HD.o]);rw[QY];simp[Lx.between,e1]
  ·have hp':=hp;obtain ⟨t,rfl⟩:=Q6a.1 hp;have HP:=hd_ hp';clear hp hp';have HC:=fun w=> hd_ (HP.o ▸ Zk (45::45::t) [45,45] w);have hge:=Lib.indexByte_ge (45::45::t) 10;have HF:=fun w=> hd_ (Q30 (45::45::t) w);have HN:=hd_ (show Lib.indexByte (45::45::t) 10=-1->Lx.line t= [] from fun h=> by rw[<-LC];exact Q4Z h);have HS:=hd_ (show ∀ o:Nat,Lib.indexByte (45::45::t) 10=o->Lx.line t=(45::45::t).drop o/\o < (45::45::t).length/\0 < o from fun o h=> by
    obtain ⟨h1,h2⟩:=Q50 h;refine ⟨by rw[<-LC];exact h1,h2,?_⟩;rcases Nat.eq_zero_or_pos o with h0 | h0
    ·subst h0;obtain ⟨h3,_⟩:=Lib.indexByte_some h;simp at h3
    ·exact h0)
   generalize hdt:45::45::t=d at*;have HDT:=hd_ hdt;clear hdt;generalize Lib.indexByte d 10=o at*;by_cases ho:o < 0
   ·obtain rfl:o=-1:=(by omega);go_wp2_with (first
     | (go_at_call 185;refine HT.o.mono ?_;rintro e w1 ⟨rfl,hb1⟩;have HB1:=hd_ hb1;clear hb1)
     | (go_at_call 186;refine (HC _).out.mono ?_;rintro e w2 ⟨rfl,rfl⟩)
     | (go_at_call 187;refine (HF _).out.mono ?_;rintro e w2 ⟨rfl,rfl⟩))
    go_ret;obtain ⟨_,hrest,hb⟩:=HX.o;refine ⟨?_,hb.trans (HB1.o.mono hb.size)⟩;have e1:Lx.rest (l.length+1) l= []:=by
     rw[<-hrest,LB (r:=r) (t:=t) (by rw[HD.o];exact HDT.o.symm),HN.o (by first | trivial | rfl),Q6b]
    simp[Lx.between,e1]
   ·obtain ⟨n,rfl⟩:=Int.eq_ofNat_of_zero_le (show 0<=o by omega);obtain ⟨hs1,hs2,hs3⟩:=HS.o n rfl;have hs2':(n:Int) < (d.length:Int):=(by omega);have HL:=hd_ hs1;clear hs1;go_wp2_with (first
     | (go_at_call 185;refine HT.o.mono ?_;rintro e w1 ⟨rfl,hb1⟩;have HB1:=hd_ hb1;clear hb1)
     | (go_at_call 186;refine (HC _).out.mono ?_;rintro e w2 ⟨rfl,rfl⟩)
     | (go_at_call 187;refine (HF _).out.mono ?_;rintro e w2 ⟨rfl,rfl⟩))
    go_roundg (d.length - n)
    case measure=> have:=HX.a;omega
    case rel=>
     obtain ⟨_,hrest,hb⟩:=HX.o;refine ⟨d.drop n,by rw[QY,List.take_of_length_le (by simp)],by simp,by simp;omega,?_,hb.trans (HB1.o.mono hb.size)⟩;rw[<-hrest,LB (r:=r) (t:=t) (by rw[HD.o];exact HDT.o.symm),HL.o];exact Lx.LA _ _ _ (by omega) (by simp;omega)
def keysA:Array Value:= #[.string ⟨#[97,115,115,101,114,116]⟩,.string ⟨#[98,111,111,108]⟩,.string ⟨#[101,108,115,101]⟩,.string ⟨#[102,97,108,115,101]⟩,.string ⟨#[102,117,110]⟩,.string ⟨#[105,102]⟩,.string ⟨#[105,109,112,111,114,116]⟩,.string ⟨#[105,110]⟩,.string ⟨#[105,110,116]⟩,.string ⟨#[108,101,116]⟩,.string ⟨#[110,111,116]⟩,.string ⟨#[112,117,98]⟩,.string ⟨#[114,101,115]⟩,.string ⟨#[116,104,101,110]⟩,.string ⟨#[116,114,117,101]⟩]
def keysZ:Array Value:= #[.string ⟨#[]⟩,.string ⟨#[]⟩,.string ⟨#[]⟩,.string ⟨#[]⟩,.string ⟨#[]⟩,.string ⟨#[]⟩,.string ⟨#[]⟩,.string ⟨#[]⟩,.string ⟨#[]⟩,.string ⟨#[]⟩,.string ⟨#[]⟩,.string ⟨#[]⟩,.string ⟨#[]⟩,.string ⟨#[]⟩,.string ⟨#[]⟩]
theorem keysSize:(prog.info? 273).map (·.size)=some keysA.size:=by kernel_rfl
theorem Q31 (w:World):(Instr.build 273 #[(0,.string ⟨#[97,115,115,101,114,116]⟩),(1,.string ⟨#[98,111,111,108]⟩),(2,.string ⟨#[101,108,115,101]⟩),(3,.string ⟨#[102,97,108,115,101]⟩),(4,.string ⟨#[102,117,110]⟩),(5,.string ⟨#[105,102]⟩),(6,.string ⟨#[105,109,112,111,114,116]⟩),(7,.string ⟨#[105,110]⟩),(8,.string ⟨#[105,110,116]⟩),(9,.string ⟨#[108,101,116]⟩),(10,.string ⟨#[110,111,116]⟩),(11,.string ⟨#[112,117,98]⟩),(12,.string ⟨#[114,101,115]⟩),(13,.string ⟨#[116,104,101,110]⟩),(14,.string ⟨#[116,114,117,101]⟩)]).run prog w= .ok (.agg keysA) w:=by kernel_rfl
theorem GW (w:World):(Instr.alloc 273 true (.tuple #[])).run prog w= .ok (.pointer (some ⟨w.heap.size,0,none⟩)) (w.alloc (.cells keysZ 273)):=by kernel_rfl
theorem keysZsize:keysZ.size=keysA.size:=by kernel_rfl
theorem Q1g:∀ u∈keysA.toList,u.oneCell'=true:=by
 have h:keysA.toList.all (fun u=> u.oneCell')=true:=by rfl
 intro u hu;exact List.all_eq_true.1 h u hu
theorem Q32 (w:World):Calls prog 219 #[] w fun e w'=> e= .returned (.agg keysA)/\w.alloc (.cells keysA 273)=w':=by
 have hb:=Q31;have ha:=GW;go_in;go_wp2_with (refine Qa rfl 273 _ _ rfl 273 keysZ keysA rfl rfl keysZsize keysSize Q1g ?_);exact eG_ (v:=_) (eY_ rfl _ _ w.heap.size _ _ _ _ rfl (eD_ _ _) underlying273 rfl keysSize) rfl ⟨rfl,rfl⟩
def signsA:Array Value:= #[.string ⟨#[60,62]⟩,.string ⟨#[60,61]⟩,.string ⟨#[62,61]⟩,.string ⟨#[38,38]⟩,.string ⟨#[124,124]⟩,.string ⟨#[61,62]⟩,.string ⟨#[40]⟩,.string ⟨#[41]⟩,.string ⟨#[123]⟩,.string ⟨#[125]⟩,.string ⟨#[44]⟩,.string ⟨#[58]⟩,.string ⟨#[59]⟩,.string ⟨#[46]⟩,.string ⟨#[43]⟩,.string ⟨#[45]⟩,.string ⟨#[42]⟩,.string ⟨#[47]⟩,.string ⟨#[37]⟩,.string ⟨#[61]⟩,.string ⟨#[60]⟩,.string ⟨#[62]⟩]
def signsZ:Array Value:= #[.string ⟨#[]⟩,.string ⟨#[]⟩,.string ⟨#[]⟩,.string ⟨#[]⟩,.string ⟨#[]⟩,.string ⟨#[]⟩,.string ⟨#[]⟩,.string ⟨#[]⟩,.string ⟨#[]⟩,.string ⟨#[]⟩,.string ⟨#[]⟩,.string ⟨#[]⟩,.string ⟨#[]⟩,.string ⟨#[]⟩,.string ⟨#[]⟩,.string ⟨#[]⟩,.string ⟨#[]⟩,.string ⟨#[]⟩,.string ⟨#[]⟩,.string ⟨#[]⟩,.string ⟨#[]⟩,.string ⟨#[]⟩]
theorem signsSize:(prog.info? 259).map (·.size)=some signsA.size:=by kernel_rfl
theorem Q1h (w:World):(Instr.build 259 #[(0,.string ⟨#[60,62]⟩),(1,.string ⟨#[60,61]⟩),(2,.string ⟨#[62,61]⟩),(3,.string ⟨#[38,38]⟩),(4,.string ⟨#[124,124]⟩),(5,.string ⟨#[61,62]⟩),(6,.string ⟨#[40]⟩),(7,.string ⟨#[41]⟩),(8,.string ⟨#[123]⟩),(9,.string ⟨#[125]⟩),(10,.string ⟨#[44]⟩),(11,.string ⟨#[58]⟩),(12,.string ⟨#[59]⟩),(13,.string ⟨#[46]⟩),(14,.string ⟨#[43]⟩),(15,.string ⟨#[45]⟩),(16,.string ⟨#[42]⟩),(17,.string ⟨#[47]⟩),(18,.string ⟨#[37]⟩),(19,.string ⟨#[61]⟩),(20,.string ⟨#[60]⟩),(21,.string ⟨#[62]⟩)]).run prog w= .ok (.agg signsA) w:=by kernel_rfl
theorem Q1i (w:World):(Instr.alloc 259 true (.tuple #[])).run prog w= .ok (.pointer (some ⟨w.heap.size,0,none⟩)) (w.alloc (.cells signsZ 259)):=by kernel_rfl
theorem signsZsize:signsZ.size=signsA.size:=by kernel_rfl
theorem Q52:∀ u∈signsA.toList,u.oneCell'=true:=by
 have h:signsA.toList.all (fun u=> u.oneCell')=true:=by rfl
 intro u hu;exact List.all_eq_true.1 h u hu
theorem Q1j (w:World):Calls prog 192 #[] w fun e w'=> e= .returned (.agg signsA)/\w.alloc (.cells signsA 259)=w':=by
 have hb:=Q1h;have ha:=Q1i;go_in;go_wp2_with (refine Qa rfl 259 _ _ rfl 259 signsZ signsA rfl rfl signsZsize signsSize Q52 ?_);exact eG_ (v:=_) (eY_ rfl _ _ w.heap.size _ _ _ _ rfl (eD_ _ _) underlying259 rfl signsSize) rfl ⟨rfl,rfl⟩
theorem Q53 (x:List UInt8):
  (decide (Lib.bsGo (fun t=> Op.bytesLess (⟨(Lx.keyList.getD t []).toArray⟩:ByteArray).toList (⟨x.toArray⟩:ByteArray).toList) 15 0 15 < 15/\
   (⟨(Lx.keyList.getD (Lib.bsGo (fun t=> Op.bytesLess (⟨(Lx.keyList.getD t []).toArray⟩:ByteArray).toList (⟨x.toArray⟩:ByteArray).toList) 15 0 15) []).toArray⟩:ByteArray)=⟨x.toArray⟩))=Lx.isKey x:=by
 cases h:Lx.isKey x
 ·generalize Lib.bsGo _ 15 0 15=I;apply eK_;rintro ⟨h1,h2⟩;have h3:Lx.keyList.getD I []=x:=by simpa using h2
  have h4:I < Lx.keyList.length:=h1;have h5:x∈Lx.keyList:=by
   rw[<-h3];simp[List.getD,eA_ h4]
  have h6:Lx.isKey x=true:=by simpa [Lx.isKey] using h5
  rw[h] at h6;exact absurd h6 (by simp)
 ·have h5:x∈Lx.keyList:=by simpa [Lx.isKey] using h
  have h6:∀ x∈Lx.keyList,(decide (Lib.bsGo (fun t=> Op.bytesLess (⟨(Lx.keyList.getD t []).toArray⟩:ByteArray).toList (⟨x.toArray⟩:ByteArray).toList) 15 0 15 < 15/\
   (Lx.keyList.getD (Lib.bsGo (fun t=> Op.bytesLess (⟨(Lx.keyList.getD t []).toArray⟩:ByteArray).toList (⟨x.toArray⟩:ByteArray).toList) 15 0 15) [])=x))=true:=by
   have hl:∀ x:List UInt8,(⟨x.toArray⟩:ByteArray).toList=x:=fun x=> (by rw[Lib.toList_data]);simp only[hl];decide
  have h7:=of_decide_eq_true (h6 x h5);apply eM_;exact ⟨h7.1,by rw[h7.2]⟩
theorem Q54 (w:World) (j:Nat) (hj:j < 15):(w.alloc (.cells keysA 273)).cell? ⟨w.heap.size,0+j,none⟩=some (.string ⟨(Lx.keyList.getD j []).toArray⟩):=by
 have h:∀ j,j < 15->keysA[0+j]? =some (.string ⟨(Lx.keyList.getD j []).toArray⟩):=by
  intro j hj
  match j,hj with
  | 0,_ | 1,_ | 2,_ | 3,_ | 4,_ | 5,_ | 6,_ | 7,_ | 8,_ | 9,_ | 10,_ | 11,_ | 12,_ | 13,_ | 14,_=> rfl
  | n+15,h=> omega
 have h2:=eD_ w (.cells keysA 273);unfold World.cell?;simp only[h2,h j hj];rfl
theorem Q33 (l:List UInt8) (hl:l.length<=1073741824) (w:World):
  Calls prog 189 #[.string ⟨l.toArray⟩] w fun e w'=> e= .returned (.tuple #[.int .i64 (Lx.word l).1,.string ⟨(Lx.word l).2.1.toArray⟩,.int .i64 (Lx.word l).2.2])/\Below w.heap.size w w':=by
 have HR:=fun w=> hd_ (Q2Y l hl w);obtain ⟨v,hv⟩:∃ v,l.takeWhile Lx.inside=v:=⟨_,rfl⟩
 have HW:=hd_ (show Lx.word l=if 40 < v.length then (0, [],20) else if Lx.isKey v then (2,v,0) else (1,v,0) from by rw[<-hv];rfl);rw[hv] at HR;have hvl:(v.length:Int)<=1073741824:=by
  have:=Lx.Jq Lx.inside l;rw[hv] at this;omega
 have ha:=GW;by_cases hlt:40 < v.length
 ·have hlt':40 < (v.length:Int):=by omega
  go_in;go_wp2_with (go_at_call 217;refine (HR _).out.mono ?_;rintro e w1 ⟨rfl,rfl⟩);go_ret3;exact ⟨by rw[HW.o,if_pos hlt];rfl,eB_ _ _⟩
 ·have hlt':¬ 40 < (v.length:Int):=by omega
  cases hk:Lx.isKey v
  all_goals
   have HK:=hd_ hk;clear hk;go_in;go_wp2_with (first
    | (go_at_call 217;refine (HR _).out.mono ?_;rintro e w1 ⟨rfl,rfl⟩)
    | (go_at_call 219;refine (Q32 _).mono ?_;rintro e w2 ⟨rfl,rfl⟩)
    | (refine JY rfl 273 _ _ rfl 273 _ keysZ keysA rfl (Q5 _ _) rfl keysZsize keysSize Q1g ?_)
    | (go_at_call 220;refine (Tryz.BinarySearch_string _ 0 15 15 (fun t=> ⟨(Lx.keyList.getD t []).toArray⟩) ⟨v.toArray⟩ _ (by decide) (by rw[Q5 _ (.cells keysA 273)];exact Q54 _)).mono ?_;rintro e w2 ⟨rfl,q,rfl⟩;rw[Q53,HK.o]))
   go_ret3;exact ⟨by rw[HW.o,if_neg hlt,HK.o];rfl,by
    have h1:Below w.heap.size w (w.alloc (.cells keysA 273)):=(eB_ _ _).alloc (rl_ _) _;exact (h1.alloc h1.size (.cells keysA 273)).trans ⟨rfl,rfl,rfl,rl_ _,fun _ _=> rfl⟩⟩
theorem Q55 (l:List UInt8):Lx.number l=if 60 < (l.takeWhile Lx.digit).length\/(1 < (l.takeWhile Lx.digit).length/\(l.takeWhile Lx.digit).head? =some 48) then (0, [],21) else (3,l.takeWhile Lx.digit,0):=by
 unfold Lx.number;cases l with
 | nil=> rfl
 | cons c t=>
  rw[List.takeWhile_cons];cases Lx.digit c <;> simp
theorem Q0q (l:List UInt8) (hl:l.length<=1073741824) (w:World):
  Calls prog 191 #[.string ⟨l.toArray⟩] w fun e w'=> e= .returned (.tuple #[.int .i64 (Lx.number l).1,.string ⟨(Lx.number l).2.1.toArray⟩,.int .i64 (Lx.number l).2.2])/\w=w':=by
 have HR:=fun w=> hd_ (Q4Y l hl w);obtain ⟨v,hv⟩:∃ v,l.takeWhile Lx.digit=v:=⟨_,rfl⟩
 have HW:=hd_ (show Lx.number l=if 60 < v.length\/(1 < v.length/\v.head? =some 48) then (0, [],21) else (3,v,0) from by rw[<-hv];exact Q55 l);rw[hv] at HR;have hvl:(v.length:Int)<=1073741824:=by
  have:=Lx.Jq Lx.digit l;rw[hv] at this;omega
 clear hv;by_cases hlt:60 < v.length
 ·have hlt':60 < (v.length:Int):=by omega
  go_in;go_wp2_with (go_at_call 217;refine (HR _).out.mono ?_;rintro e w1 ⟨rfl,rfl⟩);go_ret3;exact ⟨by rw[HW.o,if_pos (Or.inl hlt)];rfl,rfl⟩
 ·have hlt':¬ 60 < (v.length:Int):=by omega
  by_cases h1:1 < v.length
  ·have h0:0 < v.length:=(by omega);have h1':1 < (v.length:Int):=(by omega);have h0':0 < (v.length:Int):=(by omega);have hget:v[0]? =some (v[0]'h0):=eA_ h0;have HH:=hd_ (show v.head? =some (v[0]'h0) from by rw[List.head?_eq_getElem?];exact hget);clear hget;go_in;go_wp2_with (go_at_call 217;refine (HR _).out.mono ?_;rintro e w1 ⟨rfl,rfl⟩)
   ·rename_i hx;have hx':v[0]'h0=48:=by
     rcases hx with h | h
     ·exact absurd h (by omega)
     ·have h2:(((v[0]'h0).toNat:Int)==48)=true:=h;exact UInt8.toNat_inj.1 (Int.ofNat.inj (by simpa using h2))
    go_ret3;exact ⟨by rw[HW.o,if_pos (Or.inr ⟨h1,by rw[HH.o,hx']⟩)];rfl,rfl⟩
   ·rename_i hx;have hx':v[0]'h0≠48:=by
     intro h3;have h2:(((v[0]'h0).toNat:Int)==48)=false:=hx.2;rw[h3] at h2;exact absurd h2 (by decide)
    go_ret3;exact ⟨by rw[HW.o,if_neg (by rw[HH.o];simp[hx'];omega)];rfl,rfl⟩
  ·have h1':¬ 1 < (v.length:Int):=(by omega);go_in;go_wp2_with (go_at_call 217;refine (HR _).out.mono ?_;rintro e w1 ⟨rfl,rfl⟩);go_ret3;exact ⟨by rw[HW.o,if_neg (by omega)];rfl,rfl⟩
theorem Q6c (w:World):∀ j:Nat,j < 22->(Instr.index 259 (.agg signsA) (.int .i64 j)).run prog w= .ok (.string ⟨(Lx.signList.getD j []).toArray⟩) w:=by
 intro j hj
 match j,hj with
 | 0,_ | 1,_ | 2,_ | 3,_ | 4,_ | 5,_ | 6,_ | 7,_ | 8,_ | 9,_ | 10,_ | 11,_ | 12,_ | 13,_ | 14,_ | 15,_ | 16,_ | 17,_ | 18,_ | 19,_ | 20,_ | 21,_=> refine Eq.trans ?_ rfl;kernel_rfl
 | n+22,h=> omega
theorem Q34 {j:Nat} (hj:j < 22):Lx.signList.drop j=Lx.signList.getD j []::Lx.signList.drop (j+1):=by
 match j,hj with
 | 0,_ | 1,_ | 2,_ | 3,_ | 4,_ | 5,_ | 6,_ | 7,_ | 8,_ | 9,_ | 10,_ | 11,_ | 12,_ | 13,_ | 14,_ | 15,_ | 16,_ | 17,_ | 18,_ | 19,_ | 20,_ | 21,_=> rfl
 | n+22,h=> omega
theorem Q35:∃ S:Array Value,S.size=22/\(∀ (w:World) (j:Nat),j < 22->(Instr.index 259 (.agg S) (.int .i64 j)).run prog w= .ok (.string ⟨(Lx.signList.getD j []).toArray⟩) w)/\∀ w,Calls prog 192 #[] w fun e w'=> e= .returned (.agg S)/\w.alloc (.cells S 259)=w':=
 ⟨signsA,rfl,Q6c,Q1j⟩
def TokSays (l:List UInt8) (e:Ending):Prop:=e= .returned (.tuple #[.int .i64 (Lx.token l).1,.string ⟨(Lx.token l).2.1.toArray⟩,.int .i64 (Lx.token l).2.2])
theorem Q1k (l:List UInt8) (hl:l.length<=1073741824) (w:World):
  Calls prog 143 #[.string ⟨l.toArray⟩] w fun e w'=> TokSays l e/\Below w.heap.size w w':=by
 obtain ⟨S,hsz,hsa,hsc⟩:=Q35;have HSA:=hd_ hsa;have HSC:=fun w=> hd_ (hsc w);clear hsa hsc;cases hc0:l with
 | nil=>
  go_in;go_wp2;go_ret3;exact ⟨rfl,eB_ _ _⟩
 | cons c t=>
  rw[<-hc0];have hlen:0 < l.length:=by rw[hc0];simp
  have hlen':0 < (l.length:Int):=by omega
  have hget:l[0]'hlen=c:=by simp[hc0]
  have hne:l.isEmpty=false:=by rw[hc0];rfl
  have HE:=hd_ (show Lx.token l=if Lx.letter c then Lx.word l else if Lx.digit c then Lx.number l else match Lx.signList.find? (fun x=> x.isPrefixOf l) with | some x=> (4,x,0) | none=> (0, [],20) from by rw[hc0];rfl);clear hc0;have HL:=fun w=> hd_ (JZ (l[0]'hlen) w);have HD:=fun w=> hd_ (YM (l[0]'hlen) w);rw[<-hget] at HE;cases hlet:Lx.letter (l[0]'hlen)
  ·rw[hlet] at HL HE;clear hlet;simp only[Bool.false_eq_true,if_false] at HE;cases hdig:Lx.digit (l[0]'hlen)
   ·rw[hdig] at HD HE;clear hdig;simp only[Bool.false_eq_true,if_false] at HE;go_in;go_wp2_with (first
     | (go_at_call 188;refine (HL _).out.mono ?_;rintro e w1 ⟨rfl,rfl⟩)
     | (go_at_call 190;refine (HD _).out.mono ?_;rintro e w1 ⟨rfl,rfl⟩)
     | (go_at_call 192;refine (HSC _).out.mono ?_;rintro e w2 ⟨rfl,rfl⟩))
    go_loopg [29,6] 22 (fun k i _ wr=> ∃ j:Nat,k=22 - j/\j<=22/\i= .int .i64 j/\(Lx.signList.find? (fun x=> x.isPrefixOf l)=(Lx.signList.drop j).find? (fun x=> x.isPrefixOf l))/\Below w.heap.size w wr)
    case atStart=> exact ⟨0,by omega,by omega,rfl,rfl,(eB_ _ _).alloc (rl_ _) _⟩
    case round=>
     obtain ⟨j,hk,hj,rfl,hf,hb⟩:=hrel;have HK:=hd_ hk;have HF:=hd_ hf;have HB:=hd_ hb;clear hk hf hb;by_cases hlt:j < 22
     ·have hlt':(j:Int) < 22:=(by omega);have hs:=fun w=> (HSA.o w j hlt);have HS:=hd_ (Q34 hlt);generalize Lx.signList.getD j []=x at*;cases hp:x.isPrefixOf l
      ·have HP:=fun w=> hd_ (hp ▸ Zk l x w);have HN:=hd_ hp;clear hp;go_wp2_with (go_at_call 186;refine (HP _).out.mono ?_;rintro e w2 ⟨rfl,rfl⟩);go_roundg (22 - (j+1))
       case measure=> have:=HK.o;omega
       case rel=> exact ⟨j+1,rfl,by omega,by go_num,by rw[HF.o,HS.o,List.find?_cons,HN.o],HB.o⟩
      ·have HP:=fun w=> hd_ (hp ▸ Zk l x w);have HN:=hd_ hp;clear hp;go_wp2_with (go_at_call 186;refine (HP _).out.mono ?_;rintro e w2 ⟨rfl,rfl⟩);go_ret3;have e1:Lx.signList.find? (fun x=> x.isPrefixOf l)=some x:=(by rw[HF.o,HS.o,List.find?_cons,HN.o]);refine ⟨?_,HB.o⟩;unfold TokSays;rw[HE.o,e1];rfl
     ·obtain rfl:j=22:=(by omega);go_wp2;go_ret3;have e1:Lx.signList.find? (fun x=> x.isPrefixOf l)=none:=(by rw[HF.o];rfl);refine ⟨?_,HB.o⟩;unfold TokSays;rw[HE.o,e1];rfl
   ·rw[hdig] at HD HE;clear hdig;simp only[if_true] at HE;go_in;go_wp2_with (first
     | (go_at_call 188;refine (HL _).out.mono ?_;rintro e w1 ⟨rfl,rfl⟩)
     | (go_at_call 190;refine (HD _).out.mono ?_;rintro e w1 ⟨rfl,rfl⟩)
     | (go_at_call 191;refine (Q0q l hl _).mono ?_;rintro e w2 ⟨rfl,rfl⟩))
    go_ret3;refine ⟨?_,eB_ _ _⟩;unfold TokSays;rw[HE.o];rfl
  ·rw[hlet] at HL HE;clear hlet;simp only[if_true] at HE;go_in;go_wp2_with (first
    | (go_at_call 188;refine (HL _).out.mono ?_;rintro e w1 ⟨rfl,rfl⟩)
    | (go_at_call 189;refine (Q33 l hl _).mono ?_;rintro e w2 ⟨rfl,hb⟩;have HB:=hd_ hb;clear hb))
   go_ret3;refine ⟨?_,HB.o⟩;unfold TokSays;rw[HE.o];rfl
end Go.Proofs.YtiecccakcenobaaGreatDoor
namespace Go.Proofs.YtiecccakcenobaaGreatDoor.Lx
open Tryz
theorem Gf (l:List UInt8):(between l).length=l.length - (rest (l.length+1) l).length:=by
 have:=rest_len (l.length+1) l;simp[between]
theorem Q0r (l:List UInt8):l.take (between l).length++l.drop (between l).length=l/\l.take (between l).length=between l:=by
 refine ⟨eW_ _ _,?_⟩;rw[Gf];rfl
theorem Js {α:Type} {p:α->Bool} {c:α} {t:List α} (h:p c=true):0 < ((c::t).takeWhile p).length:=by
 simp[h]
theorem YA (r:List UInt8) (h:(token r).2.2=0):(token r).2.1 <+:r/\((token r).1=5->r= [])/\((token r).1≠5->0 < (token r).2.1.length):=by
 cases r with
 | nil=> exact ⟨List.prefix_refl _,fun _=> rfl,fun h=> absurd rfl h⟩
 | cons c t=>
  unfold token at h |-;simp only at h |-;by_cases hl:letter c=true
  ·rw[if_pos hl] at h |-;unfold word at h |-;have hi:inside c=true:=(by simp[inside,hl]);by_cases h1:40 < ((c::t).takeWhile inside).length
   ·rw[if_pos h1] at h;exact absurd h (by simp)
   ·rw[if_neg h1] at h |-;split <;> exact ⟨List.takeWhile_prefix _,fun h=> absurd h (by simp),fun _=> Js hi⟩
  ·rw[if_neg hl] at h |-;by_cases hd:digit c=true
   ·rw[if_pos hd] at h |-;unfold number at h |-;split
    ·rename_i h1;rw[if_pos h1] at h;exact absurd h (by simp)
    ·exact ⟨List.takeWhile_prefix _,fun h=> absurd h (by simp),fun _=> Js hd⟩
   ·rw[if_neg hd] at h |-;cases hf:signList.find? (fun x=> x.isPrefixOf (c::t)) with
    | none=> rw[hf] at h;exact absurd h (by simp)
    | some x=>
     have h1:=List.find?_some hf;have h2:=List.mem_of_find?_eq_some hf;have h3:∀ y∈signList,0 < y.length:=(by decide);exact ⟨List.isPrefixOf_iff_prefix.1 h1,fun h=> absurd h (by simp),fun _=> h3 x h2⟩
theorem GX:∀ (n m:Nat) (r:List UInt8) (p:Nat) (acc:List Tok),r.length < n->r.length < m->lexGo n r p acc=lexGo m r p acc
 | 0,_,_,_,_,h,_=> absurd h (by omega)
 | _,0,_,_,_,_,h=> absurd h (by omega)
 | n+1,m+1,r,p,acc,h1,h2=> by
  unfold lexGo;simp only;by_cases he:(token (r.drop (between r).length)).2.2≠0
  ·rw[if_pos he,if_pos he]
  ·rw[if_neg he,if_neg he];by_cases hk:(token (r.drop (between r).length)).1=5
   ·rw[if_pos hk,if_pos hk]
   ·rw[if_neg hk,if_neg hk];have ht:=YA (r.drop (between r).length) (by omega);have h3:=ht.2.2 hk;have h4:=ht.1.length_le;simp only[List.length_drop] at h4;exact GX n m _ _ _ (by simp only[List.length_drop];omega) (by simp only[List.length_drop];omega)
theorem UI {n p:Nat} {r:List UInt8} {acc:List Tok} (he:(token (r.drop (between r).length)).2.2≠0):
  lexGo (n+1) r p acc=([],(token (r.drop (between r).length)).2.2,p+(between r).length):=by
 conv=> lhs;unfold lexGo
 simp only;rw[if_pos he]
theorem UJ {n p:Nat} {r:List UInt8} {acc:List Tok} (he:(token (r.drop (between r).length)).2.2=0) (hk:(token (r.drop (between r).length)).1=5):
  lexGo (n+1) r p acc=(acc++ [⟨(token (r.drop (between r).length)).1,between r,(token (r.drop (between r).length)).2.1,p+(between r).length⟩],0,0):=by
 conv=> lhs;unfold lexGo
 simp only;rw[if_neg (by omega),if_pos hk]
theorem GY {n p:Nat} {r:List UInt8} {acc:List Tok} (he:(token (r.drop (between r).length)).2.2=0) (hk:(token (r.drop (between r).length)).1≠5):
  lexGo (n+1) r p acc=lexGo n ((r.drop (between r).length).drop (token (r.drop (between r).length)).2.1.length) (p+(between r).length+(token (r.drop (between r).length)).2.1.length)
   (acc++ [⟨(token (r.drop (between r).length)).1,between r,(token (r.drop (between r).length)).2.1,p+(between r).length⟩]):=by
 conv=> lhs;unfold lexGo
 simp only;rw[if_neg (by omega),if_neg hk]
end Go.Proofs.YtiecccakcenobaaGreatDoor.Lx
namespace Go.Proofs.YtiecccakcenobaaGreatDoor
open Tryz
open Go.RowKit
variable {cs:Array Value} {ns:List Tr.Nd} {xs:List Value} {m n:Nat} {P Q:Nat->Prop} {t:Tr.T} {v vn vt:Value} {w w' w1 w2 wr:World}
def tokCells (t:Lx.Tok):List Value:= [.int .i64 t.kind,.string ⟨t.lead.toArray⟩,.string ⟨t.text.toArray⟩,.int .i64 t.pos]
def toksCells (ts:List Lx.Tok):List Value:=ts.flatMap tokCells
theorem GZ (ts:List Lx.Tok) (t:Lx.Tok):toksCells (ts++ [t])=toksCells ts++tokCells t:=by simp[toksCells]
theorem Q1l:(prog.info? 197).map (fun i=> (i.zero,i.size,i.bytes))=some (some (.agg #[.int .i64 0,.string ⟨#[]⟩,.string ⟨#[]⟩,.int .i64 0]),4,48):=by kernel_rfl
theorem Qw {P:Program} {t:TypeId} {z:Option Value} (h:(P.info? t).map (fun i=> (i.zero,i.size,i.bytes))=some (z,n,m)):∃ i,P.info? t=some i/\i.zero=z/\i.size=n/\i.bytes=m:=by
 cases hq:P.info? t with
 | none=> rw[hq] at h;cases h
 | some i=>
  rw[hq] at h;simp only[Option.map_some,Option.some.injEq,Prod.mk.injEq] at h;exact ⟨i,rfl,h⟩
def LexSays (l:List UInt8) (w:World) (e:Ending) (w':World):Prop:=
 ∃ v,e= .returned (.tuple #[v,.agg #[.int .i64 (Lx.lex l).2.1,.int .i64 (Lx.lex l).2.2]])/\w'.ownsRow w.heap.size 197 4 v (Lx.lex l).1.length (toksCells (Lx.lex l).1)/\Below w.heap.size w w'
def LexRel (l:List UInt8) (w:World) (k:Nat) (v4 v5:Value) (wr:World):Prop:=
 ∃ (j:Nat) (acc:List Lx.Tok) (a:Option Addr) (c:Nat),v5= .int .i64 j/\k=l.length - j/\j<=l.length/\acc.length<=j/\v4= .slice a acc.length c/\
  wr.ownsRow (w.heap.size+1) 197 4 (.slice a acc.length c) acc.length (toksCells acc)/\
  Below (w.heap.size+1) (w.alloc (.cells #[.int .i64 0,.int .i64 0] 92)) wr/\
  Lx.lexGo ((l.drop j).length+1) (l.drop j) j acc=Lx.lexGo (l.length+1) l 0 []
theorem Qj {base:Nat} {e:TypeId} {size:Nat} (h:w.ownsRow base e size v n xs):∃ a c,v= .slice a n c:=by
 obtain ⟨_,⟨rfl,rfl⟩ | ⟨g,cap,cur,rfl,_⟩⟩:=h
 ·exact ⟨none,0,rfl⟩
 ·exact ⟨_,cap,rfl⟩
theorem UK {T:TypeId} (h:Below (w.heap.size+1) (w.alloc (.cells cs T)) wr) (h1:Below wr.heap.size wr w1) (h2:Below w1.heap.size w1 w2):
  w2.heap[w.heap.size]? =some (.cells cs T (0,0))/\Below w.heap.size w w2:=by
 have hs:=h.size;rw[<-Q5] at hs;have h3:=(h.trans (h1.mono hs)).trans (h2.mono (eE_ hs h1.size));refine ⟨by rw[h3.block _ (by omega)];exact eD_ _ _,?_⟩;exact ((eB_ w.heap.size w).alloc (rl_ _) _).trans (h3.mono (by omega))
theorem Q1m {T:TypeId} (h:w2.heap[w.heap.size]? =some (.cells cs T (0,0))/\Below w.heap.size w w2):w.heap.size+1<=w2.heap.size:=by
 rcases eS_ w.heap.size w2.heap.size with h1 | h1
 ·exact h1
 ·rw[Array.getElem?_eq_none h1] at h;cases h.1
theorem Q1n {w3:World} {T T2:TypeId} {e:Nat} {news:Array Value} (h:Below (w.heap.size+1) (w.alloc (.cells cs T)) wr) (h1:Below wr.heap.size wr w1) (h2:Below w1.heap.size w1 w2)
  (ho:wr.ownsRow (w.heap.size+1) e m v n xs) (hg:(w2.alloc (.cells news T2)).grownBy w3 v.ownBlock):
  Below (w.heap.size+1) (w.alloc (.cells cs T)) w3/\w3.heap[w.heap.size]? =some (.cells cs T (0,0))/\Below w.heap.size w w3:=by
 have hs:=h.size;rw[<-Q5] at hs;have h3:=(h.trans (h1.mono hs)).trans (h2.mono (eE_ hs h1.size));have hs3:=h3.size;rw[<-Q5] at hs3;have h4:=h3.alloc hs3 (.cells news T2);have h5:=h4.grown hg (by rw[<-Q5];omega) (fun k hk=> (ho.lt k hk).1);refine ⟨h5,by rw[h5.block _ (by omega)];exact eD_ _ _,?_⟩;exact ((eB_ w.heap.size w).alloc (rl_ _) _).trans (h5.mono (by omega))
theorem LD (l:List UInt8) (hl:l.length<=1073741824) (w:World):
  Calls prog 110 #[.string ⟨l.toArray⟩] w fun e w'=> LexSays l w e w':=by
 by_cases hbig:65536 < l.length
 ·have hbig':65536 < (l.length:Int):=by omega
  have HE:=hd_ (show Lx.lex l=([],11,0) from by unfold Lx.lex;rw[if_pos hbig]);go_in;go_wp2;refine eG_ (Yn rfl _ _ w.heap.size _ _ _ _ rfl (eD_ _ _) underlying92 rfl rfl) rfl ?_;refine ⟨_,by rw[HE.o];rfl,?_,(eB_ _ _).alloc (rl_ _) _⟩;rw[HE.o];exact World.ownsRow_nil _ _ _ _
 ·have hbig':¬ 65536 < (l.length:Int):=by omega
  have HE:=hd_ (show Lx.lex l=Lx.lexGo (l.length+1) l 0 [] from by unfold Lx.lex;rw[if_neg hbig]);go_in;go_wp2;go_loopg [4,5] l.length (fun k v4 v5 wr=> LexRel l w k v4 v5 wr)
  case atStart=> exact ⟨0, [],none,0,rfl,rfl,eV_ _,rl_ _,rfl,World.ownsRow_nil _ _ _ _,eB_ _ _,rfl⟩
  case round=>
   obtain ⟨j,acc,a,c,rfl,hk,hj,hacc,rfl,hown,hb,hlex⟩:=hrel;have hr:(l.drop j).length<=1073741824:=(by simp;omega);have hbl:=Lx.Gf (l.drop j);obtain ⟨ld,hld⟩:∃ x,Lx.between (l.drop j)=x:=⟨_,rfl⟩
   have HB1:=fun w=> hd_ (hld ▸ L8 (l.drop j) hr w);rw[hld] at hbl;have hp:j+ld.length<=l.length:=(by rw[List.length_drop] at hbl;omega);clear hbl;have hp':(j:Int)+(ld.length:Int)<=(l.length:Int):=(by omega);have hj':(j:Int)<=(l.length:Int):=(by omega);have hdd:(l.drop j).drop ld.length=l.drop (j+ld.length):=(by rw[List.drop_drop]);have htl:=Q1k (l.drop (j+ld.length)) (by simp;omega);have htt:=Lx.YA (l.drop (j+ld.length));have hbad:= @Lx.UI (l.drop j).length j (l.drop j) acc;have hend:= @Lx.UJ (l.drop j).length j (l.drop j) acc;have hon:= @Lx.GY (l.drop j).length j (l.drop j) acc;unfold TokSays at htl;rw[hld,hdd] at hbad hend hon;obtain ⟨⟨kd,tx,er⟩,hT⟩:∃ q,Lx.token (l.drop (j+ld.length))=q:=⟨_,rfl⟩
   rw[hT] at htl htt hbad hend hon;simp only[] at htl htt hbad hend hon;have HT1:=fun w=> hd_ (htl w);have HX1:=hd_ (show (⟨l.toArray⟩:ByteArray).extract j l.length=⟨(l.drop j).toArray⟩ from by rw[QY,List.take_of_length_le (by simp)]);have HX2:=hd_ (show (⟨l.toArray⟩:ByteArray).extract (j+ld.length) l.length=⟨(l.drop (j+ld.length)).toArray⟩ from by rw[QY,List.take_of_length_le (by simp)]);have HH:=h4_ hk hown hb hlex;have HTT:=hd_ htt;have HLB:=hd_ hbad;have HLE:=hd_ hend;have HLO:=hd_ hon;clear hld hT htl htt hbad hend hon hk hown hb hlex hdd;by_cases he:er=0
   ·subst he;obtain ⟨hpre,hkz,hkn⟩:=HTT.o rfl;have htx:=hpre.length_le;rw[List.length_drop] at htx;have htx':(j:Int)+(ld.length:Int)+(tx.length:Int)<=(l.length:Int):=(by omega);have HPRE:=hd_ hpre;have HKN:=hd_ hkn;clear hpre hkz hkn;obtain ⟨i0,hi,hz0,hz1,hz2⟩:=Qw Q1l;have Hi:=hd_ hi;have Hz0:=hd_ hz0;have Hz1:=hd_ hz1;have Hz2:=hd_ hz2;have HAC:=hd_ hacc;clear hi hz0 hz1 hz2 hacc htx;have hn:acc.length<=1073741824:=(by have:=HAC.o;omega);have HN:=hd_ hn;clear hn;have HTC:=hd_ (show toksCells acc++ [.int .i64 kd,.string ⟨ld.toArray⟩,.string ⟨tx.toArray⟩,.int .i64 ((j:Int)+(ld.length:Int))]=toksCells (acc++ [⟨kd,ld,tx,j+ld.length⟩]) from by rw[GZ];simp[tokCells]);by_cases hk:kd=5
    ·have hk':((kd:Int)==5)=true:=(by simp;omega);have HKD:=hd_ hk;clear hk;go_wp2_with (first
      | (go_at_call 142;rw[HX1.o];refine (HB1 _).out.mono ?_;rintro e w1 ⟨rfl,hb1⟩;have HC1:=hd_ hb1;clear hb1)
      | (go_at_call 143;rw[HX2.o];refine (HT1 _).out.mono ?_;rintro e w2 ⟨rfl,hb2⟩;have HC2:=hd_ hb2;clear hb2;have HF:=hd_ (UK HH.c HC1.o HC2.o))
      | (at_builtin;refine XY rfl _ _ 87 rfl (w.heap.size+1) 197 197 i0 (.agg #[.int .i64 0,.string ⟨#[]⟩,.string ⟨#[]⟩,.int .i64 0]) 4 48 underlying87 Hi.o Hz0.o Hz1.o Hz2.o rfl (by decide) _ acc.length (toksCells acc) rfl (Qz (Qz HH.b HC1.o) HC2.o) 1 [.int .i64 kd,.string ⟨ld.toArray⟩,.string ⟨tx.toArray⟩,.int .i64 ((j:Int)+(ld.length:Int))] rfl rfl (by simp[Value.oneCell']) HN.o (by decide) (Q1m HF.o) ?_))
     intro v3 w3 hown3 hg3;obtain ⟨a3,c3,rfl⟩:=Qj hown3;have H3:=hd_ (Q1n HH.c HC1.o HC2.o HH.b hg3);have HO:=hd_ hown3;clear hown3 hg3;go_wp2_with (refine Qc rfl 92 _ _ rfl 92 w.heap.size _ _ rfl H3.b rfl rfl rfl (by simp[Value.oneCell']) ?_);refine eG_ (Yn rfl _ _ w.heap.size _ _ _ _ rfl (Qb H3.b) underlying92 rfl rfl) rfl ?_;have e1:Lx.lex l=(acc++ [⟨kd,ld,tx,j+ld.length⟩],0,0):=(by rw[HE.o, <-HH.D];exact HLE.o (by first | trivial | rfl) HKD.o);have hb:=H3.C;have ho:=HO.o;refine ⟨.slice a3 (acc.length+1) c3,by rw[e1];rfl,?_,Q9 hb (rl_ _) _⟩;rw[e1, <-HTC.o,eC_];exact Ge (GV ho (Nat.lt_succ_self _) _) (Nat.le_succ _)
    ·have hk':((kd:Int)==5)=false:=(by simp;omega);have HKD:=hd_ hk;clear hk;go_wp2_with (first
      | (go_at_call 142;rw[HX1.o];refine (HB1 _).out.mono ?_;rintro e w1 ⟨rfl,hb1⟩;have HC1:=hd_ hb1;clear hb1)
      | (go_at_call 143;rw[HX2.o];refine (HT1 _).out.mono ?_;rintro e w2 ⟨rfl,hb2⟩;have HC2:=hd_ hb2;clear hb2;have HF:=hd_ (UK HH.c HC1.o HC2.o))
      | (at_builtin;refine XY rfl _ _ 87 rfl (w.heap.size+1) 197 197 i0 (.agg #[.int .i64 0,.string ⟨#[]⟩,.string ⟨#[]⟩,.int .i64 0]) 4 48 underlying87 Hi.o Hz0.o Hz1.o Hz2.o rfl (by decide) _ acc.length (toksCells acc) rfl (Qz (Qz HH.b HC1.o) HC2.o) 1 [.int .i64 kd,.string ⟨ld.toArray⟩,.string ⟨tx.toArray⟩,.int .i64 ((j:Int)+(ld.length:Int))] rfl rfl (by simp[Value.oneCell']) HN.o (by decide) (Q1m HF.o) ?_))
     intro v3 w3 hown3 hg3;obtain ⟨a3,c3,rfl⟩:=Qj hown3;have H3:=hd_ (Q1n HH.c HC1.o HC2.o HH.b hg3);have HO:=hd_ hown3;clear hown3 hg3;go_wp2;go_roundg (l.length - (j+ld.length+tx.length))
     case measure=>
      have h1:=HH.a;have h2:=HKN.o HKD.o;omega
     case rel=>
      have h2:=HKN.o HKD.o;have h4:=HAC.o;refine ⟨j+ld.length+tx.length,acc++ [⟨kd,ld,tx,j+ld.length⟩],a3,c3,by go_num,rfl,by omega,by simp;omega,by simp,?_,H3.a,?_⟩
      ·rw[<-HTC.o,eC_];exact HO.o
      ·rw[<-HH.D];refine Eq.trans ?_ (HLO.o (by first | trivial | rfl) HKD.o).symm;rw[List.drop_drop];exact Lx.GX _ _ _ _ _ (Nat.lt_succ_self _) (by simp;omega)
   ·have he':((er:Int)==0)=false:=(by simp;omega);have he2:(er:Int)≠0:=(by omega);go_wp2_with (first
     | (go_at_call 142;rw[HX1.o];refine (HB1 _).out.mono ?_;rintro e w1 ⟨rfl,hb1⟩;have HC1:=hd_ hb1;clear hb1)
     | (go_at_call 143;rw[HX2.o];refine (HT1 _).out.mono ?_;rintro e w2 ⟨rfl,hb2⟩;have HC2:=hd_ hb2;clear hb2;have HF:=hd_ (UK HH.c HC1.o HC2.o))
     | (refine Qc rfl 92 _ _ rfl 92 w.heap.size _ _ rfl HF.a rfl rfl rfl (by simp[Value.oneCell']) ?_))
    refine eG_ (Yn rfl _ _ w.heap.size _ _ _ _ rfl (Qb HF.a) underlying92 rfl rfl) rfl ?_;have e1:Lx.lex l=([],er,j+ld.length):=(by rw[HE.o, <-HH.D];exact HLB.o he);refine ⟨_,by rw[e1];simp;rfl,?_,Q9 HF.B (rl_ _) _⟩;rw[e1];exact World.ownsRow_nil _ _ _ _
def tkCells (k:Tr.Tk):List Value:= [.int .i64 k.kind,.string ⟨k.lead.toArray⟩,.string ⟨k.text.toArray⟩,.int .i64 k.pos]
def tksCells (l:List Tr.Tk):List Value:=l.flatMap tkCells
def ndCells (p:Tr.Nd × Value):List Value:= [.int .i64 p.1.kind,.int .i64 p.1.tok,p.2]
def intCells (l:List Int):List Value:=l.map (.int .i64 ·)
def RdN (w:World) (P:Nat->Prop) (vn:Value) (ns:List Tr.Nd):Prop:=
 ∃ kvs:List Value,kvs.length=ns.length/\RdS w P 3 vn ns.length ((ns.zip kvs).flatMap ndCells)/\∀ (i:Nat) (n:Tr.Nd) (kv:Value),ns[i]? =some n->kvs[i]? =some kv->RdW w P 1 kv n.kids.length (intCells n.kids)
def RdT (w:World) (P:Nat->Prop) (vt vn:Value) (t:Tr.T):Prop:=RdS w P 4 vt t.toks.length (tksCells t.toks)/\RdN w P vn t.nodes
theorem RdN.keep {w w':World} {P:Nat->Prop} {vn:Value} {ns:List Tr.Nd} (h:RdN w P vn ns) (hb:Keeps P w w'):RdN w' P vn ns:=by
 obtain ⟨kvs,h1,h2,h3⟩:=h;exact ⟨kvs,h1,h2.keep hb,fun i n kv hn hk=> (h3 i n kv hn hk).keep hb⟩
theorem RdT.keep {w w':World} {P:Nat->Prop} {vt vn:Value} {t:Tr.T} (h:RdT w P vt vn t) (hb:Keeps P w w'):RdT w' P vt vn t:=⟨h.1.keep hb,h.2.keep hb⟩
theorem RdN.imp {w:World} {P Q:Nat->Prop} {vn:Value} {ns:List Tr.Nd} (h:RdN w P vn ns) (hb:∀ k,P k->Q k):RdN w Q vn ns:=by
 obtain ⟨kvs,h1,h2,h3⟩:=h;exact ⟨kvs,h1,h2.imp hb,fun i n kv hn hk=> (h3 i n kv hn hk).imp hb⟩
theorem RdT.imp {w:World} {P Q:Nat->Prop} {vt vn:Value} {t:Tr.T} (h:RdT w P vt vn t) (hb:∀ k,P k->Q k):RdT w Q vt vn t:=⟨h.1.imp hb,h.2.imp hb⟩
theorem RdN.node (h:RdN w P vn ns) {i:Nat} {n:Tr.Nd} (hi:ns[i]? =some n):
  ∃ b off c kv,vn= .slice (some ⟨b,off,none⟩) ns.length c/\P b/\w.rangeAt b (off+i*3) [.int .i64 n.kind,.int .i64 n.tok,kv]/\RdW w P 1 kv n.kids.length (intCells n.kids):=by
 obtain ⟨kvs,h1,⟨h2,a,c,rfl,hc,h4⟩,h3⟩:=h;have hlt:i < ns.length:=by
  rcases eS_ i ns.length with h | h
  ·exact h
  ·rw[List.getElem?_eq_none h] at hi;cases hi
 have hk:kvs[i]? =some (kvs[i]'(by omega)):=eA_ (by omega);rcases h4 with ⟨_,h4⟩ | ⟨b,off,rfl,h5,h6⟩
 ·omega
 ·refine ⟨b,off,c,kvs[i]'(by omega),rfl,h5.resolve_left (by omega),?_,h3 i n _ hi hk⟩;exact QV (f:=ndCells) (s:=3) (x:=(n,kvs[i]'(by omega))) (fun _=> rfl) h6 (by rw[List.getElem?_zip_eq_some];exact ⟨hi,hk⟩)
theorem D4 (h:RdT w P vt vn t) (hn:t.nodes.length<=1073741824):
  Calls prog 81 #[.agg #[vt,vn]] w fun e w'=> e= .returned (.int .i64 (Tr.root t))/\w.alloc (.cells #[vt,vn] 90)=w':=by
 obtain ⟨_,kvs,_,⟨_,a,c,rfl,_⟩,_⟩:=h;have hn':(t.nodes.length:Int)<=1073741824:=by omega
 unfold Tr.root;generalize t.nodes.length=n at*;go_in;go_wp2;go_ret;exact ⟨rfl,rfl⟩
theorem Q1o:(prog.info? 3).map (fun i=> (i.zero,i.size,i.bytes))=some (some (.int .i64 0),1,8):=by kernel_rfl
theorem RdS.tok {l:List Tr.Tk} (h:RdS w P 4 vt l.length (tksCells l)) {i:Nat} {k:Tr.Tk} (hi:l[i]? =some k):
  ∃ b off c,vt= .slice (some ⟨b,off,none⟩) l.length c/\P b/\w.rangeAt b (off+i*4) [.int .i64 k.kind,.string ⟨k.lead.toArray⟩,.string ⟨k.text.toArray⟩,.int .i64 k.pos]:=by
 obtain ⟨h2,a,c,rfl,hc,h4⟩:=h;have hlt:i < l.length:=by
  rcases eS_ i l.length with h | h
  ·exact h
  ·rw[List.getElem?_eq_none h] at hi;cases hi
 rcases h4 with ⟨_,h4⟩ | ⟨b,off,rfl,h5,h6⟩
 ·omega
 ·exact ⟨b,off,c,rfl,h5.resolve_left (by omega),QV (f:=tkCells) (s:=4) (fun _=> rfl) h6 hi⟩
end Go.Proofs.YtiecccakcenobaaGreatDoor
namespace Go.Proofs
def Tryz.cloneTok_ren:Go.Shelf.Ren:=⟨fun | 41=> 144 | n=> n,fun | 22=> 87 | 23=> 197 | 4=> 4 | n=> n,fun | n=> n⟩
theorem Tryz.cloneTok:Go.Proofs.SlLaysE0.n41 prog Tryz.cloneTok_ren:={
 mixed:=by kernel_rfl
 f41:=⟨Tryz.f144.name,by decide,Tryz.func144.trans (congrArg some (by kernel_rfl))⟩
 t4:=underlying4
 a4:=isAgg4
 z4:=sizeOf4
 v4:=zeroValue4
 t22:=underlying87
 a22:=isAgg87
 z22:=sizeOf87
 v22:=zeroValue87}
def Tryz.cloneInt_ren:Go.Shelf.Ren:=⟨fun | 41=> 145 | n=> n,fun | 22=> 46 | 23=> 3 | 4=> 4 | n=> n,fun | n=> n⟩
theorem Tryz.cloneInt:Go.Proofs.SlLaysE0.n41 prog Tryz.cloneInt_ren:={
 mixed:=by kernel_rfl
 f41:=⟨Tryz.f145.name,by decide,Tryz.func145.trans (congrArg some (by kernel_rfl))⟩
 t4:=underlying4
 a4:=isAgg4
 z4:=sizeOf4
 v4:=zeroValue4
 t22:=underlying46
 a22:=isAgg46
 z22:=sizeOf46
 v22:=zeroValue46}
end Go.Proofs
namespace Go.Proofs.YtiecccakcenobaaGreatDoor
open Tryz
open Go.RowKit
variable {cs:Array Value} {ld tx:List UInt8} {xs:List Value} {B b j k n:Nat} {P:Nat->Prop} {t:Tr.T} {e:TypeId} {v vn vt:Value} {w w' w1 x y:World}
theorem LE (h:RdS w P 4 v n xs) (hn:n<=1073741824) (h1:∀ u∈xs,u.oneCell'=true):
  Calls prog 144 #[v] w fun e w'=> ∃ v',e= .returned v'/\w'.ownsRow w.heap.size 197 4 v' n xs/\Below w.heap.size w w':=by
 obtain ⟨hl,a,c,rfl,hc,⟨rfl,rfl⟩ | ⟨b,off,rfl,_,hr⟩⟩:=h
 ·have:xs= []:=List.eq_nil_of_length_eq_zero (by simpa using hl);subst this;exact (AnyE.slices_Clone_nil Tryz.cloneTok 0 c w).mono fun e w' ⟨h1,h2⟩=> ⟨_,h1,World.ownsRow_nil _ _ _ _,by rw[h2];exact eB_ _ _⟩
 ·obtain ⟨i0,hi,hz0,hz1,hz2⟩:=Qw Q1l;exact (AnyE.slices_Clone Tryz.cloneTok i0 (.agg #[.int .i64 0,.string ⟨#[]⟩,.string ⟨#[]⟩,.int .i64 0]) 4 48 hi hz0 hz1 hz2 rfl (by decide) (fun w=> by kernel_rfl) b off n c xs w hl (by unfold maxLen;omega) (by omega) hr h1).mono
   fun e w' ⟨v',q1,q2,_,q3⟩=> ⟨v',q1,q2,q3⟩
theorem LF (h:RdS w P 1 v n xs) (hn:n<=1073741824) (h1:∀ u∈xs,u.oneCell'=true):
  Calls prog 145 #[v] w fun e w'=> ∃ v',e= .returned v'/\w'.ownsRow w.heap.size 3 1 v' n xs/\Below w.heap.size w w':=by
 obtain ⟨hl,a,c,rfl,hc,⟨rfl,rfl⟩ | ⟨b,off,rfl,_,hr⟩⟩:=h
 ·have:xs= []:=List.eq_nil_of_length_eq_zero (by simpa using hl);subst this;exact (AnyE.slices_Clone_nil Tryz.cloneInt 0 c w).mono fun e w' ⟨h1,h2⟩=> ⟨_,h1,World.ownsRow_nil _ _ _ _,by rw[h2];exact eB_ _ _⟩
 ·obtain ⟨i0,hi,hz0,hz1,hz2⟩:=Qw Q1o;exact (AnyE.slices_Clone Tryz.cloneInt i0 (.int .i64 0) 1 8 hi hz0 hz1 hz2 rfl (by decide) (fun w=> by kernel_rfl) b off n c xs w hl (by unfold maxLen;omega) (by omega) hr h1).mono
   fun e w' ⟨v',q1,q2,_,q3⟩=> ⟨v',q1,q2,q3⟩
theorem sizeB:(prog.info? 108).map (·.size)=some 2:=by kernel_rfl
theorem liesB:liesAt prog prog.depth 108 (2 / prog.cellsOf 108) 0 108 1=true:=by kernel_rfl
theorem LG:(prog.info? 5).map (fun i=> (i.zero,i.size,i.bytes))=some (some (.int .u8 0),1,1):=by kernel_rfl
theorem D5 (b:Nat) (w:World) (h0:w.cell? ⟨b,0,none⟩=some (.pointer (some ⟨b,0,none⟩))):
  Calls prog 91 #[.pointer (some ⟨b,0,none⟩)] w fun e w'=> e= .returned (.tuple #[])/\w'=w:=by
 obtain ⟨j,hj,_⟩:=Option.map_eq_some_iff.1 sizeB;go_in;go_wp2;rw[Lib.run_neq_ptr_same w _ underlying105 hj];go_wp2;go_end0;exact ⟨rfl,rfl⟩
theorem Q1p (b:Nat) (w:World) (h0:w.cell? ⟨b,0,none⟩=some (.pointer none)) (hsh:w.shape? b=some (108,2)) (hfz:w.frozen? ⟨b,0,none⟩=false):
  Calls prog 91 #[.pointer (some ⟨b,0,none⟩)] w fun e w'=> e= .returned (.tuple #[])/\w'=w.setCell ⟨b,0,none⟩ (.pointer (some ⟨b,0,none⟩)):=by
 obtain ⟨j,hj,hjs⟩:=Option.map_eq_some_iff.1 sizeB;go_in;go_wp2;rw[Lib.run_to_unsafe w ⟨b,0,none⟩ underlying105 underlying211 hj (by rw[hjs];decide) hsh (Nat.zero_lt_succ 1)];simp only[Result.andThen];rw[Oper.upon_value];go_wp2;rw[run_callFunc_extern Tryz.func132 (by kernel_rfl) (by kernel_rfl) (by kernel_rfl) (e:=Extern.AbiNoEscape.same) (by kernel_rfl)];rw[Lib.run_noEscape];simp only[Result.andThen];rw[Oper.upon_value];go_wp2;rw[Lib.run_from_unsafe w ⟨b,0,none⟩ underlying211 underlying105 hj hsh liesB];simp only[Result.andThen];rw[Oper.upon_value];go_wp2;go_end0;exact ⟨rfl,rfl⟩
structure NB (b:Nat) (w w':World):Prop where
 os:w'.os=w.os
 tape:w'.tape=w.tape
 output:w'.output=w.output
 size:w.heap.size<=w'.heap.size
 block:∀ (k:Nat) (o:Obj),w.heap[k]? =some o->k≠b->(∀ cs fr,o≠ .cells cs 5 fr)->w'.heap[k]? =some o
theorem NB.refl (b:Nat) (w:World):NB b w w:=⟨rfl,rfl,rfl,rl_ _,fun _ _ h _ _=> h⟩
theorem NB.trans {b:Nat} {x y z:World} (h:NB b x y) (k:NB b y z):NB b x z:=
 ⟨k.os.trans h.os,k.tape.trans h.tape,k.output.trans h.output,eE_ h.size k.size,fun i o hi hb hn=> k.block i o (h.block i o hi hb hn) hb hn⟩
theorem NB.of (h:Below x.heap.size x y):NB b x y:=
 ⟨h.os,h.tape,h.output,h.size,fun i o hi _ _=> (h.block i (by
  rcases eS_ i x.heap.size with h1 | h1
  ·exact h1
  ·rw[Array.getElem?_eq_none h1] at hi;cases hi)).trans hi⟩
theorem NB.setCell {b j:Nat} (x:World) (v:Value):NB b x (x.setCell ⟨b,j,none⟩ v):=
 ⟨rfl,rfl,rfl,by simp[World.setCell],fun i o hi hb _=> (Below.heap_setCell _ _ _ _ hb).trans hi⟩
theorem NB.grown (h:x.grownBy y v.ownBlock) (ho:x.ownsRow B 5 1 v n xs):NB b x y:=by
 refine ⟨h.os,h.tape,h.output,h.size,fun i o hi _ hn=> ?_⟩;have hlt:i < x.heap.size:=by
  rcases eS_ i x.heap.size with h1 | h1
  ·exact h1
  ·rw[Array.getElem?_eq_none h1] at hi;cases hi
 rw[h.block i hlt fun e=> ?_]
 ·exact hi
 ·rcases ho.2 with ⟨rfl,_⟩ | ⟨g,cap,cur,rfl,_,hg,_⟩
  ·cases e
  ·injection e with e;subst e;rw[hg] at hi;injection hi with hi;exact hn _ _ hi.symm
theorem Q1q (B b:Nat) (bs:List Value) (w:World) (h:Lib.IsBuilder 108 5 B b bs w):
  Calls prog 91 #[.pointer (some ⟨b,0,none⟩)] w fun e w'=> e= .returned (.tuple #[])/\(Lib.BuilderAt 108 5 B b (.pointer (some ⟨b,0,none⟩)) bs w'/\Below B w w'/\NB b w w'):=by
 rcases h with h | h
 ·refine (Q1p b w h.cell0 h.shape h.frozen0).mono ?_;rintro e w' ⟨rfl,rfl⟩;exact ⟨rfl,h.used _,(eB_ B w).setCell (p:=⟨b,0,none⟩) h.1 _,NB.setCell _ _⟩
 ·refine (D5 b w h.cell0).mono ?_;rintro e w' ⟨rfl,rfl⟩;exact ⟨rfl,h,eB_ B _,NB.refl _ _⟩
theorem Q0s (B b:Nat) (bs:List Value) (s:ByteArray) (w:World) (h:Lib.IsBuilder 108 5 B b bs w) (hlen:bs.length+s.size<=140737488355328) (hBw:B<=w.heap.size):
  Calls prog 48 #[.pointer (some ⟨b,0,none⟩),.string s] w fun e w'=> e= .returned (.tuple #[.int .i64 s.size,.nilIface])/\(Lib.IsBuilder 108 5 B b (bs++Lib.strCells s) w'/\Below B w w'/\NB b w w'):=by
 obtain ⟨i0,hi,hz0,hz1,hz2⟩:=Qw LG;go_in;go_wp2_with (go_at_call 91;refine (Q1q B b bs _ h).mono ?_);rintro e w1 ⟨rfl,h1,hb1,hnb1⟩;have HNB1:=hd_ hnb1;clear hnb1;obtain ⟨hB,v,hbk,hown,hne⟩:=h1;have c0:w1.cell? ⟨b,0,none⟩=some (.pointer (some ⟨b,0,none⟩)):=by rw[Lib.cell_of_heap hbk];rfl
 have c1:w1.cell? ⟨b,1,none⟩=some v:=by rw[Lib.cell_of_heap hbk];rfl
 go_wp2_with (at_builtin;refine Lib.wpList_append_own_string _ rfl _ _ 106 9 rfl B 5 i0 underlying106 underlying9 hi hz0 hz1 hz2 _ _ _ rfl hown s rfl ?c3 ?c4 ?c5 ?_)
 case c3=> unfold maxLen;omega
 case c4=> omega
 case c5=> have:=hb1.size;omega
 intro v' w2 hown' hgrow _;have hlt:b < w1.heap.size:=by
  rcases eS_ b w1.heap.size with h' | h'
  ·exact h'
  ·simp[Array.getElem?_eq_none h'] at hbk
 have hb2:w2.heap[b]? =some (.cells #[.pointer (some ⟨b,0,none⟩),v] 108 (0,0)):=by
  rw[hgrow.block b hlt (fun e=> hne e.symm)];exact hbk
 have d0:w2.cell? ⟨b,0,none⟩=some (.pointer (some ⟨b,0,none⟩)):=by rw[Lib.cell_of_heap hb2];rfl
 have d1:w2.cell? ⟨b,1,none⟩=some v:=by rw[Lib.cell_of_heap hb2];rfl
 have f1:w2.frozen? ⟨b,1,none⟩=false:=Lib.frozen_of_heap hb2 1;obtain ⟨ao,n',cap,rfl⟩:∃ ao n' cap,v'= .slice ao n' cap:=by
  rcases hown'.2 with ⟨hv,_⟩ | ⟨g,cap,cur,hv,_⟩
  ·exact ⟨_,_,_,hv⟩
  ·exact ⟨_,_,_,hv⟩
 go_wp2;go_ret2;refine ⟨rfl,?_,?_,(HNB1.o.trans (NB.grown hgrow hown)).trans (NB.setCell _ _)⟩
 ·exact Or.inr (Lib.BuilderAt.put (T:=108) (e:=5) hB hb2 (bs':=bs++Lib.strCells s) (by simpa [Lib.strCells_length] using hown') (by decide))
 ·exact (hb1.grown hgrow (by have:=hb1.size;omega) (fun k hk=> (hown.lt k hk).1)).setCell (p:=⟨b,1,none⟩) hB _
theorem Q36 (B b:Nat) (bs:List Value) (s:ByteArray) (w:World) (h:Lib.IsBuilder 108 5 B b bs w) (hlen:bs.length+s.size<=140737488355328) (hBw:B<=w.heap.size):
  Calls prog 48 #[.pointer (some ⟨b,0,none⟩),.string s] w fun e w'=> e= .returned (.tuple #[.int .i64 s.size,.nilIface])/\(Lib.IsBuilder 108 5 B b (bs++Lib.strCells s) w'/\Below B w w'):=
 (Q0s B b bs s w h hlen hBw).mono fun _ _ ⟨h1,h2,h3,_⟩=> ⟨h1,h2,h3⟩
def wholeOf (l:List Tr.Tk):List UInt8:=l.flatMap fun k=> k.lead++k.text
theorem ZM {o:Obj} (h:w.heap[k]? =some o):k < w.heap.size:=by
 rcases eS_ k w.heap.size with h1 | h1
 ·exact h1
 ·rw[Array.getElem?_eq_none h1] at h;cases h
theorem X9 {T:TypeId} {bs:List Value} (h:Lib.IsBuilder T e B b bs w) (hb:Below w.heap.size w w'):Lib.IsBuilder T e B b bs w':=by
 have hA:∀ p,Lib.BuilderAt T e B b p bs w->Lib.BuilderAt T e B b p bs w':=by
  rintro p ⟨h1,v,h2,h3,h4⟩;exact ⟨h1,v,by rw[hb.block b (ZM h2)];exact h2,Qz h3 hb,h4⟩
 exact h.imp (hA _) (hA _)
theorem Q0t (a b:List UInt8):(⟨a.toArray⟩:ByteArray)++⟨b.toArray⟩=⟨(a++b).toArray⟩:=by
 apply ByteArray.ext;simp
theorem Q37 {toks:List Tr.Tk} {kd ps:Int} (h:toks[j]? =some ⟨kd,ld,tx,ps⟩):
  wholeOf (toks.take (j+1))=wholeOf (toks.take j)++(ld++tx)/\(wholeOf (toks.take (j+1))).length<=(wholeOf toks).length:=by
 constructor
 ·rw[List.take_add_one,h];simp[wholeOf]
 ·have e:wholeOf toks=wholeOf (toks.take (j+1))++wholeOf (toks.drop (j+1)):=by
   unfold wholeOf;rw[<-List.flatMap_append,eW_]
  rw[e,eC_];omega
theorem Q38 {toks:List Tr.Tk} (h:wholeOf (toks.take (j+1))=wholeOf (toks.take j)++(ld++tx)/\(wholeOf (toks.take (j+1))).length<=(wholeOf toks).length) (hl:(wholeOf toks).length<=1073741824):
  (Lib.byteCells (wholeOf (toks.take j))).length+(⟨(ld++tx).toArray⟩:ByteArray).size<=140737488355328:=by
 have h1:=h.2;rw[h.1,eC_] at h1;have h2:(⟨(ld++tx).toArray⟩:ByteArray).size=(ld++tx).length:=by simp[ByteArray.size]
 rw[Lib.byteCells_length,h2];omega
def WhRel (w:World) (toks:List Tr.Tk) (k:Nat) (v8:Value) (wr:World):Prop:=
 ∃ j:Nat,v8= .int .i64 j/\k=toks.length - j/\j<=toks.length/\Lib.IsBuilder 108 5 w.heap.size w.heap.size (Lib.byteCells (wholeOf (toks.take j))) wr/\Below w.heap.size w wr
theorem Q1r {toks:List Tr.Tk} (h:RdS w P 4 v toks.length (tksCells toks)) (hP:∀ k,P k->k < w.heap.size) (hn:toks.length<=1073741824) (hb:(wholeOf toks).length<=1073741824):
  Calls prog 156 #[v] w fun e w'=> e= .returned (.string ⟨(wholeOf toks).toArray⟩)/\Below w.heap.size w w':=by
 have hn':(toks.length:Int)<=1073741824:=by omega
 obtain ⟨_,a,c,rfl,_,hd⟩:=h;have HD:=h2_ hd hP;have HL:=hd_ hb;clear hd hP hb;go_in;go_wp2;go_loopg [8] toks.length (fun k v8 wr=> WhRel w toks k v8 wr)
 case atStart=> exact ⟨0,rfl,rfl,eV_ _,Or.inl ⟨rl_ _,_,eD_ _ _,World.ownsRow_nil _ _ _ _,by simp[Value.ownBlock]⟩,(eB_ _ _).alloc (rl_ _) _⟩
 case round=>
  obtain ⟨j,rfl,hk,hj,hbu,hbw⟩:=hrel;have HR:=h3_ hk hbu hbw;clear hk hbu hbw;by_cases hlt:j < toks.length
  ·have hlt':(j:Int) < (toks.length:Int):=(by omega);obtain ⟨tk,htk⟩:∃ tk,toks[j]? =some tk:=⟨_,eA_ hlt⟩
   obtain ⟨g,o,rfl,hg,hrg⟩:=HD.a.resolve_left (fun h=> by omega);obtain ⟨kd,ld,tx,ps⟩:=tk;have hrg':wr.rangeAt g (o+j*4) [.int .i64 kd,.string ⟨ld.toArray⟩,.string ⟨tx.toArray⟩,.int .i64 ps]:=QV (f:=tkCells) (s:=4) (fun _=> rfl) (Xi hrg (HR.C.block g (HD.B g (hg.resolve_left (by omega))))) htk;have HG:=hd_ hrg';have HT:=hd_ htk;have HBB:=hd_ (X9 HR.b ((eB_ wr.heap.size wr).alloc (rl_ _) (.cells #[.int .i64 kd,.string ⟨ld.toArray⟩,.string ⟨tx.toArray⟩,.int .i64 ps] 197)));have HSZ:=hd_ (Q37 htk);have hlt2:ld.length+tx.length<=1073741824:=(by have h1:=HSZ.B;rw[HSZ.a] at h1;have h2:=HL.o;simp only[eC_] at h1;omega);have hlt3:(ld.length:Int)+(tx.length:Int)<=1073741824:=(by omega);clear hrg' hrg htk hg;go_wp2_with (first
    | (refine wpList_load_mid rfl 197 _ rfl g (o+j*4) rfl _ _ HG.o underlying197 rfl rfl ?_)
    | (go_at_call 48;rw[Q0t];refine (Q36 w.heap.size w.heap.size _ _ _ HBB.o (Q38 HSZ.o HL.o) (eE_ HR.C.size (Nat.le_of_lt (by rw[<-Q5];omega)))).mono ?_;rintro e w3 ⟨rfl,hb3,hw3⟩;have H3:=h2_ hb3 hw3;clear hb3 hw3))
   go_roundg (toks.length - (j+1))
   case measure=> have:=HR.a;omega
   case rel=>
    refine ⟨j+1,by go_num,rfl,by omega,?_,(HR.C.alloc HR.C.size _).trans H3.B⟩;have:=H3.a;rw[show Lib.strCells ⟨(ld++tx).toArray⟩=Lib.byteCells (ld++tx) from rfl, <-Lib.byteCells_append, <-HSZ.a] at this;exact this
  ·obtain rfl:j=toks.length:=(by omega);go_wp2_with (go_at_call 49;refine (Tryz.Builder_String_any w.heap.size w.heap.size (wholeOf toks) _ (by have:=HR.b;rwa [List.take_length] at this) HR.C.size).mono ?_;rintro e w2 ⟨rfl,hb2⟩;have HB2:=hd_ hb2;clear hb2);go_ret;exact ⟨rfl,HR.C.trans HB2.o⟩
theorem Q39 {toks:List Tr.Tk} (h:RdS w P 4 vt toks.length (tksCells toks)) (hP:∀ k,P k->k < w.heap.size) (hn:toks.length<=1073741824) (hb:(wholeOf toks).length<=1073741824):
  Calls prog 118 #[.agg #[vt,vn]] w fun e w'=> e= .returned (.string ⟨(wholeOf toks).toArray⟩)/\Below w.heap.size w w':=by
 have hb1:Below w.heap.size w (w.alloc (.cells #[vt,vn] 90)):=(eB_ _ _).alloc (rl_ _) _;have HW:=hd_ (Q1r (h.keep (Keeps.of hb1 hP)) (fun k hk=> eI_ (hP k hk) hb1.size) hn hb);have HB:=hd_ hb1;obtain ⟨a,c,rfl⟩:=h.form;clear h hP hb1 hb;go_in;go_wp2_with (go_at_call 156;refine HW.o.mono ?_;rintro e w2 ⟨rfl,hb2⟩;have HB2:=hd_ hb2;clear hb2);go_ret;exact ⟨rfl,HB.o.trans (HB2.o.mono HB.o.size)⟩
def BP (w:World) (B b:Nat) (vn:Value) (k:Nat):Prop:=B<=k/\k≠b/\vn.ownBlock≠some k/\k < w.heap.size
def BPt (T:TypeId) (w:World) (B b:Nat) (vn:Value) (k:Nat):Prop:=BP w B b vn k/\∃ cs,w.heap[k]? =some (.cells cs T (0,0))
theorem Qm {base:Nat} {size:Nat} (h:w.ownsRow base e size v n xs) {k:Nat} (hk:v.ownBlock=some k):∃ cur,w.heap[k]? =some (.cells cur e (0,0)):=by
 rcases h.2 with ⟨rfl,_⟩ | ⟨g,cap,cur,rfl,_,hg,_⟩
 ·cases hk
 ·injection hk with hk;subst hk;exact ⟨cur,hg⟩
def BPq (Q:Nat->Prop) (T:TypeId) (w:World) (B b:Nat) (vn:Value) (k:Nat):Prop:=BPt T w B b vn k/\Q k
structure BuildI (Q:Nat->Prop) (w:World) (B b:Nat) (vt vn:Value) (t:Tr.T) (used:Nat):Prop where
 cell:w.heap[b]? =some (.cells #[vt,vn,.int .i64 used] 224 (0,0))
 base:B<=b
 ne:vn.ownBlock≠some b
 toks:RdS w (BPt 197 w B b vn) 4 vt t.toks.length (tksCells t.toks)
 nodes:∃ kvs:List Value,kvs.length=t.nodes.length/\w.ownsRow B 157 3 vn t.nodes.length ((t.nodes.zip kvs).flatMap ndCells)/\
  ∀ (i:Nat) (n:Tr.Nd) (kv:Value),t.nodes[i]? =some n->kvs[i]? =some kv->RdS w (BPq Q 3 w B b vn) 1 kv n.kids.length (intCells n.kids)
theorem Q4s (l:List Tr.Tk):∀ u∈tksCells l,u.oneCell'=true:=by
 intro u hu;simp only[tksCells,List.mem_flatMap,tkCells] at hu;obtain ⟨k,_,hk⟩:=hu;simp only[List.mem_cons,List.not_mem_nil,or_false] at hk;rcases hk with rfl | rfl | rfl | rfl <;> rfl
theorem ints_one (l:List Int):∀ u∈intCells l,u.oneCell'=true:=by
 intro u hu;simp only[intCells,List.mem_map] at hu;obtain ⟨k,_,rfl⟩:=hu;rfl
theorem UL (Q:Nat->Prop) {w:World} {P:Nat->Prop} {v:Value} {l:List Tr.Tk} (h:RdS w P 4 v l.length (tksCells l)) (hn:l.length<=1073741824):
  Calls prog 111 #[v] w fun e w'=> ∃ b vt,e= .returned (.pointer (some ⟨b,0,none⟩))/\BuildI Q w' w.heap.size b vt (.slice none 0 0) ⟨l, []⟩ 0/\Below w.heap.size w w':=by
 have HC:=hd_ (LE h hn (Q4s l));clear h hn;go_in;go_wp2_with (go_at_call 144;refine HC.o.mono ?_;rintro e w1 ⟨v1,rfl,ho,hb⟩;obtain ⟨a1,c1,rfl⟩:=Qj ho;have HO:=hd_ ho;have HB:=hd_ hb;clear ho hb);go_ret;have hlt:=HO.o.lt;refine ⟨w1.heap.size,_,rfl,⟨eD_ _ _,HB.o.size,by simp[Value.ownBlock],?_,⟨[],rfl,World.ownsRow_nil _ _ _ _,fun i n kv hi=> by simp at hi⟩⟩,HB.o.alloc HB.o.size _⟩;have ha:Below w1.heap.size w1 (w1.alloc (.cells #[.slice a1 l.length c1,.slice none 0 0,.int .i64 0] 224)):=(eB_ _ _).alloc (rl_ _) _;refine ((RdS.own HO.o).keep (Keeps.of ha fun i hi=> hi.2.2)).imp fun k hk=> ⟨⟨hk.2.1,by have:=hk.2.2;omega,by simp[Value.ownBlock],by rw[<-Q5];have:=hk.2.2;omega⟩,?_⟩;obtain ⟨cur,hcur⟩:=Qm HO.o hk.1;exact ⟨cur,(ha.block k hk.2.2).trans hcur⟩
section
variable {Q:Nat->Prop}
structure But (S:Nat->Prop) (w w':World):Prop where
 os:w'.os=w.os
 tape:w'.tape=w.tape
 output:w'.output=w.output
 size:w.heap.size<=w'.heap.size
 block:∀ k,k < w.heap.size->¬ S k->w'.heap[k]? =w.heap[k]?
def Grew (w w':World) (b:Nat) (vn vn':Value):Prop:=But (fun k=> k=b\/vn.ownBlock=some k) w w'/\∀ k,vn'.ownBlock=some k->vn.ownBlock=some k\/w.heap.size<=k
theorem Q1s (w:World) (vt:Value) (a:Option Addr) (n c:Nat) (hn:n<=1073741824):
  Calls prog 81 #[.agg #[vt,.slice a n c]] w fun e w'=> e= .returned (.int .i64 ((n:Int) - 1))/\w.alloc (.cells #[vt,.slice a n c] 90)=w':=by
 have hn':(n:Int)<=1073741824:=by omega
 go_in;go_wp2;go_ret;exact ⟨rfl,rfl⟩
theorem LH:(prog.info? 157).map (fun i=> (i.zero,i.size,i.bytes))=some (some (.agg #[.int .i64 0,.int .i64 0,.slice none 0 0]),3,40):=by kernel_rfl
theorem Q3 {T:TypeId} {fr:Nat × Nat} (h:w.heap[b]? =some (.cells cs T fr)) (j:Nat) {u:Value} (hj:cs[j]? =some u):w.cell? ⟨b,j,none⟩=some u:=by
 simp[World.cell?,h,hj]
theorem Qp {T:TypeId} (h:w.heap[b]? =some (.cells cs T (0,0))) (j:Nat):w.frozen? ⟨b,j,none⟩=false:=by
 simp[World.frozen?,h]
theorem Q4 {o:Obj} (h:w.heap[k]? =some o):k < w.heap.size:=by
 rcases eS_ k w.heap.size with h1 | h1
 ·exact h1
 ·rw[Array.getElem?_eq_none h1] at h;cases h
def AddSays (Q:Nat->Prop) (w:World) (B b:Nat) (vt vn:Value) (t:Tr.T) (used:Nat) (n:Tr.Nd) (e:Ending) (w':World):Prop:=
 ∃ vn',e= .returned (.int .i64 t.nodes.length)/\BuildI Q w' B b vt vn' ⟨t.toks,t.nodes++ [n]⟩ used/\Grew w w' b vn vn'
theorem Q6d (w:World) (A B:Array Value) (T U:TypeId):((w.alloc (.cells A T)).alloc (.cells B U)).drew.heap[w.heap.size+1]? =some (.cells B U (0,0)):=by
 rw[Q5 w (.cells A T)];exact eD_ _ _
theorem Q6e {used:Nat} (h:BuildI Q w B b vt vn t used) (x y:Obj):B<=((w.alloc x).alloc y).drew.heap.size:=by
 show B<=((w.alloc x).alloc y).heap.size;rw[<-Q5, <-Q5];have:=h.base;have:=Q4 h.cell;omega
theorem LI {used:Nat} (h:BuildI Q w B b vt vn t used) {x y:Obj} (hg:((w.alloc x).alloc y).drew.grownBy w1 vn.ownBlock):
  w1.heap[b]? =some (.cells #[vt,vn,.int .i64 used] 224 (0,0)):=by
 have hlt:=Q4 h.cell;rw[hg.block b (by show b < ((w.alloc x).alloc y).heap.size;rw[<-Q5, <-Q5];omega) (fun e=> h.ne e.symm)];show ((w.alloc x).alloc y).heap[b]? =_;rw[eJ_ _ _ _ (by rw[<-Q5];omega),eJ_ _ _ _ hlt];exact h.cell
theorem Qk {base:Nat} {size:Nat} (h:w.ownsRow base e size v n xs) (hk:∀ k,v.ownBlock=some k->w'.heap[k]? =w.heap[k]?):w'.ownsRow base e size v n xs:=by
 obtain ⟨h1,h2⟩:=h;refine ⟨h1,?_⟩;rcases h2 with h2 | ⟨g,cap,cur,rfl,hg,hh,r⟩
 ·exact Or.inl h2
 ·exact Or.inr ⟨g,cap,cur,rfl,hg,by rw[hk g rfl];exact hh,r⟩
theorem Qx {T:TypeId} (h:w.heap[b]? =some (.cells cs T (0,0))) (u:Value):(w.setCell ⟨b,j,none⟩ u).heap[b]? =some (.cells (cs.setIfInBounds j u) T (0,0)):=by
 rw[setCell_eq_setRow w b j cs T (0,0) u h];exact Qb h
theorem Q6f {used:Nat} (h:BuildI Q w B b vt vn t used) {n:Tr.Nd} {kv:Value} (hk:RdS w (BPq Q 3 w B b vn) 1 kv n.kids.length (intCells n.kids))
  {kvs:List Value} (hk1:kvs.length=t.nodes.length) (hk3:∀ (i:Nat) (n:Tr.Nd) (kv:Value),t.nodes[i]? =some n->kvs[i]? =some kv->RdS w (BPq Q 3 w B b vn) 1 kv n.kids.length (intCells n.kids))
  {x y z:Obj} {g cap:Nat} (hown:w1.ownsRow B 157 3 (.slice (some ⟨g,0,none⟩) (t.nodes.length+1) cap) (t.nodes.length+1) ((t.nodes.zip kvs).flatMap ndCells++ [.int .i64 n.kind,.int .i64 n.tok,kv]))
  (hgrow:((w.alloc x).alloc y).drew.grownBy w1 vn.ownBlock) (hat:vn.ownBlock=some g\/g=((w.alloc x).alloc y).drew.heap.size):
  BuildI Q ((w1.setCell ⟨b,1,none⟩ (.slice (some ⟨g,0,none⟩) (t.nodes.length+1) cap)).alloc z) B b vt (.slice (some ⟨g,0,none⟩) (t.nodes.length+1) cap) ⟨t.toks,t.nodes++ [n]⟩ used/\
  Grew w ((w1.setCell ⟨b,1,none⟩ (.slice (some ⟨g,0,none⟩) (t.nodes.length+1) cap)).alloc z) b vn (.slice (some ⟨g,0,none⟩) (t.nodes.length+1) cap):=by
 have hst:=LI h hgrow;have hblt:=Q4 h.cell;have hs2:((w.alloc x).alloc y).drew.heap.size=w.heap.size+2:=by
  show ((w.alloc x).alloc y).heap.size=_;rw[<-Q5, <-Q5]
 have hs1:w.heap.size+2<=w1.heap.size:=by rw[<-hs2];exact hgrow.size
 have hgb:g≠b:=by
  rcases hat with h1 | h1
  ·intro e;exact h.ne (by rw[h1,e])
  ·omega
 have hglt:g < w1.heap.size:=(hown.lt g rfl).2;generalize hv:Value.slice (some ⟨g,0,none⟩) (t.nodes.length+1) cap=v at*;have hvo:v.ownBlock=some g:=by rw[<-hv];rfl
 have hsz:(w1.setCell ⟨b,1,none⟩ v).heap.size=w1.heap.size:=by simp[World.setCell]
 have hne:∀ k,k < w1.heap.size->k≠b->((w1.setCell ⟨b,1,none⟩ v).alloc z).heap[k]? =w1.heap[k]? :=by
  intro k h1 h2;rw[eJ_ _ _ _ (by rw[hsz];exact h1),Below.heap_setCell _ _ _ _ h2]
 have hold:∀ k,k < w.heap.size->k≠b->vn.ownBlock≠some k->((w1.setCell ⟨b,1,none⟩ v).alloc z).heap[k]? =w.heap[k]? :=by
  intro k h1 h2 h3;rw[hne k (by omega) h2,hgrow.block k (by omega) (fun e=> h3 e.symm)];show ((w.alloc x).alloc y).heap[k]? =_;rw[eJ_ _ _ _ (by rw[<-Q5];omega),eJ_ _ _ _ h1]
 have hbp:∀ k,BP w B b vn k->BP ((w1.setCell ⟨b,1,none⟩ v).alloc z) B b v k:=by
  rintro k ⟨h1,h2,h3,h4⟩;refine ⟨h1,h2,?_,by rw[<-Q5,hsz];omega⟩;rw[hvo];intro e;injection e with e;subst e;rcases hat with h5 | h5
  ·exact h3 h5
  ·omega
 have hkeep:∀ T,Keeps (BPt T w B b vn) w ((w1.setCell ⟨b,1,none⟩ v).alloc z):=fun T k hk=> hold k hk.1.2.2.2 hk.1.2.1 hk.1.2.2.1;have hbpt:∀ T k,BPt T w B b vn k->BPt T ((w1.setCell ⟨b,1,none⟩ v).alloc z) B b v k:=fun T k hk=> ⟨hbp k hk.1,hk.2.imp fun cs hc=> (hkeep T k hk).trans hc⟩;refine ⟨⟨?_,h.base,?_,(h.toks.keep (hkeep _)).imp (hbpt _),kvs++ [kv],by simp[hk1],?_,?_⟩,⟨?_,?_,?_,?_,?_⟩,?_⟩
 ·rw[eJ_ _ _ _ (by rw[hsz];omega),Qx hst];rfl
 ·rw[hvo];intro e;injection e with e;exact hgb e
 ·have h1:(t.nodes++ [n]).zip (kvs++ [kv])=t.nodes.zip kvs++ [(n,kv)]:=by rw[List.zip_append hk1.symm];rfl
  simp only[h1,List.flatMap_append,eC_,eL_,eU_];refine Qk (by simpa [ndCells] using hown) fun k hk=> ?_;rw[hvo] at hk;injection hk with hk;subst hk;exact hne g hglt hgb
 ·intro i m kv' hi hkv;rcases eS_ i t.nodes.length with hlt | hge
  ·rw[eT_ hlt] at hi;rw[eT_ (by omega)] at hkv;exact ((hk3 i m kv' hi hkv).keep fun k hk=> hkeep _ k hk.1).imp fun k hk=> ⟨hbpt _ k hk.1,hk.2⟩
  ·have h0:i=t.nodes.length:=by
    rcases eS_ t.nodes.length i with h1 | h1
    ·rw[List.getElem?_eq_none (by simp;omega)] at hi;cases hi
    ·omega
   subst h0;rw[eO_ (rl_ _)] at hi;rw[eO_ (by omega)] at hkv;simp only[Nat.sub_self,eZ_,Option.some.injEq,hk1] at hi hkv;subst hi hkv;exact (hk.keep fun k hk=> hkeep _ k hk.1).imp fun k hk=> ⟨hbpt _ k hk.1,hk.2⟩
 ·exact hgrow.os
 ·exact hgrow.tape
 ·exact hgrow.output
 ·rw[<-Q5,hsz];omega
 ·intro k h1 h2;exact hold k h1 (fun e=> h2 (Or.inl e)) (fun e=> h2 (Or.inr e))
 ·intro k hk;rw[hvo] at hk;injection hk with hk;subst hk;rcases hat with h5 | h5
  ·exact Or.inl h5
  ·right;omega
theorem LJ {used:Nat} (h:BuildI Q w B b vt vn t used) (hn:t.nodes.length<=1073741823) (n:Tr.Nd) (kv:Value) (hk:RdS w (BPq Q 3 w B b vn) 1 kv n.kids.length (intCells n.kids)):
  Calls prog 195 #[.pointer (some ⟨b,0,none⟩),.agg #[.int .i64 n.kind,.int .i64 n.tok,kv]] w (AddSays Q w B b vt vn t used n):=by
 obtain ⟨kvs,hk1,hk2,hk3⟩:=h.nodes;obtain ⟨an,cn,rfl⟩:=Qj hk2;obtain ⟨at_,ct,rfl⟩:=h.toks.form;obtain ⟨ak,ck,rfl⟩:=hk.form;obtain ⟨i0,hi,hz0,hz1,hz2⟩:=Qw LH;have Hi:=hd_ hi;have Hz0:=hd_ hz0;have Hz1:=hd_ hz1;have Hz2:=hd_ hz2;have hlt:=Q4 h.cell;have c0:=Q3 h.cell 0 rfl;have c1:=Q3 h.cell 1 rfl;have HH:=hd_ h;have HK:=hd_ hk;have HKS:=h3_ hk1 hk2 hk3;have HN:=hd_ hn;clear hi hz0 hz1 hz2 h hk hk1 hk2 hk3 hn;go_in;go_wp2;go_region_law (refine step_append_lies _ rfl (.tmp 10) (.tmp 12) 88 rfl B 157 i0 (.agg #[.int .i64 0,.int .i64 0,.slice none 0 0]) 3 40 underlying88 Hi.o Hz0.o Hz1.o Hz2.o rfl (by decide) (.slice an t.nodes.length cn) t.nodes.length ((t.nodes.zip kvs).flatMap ndCells) (by simp[Act.eval]) ((HKS.b.alloc _).alloc _) ⟨w.heap.size+1,0,none⟩ 1 1 [.int .i64 n.kind,.int .i64 n.tok,.slice ak n.kids.length ck] (by simp[Act.eval]) rfl (World.news_of_block (Q6d w _ _ _ _)) (by simp[Value.oneCell']) (by decide) (by have:=HN.o;unfold maxLen;omega) (by have:=HN.o;omega) (Q6e HH.o _ _) _ rfl ?_;intro g cap w1 hown hgrow hat hlt1;have hst:=LI HH.o hgrow;have d0:=Q3 hst 0 rfl;have d1:=Q3 hst 1 rfl;have f1:=Qp hst 1;have HG:=h5_ hown hgrow hat hlt1 hst;clear hown hgrow hat hlt1 hst)
 all_goals
  have hd:=Q6f HH.o HK.o HKS.a HKS.C (z:= .cells #[.slice at_ t.toks.length ct,.slice (some ⟨g,0,none⟩) (t.nodes.length+1) cap] 90) HG.a HG.b HG.c;have hst2:=Qx (j:=1) HG.E (.slice (some ⟨g,0,none⟩) (t.nodes.length+1) cap);have e0:=Q3 hst2 0 rfl;have e1:=Q3 hst2 1 rfl;have HD:=hd_ hd;clear hd hst2 d0 d1 f1 c0 c1 HG;generalize w1.setCell ⟨b,1,none⟩ (.slice (some ⟨g,0,none⟩) (t.nodes.length+1) cap)=w2 at*;have hn2:=HN.o;go_wp2_with (go_at_call 81;refine (Q1s _ _ _ _ _ (by omega)).mono ?_;rintro e w3 ⟨rfl,rfl⟩);go_ret;obtain ⟨q1,q2⟩:=HD.o;refine ⟨_,?_,q1,q2⟩;simp
end
section
variable {Q:Nat->Prop}
theorem BP.size {w w':World} {B b:Nat} {vn:Value} {k:Nat} (h:BP w B b vn k) (hs:w.heap.size<=w'.heap.size):BP w' B b vn k:=⟨h.1,h.2.1,h.2.2.1,eI_ h.2.2.2 hs⟩
theorem BuildI.stays {used used':Nat} (h:BuildI Q w B b vt vn t used) (hc:w'.heap[b]? =some (.cells #[vt,vn,.int .i64 used'] 224 (0,0)))
  (hs:w.heap.size<=w'.heap.size) (hk:∀ k,k < w.heap.size->k≠b->B<=k->w'.heap[k]? =w.heap[k]?):BuildI Q w' B b vt vn t used':=by
 have hkeep:∀ T,Keeps (BPt T w B b vn) w w':=fun T k hk'=> hk k hk'.1.2.2.2 hk'.1.2.1 hk'.1.1;have hbpt:∀ T k,BPt T w B b vn k->BPt T w' B b vn k:=fun T k hk'=> ⟨hk'.1.size hs,hk'.2.imp fun cs hc=> (hkeep T k hk').trans hc⟩;obtain ⟨kvs,hk1,hk2,hk3⟩:=h.nodes;exact ⟨hc,h.base,h.ne,(h.toks.keep (hkeep _)).imp (hbpt _),kvs,hk1,Qk hk2 fun k hk'=> hk k (hk2.lt k hk').2 (fun e=> h.ne (by rw[hk',e])) (hk2.lt k hk').1,fun i n kv hi hkv=> ((hk3 i n kv hi hkv).keep fun k hk=> hkeep _ k hk.1).imp fun k hk=> ⟨hbpt _ k hk.1,hk.2⟩⟩
theorem BuildI.keep {used:Nat} (h:BuildI Q w B b vt vn t used) (hs:w.heap.size<=w'.heap.size) (hk:∀ k,k < w.heap.size->B<=k->w'.heap[k]? =w.heap[k]?):BuildI Q w' B b vt vn t used:=
 h.stays (by rw[hk b (Q4 h.cell) h.base];exact h.cell) hs fun k h1 _ h3=> hk k h1 h3
theorem But.of {S:Nat->Prop} (h:Below w.heap.size w w'):But S w w':=⟨h.os,h.tape,h.output,h.size,fun k hk _=> h.block k hk⟩
theorem Grew.trans {w w1 w2:World} {b:Nat} {vn vn1 vn2:Value} (h:Grew w w1 b vn vn1) (k:Grew w1 w2 b vn1 vn2):Grew w w2 b vn vn2:=by
 refine ⟨⟨k.1.os.trans h.1.os,k.1.tape.trans h.1.tape,k.1.output.trans h.1.output,eE_ h.1.size k.1.size,fun i hi hn=> ?_⟩,fun i hi=> ?_⟩
 ·rw[k.1.block i (eI_ hi h.1.size) ?_,h.1.block i hi hn];rintro (e | e)
  ·exact hn (Or.inl e)
  ·rcases h.2 i e with e2 | e2
   ·exact hn (Or.inr e2)
   ·omega
 ·rcases k.2 i hi with e | e
  ·exact h.2 i e
  ·exact Or.inr (eE_ h.1.size e)
theorem Grew.of {w w':World} {b:Nat} {vn:Value} (h:Below w.heap.size w w'):Grew w w' b vn vn:=⟨But.of h,fun _ h=> Or.inl h⟩
theorem leaf_used {used:Nat} (h:BuildI Q w B b vt vn t used):BuildI Q (w.setCell ⟨b,2,none⟩ (.int .i64 ((used:Int)+1))).drew B b vt vn t (used+1):=by
 refine h.stays ?_ (by show _<=(w.setCell _ _).heap.size;simp[World.setCell]) fun k _ h2 _=> ?_
 ·exact Qx h.cell _
 ·exact Below.heap_setCell _ _ _ _ h2
theorem Q56 {used:Nat}:Grew w (w.setCell ⟨b,2,none⟩ (.int .i64 ((used:Int)+1))).drew b vn vn:=
 ⟨⟨rfl,rfl,rfl,by show _<=(w.setCell _ _).heap.size;simp[World.setCell],fun k _ h2=> Below.heap_setCell _ _ _ _ (fun e=> h2 (Or.inl e))⟩,fun _ h=> Or.inl h⟩
def LeafSays (Q:Nat->Prop) (w:World) (B b:Nat) (vt vn:Value) (t:Tr.T) (used:Nat) (e:Ending) (w':World):Prop:=
 if used=t.toks.length then e= .returned (.int .i64 (-1))/\BuildI Q w' B b vt vn t used/\Grew w w' b vn vn
 else ∃ vn',e= .returned (.int .i64 t.nodes.length)/\BuildI Q w' B b vt vn' ⟨t.toks,t.nodes++ [⟨19,used, []⟩]⟩ (used+1)/\Grew w w' b vn vn'
theorem D6 {used:Nat} (h:BuildI Q w B b vt vn t used) (hn:t.nodes.length<=1073741823) (ht:t.toks.length<=1073741824) (hu:used<=t.toks.length):
  Calls prog 149 #[.pointer (some ⟨b,0,none⟩)] w (LeafSays Q w B b vt vn t used):=by
 obtain ⟨at_,ct,rfl⟩:=h.toks.form;have ht':(t.toks.length:Int)<=1073741824:=by omega
 have hu':(used:Int)<=(t.toks.length:Int):=by omega
 have c0:=Q3 h.cell 0 rfl;have c2:=Q3 h.cell 2 rfl;have f2:=Qp h.cell 2;have HH:=hd_ h;have HN:=hd_ hn;clear h hn;unfold LeafSays;by_cases hul:used=t.toks.length
 ·simp only[if_pos hul];have hul':((used:Int)==(t.toks.length:Int))=true:=by simp[hul]
  go_in;go_wp2;go_region
  all_goals go_wp2
  all_goals go_ret
  all_goals exact ⟨rfl,HH.o.keep (rl_ _) (fun _ _ _=> rfl),Grew.of (eB_ _ _).drew⟩
 ·simp only[if_neg hul];have hul':((used:Int)==(t.toks.length:Int))=false:=by simp;omega
  have hul2:(used:Int) < (t.toks.length:Int):=by omega
  go_in;go_wp2;go_region
  all_goals
   have hB2:=leaf_used HH.o;have hG2:=Q56 (w:=w) (b:=b) (vn:=vn) (used:=used);have HB2:=hd_ hB2;have HG2:=hd_ hG2;clear hB2 hG2;go_wp2_with (go_at_call 195;refine (LJ HB2.o HN.o ⟨19,used, []⟩ (.slice none 0 0) (RdS.nil _ _ _)).mono ?_;rintro e w3 ⟨vn',rfl,q1,q2⟩;have Q1:=hd_ q1;have Q2:=hd_ q2;clear q1 q2);go_ret;exact ⟨vn',rfl,Q1.o,HG2.o.trans Q2.o⟩
end
end Go.Proofs.YtiecccakcenobaaGreatDoor
