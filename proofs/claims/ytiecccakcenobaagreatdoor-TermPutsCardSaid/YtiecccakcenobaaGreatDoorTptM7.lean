/- A part of the proof. -/
import Derived.Test.YtiecccakcenobaaGreatDoorTptM6
set_option linter.all false
set_option maxRecDepth 100000
set_option maxHeartbeats 64000000
namespace Go.Proofs.YtiecccakcenobaaGreatDoor
open Tryz
open Go.RowKit
def NdRel (w:World) (s:List UInt8) (k:Nat) (v3:Value) (wr:World):Prop:=∃ i:Nat,v3= .int .i64 (i:Int)∧k=s.length - i∧i≤s.length∧wr=w
def SomeB (w:World) (e:Ending) (w':World):Prop:=∃ b,e= .returned (.bool b)∧w'=w
theorem UZ (s:List UInt8) (hs:s.length≤1073741824) (w:World):Calls prog 15 #[.string ⟨s.toArray⟩] w (SomeB w):=by
 have hl:(s.length:Int)≤1073741824:=by omega
 obtain ⟨S,hS⟩:∃ S:ByteArray,⟨s.toArray⟩=S:=⟨_,rfl⟩
 have hsz:S.size=s.length:=by rw[←hS];exact Q1q s
 rw[hS];go_in;go_wp2_with fail;go_loopg [3] s.length (fun k v3 wr=> NdRel w s k v3 wr)
 case atStart=> exact ⟨0,rfl,rfl,eV_ _,rfl⟩
 case round=>
  obtain ⟨i,rfl,hk,hi,rfl⟩:=hrel;have HR:=hd_ hk;clear hk;by_cases hlt:i < s.length
  ·have hlt2:(i:Int) < (s.length:Int):=(by omega);have hlt3:i < S.size:=(by omega);clear hlt;obtain ⟨c,hc⟩:∃ c:Int,((S[i]'hlt3).toNat:Int)=c:=⟨_,rfl⟩
   by_cases c43:c=43
   ·have d43:(c==43)=true:=(by rw[c43];rfl);clear c43;go_wp2_with fail;go_ret;exact ⟨_,rfl,rfl⟩
   ·have d43:(c==43)=false:=beq_false_of_ne c43;clear c43;by_cases c42:c=42
    ·have d42:(c==42)=true:=(by rw[c42];rfl);clear c42;go_wp2_with fail;go_ret;exact ⟨_,rfl,rfl⟩
    ·have d42:(c==42)=false:=beq_false_of_ne c42;clear c42;by_cases c40:c=40
     ·have d40:(c==40)=true:=(by rw[c40];rfl);clear c40;go_wp2_with fail;go_ret;exact ⟨_,rfl,rfl⟩
     ·have d40:(c==40)=false:=beq_false_of_ne c40;clear c40;by_cases c41:c=41
      ·have d41:(c==41)=true:=(by rw[c41];rfl);clear c41;go_wp2_with fail;go_ret;exact ⟨_,rfl,rfl⟩
      ·have d41:(c==41)=false:=beq_false_of_ne c41;clear c41;by_cases c44:c=44
       ·have d44:(c==44)=true:=(by rw[c44];rfl);clear c44;go_wp2_with fail;go_ret;exact ⟨_,rfl,rfl⟩
       ·have d44:(c==44)=false:=beq_false_of_ne c44;clear c44;go_wp2_with fail;go_roundg (s.length - (i+1))
        case measure=> have:=HR.o;omega
        case rel=> exact ⟨i+1,by go_num,rfl,by omega,rfl⟩
  ·obtain rfl:s.length=i:=(by omega);go_wp2_with fail;go_ret;exact ⟨_,rfl,rfl⟩
theorem Q4e (w:World):Calls prog 36 #[.int .i64 (-9223372036854775808)] w fun e w'=> ∃ v',e= .returned v'∧Zn w' v' 0∧Below w.heap.size w w':=by
 go_in;go_wp2_with fail;go_loopg [0,4] 0 (fun k v0 v4 wr=> v0= .int .i64 (-9223372036854775808)∧v4= .slice none 0 0∧wr=w.alloc (.cells #[.int .i64 0,.slice none 0 0] 48))
 case atStart=> exact ⟨congrArg (Value.int .i64) (by first | (unfold wrap64;omega) | (unfold wrap64;decide) | (simp[wrap64];done) | kernel_rfl),rfl,rfl⟩
 case round=>
  obtain ⟨rfl,rfl,rfl⟩:=hrel;have hbx:=box1 w #[.int .i64 0,.slice none 0 0] 48;have HV:=hd_ hbx;clear hbx;go_wp2_with fail;refine (Xs (l:= []) (RdD.nil _) (by decide) (fun d hd=> by cases hd) (-1) 0 (by simp[Zp.val]) (by omega)).mono ?_;rintro e w2 ⟨v2,rfl,hr,hb⟩;have HT2:=h3_ ((hb.block _ (Q4 HV.a)).trans HV.a) hr (HV.B.trans (hb.mono HV.B.size));clear hr hb;dsimp only;go_wp2_with (refine XF rfl _ _ rfl rfl HT2.a rfl rfl HT2.b (rl_ _) HT2.C ?_;rintro W cs - rfl hg hs hn hb -;have HT:=h4_ hg hs hn hb;clear hg hs hn hb);exact eG_ (Yg rfl rfl HT.a HT.b) rfl ⟨_,rfl,HT.c,HT.D⟩
theorem Xw (n:Int) (h1: -9223372036854775808≤n) (h2:n≤9223372036854775807) (w:World):
  Calls prog 36 #[.int .i64 n] w fun e w'=> ∃ v' z,e= .returned v'∧(n≠ -9223372036854775808→z=n)∧Zn w' v' z∧Below w.heap.size w w':=by
 by_cases h:n=-9223372036854775808
 ·subst h;exact (Q4e w).mono fun e w' ⟨v',a,b,c⟩=> ⟨v',0,a,fun h=> absurd rfl h,b,c⟩
 ·exact (UV n (by omega) h2 w).mono fun e w' ⟨v',a,b,c⟩=> ⟨v',n,a,fun _=> rfl,b,c⟩
inductive Ex where
 | mk (op:Int) (name mod:List UInt8) (num:Int) (yes:Bool) (kids:List Ex) (pos:Int)
namespace Ex
def op:Ex→Int | mk o _ _ _ _ _ _=> o
def name:Ex→List UInt8 | mk _ n _ _ _ _ _=> n
def mod:Ex→List UInt8 | mk _ _ m _ _ _ _=> m
def num:Ex→Int | mk _ _ _ n _ _ _=> n
def yes:Ex→Bool | mk _ _ _ _ y _ _=> y
def kids:Ex→List Ex | mk _ _ _ _ _ k _=> k
def pos:Ex→Int | mk _ _ _ _ _ _ p=> p
def none:Ex:=mk 0 [] [] 0 false [] 0
mutual
def size:Ex→Nat
 | mk _ _ _ _ _ k _=> 1+sizes k
def sizes:List Ex→Nat
 | []=> 0
 | e::r=> size e+sizes r
end
def plain (w:List UInt8):Bool:=
 match Lx.lex w with
 | (l,e,_)=> e==0 && l.length==2 && (match l with | k::_=> k.kind==1 && k.text==w | []=> false)
def names (e:Ex):Bool:=
 if e.op=3∨e.op=22 then plain e.name && e.mod.isEmpty
 else if e.op=24 then plain e.name && (e.mod.isEmpty || plain e.mod)
 else e.name.isEmpty && e.mod.isEmpty
def values (e:Ex):Bool:=
 if e.op=1 then decide (0≤e.num) && decide ((Zp.text e.num).length≤60) && !e.yes
 else decide (e.num=0) && (decide (e.op=2) || !e.yes)
def count (op:Int) (n:Nat):Bool:=
 if op≤4 then n==0 else if op≤6 then n==1 else if op≤20∨op=22∨op=23 then n==2 else if op=21 then n==3 else decide (n≤8)
def one (e:Ex):Bool:=decide (1≤e.op) && decide (e.op≤20) && names e && values e && count e.op e.kids.length
mutual
def right:Ex→Bool
 | mk o n m z y k p=> one (mk o n m z y k p) && rights k
def rights:List Ex→Bool
 | []=> true
 | e::r=> right e && rights r
end
theorem Q1t (e:Ex):right e=(one e && rights e.kids):=by cases e;simp only[right,kids]
def prod (a b:Tp.T):Option Tp.T:=if a.l= [] then some (Tp.add Tp.zero b a.rest) else if b.l= [] then some (Tp.add Tp.zero a b.rest) else Option.none
def ofK (e:Ex) (ks:List Tp.T):Option Tp.T:=
 if e.op=1 then some ⟨[],e.num⟩
 else if e.op=3 then some (Tp.name e.name)
 else if e.op=4 then some (Tp.name [114,101,115])
 else if e.op=5 then some (Tp.add Tp.zero (ks.getD 0 Tp.zero) (-1))
 else if e.op=7 then some (Tp.add (ks.getD 0 Tp.zero) (ks.getD 1 Tp.zero) 1)
 else if e.op=8 then some (Tp.add (ks.getD 0 Tp.zero) (ks.getD 1 Tp.zero) (-1))
 else if e.op=9 then prod (ks.getD 0 Tp.zero) (ks.getD 1 Tp.zero)
 else Option.none
mutual
def of:Ex→Option Tp.T
 | mk o n m z y k p=>
  match ofs k with
  | Option.none=> Option.none
  | some ks=> ofK (mk o n m z y k p) ks
def ofs:List Ex→Option (List Tp.T)
 | []=> some []
 | e::r=>
  match of e with
  | Option.none=> Option.none
  | some t=>
   match ofs r with
   | Option.none=> Option.none
   | some l=> some (t::l)
end
end Ex
end Go.Proofs.YtiecccakcenobaaGreatDoor
namespace Go.Proofs.YtiecccakcenobaaGreatDoor.Ax
open Tryz
open Tr
def nd (t:T) (n:Int):Option Nd:=if n < 0 then none else t.nodes[n.toNat]?
def tk (t:T) (n:Int):Option Tk:=
 match nd t n with
 | none=> none
 | some x=> if x.tok < 0 then none else t.toks[x.tok.toNat]?
def partsGo (t:T):List Int→Option (List Int)
 | []=> some []
 | k::r=>
  match nd t k with
  | none=> none
  | some x=>
   match partsGo t r with
   | none=> none
   | some l=> some (if x.kind=19 then l else k::l)
def parts (t:T) (n:Int):Option (List Int):=
 match nd t n with
 | none=> none
 | some x=> partsGo t x.kids
def signs:List (List UInt8):= [[43], [45], [42], [47], [37], [61], [60,62], [60], [60,61], [62], [62,61], [38,38], [124,124], [61,62]]
def exprs (f:Int→Option Ex):List Int→Option (List Ex)
 | []=> some []
 | k::r=>
  match f k with
  | none=> none
  | some e=>
   match exprs f r with
   | none=> none
   | some l=> some (e::l)
def made (f:Int→Option Ex) (t:T) (op pos:Int) (n:Int):Option (List Ex):=
 match parts t n with
 | none=> none
 | some ks=> exprs f ks
def wrap (f:Int→Option Ex) (t:T) (op pos:Int) (name mod:List UInt8) (n:Int):Option Ex:=
 match made f t op pos n with
 | none=> none
 | some es=> some (.mk op name mod 0 false es pos)
def binary (f:Int→Option Ex) (t:T) (n:Int) (x:Nd):Option Ex:=
 match x.kids[1]? with
 | none=> none
 | some k=>
  match tk t k with
  | none=> none
  | some s=>
   match signs.findIdx? (·==s.text) with
   | none=> some Ex.none
   | some i=> wrap f t (7+i) s.pos [] [] n
def call (f:Int→Option Ex) (t:T) (n:Int) (x:Nd):Option Ex:=
 match x.kids[0]?,x.kids[1]? with
 | some k0,some k1=>
  match tk t k0,tk t k1 with
  | some a,some b=>
   if b.text= [46] then
    match x.kids[2]? with
    | none=> none
    | some k2=>
     match tk t k2 with
     | none=> none
     | some c=> wrap f t 24 a.pos c.text a.text n
   else wrap f t 24 a.pos a.text [] n
  | _,_=> none
 | _,_=> none
def node (f:Int→Option Ex) (t:T) (n:Int) (x:Nd) (first:Tk):Option Ex:=
 if x.kind=12 then (match x.kids[1]? with | none=> none | some k=> f k)
 else if x.kind=10 then binary f t n x
 else if x.kind=13 then call f t n x
 else if x.kind=11 then wrap f t (if first.text= [110,111,116] then 6 else 5) first.pos [] [] n
 else if x.kind=8 then wrap f t 21 first.pos [] [] n
 else if x.kind=9 then wrap f t 23 first.pos [] [] n
 else if x.kind=7 then
  match x.kids[1]? with
  | none=> none
  | some k=>
   match tk t k with
   | none=> none
   | some c=> wrap f t 22 first.pos c.text [] n
 else if x.kind=15 then some (.mk 1 [] [] (Zp.parse first.text).1 false [] first.pos)
 else if x.kind=16 then some (.mk 2 [] [] 0 (first.text== [116,114,117,101]) [] first.pos)
 else if x.kind=17 then some (.mk 4 [] [] 0 false [] first.pos)
 else some (.mk 3 first.text [] 0 false [] first.pos)
def first (t:T) (x:Nd):Option Tk:=
 match x.kids[0]? with
 | none=> none
 | some k=>
  match nd t k with
  | none=> none
  | some y=> if y.kind=19 then tk t k else some ⟨0, [], [],0⟩
def expr (t:T):Nat→Int→Option Ex
 | 0,_=> none
 | g+1,n=>
  match nd t n with
  | none=> none
  | some x=>
   match first t x with
   | none=> none
   | some a=> node (expr t g) t n x a
def formula (t:T):Option Ex:=
 match nd t (root t) with
 | none=> none
 | some x=>
  match x.kids[0]? with
  | none=> none
  | some k=> expr t (t.nodes.length+1) k
end Go.Proofs.YtiecccakcenobaaGreatDoor.Ax
namespace Go.Proofs.YtiecccakcenobaaGreatDoor
open Tryz
open Go.RowKit
variable {x:List UInt8} {P:Nat→Prop} {v:Value} {w:World}
def strCells (l:List (List UInt8)):List Value:=l.map fun t=> .string ⟨t.toArray⟩
theorem Q4f {l:List (List UInt8)} (h:RdS w P 1 v l.length (strCells l)) (hl:l.length≤1073741824):
  Calls prog 223 #[v,.string ⟨x.toArray⟩] w fun e w'=> ∃ r:Int,e= .returned (.int .i64 r)∧decide (0≤r)=l.contains x∧w=w':=by
 obtain ⟨_,a,cl,rfl,_,hd⟩:=h;have hl':(l.length:Int)≤1073741824:=by omega
 have HD:=hd_ hd;clear hd;go_in;go_wp2;go_loopg [8] l.length (fun k v8 wr=> ∃ j:Nat,v8= .int .i64 j∧k=l.length - j∧j≤l.length∧wr=w∧(l.take j).contains x=false)
 case atStart=> exact ⟨0,rfl,rfl,eV_ _,rfl,by simp⟩
 case round=>
  obtain ⟨j,rfl,hk,hj,rfl,hall⟩:=hrel;have HK:=hd_ hk;have HA:=hd_ hall;clear hk hall;by_cases hlt:j < l.length
  ·have hlt':(j:Int) < (l.length:Int):=(by omega);obtain ⟨b2,off,rfl,_,hr⟩:=HD.o.resolve_left (fun h=> by omega);have hcell:wr.cell? ⟨b2,off+j,none⟩=some (.string ⟨(l[j]).toArray⟩):=hr j _ (by simp[strCells,eA_ hlt]);clear hr;obtain ⟨y,hy⟩:∃ y,l[j]=y:=⟨_,rfl⟩
   rw[hy] at hcell;have HY:=hd_ hy;clear hy;by_cases he:x=y
   ·subst he;go_wp2;go_ret;refine ⟨(j:Int),rfl,?_,rfl⟩;have h2:l.contains x=true:=by
     rw[List.contains_iff_mem];have h3:=List.getElem_mem hlt;rw[HY.o] at h3;exact h3
    rw[h2];simp
   ·have he2:(x==y)=false:=(by simpa using he);have HE:=hd_ he;clear he;go_wp2;go_roundg (l.length - (j+1))
    case measure=> have:=HK.o;omega
    case rel=>
     refine ⟨j+1,by go_num,rfl,by omega,rfl,?_⟩;rw[List.take_succ_eq_append_getElem hlt,HY.o];have:=HA.o;have h3:=HE.o;simp only[List.contains_eq_mem,decide_eq_false_iff_not] at this ⊢;simp[this,h3]
  ·obtain rfl:j=l.length:=(by omega);go_wp2;go_ret;refine ⟨-1,rfl,?_,rfl⟩;have h2:=HA.o;rw[List.take_length] at h2;rw[h2];rfl
theorem Q0k {l:List (List UInt8)} (h:RdS w P 1 v l.length (strCells l)) (hl:l.length≤1073741824):
  Calls prog 194 #[v,.string ⟨x.toArray⟩] w fun e w'=> e= .returned (.bool (l.contains x))∧w=w':=by
 have HI:=hd_ (Q4f (x:=x) h hl);obtain ⟨a,c,rfl⟩:=h.form;clear h;go_in;go_wp2_with (go_at_call 223;refine HI.o.mono ?_;rintro e w1 ⟨r,rfl,hr,rfl⟩;have HR:=hd_ hr;clear hr);go_ret;exact ⟨by rw[←HR.o];rfl,rfl⟩
section
variable {Q:Nat→Prop}
def Wk (tk:List Tr.Tk) (s:Ps.St):Prop:=0 < tk.length∧tk.length≤1000000∧s.used≤tk.length∧s.nodes.length≤5000000
theorem JU {w0 W:World} {b u:Nat} {tk:List Tr.Tk} {ns:List Tr.Nd} (h:Anc Q w0 W b ⟨tk,ns⟩ u) (h0:0 < tk.length) (h1:tk.length≤1000000) (hu:u≤tk.length):
  Calls prog 152 #[.pointer (some ⟨b,0,none⟩)] W fun e W'=> e= .returned (.agg #[.int .i64 (Ps.peek tk u).kind,.string ⟨(Ps.peek tk u).lead.toArray⟩,.string ⟨(Ps.peek tk u).text.toArray⟩,.int .i64 (Ps.peek tk u).pos])∧Below W.heap.size W W':=by
 obtain ⟨B,vt,vn,_,hB,_⟩:=h;refine Q2p hB (by show tk.length≤_;omega) hu ?_;show tk[min u (tk.length - 1)]? =_;unfold Ps.peek;rw[eA_ (by omega)];rfl
theorem Dd (k:Int) (l t:ByteArray) (q:Int) (w:World):(Instr.field 197 (.agg #[.int .i64 k,.string l,.string t,.int .i64 q]) 0).run prog w= .ok (.int .i64 k) w:=by kernel_rfl
theorem Q2U (k:Int) (l t:ByteArray) (q:Int) (w:World):(Instr.field 197 (.agg #[.int .i64 k,.string l,.string t,.int .i64 q]) 3).run prog w= .ok (.int .i64 q) w:=by kernel_rfl
section
variable {w0 W:World} {p b:Nat} {tk:List Tr.Tk} {dp:Int} {s:Ps.St}
theorem Qr (h:PI Q w0 W p b tk dp s):Calls prog 112 #[.pointer (some ⟨p,0,none⟩)] W fun e W'=> e= .returned (.bool (decide (s.e=0)))∧W=W':=by
 have c3:=h.c3;clear h;go_in;go_wp2;go_ret;exact ⟨rfl,rfl⟩
theorem Xd (h:PI Q w0 W p b tk dp s) (hw:Wk tk s) (x:Int):Calls prog 153 #[.pointer (some ⟨p,0,none⟩),.int .i64 x] W (Does Q w0 p b tk dp (0,Ps.fail tk x s) W):=by
 have HP:=hd_ h;have HW:=hd_ hw;have hok:=Qr h;by_cases he:s.e=0
 ·rw[eM_ he] at hok;have HOK:=hd_ hok;have HF:=hd_ (show Ps.fail tk x s={s with e:=x,pos:=(Ps.peek tk s.used).pos} by unfold Ps.fail;rw[if_pos he]);have c0:=h.c0;clear h hw hok he;go_in;go_wp2_with fail;refine HOK.o.mono ?_;rintro e W1 ⟨rfl,rfl⟩;dsimp only;go_wp2_with fail;refine (JU HP.o.anc HW.a HW.b HW.c).mono ?_;rintro e W2 ⟨rfl,hb2⟩;have hc2:=Qa HP.o.cell hb2;have d3:=(HP.o.past hb2).c3;have d4:=(HP.o.past hb2).c4;have f3:=Qo hc2 3;have f4:=Qo hc2 4;have H2:=h2_ hb2 hc2;have t3:=Q2U (Ps.peek tk s.used).kind ⟨(Ps.peek tk s.used).lead.toArray⟩ ⟨(Ps.peek tk s.used).text.toArray⟩ (Ps.peek tk s.used).pos W2;clear hb2 hc2 c0;dsimp only;go_wp2_with fail;go_ret;have h1:=Qs (j:=3) H2.B (.int .i64 x);have h2:=Qs (j:=4) h1 (.int .i64 (Ps.peek tk s.used).pos);have h3:=(HP.o.past H2.a).set (s':={s with e:=x,pos:=(Ps.peek tk s.used).pos}) ⟨rfl,rfl⟩ (W':=(W2.setCell ⟨p,3,none⟩ (.int .i64 x)).setCell ⟨p,4,none⟩ (.int .i64 (Ps.peek tk s.used).pos)) rfl rfl rfl (by simp[World.setCell]) h2 (fun k hk=> by rw[Below.heap_setCell _ _ _ _ hk,Below.heap_setCell _ _ _ _ hk]);refine ⟨rfl,?_,(FrT.of H2.a).trans h3.2⟩;rw[HF.o];exact h3.1
 ·rw[eK_ he] at hok;have HOK:=hd_ hok;have HF:=hd_ (show Ps.fail tk x s=s by unfold Ps.fail;rw[if_neg he]);clear h hw hok he;go_in;go_wp2_with fail;refine HOK.o.mono ?_;rintro e W1 ⟨rfl,rfl⟩;dsimp only;go_wp2_with fail;go_ret;exact ⟨rfl,by rw[HF.o];exact HP.o,FrT.refl _ _⟩
theorem QQ (h:PI Q w0 W p b tk dp s) (hw:Wk tk s) {ts:List (List UInt8)} {P:Nat→Prop} {v:Value} (hv:RdS W P 1 v ts.length (strCells ts)) (hP:∀ k,P k→k < W.heap.size) (hl:ts.length≤1000):
  Calls prog 148 #[.pointer (some ⟨p,0,none⟩),v] W fun e W'=> e= .returned (.bool (Ps.nextB tk ts s.used))∧Below W.heap.size W W':=by
 have HP:=hd_ h;have HW:=hd_ hw;have HV:=h3_ hv hP hl;obtain ⟨av,cv,rfl⟩:=hv.form;have c0:=h.c0;have hn:Ps.nextB tk ts s.used=((decide ((Ps.peek tk s.used).kind=2) || decide ((Ps.peek tk s.used).kind=4)) && ts.contains (Ps.peek tk s.used).text):=rfl;have hpk:=JU h.anc hw.1 hw.2.1 hw.2.2.1;rw[hn];generalize Ps.peek tk s.used=t at*;obtain ⟨kd,ld,tx,ps⟩:=t;dsimp only at hpk ⊢;have HPK:=hd_ hpk;clear h hw hv hP hn hpk;by_cases hk:kd=2∨kd=4
 ·have e1:(decide (kd=2) || decide (kd=4))=true:=by simpa using hk
  rw[e1,Bool.true_and];obtain ⟨y,hy⟩:∃ y,ts.contains tx=y:=⟨_,rfl⟩
  have hc0:∀ W',Below W.heap.size W W'→Calls prog 194 #[.slice av ts.length cv,.string ⟨tx.toArray⟩] W' fun e w'=> e= .returned (.bool y)∧W'=w':=fun W' hb=> by
   have:=Q0k (x:=tx) (HV.a.keep (w':=W') (Keeps.of hb HV.b)) (by have:=HV.C;omega);rwa [hy] at this
  have HC:=hd_ hc0;clear hc0;rw[hy];clear hy;rcases hk with rfl | rfl
  all_goals
   clear e1;go_in;go_wp2_with fail;refine HPK.o.mono ?_;rintro e W2 ⟨rfl,hb2⟩;have H2:=hd_ hb2;clear hb2 c0;dsimp only;go_wp2_with fail;refine (HC.o _ (H2.o.alloc H2.o.size _)).mono ?_;rintro e W3 ⟨rfl,rfl⟩;dsimp only;go_wp2_with fail;go_ret;exact ⟨rfl,H2.o.alloc H2.o.size _⟩
 ·have e1:(decide (kd=2) || decide (kd=4))=false:=by simpa using hk
  rw[e1,Bool.false_and];have k1:(kd==2)=false:=by simp;omega
  have k2:(kd==4)=false:=by simp;omega
  clear hk e1;go_in;go_wp2_with fail;refine HPK.o.mono ?_;rintro e W2 ⟨rfl,hb2⟩;have H2:=hd_ hb2;clear hb2 c0;dsimp only;go_wp2_with fail;go_ret;exact ⟨rfl,H2.o.alloc H2.o.size _⟩
theorem Qz (h:PI Q w0 W p b tk dp s) (hw:Wk tk s):Calls prog 149 #[.pointer (some ⟨b,0,none⟩)] W (Does Q w0 p b tk dp (Ps.leaf tk s) W):=by
 unfold Ps.leaf;by_cases hu:s.used=tk.length
 ·rw[if_pos hu];have ha:=h.anc;rw[hu] at ha;refine (LX (t:=⟨tk,s.nodes⟩) ha (by have:=hw.2.2.2;show s.nodes.length≤_;omega) (by have:=hw.2.1;show tk.length≤_;omega)).mono ?_;rintro e W1 ⟨rfl,h1,h2⟩;have h3:=h.step h1 h2;refine ⟨rfl,?_,h3.2⟩;have h4:=h3.1;have e1:({s with nodes:=s.nodes,used:=tk.length}:Ps.St)=s:=by rw[←hu]
  rw[e1] at h4;exact h4
 ·rw[if_neg hu];refine (Q5a (t:=⟨tk,s.nodes⟩) h.anc (by have:=hw.2.2.2;show s.nodes.length≤_;omega) (by have:=hw.2.1;show tk.length≤_;omega) (by have:=hw.2.2.1;show s.used < tk.length;omega)).mono ?_;rintro e W1 ⟨rfl,h1,h2⟩;exact ⟨rfl,h.step h1 h2⟩
theorem Q0l (h:PI Q w0 W p b tk dp s) (hw:Wk tk s) (he:s.e=0) {P:Nat→Prop} {v:Value} {l:List Int} (hk:RdS W P 1 v l.length (intCells l)) (hP:∀ k,P k→k < W.heap.size) (hl:l.length≤1000000) (hQ:Up Q W) (k:Int):
  Calls prog 151 #[.pointer (some ⟨b,0,none⟩),.int .i64 k,v] W (Does Q w0 p b tk dp (Ps.node k l s) W):=by
 have hbk:(l.any fun x=> decide (x < 0) || decide ((s.nodes.length:Int)≤x))=l.any (badKid s.nodes.length):=rfl;unfold Ps.node;rw[if_pos he,hbk];by_cases hb:l.any (badKid s.nodes.length)=true
 ·rw[if_pos hb];refine (LY (t:=⟨tk,s.nodes⟩) h.anc (by have:=hw.2.2.2;show s.nodes.length≤_;omega) hk hP (by omega) hQ k hb).mono ?_;rintro e W1 ⟨rfl,h1,h2⟩;exact ⟨rfl,h.step h1 h2⟩
 ·rw[if_neg hb];refine (Q5b (t:=⟨tk,s.nodes⟩) h.anc (by have:=hw.2.2.2;show s.nodes.length≤_;omega) hk hP (by omega) hQ k (by simpa using hb)).mono ?_;rintro e W1 ⟨rfl,h1,h2⟩;exact ⟨rfl,h.step h1 h2⟩
theorem Wk.fail (hw:Wk tk s) (x:Int):Wk tk (Ps.fail tk x s):=by
 unfold Ps.fail;split
 ·exact hw
 ·exact hw
theorem QX (h:PI Q w0 W p b tk dp s) (hw:Wk tk s) {ts:List (List UInt8)} {P:Nat→Prop} {v:Value} (hv:RdS W P 1 v ts.length (strCells ts)) (hP:∀ k,P k→k < W.heap.size) (hl:ts.length≤1000):
  Calls prog 150 #[.pointer (some ⟨p,0,none⟩),v] W (Does Q w0 p b tk dp (Ps.must tk ts s) W):=by
 have HP:=hd_ h;have HW:=hd_ hw;have hok:=Qr h;by_cases he:s.e=0
 ·rw[eM_ he] at hok;have HOK:=hd_ hok;have hnx:=QQ h hw hv hP hl;obtain ⟨av,cv,rfl⟩:=hv.form;unfold Ps.must;by_cases hn:Ps.nextB tk ts s.used=true
  ·rw[if_pos ⟨he,hn⟩];rw[hn] at hnx;have HNX:=hd_ hnx;clear h hw hok he hn hnx hv hP;go_in;go_wp2_with fail;refine HOK.o.mono ?_;rintro e W1 ⟨rfl,rfl⟩;dsimp only;go_wp2_with fail;refine HNX.o.mono ?_;rintro e W2 ⟨rfl,hb2⟩;have c0:=(HP.o.past hb2).c0;have H2:=hd_ hb2;clear hb2;dsimp only;go_wp2_with fail;refine (Qz (HP.o.past H2.o) HW.o).mono ?_;rintro e W3 ⟨rfl,h3,h4⟩;have H3:=h2_ h3 h4;clear h3 h4 c0;dsimp only;go_wp2_with fail;go_ret;exact ⟨rfl,H3.a,(FrT.of H2.o).trans H3.B⟩
  ·rw[if_neg (by simp[hn])];rw[Bool.not_eq_true] at hn;rw[hn] at hnx;have HNX:=hd_ hnx;clear h hw hok he hn hnx hv hP;go_in;go_wp2_with fail;refine HOK.o.mono ?_;rintro e W1 ⟨rfl,rfl⟩;dsimp only;go_wp2_with fail;refine HNX.o.mono ?_;rintro e W2 ⟨rfl,hb2⟩;have H2:=hd_ hb2;clear hb2;dsimp only;go_wp2_with fail;refine (Xd (HP.o.past H2.o) HW.o 22).mono ?_;rintro e W3 ⟨rfl,h3,h4⟩;have H3:=h2_ h3 h4;clear h3 h4;dsimp only;go_wp2_with fail;go_ret;exact ⟨rfl,H3.a,(FrT.of H2.o).trans H3.B⟩
 ·rw[eK_ he] at hok;have HOK:=hd_ hok;obtain ⟨av,cv,rfl⟩:=hv.form;unfold Ps.must;rw[if_neg (by simp[he])];clear h hw hok he hv hP;go_in;go_wp2_with fail;refine HOK.o.mono ?_;rintro e W1 ⟨rfl,rfl⟩;dsimp only;go_wp2_with fail;refine (Xd HP.o HW.o 22).mono ?_;rintro e W3 ⟨rfl,h3,h4⟩;have H3:=h2_ h3 h4;clear h3 h4;dsimp only;go_wp2_with fail;go_ret;exact ⟨rfl,H3.a,H3.B⟩
theorem ZC (h:PI Q w0 W p b tk dp s) (hw:Wk tk s) (k:Int):
  Calls prog 116 #[.pointer (some ⟨p,0,none⟩),.int .i64 k] W (Does Q w0 p b tk dp (Ps.kind tk k s) W):=by
 have HP:=hd_ h;have HW:=hd_ hw;have hok:=Qr h;unfold Ps.kind;by_cases he:s.e=0
 ·rw[eM_ he] at hok;have HOK:=hd_ hok;have hpk:=JU h.anc hw.1 hw.2.1 hw.2.2.1;have c0:=h.c0;by_cases hn:(Ps.peek tk s.used).kind=k
  ·rw[if_pos ⟨he,hn⟩];rw[hn] at hpk;have HPK:=hd_ hpk;clear h hw hok he hn hpk;go_in;go_wp2_with fail;refine HOK.o.mono ?_;rintro e W1 ⟨rfl,rfl⟩;dsimp only;go_wp2_with fail;refine HPK.o.mono ?_;rintro e W2 ⟨rfl,hb2⟩;have d0:=(HP.o.past hb2).c0;have H2:=hd_ hb2;have t0:=Dd k ⟨(Ps.peek tk s.used).lead.toArray⟩ ⟨(Ps.peek tk s.used).text.toArray⟩ (Ps.peek tk s.used).pos W2;clear hb2 c0;dsimp only;go_wp2_with fail;refine (Qz (HP.o.past H2.o) HW.o).mono ?_;rintro e W3 ⟨rfl,h3,h4⟩;have H3:=h2_ h3 h4;clear h3 h4 d0;dsimp only;go_wp2_with fail;go_ret;exact ⟨rfl,H3.a,(FrT.of H2.o).trans H3.B⟩
  ·rw[if_neg (by simp[hn])];generalize (Ps.peek tk s.used).kind=kd at*;have hn1:(kd==k)=false:=(by simpa using hn);have hn2:(kd !=k)=true:=(by simpa using hn);have HPK:=hd_ hpk;clear h hw hok he hn hpk;go_in;go_wp2_with fail;refine HOK.o.mono ?_;rintro e W1 ⟨rfl,rfl⟩;dsimp only;go_wp2_with fail;refine HPK.o.mono ?_;rintro e W2 ⟨rfl,hb2⟩;have H2:=hd_ hb2;have t0:=Dd kd ⟨(Ps.peek tk s.used).lead.toArray⟩ ⟨(Ps.peek tk s.used).text.toArray⟩ (Ps.peek tk s.used).pos W2;clear hb2 c0;dsimp only;go_wp2_with fail;refine (Xd (HP.o.past H2.o) HW.o 22).mono ?_;rintro e W3 ⟨rfl,h3,h4⟩;have H3:=h2_ h3 h4;clear h3 h4;dsimp only;go_wp2_with fail;go_ret;exact ⟨rfl,H3.a,(FrT.of H2.o).trans H3.B⟩
 ·rw[eK_ he] at hok;have HOK:=hd_ hok;rw[if_neg (by simp[he])];clear h hw hok he;go_in;go_wp2_with fail;refine HOK.o.mono ?_;rintro e W1 ⟨rfl,rfl⟩;dsimp only;go_wp2_with fail;refine (Xd HP.o HW.o 22).mono ?_;rintro e W3 ⟨rfl,h3,h4⟩;have H3:=h2_ h3 h4;clear h3 h4;dsimp only;go_wp2_with fail;go_ret;exact ⟨rfl,H3.a,H3.B⟩
theorem Xe (h:PI Q w0 W p b tk dp s) (hw:Wk tk s) {P:Nat→Prop} {v:Value} {l:List Int} (hk:RdS W P 1 v l.length (intCells l)) (hP:∀ k,P k→k < W.heap.size) (hl:l.length≤1000000) (hQ:Up Q W) (k:Int):
  Calls prog 115 #[.pointer (some ⟨p,0,none⟩),.int .i64 k,v] W (Does Q w0 p b tk dp (Ps.node k l s) W):=by
 have HP:=hd_ h;have hok:=Qr h;obtain ⟨av,cv,rfl⟩:=hk.form;by_cases he:s.e=0
 ·have HN:=hd_ (Q0l h hw he hk hP hl hQ k);rw[eM_ he] at hok;have HOK:=hd_ hok;have c0:=h.c0;clear h hw hok he hk hP hQ;go_in;go_wp2_with fail;refine HOK.o.mono ?_;rintro e W1 ⟨rfl,rfl⟩;dsimp only;go_wp2_with fail;refine HN.o.mono ?_;rintro e W3 ⟨rfl,h3,h4⟩;have H3:=h2_ h3 h4;clear h3 h4 c0;dsimp only;go_wp2_with fail;go_ret;exact ⟨rfl,H3.a,H3.B⟩
 ·rw[eK_ he] at hok;have HOK:=hd_ hok;have HE:=hd_ he;clear h hw hok he hk hP hQ;go_in;go_wp2_with fail;refine HOK.o.mono ?_;rintro e W1 ⟨rfl,rfl⟩;dsimp only;go_wp2_with fail;go_ret;have e1:Ps.node k l s=(0,s):=by unfold Ps.node;rw[if_neg HE.o]
  rw[e1];exact ⟨rfl,HP.o,FrT.refl _ _⟩
theorem Yc (h:PI Q w0 W p b tk dp s) (hw:Wk tk s) {n:Int} {d:Nat} (hd:n+d=dp+1):
  Calls prog 146 #[.pointer (some ⟨p,0,none⟩),.int .i64 n] W fun e W'=> e= .returned (.bool (decide ((Ps.deep tk d s).e≠0)))∧PI Q w0 W' p b tk dp (Ps.deep tk d s)∧FrT PTs W W':=by
 have HP:=hd_ h;have HW:=hd_ hw;have c1:=h.c1;unfold Ps.deep;by_cases hz:d=0
 ·have hd1:decide (dp < n)=true:=eM_ (by omega);rw[if_pos hz];clear h hw hz hd;go_in;go_wp2_with fail;refine (Xd HP.o HW.o 23).mono ?_;rintro e W3 ⟨rfl,h3,h4⟩;have H3:=h2_ h3 h4;clear h3 h4 c1;dsimp only;go_wp2_with fail;refine (Qr H3.a).mono ?_;rintro e W4 ⟨rfl,rfl⟩;dsimp only;go_wp2_with fail;go_ret;exact ⟨by simp,H3.a,H3.B⟩
 ·have hd1:decide (dp < n)=false:=eK_ (by omega);rw[if_neg hz];clear h hw hz hd;go_in;go_wp2_with fail;refine (Qr HP.o).mono ?_;rintro e W4 ⟨rfl,rfl⟩;dsimp only;go_wp2_with fail;go_ret;exact ⟨by simp,HP.o,FrT.refl _ _⟩
end
end
end Go.Proofs.YtiecccakcenobaaGreatDoor
namespace Go.Proofs.YtiecccakcenobaaGreatDoor.Pr
open Tryz
open Tr Ps
structure Rs where
 i:Nat
 inn:Bool
 e:Int
 pos:Int
abbrev Txt:=List UInt8
abbrev G:=Rs→Txt × Rs
section
variable (tk:List Tk)
def tok (i:Nat):Tk:=(tk[i]?).getD ⟨0, [], [],0⟩
def fail (e:Int) (s:Rs):Rs:=if s.e=0 then {s with e:=e,pos:=(tok tk s.i).pos} else s
def is (x:Txt) (s:Rs):Bool:=decide (s.e=0) && (decide ((tok tk s.i).kind=2) || decide ((tok tk s.i).kind=4)) && (tok tk s.i).text==x
def leaf (s:Rs):Txt × Rs:=if (tok tk s.i).kind=5 then ([32,36],s) else (32::(tok tk s.i).text,{s with i:=s.i+1})
def must (x:Txt) (s:Rs):Txt × Rs:=if is tk x s then leaf tk s else ([],fail tk 22 s)
def kind (k:Int) (s:Rs):Txt × Rs:=if s.e=0∧(tok tk s.i).kind=k then leaf tk s else ([],fail tk 22 s)
def nest (d:Nat) (s:Rs):Rs:=if d=0 then fail tk 23 s else s
def any (ts:List Txt) (s:Rs):Bool:=ts.any fun x=> is tk x s
def bin (a g b:Txt):Txt:= [32,40,49,48]++a++g++b++ [41]
def rowGo (part:G) (ts:List Txt):Nat→Txt→Rs→Txt × Rs
 | 0,a,s=> (a,s)
 | n+1,a,s=> if any tk ts s then rowGo part ts n (bin a (leaf tk s).1 (part (leaf tk s).2).1) (part (leaf tk s).2).2 else (a,s)
def row (part:G) (ts:List Txt) (s:Rs):Txt × Rs:=rowGo tk part ts tk.length (part s).1 (part s).2
def unary (d:Nat) (behind:G) (s:Rs):Txt × Rs:=
 let g:=leaf tk s;let s2:=nest tk d g.2
 if s2.e=0 then
  let b:=behind s2
  ([32,40,49,49]++g.1++b.1++ [41],b.2)
 else ([],s2)
def argsGo (ex:G):Nat→Nat→Txt→Rs→Txt × Rs
 | 0,_,a,s=> (a,s)
 | n+1,k,a,s=>
  if is tk [44] s then
   let g:=leaf tk s;let s2:=if k=8 then fail tk 15 g.2 else g.2;let b:=ex s2
   argsGo ex n (k+1) (a++g.1++b.1) b.2
  else (a,s)
def args (ex:G) (s:Rs):Txt × Rs:=argsGo tk ex tk.length 1 (ex s).1 (ex s).2
structure Lv where
 ex:G
 fo:G
 ne:G
 fa:G
def callee (a:Txt) (s:Rs):Txt × Rs:=
 if is tk [46] s then
  let g:=leaf tk s;let k:=kind tk 1 g.2
  (a++(g.1++k.1),k.2)
 else (a,s)
def call (ex:G) (a:Txt) (s:Rs):Txt × Rs:=
 let p:=must tk [40] s;let ls:=if is tk [41] p.2 then (a++p.1,p.2) else ((a++p.1)++(args tk ex p.2).1,(args tk ex p.2).2);let q:=must tk [41] ls.2
 ([32,40,49,51]++ls.1++q.1++ [41],q.2)
def name (ex:G) (s:Rs):Txt × Rs:=
 let a:=leaf tk s
 if a.2.inn || (!is tk [46] a.2 && !is tk [40] a.2) then ([32,40,49,52]++a.1++ [41],a.2)
 else call tk ex (callee tk a.1 a.2).1 (callee tk a.1 a.2).2
def atom (ex:G) (s:Rs):Txt × Rs:=
 if s.e=0 then
  if (tok tk s.i).kind=3 then ([32,40,49,53]++(leaf tk s).1++ [41],(leaf tk s).2)
  else if is tk tTrue s || is tk tFalse s then ([32,40,49,54]++(leaf tk s).1++ [41],(leaf tk s).2)
  else if s.inn && is tk tRes s then ([32,40,49,55]++(leaf tk s).1++ [41],(leaf tk s).2)
  else if is tk [40] s then
   let a:=leaf tk s;let b:=ex a.2;let c:=must tk [41] b.2
   ([32,40,49,50]++a.1++b.1++c.1++ [41],c.2)
  else if (tok tk s.i).kind=1 then name tk ex s
  else ([],fail tk 22 s)
 else ([],s)
def factor (d:Nat) (lo:Lv) (s:Rs):Txt × Rs:=if is tk [45] s then unary tk d lo.fa s else atom tk lo.ex s
def product (d:Nat) (lo:Lv):G:=row tk (factor tk d lo) sMul
def sum (d:Nat) (lo:Lv):G:=row tk (product tk d lo) sSum
def not (d:Nat) (lo:Lv) (s:Rs):Txt × Rs:=
 if is tk tNot s then unary tk d lo.ne s
 else
  let a:=sum tk d lo s
  if any tk sCmp a.2 then
   let g:=leaf tk a.2;let b:=sum tk d lo g.2
   (bin a.1 g.1 b.1,b.2)
  else a
def and (d:Nat) (lo:Lv):G:=row tk (not tk d lo) sAnd
def or (d:Nat) (lo:Lv):G:=row tk (and tk d lo) sOr
def formula (d:Nat) (lo:Lv) (s:Rs):Txt × Rs:=
 let a:=or tk d lo s
 if is tk [61,62] a.2 then
  let g:=leaf tk a.2;let s2:=nest tk d g.2
  if s2.e=0 then
   let f:=lo.fo s2
   (bin a.1 g.1 f.1,f.2)
  else ([],s2)
 else a
def exLet (ex:G) (s:Rs):Txt × Rs:=
 let a:=leaf tk s;let b:=kind tk 1 a.2;let c:=must tk [61] b.2;let d:=ex c.2;let e:=must tk tIn d.2;let f:=ex e.2
 ([32,40,55]++a.1++b.1++c.1++d.1++e.1++f.1++ [41],f.2)
def exIf (ex:G) (s:Rs):Txt × Rs:=
 let a:=leaf tk s;let b:=ex a.2;let c:=must tk tThen b.2;let d:=ex c.2;let e:=must tk tElse d.2;let f:=ex e.2
 ([32,40,56]++a.1++b.1++c.1++d.1++e.1++f.1++ [41],f.2)
def exAssert (ex:G) (s:Rs):Txt × Rs:=
 let a:=leaf tk s;let b:=ex a.2;let c:=must tk tIn b.2;let d:=ex c.2
 ([32,40,57]++a.1++b.1++c.1++d.1++ [41],d.2)
def express (d:Nat) (lo:Lv) (s:Rs):Txt × Rs:=
 if s.e=0 then
  if !s.inn && is tk tLet s then exLet tk lo.ex s
  else if !s.inn && is tk tIf s then exIf tk lo.ex s
  else if !s.inn && is tk tAssert s then exAssert tk lo.ex s
  else formula tk d lo s
 else ([],s)
def lv:Nat→Lv
 | 0=> ⟨fun s=> ([],fail tk 23 s),fun s=> ([],s),fun s=> ([],s),fun s=> ([],s)⟩
 | d+1=> ⟨express tk d (lv d),formula tk d (lv d),not tk d (lv d),factor tk d (lv d)⟩
variable (ex:G)
def alone (s:Rs):Txt × Rs:=
 let f:=ex {s with inn:=true};let c:=kind tk 5 f.2
 ([40,49,56]++f.1++c.1++ [41],c.2)
end
def Rs.first:Rs:=⟨0,false,0,0⟩
end Go.Proofs.YtiecccakcenobaaGreatDoor.Pr
namespace Go.Proofs.YtiecccakcenobaaGreatDoor.Pc
open Tryz
open Tr Ps
variable {l:List Int} {x:List UInt8} {i:Nat}
theorem Q5I {ns m:List Nd} (h:Low ns):∀ (f i:Nat),i < ns.length→Tr.lv (ns++m) f i=Tr.lv ns f i
 | 0,_,_=> rfl
 | f+1,i,hi=> by
  unfold Tr.lv;rw[eT_ hi];cases hn:ns[i]? with
  | none=> rfl
  | some n=>
   simp only;split
   ·rfl
   ·rw[List.flatMap_def,List.flatMap_def];congr 1;apply List.map_congr_left;intro k hk;have:=(h i n hn).1 k hk;exact Q5I h f k.toNat (by omega)
theorem Lr {ns m:List Nd} (h:Low ns) {i:Nat} (hi:i < ns.length):leafs (ns++m) i=leafs ns i:=Q5I h _ _ hi
theorem Q5J {tk:List Tk} {ns m:List Nd} (h:Low ns):∀ (f i:Nat),i < ns.length→Tr.dp ⟨tk,ns++m⟩ f i=Tr.dp ⟨tk,ns⟩ f i
 | 0,_,_=> rfl
 | f+1,i,hi=> by
  unfold Tr.dp;simp only;rw[eT_ hi];cases hn:ns[i]? with
  | none=> rfl
  | some n=>
   simp only;split
   ·rfl
   ·rw[List.flatMap_def,List.flatMap_def];congr 3;apply List.map_congr_left;intro k hk;have:=(h i n hn).1 k hk;rw[Q5J h f k.toNat (by omega)]
theorem Q1u {tk:List Tk} {ns m:List Nd} (h:Low ns) {i:Nat} (hi:i < ns.length):dump ⟨tk,ns++m⟩ i=dump ⟨tk,ns⟩ i:=Q5J h _ _ hi
def Fm (tk:List Tk) (ns:List Nd):Prop:=∀ (j:Nat) (n:Nd),ns[j]? =some n→formed ⟨tk,ns⟩ j n=true
theorem Fm.low {tk:List Tk} {ns:List Nd} (h:Fm tk ns):Low ns:=fun i n hn=> Jg (h i n hn)
theorem Fm.snoc {tk:List Tk} {ns:List Nd} (h:Fm tk ns) {n:Nd} (hn:formed ⟨tk,ns⟩ ns.length n=true):Fm tk (ns++ [n]):=by
 intro j x hj;rcases Nat.lt_trichotomy j ns.length with h1 | h1 | h1
 ·rw[eT_ h1] at hj;exact h j x hj
 ·subst h1;rw[eO_ (rl_ _),Nat.sub_self] at hj;simp only[eZ_,Option.some.injEq] at hj;subst hj;exact hn
 ·rw[List.getElem?_eq_none (by simp;omega)] at hj;cases hj
def ints (a n:Nat):List Int:=(List.range' a n).map Int.ofNat
theorem De (a m n:Nat):ints a m++ints (a+m) n=ints a (m+n):=by
 unfold ints;rw[←List.map_append,List.range'_append_1]
theorem ints_one (a:Nat):ints a 1= [(a:Int)]:=rfl
theorem JV {a n:Nat} {x:Int}:x∈ints a n↔(a:Int)≤x∧x < ((a+n:Nat):Int):=by
 unfold ints;simp only[List.mem_map,List.mem_range'_1];constructor
 ·rintro ⟨y,hy,rfl⟩;show (a:Int)≤(y:Int)∧_;simp only[Int.ofNat_eq_natCast];omega
 ·rintro ⟨h1,h2⟩;exact ⟨x.toNat,by omega,by simp only[Int.ofNat_eq_natCast];omega⟩
structure Got (tk:List Tk) (s0 s:St) (l:List Int) (x:List UInt8):Prop where
 nodes:∃ m,s.nodes=s0.nodes++m∧(m.flatMap (·.kids)++l).Perm (ints s0.nodes.length m.length)
 used:s0.used≤s.used
 lvs:l.flatMap (fun k=> leafs s.nodes k.toNat)=ints s0.used (s.used - s0.used)
 text:l.flatMap (fun k=> 32::dump ⟨tk,s.nodes⟩ k.toNat)=x
 room:s.nodes.length+l.length+3*s0.used≤s0.nodes.length+3*s.used
theorem Got.nil (tk:List Tk) (s:St):Got tk s s [] []:=⟨⟨[],by simp[ints]⟩,rl_ _,by simp[ints],rfl,by simp⟩
theorem Got.mem {tk:List Tk} {s0 s:St} (h:Got tk s0 s l x) {k:Int} (hk:k∈l):(s0.nodes.length:Int)≤k∧k < (s.nodes.length:Int):=by
 obtain ⟨m,hm,hp⟩:=h.nodes;have h1:=hp.mem_iff.1 (List.mem_append_right _ hk);rw[JV] at h1;rw[hm,eC_];exact h1
theorem XW {α β:Type} {f g:α→List β} {l:List α} (h:∀ x∈l,f x=g x):l.flatMap f=l.flatMap g:=by
 rw[List.flatMap_def,List.flatMap_def,List.map_congr_left h]
theorem Got.trans {tk:List Tk} {s0 s1 s2:St} {l1 l2:List Int} {x1 x2:List UInt8} (hf:Fm tk s1.nodes) (h:Got tk s0 s1 l1 x1) (k:Got tk s1 s2 l2 x2):Got tk s0 s2 (l1++l2) (x1++x2):=by
 obtain ⟨m1,e1,p1⟩:=h.nodes;obtain ⟨m2,e2,p2⟩:=k.nodes;have hlt:∀ y∈l1,y.toNat < s1.nodes.length:=fun y hy=> by have:=h.mem hy;omega
 have hu:=h.used;have ku:=k.used;refine ⟨⟨m1++m2,by rw[e2,e1,eQ_],?_⟩,eE_ h.used k.used,?_,?_,?_⟩
 ·rw[eC_, ←De,List.flatMap_append];have e3:s0.nodes.length+m1.length=s1.nodes.length:=by rw[e1,eC_]
  rw[e3];refine List.Perm.trans ?_ (p1.append p2);simp only[eQ_];refine List.Perm.append_left _ ?_;rw[←eQ_, ←eQ_];exact List.Perm.append_right _ List.perm_append_comm
 ·rw[List.flatMap_append,k.lvs,XW (g:=fun y=> leafs s1.nodes y.toNat) (fun y hy=> by rw[e2];exact Lr hf.low (hlt y hy)),h.lvs];have e3:s1.used=s0.used+(s1.used - s0.used):=by omega
  rw[e3,Nat.add_sub_cancel_left,De];congr 1;omega
 ·rw[List.flatMap_append,k.text,XW (g:=fun y=> 32::dump ⟨tk,s1.nodes⟩ y.toNat) (fun y hy=> by rw[e2,Q1u hf.low (hlt y hy)]),h.text]
 ·have:=h.room;have:=k.room;rw[eC_];omega
theorem Q1v {tk:List Tk} {ns:List Nd} {u:Nat} (h:u < tk.length):formed ⟨tk,ns⟩ i ⟨19,(u:Int), []⟩=true:=by
 unfold formed;rw[if_neg (by show ¬ ((19:Int) < 1∨(19:Int) < 19);omega),if_pos rfl];simp only[List.isEmpty_nil,Bool.true_and,Bool.and_eq_true,decide_eq_true_eq];omega
theorem Q1w {tk:List Tk} {ns:List Nd} {k:Int} (hk:1≤k∧k≤18) (hl:∀ x∈l,0≤x∧x < (i:Int)):formed ⟨tk,ns⟩ i ⟨k,-1,l⟩=true:=by
 unfold formed;rw[if_neg (by show ¬ (k < 1∨19 < k);omega),if_neg (by show ¬ k=19;omega)];simp only[decide_true,Bool.true_and,Bool.not_eq_true',List.any_eq_false];intro x hx;have:=hl x hx;simp only[Bool.or_eq_true,decide_eq_true_eq,not_or];omega
theorem ZD {tk:List Tk} {s:St} (hf:Fm tk s.nodes) {k:Tk} (hk:tk[s.used]? =some k):Fm tk (leaf tk s).2.nodes∧(leaf tk s).2.used=s.used+1∧(leaf tk s).2.e=s.e∧(leaf tk s).2.nodes.length=s.nodes.length+1∧(leaf tk s).2.clause=s.clause∧
  Got tk s (leaf tk s).2 [(leaf tk s).1] (32::((if k.kind=5 then [36] else [])++k.text)):=by
 have hu:=Z4 hk;have e:leaf tk s=((s.nodes.length:Int),{s with nodes:=s.nodes++ [⟨19,(s.used:Int), []⟩],used:=s.used+1}):=by unfold leaf;rw[if_neg (by omega)]
 rw[e];have hn:(s.nodes++ [(⟨19,(s.used:Int), []⟩:Nd)])[s.nodes.length]? =some ⟨19,(s.used:Int), []⟩:=by
  rw[eO_ (rl_ _),Nat.sub_self];rfl
 refine ⟨hf.snoc (Q1v hu),rfl,rfl,by simp,rfl,⟨[⟨19,(s.used:Int), []⟩],rfl,?_⟩,Nat.le_succ _,?_,?_,by simp;omega⟩
 ·exact List.Perm.refl _
 ·simp only[List.flatMap_cons,List.flatMap_nil,List.append_nil,Int.toNat_natCast,Nat.add_sub_cancel_left];rw[GD hn rfl,ints_one]
 ·simp only[List.flatMap_cons,List.flatMap_nil,List.append_nil,Int.toNat_natCast];rw[Us (t:=⟨tk,s.nodes++ [(⟨19,(s.used:Int), []⟩:Nd)]⟩) hn rfl (show tk[((s.used:Int)).toNat]? =some k by simpa using hk)]
theorem Df {tk:List Tk} {s0 s:St} (hf:Fm tk s.nodes) (h:Got tk s0 s l x) (he:s.e=0) {k:Int} (hk:1≤k∧k≤18) (hr:s.nodes.length+2+3*s0.used≤s0.nodes.length+3*s.used):
  Fm tk (node k l s).2.nodes∧(node k l s).2.used=s.used∧(node k l s).2.e=0∧(node k l s).2.nodes.length=s.nodes.length+1∧(node k l s).2.clause=s.clause∧Got tk s0 (node k l s).2 [(node k l s).1] ([32,40]++Lib.decDigits k.toNat++x++ [41]):=by
 have hm:∀ y∈l,0≤y∧y < (s.nodes.length:Int):=fun y hy=> by have:=h.mem hy;omega
 have e:node k l s=((s.nodes.length:Int),{s with nodes:=s.nodes++ [⟨k,-1,l⟩]}):=by
  unfold node;rw[if_pos he,if_neg];simp only[List.any_eq_true,Bool.or_eq_true,decide_eq_true_eq,not_exists,not_and];intro y hy;have:=hm y hy;omega
 rw[e];have hf2:Fm tk (s.nodes++ [⟨k,-1,l⟩]):=hf.snoc (Q1w hk hm);have hn:(s.nodes++ [(⟨k,-1,l⟩:Nd)])[s.nodes.length]? =some ⟨k,-1,l⟩:=by
  rw[eO_ (rl_ _),Nat.sub_self];rfl
 obtain ⟨m,e1,p1⟩:=h.nodes;refine ⟨hf2,rfl,he,by simp,rfl,⟨m++ [⟨k,-1,l⟩],by simp[e1],?_⟩,h.used,?_,?_,by simp;omega⟩
 ·rw[eC_,List.length_singleton, ←De,ints_one,List.flatMap_append];have e3:s0.nodes.length+m.length=s.nodes.length:=by rw[e1,eC_]
  rw[e3];simp only[List.flatMap_cons,List.flatMap_nil,List.append_nil];exact p1.append_right _
 ·simp only[List.flatMap_cons,List.flatMap_nil,List.append_nil,Int.toNat_natCast];rw[GE hf2.low hn (by show k≠19;omega), ←h.lvs];exact XW fun y hy=> Lr hf.low (by have:=hm y hy;omega)
 ·simp only[List.flatMap_cons,List.flatMap_nil,List.append_nil,Int.toNat_natCast];rw[Ut (t:=⟨tk,s.nodes++ [(⟨k,-1,l⟩:Nd)]⟩) hf2.low hn (by show k≠19;omega), ←h.text];simp only[List.cons_append,List.nil_append,eQ_,List.cons.injEq,true_and];congr 2;exact XW fun y hy=> by rw[Q1u hf.low (by have:=hm y hy;omega)]
end Go.Proofs.YtiecccakcenobaaGreatDoor.Pc
namespace Go.Proofs.YtiecccakcenobaaGreatDoor.Pc
open Tryz
open Tr Ps
structure Toks (tk:List Tk):Prop where
 pos:0 < tk.length
 last:∀ k,tk[tk.length - 1]? =some k→k.kind=5∧k.text= []
 other:∀ i k,i+1 < tk.length→tk[i]? =some k→k.kind≠5
def Inv (tk:List Tk) (s:St):Prop:=s.used+1≤tk.length∧s.nodes.length≤3*s.used∧Fm tk s.nodes
def Rel (s:St) (r:Pr.Rs):Prop:=r.e=s.e∧(s.e≠0→r.pos=s.pos)∧(s.e=0→r.i=s.used∧r.inn=s.clause)
def Out (tk:List Tk) (s0 s:St) (l:List Int) (r:Pr.Rs) (x:List UInt8):Prop:=Inv tk s0∧Inv tk s∧Rel s r∧(s.e=0→Got tk s0 s l x)
structure SimL (tk:List Tk) (f:St→List Int × St) (g:Pr.G):Prop where
 go:∀ s r,s.e=0→Inv tk s→Rel s r→Out tk s (f s).2 (f s).1 (g r).2 (g r).1
 df:∀ s,s.e≠0→(f s).2=s
 dg:∀ r,r.e≠0→(g r).2=r
def lift (f:F) (s:St):List Int × St:=([(f s).1],(f s).2)
abbrev Sim (tk:List Tk) (f:F) (g:Pr.G):Prop:=SimL tk (lift f) g
section
variable {tk:List Tk} {s0 s:St} {l:List Int} {r:Pr.Rs} {x:List UInt8}
theorem Out.cast (h:Out tk s0 s l r x) {y:List UInt8} (e:x=y):Out tk s0 s l r y:=e ▸ h
theorem Out.nil (hi:Inv tk s) (hr:Rel s r):Out tk s s [] r []:=⟨hi,hi,hr,fun _=> Got.nil _ _⟩
theorem Out.dead (h:Out tk s0 s l r x) (he:s.e≠0) (l2:List Int) (x2:List UInt8):Out tk s0 s l2 r x2:=⟨h.1,h.2.1,h.2.2.1,fun h0=> absurd h0 he⟩
theorem Out.then (h:Out tk s0 s l r x) {f:St→List Int × St} {g:Pr.G} (k:SimL tk f g):Out tk s0 (f s).2 (l++(f s).1) (g r).2 (x++(g r).1):=by
 by_cases he:s.e=0
 ·obtain ⟨_,h2,h3,h4⟩:=k.go s r he h.2.1 h.2.2.1;exact ⟨h.1,h2,h3,fun e2=> (h.2.2.2 he).trans h.2.1.2.2 (h4 e2)⟩
 ·have hr:r.e≠0:=by rw[h.2.2.1.1];exact he
  rw[k.df s he,k.dg r hr];exact h.dead he _ _
theorem Inv.get (h:Inv tk s):∃ k,tk[s.used]? =some k∧peek tk s.used=k∧Pr.tok tk s.used=k:=by
 have h1:=h.1;obtain ⟨k,hk⟩:∃ k,tk[s.used]? =some k:=⟨_,eA_ (by omega)⟩
 refine ⟨k,hk,?_,?_⟩
 ·unfold peek;rw[Nat.min_eq_left (by omega),hk];rfl
 ·unfold Pr.tok;rw[hk];rfl
theorem YX (hi:Inv tk s) (hr:Rel s r) (he:s.e=0):Pr.tok tk r.i=peek tk s.used:=by
 obtain ⟨k,_,h2,h3⟩:=hi.get;rw[(hr.2.2 he).1,h2,h3]
theorem Y3 (he:r.e≠0) (y:List UInt8):Pr.is tk y r=false:=by
 unfold Pr.is;rw[eK_ he];rfl
theorem Dg (he:r.e≠0) (ts:List (List UInt8)):Pr.any tk ts r=false:=by
 unfold Pr.any;rw[List.any_eq_false];intro y _;rw[Y3 he];simp
theorem Ym {e:Int} (he:s.e≠0):fail tk e s=s:=by unfold fail;rw[if_neg he]
theorem Yw {e:Int} (he:r.e≠0):Pr.fail tk e r=r:=by unfold Pr.fail;rw[if_neg he]
theorem Yx (hi:Inv tk s) (hr:Rel s r) (he:s.e=0) (y:List UInt8):Pr.is tk y r=nextB tk [y] s.used:=by
 unfold Pr.is nextB;rw[YX hi hr he,hr.1,eM_ he,Bool.true_and];congr 1;rw[Bool.eq_iff_iff];simp
theorem Q2V (hi:Inv tk s) (hr:Rel s r) (he:s.e=0) (ts:List (List UInt8)):Pr.any tk ts r=nextB tk ts s.used:=by
 unfold Pr.any nextB;have:∀ y,Pr.is tk y r=((decide ((peek tk s.used).kind=2) || decide ((peek tk s.used).kind=4)) && (peek tk s.used).text==y):=by
  intro y;unfold Pr.is;rw[YX hi hr he,hr.1,eM_ he,Bool.true_and]
 simp only[this];cases (decide ((peek tk s.used).kind=2) || decide ((peek tk s.used).kind=4)) with
 | false=> simp
 | true=>
  simp only[Bool.true_and];rw[Bool.eq_iff_iff];simp
theorem Q1x (h:Out tk s0 s l r x) (ts:List (List UInt8)):(s.e=0∧nextB tk ts s.used=true)↔Pr.any tk ts r=true:=by
 by_cases he:s.e=0
 ·rw[Q2V h.2.1 h.2.2.1 he];simp[he]
 ·rw[Dg (by rw[h.2.2.1.1];exact he)];simp[he]
theorem Q3y (h:Out tk s0 s l r x) (y:List UInt8):(s.e=0∧nextB tk [y] s.used=true)↔Pr.is tk y r=true:=by
 by_cases he:s.e=0
 ·rw[Yx h.2.1 h.2.2.1 he];simp[he]
 ·rw[Y3 (by rw[h.2.2.1.1];exact he)];simp[he]
theorem Qp {ts:List (List UInt8)} {u:Nat} (h:nextB tk ts u=true):(peek tk u).kind≠5:=by
 unfold nextB at h;simp only[Bool.and_eq_true,Bool.or_eq_true,decide_eq_true_eq] at h;omega
theorem Out.fail (h:Out tk s0 s l r x) {e:Int} (h0:e≠0) (l2:List Int) (x2:List UInt8):Out tk s0 (fail tk e s) l2 (Pr.fail tk e r) x2:=by
 by_cases he:s.e=0
 ·have h1:Ps.fail tk e s={s with e:=e,pos:=(peek tk s.used).pos}:=by unfold Ps.fail;rw[if_pos he]
  have h2:Pr.fail tk e r={r with e:=e,pos:=(Pr.tok tk r.i).pos}:=by unfold Pr.fail;rw[if_pos (h.2.2.1.1.trans he)]
  rw[h1,h2,YX h.2.1 h.2.2.1 he];exact ⟨h.1,h.2.1,⟨rfl,fun _=> rfl,fun e2=> absurd e2 h0⟩,fun e2=> absurd e2 h0⟩
 ·rw[Ym he,Yw (by rw[h.2.2.1.1];exact he)];exact h.dead he _ _
theorem Out.leaf (ht:Toks tk) (h:Out tk s0 s l r x) (he:s.e=0) (hk:(peek tk s.used).kind≠5):Out tk s0 (leaf tk s).2 (l++ [(leaf tk s).1]) (Pr.leaf tk r).2 (x++(Pr.leaf tk r).1)∧(Ps.leaf tk s).2.e=0:=by
 obtain ⟨k,h1,h2,h3⟩:=h.2.1.get;rw[h2] at hk;obtain ⟨g1,g2,g3,g4,g6,g5⟩:=ZD h.2.1.2.2 h1;rw[if_neg hk,List.nil_append] at g5;have hl:Pr.leaf tk r=(32::k.text,{r with i:=r.i+1}):=by
  unfold Pr.leaf;rw[(h.2.2.1.2.2 he).1,h3,if_neg hk]
 have hlast:s.used+2≤tk.length:=by
  have q:=h.2.1.1;rcases eS_ (s.used+1) tk.length with h4 | h4
  ·exact h4
  ·exact absurd (ht.last k (by rw[←h1];congr 1;omega)).1 hk
 have q:=h.2.1.2.1;have r1:=(h.2.2.1.2.2 he).1;rw[hl];refine ⟨⟨h.1,⟨by rw[g2];omega,by rw[g2,g4];omega,g1⟩,⟨?_,fun e2=> absurd (g3.trans he) e2,fun _=> ⟨by rw[g2, ←r1],?_⟩⟩,fun _=> (h.2.2.2 he).trans h.2.1.2.2 g5⟩,g3.trans he⟩
 ·rw[g3];exact h.2.2.1.1
 ·rw[g6];exact (h.2.2.1.2.2 he).2
theorem Out.node (h:Out tk s0 s l r x) {k:Int} (hk:1≤k∧k≤18) (hl:s.e=0→2≤l.length):Out tk s0 (node k l s).2 [(node k l s).1] r ([32,40]++Lib.decDigits k.toNat++x++ [41]):=by
 by_cases he:s.e=0
 ·have hg:=h.2.2.2 he;have hr:=hg.room;have h2:=hl he;obtain ⟨g1,g2,g3,g4,hc,g5⟩:=Df h.2.1.2.2 hg he hk (by omega);have q:=h.1.2.1;refine ⟨h.1,⟨by rw[g2];exact h.2.1.1,by rw[g2,g4];omega,g1⟩,⟨by rw[g3,h.2.2.1.1,he],fun e2=> absurd g3 e2,fun _=> ⟨by rw[g2];exact (h.2.2.1.2.2 he).1,by rw[hc];exact (h.2.2.1.2.2 he).2⟩⟩,fun _=> g5⟩
 ·have e1:Ps.node k l s=(0,s):=by unfold Ps.node;rw[if_neg he]
  rw[e1];exact h.dead he _ _
theorem UD {k:Int} (he:s.e≠0):node k l s=(0,s):=by unfold node;rw[if_neg he]
theorem Out.one (ht:Toks tk) (hi:Inv tk s) (hr:Rel s r) (he:s.e=0) (hk:(peek tk s.used).kind≠5) {k:Int} (hk2:1≤k∧k≤18):
  Out tk s (Ps.node k [(Ps.leaf tk s).1] (Ps.leaf tk s).2).2 [(Ps.node k [(Ps.leaf tk s).1] (Ps.leaf tk s).2).1] (Pr.leaf tk r).2 ([32,40]++Lib.decDigits k.toNat++(Pr.leaf tk r).1++ [41]):=by
 have o1:=(Out.nil hi hr).leaf ht he hk;obtain ⟨t,h1,h2,h3⟩:=hi.get;obtain ⟨g1,g2,g3,g4,g6,g5⟩:=ZD hi.2.2 h1;have o:=o1.1;have hg:Got tk s (Ps.leaf tk s).2 [(Ps.leaf tk s).1] (Pr.leaf tk r).1:=by simpa using o.2.2.2 o1.2
 obtain ⟨k1,k2,k3,k4,hc,k5⟩:=Df o.2.1.2.2 hg o1.2 hk2 (by rw[g4,g2];omega);have q:=hi.2.1;refine ⟨hi,⟨by rw[k2];exact o.2.1.1,by rw[k2,k4,g4,g2];omega,k1⟩,⟨by rw[k3,o.2.2.1.1,o1.2],fun e2=> absurd k3 e2,fun _=> ⟨by rw[k2];exact (o.2.2.1.2.2 o1.2).1,by rw[hc];exact (o.2.2.1.2.2 o1.2).2⟩⟩,fun _=> k5⟩
end
section
variable {tk:List Tk}
theorem X4 (ht:Toks tk) (y:List UInt8):Sim tk (must tk [y]) (Pr.must tk y):=by
 refine ⟨fun s r he hi hr=> ?_,fun s he=> ?_,fun r he=> ?_⟩
 ·have o:=Out.nil hi hr;have hb:=Yx hi hr he y;unfold lift must Pr.must;by_cases h:nextB tk [y] s.used=true
  ·rw[if_pos ⟨he,h⟩,if_pos (by rw[hb];exact h)];exact (o.leaf ht he (Qp h)).1
  ·rw[if_neg (by simp[h]),if_neg (by rw[hb];exact h)];exact o.fail (by decide) _ _
 ·unfold lift must;rw[if_neg (by simp[he]),Ym he]
 ·unfold Pr.must;rw[Y3 he,if_neg (by simp),Yw he]
theorem JW (ht:Toks tk) {k:Int} (h5:k≠5):Sim tk (kind tk k) (Pr.kind tk k):=by
 refine ⟨fun s r he hi hr=> ?_,fun s he=> ?_,fun r he=> ?_⟩
 ·have o:=Out.nil hi hr;have hb:=YX hi hr he;unfold lift kind Pr.kind;by_cases h:(peek tk s.used).kind=k
  ·rw[if_pos ⟨he,h⟩,if_pos ⟨hr.1.trans he,by rw[hb];exact h⟩];exact (o.leaf ht he (by rw[h];exact h5)).1
  ·rw[if_neg (by simp[h]),if_neg (by rw[hb];simp[h])];exact o.fail (by decide) _ _
 ·unfold lift kind;rw[if_neg (by simp[he]),Ym he]
 ·unfold Pr.kind;rw[if_neg (by simp[he]),Yw he]
theorem Ls (ht:Toks tk) {part:F} {gpart:Pr.G} (hp:Sim tk part gpart) (ts:List (List UInt8)):∀ (n:Nat) {s0 s:St} {a:Int} {r:Pr.Rs} {x:List UInt8},Out tk s0 s [a] r x→
  Out tk s0 (rowGo tk part ts false n a s).2 [(rowGo tk part ts false n a s).1] (Pr.rowGo tk gpart ts n x r).2 (Pr.rowGo tk gpart ts n x r).1
 | 0,_,_,_,_,_,o=> o
 | n+1,s0,s,a,r,x,o=> by
  unfold rowGo Pr.rowGo;have hb:=Q1x o ts;by_cases h:s.e=0∧nextB tk ts s.used=true
  ·rw[if_pos h,if_pos (hb.1 h)];have o1:=(o.leaf ht h.1 (Qp h.2)).1.then hp;have o2:=(o1.node (k:=10) (by decide) (fun _=> by simp[lift])).cast (y:=Pr.bin x (Pr.leaf tk r).1 (gpart (Pr.leaf tk r).2).1) (by simp[Pr.bin,Lib.decDigits_two,eQ_]);exact Ls ht hp ts n o2
  ·rw[if_neg h,if_neg (fun e=> h (hb.2 e))];exact o
theorem Dh {part:F} {ts:List (List UInt8)} {once:Bool} {s:St} (he:s.e≠0):∀ (n:Nat) (a:Int),(rowGo tk part ts once n a s).2=s
 | 0,_=> rfl
 | n+1,a=> by unfold rowGo;rw[if_neg (by simp[he])]
theorem Q1y {part:Pr.G} {ts:List (List UInt8)} {r:Pr.Rs} (he:r.e≠0):∀ (n:Nat) (x:List UInt8),(Pr.rowGo tk part ts n x r).2=r
 | 0,_=> rfl
 | n+1,a=> by unfold Pr.rowGo;rw[if_neg (by rw[Dg he];simp)]
theorem Yh (ht:Toks tk) {part:F} {gpart:Pr.G} (hp:Sim tk part gpart) (ts:List (List UInt8)):Sim tk (row tk part ts false) (Pr.row tk gpart ts):=by
 refine ⟨fun s r he hi hr=> ?_,fun s he=> ?_,fun r he=> ?_⟩
 ·exact Ls ht hp ts tk.length (hp.go s r he hi hr)
 ·have h1:(part s).2=s:=hp.df s he;unfold lift row;rw[h1];exact Dh he _ _
 ·have h1:=hp.dg r he;unfold Pr.row;rw[h1];exact Q1y he _ _
end
end Go.Proofs.YtiecccakcenobaaGreatDoor.Pc
namespace Go.Proofs.YtiecccakcenobaaGreatDoor.Pc
open Tryz
open Tr Ps
theorem dig7:Lib.decDigits (7:Int).toNat= [55]:=by decide+kernel
theorem dig8:Lib.decDigits (8:Int).toNat= [56]:=by decide+kernel
theorem dig9:Lib.decDigits (9:Int).toNat= [57]:=by decide+kernel
theorem dig10:Lib.decDigits (10:Int).toNat= [49,48]:=by decide+kernel
theorem dig11:Lib.decDigits (11:Int).toNat= [49,49]:=by decide+kernel
theorem dig12:Lib.decDigits (12:Int).toNat= [49,50]:=by decide+kernel
theorem dig13:Lib.decDigits (13:Int).toNat= [49,51]:=by decide+kernel
theorem dig14:Lib.decDigits (14:Int).toNat= [49,52]:=by decide+kernel
theorem dig15:Lib.decDigits (15:Int).toNat= [49,53]:=by decide+kernel
theorem dig16:Lib.decDigits (16:Int).toNat= [49,54]:=by decide+kernel
theorem dig17:Lib.decDigits (17:Int).toNat= [49,55]:=by decide+kernel
theorem dig18:Lib.decDigits (18:Int).toNat= [49,56]:=by decide+kernel
section
variable {tk:List Tk}
theorem Q7b {p:Prop} [Decidable p] {q:Bool} {s0:St} {f1 f2:List Int × St} {g1 g2:List UInt8 × Pr.Rs} (hpq:p↔q=true) (h1:p→Out tk s0 f1.2 f1.1 g1.2 g1.1) (h2:¬ p→Out tk s0 f2.2 f2.1 g2.2 g2.1):
  Out tk s0 (if p then f1 else f2).2 (if p then f1 else f2).1 (if q=true then g1 else g2).2 (if q=true then g1 else g2).1:=by
 by_cases h:p
 ·rw[if_pos h,if_pos (hpq.1 h)];exact h1 h
 ·rw[if_neg h,if_neg (fun e=> h (hpq.2 e))];exact h2 h
theorem Di (ht:Toks tk) {one:F} {gone:Pr.G} (ho:Sim tk one gone):∀ (n k c:Nat) {s0 s:St} {l:List Int} {r:Pr.Rs} {x:List UInt8},c+k=8→tk.length≤n+s.used→Out tk s0 s l r x→
  Out tk s0 (if s.e=0∧nextB tk [[44]] s.used=true then listGo tk one k (l++ [(leaf tk s).1]) (leaf tk s).2 else (l,s)).2 (if s.e=0∧nextB tk [[44]] s.used=true then listGo tk one k (l++ [(leaf tk s).1]) (leaf tk s).2 else (l,s)).1 (Pr.argsGo tk gone n c x r).2 (Pr.argsGo tk gone n c x r).1
 | 0,k,c,s0,s,l,r,x,_,hn,o=> by
  have:=o.2.1.1;omega
 | n+1,k,c,s0,s,l,r,x,hc,hn,o=> by
  have hb:=Q3y o [44];unfold Pr.argsGo;refine Q7b hb (fun h=> ?_) (fun _=> o);obtain ⟨o1,e1⟩:=o.leaf ht h.1 (Qp h.2);cases k with
  | zero=>
   obtain rfl:c=8:=(by omega);unfold listGo;simp only[if_true];have o2:=o1.fail (e:=15) (by decide) (l++ [(leaf tk s).1]) (x++(Pr.leaf tk r).1);have hd:(Pr.fail tk 15 (Pr.leaf tk r).2).e≠0:=by
    rw[o2.2.2.1.1];unfold fail;rw[if_pos e1];show (15:Int)≠0;decide
   rw[ho.dg _ hd];have hg:∀ (m c:Nat) (y:List UInt8),(Pr.argsGo tk gone m c y (Pr.fail tk 15 (Pr.leaf tk r).2)).2=Pr.fail tk 15 (Pr.leaf tk r).2:=by
    intro m c y;cases m with
    | zero=> rfl
    | succ m=> unfold Pr.argsGo;rw[Y3 hd,if_neg (by simp)]
   rw[hg];have hd2:(fail tk 15 (leaf tk s).2).e≠0:=(by rw[←o2.2.2.1.1];exact hd);exact o2.dead hd2 _ _
  | succ k=>
   have hc8:c≠8:=(by omega);unfold listGo;simp only[if_neg hc8,if_pos e1];have o2:=o1.then ho;have hu:(leaf tk s).2.used=s.used+1:=by
    obtain ⟨t,h1,_⟩:=o.2.1.get;exact (ZD o.2.1.2.2 h1).2.1
   have hm:(leaf tk s).2.used≤(one (leaf tk s).2).2.used∨(one (leaf tk s).2).2.e≠0:=by
    by_cases he:(one (leaf tk s).2).2.e=0
    ·obtain ⟨_,_,_,h4⟩:=ho.go (leaf tk s).2 (Pr.leaf tk r).2 e1 o1.2.1 o1.2.2.1;exact Or.inl (h4 he).used
    ·exact Or.inr he
   rcases hm with hm | hm
   ·have:=Di ht ho n k (c+1) (by omega) (by rw[hu] at hm;show tk.length≤n+(one (leaf tk s).2).2.used;omega) o2;simp only[lift,eQ_,List.cons_append,List.nil_append] at this ⊢;exact this
   ·simp only[lift] at o2;rw[if_neg (by simp[hm])];have hd:(gone (Pr.leaf tk r).2).2.e≠0:=(by rw[o2.2.2.1.1];exact hm);have hg:∀ (m c:Nat) (y:List UInt8),(Pr.argsGo tk gone m c y (gone (Pr.leaf tk r).2).2).2=(gone (Pr.leaf tk r).2).2:=by
     intro m c y;cases m with
     | zero=> rfl
     | succ m=> unfold Pr.argsGo;rw[Y3 hd,if_neg (by simp)]
    rw[hg];exact o2.dead hm _ _
theorem Dj {gone:Pr.G} {r:Pr.Rs} (he:r.e≠0):∀ (n c:Nat) (x:List UInt8),(Pr.argsGo tk gone n c x r).2=r
 | 0,_,_=> rfl
 | n+1,c,x=> by unfold Pr.argsGo;rw[Y3 he,if_neg (by simp)]
theorem Q1z (ht:Toks tk) {one:F} {gone:Pr.G} (ho:Sim tk one gone) {s0 s:St} {l:List Int} {r:Pr.Rs} {x:List UInt8} (o:Out tk s0 s l r x):
  Out tk s0 (list tk one s).2 (l++(list tk one s).1) (if r.e=0∧Pr.is tk [41] r=false then (x++(Pr.args tk gone r).1,(Pr.args tk gone r).2) else (x,r)).2 (if r.e=0∧Pr.is tk [41] r=false then (x++(Pr.args tk gone r).1,(Pr.args tk gone r).2) else (x,r)).1:=by
 by_cases he:s.e=0
 ·have hb:=Yx o.2.1 o.2.2.1 he [41];unfold list;by_cases hn:nextB tk [[41]] s.used=true
  ·rw[if_pos hn,if_neg (by rw[hb,hn];simp),List.append_nil];exact o
  ·rw[if_neg hn,if_pos ⟨o.2.2.1.1.trans he,by rw[hb];simpa using hn⟩];have hf:Out tk s (one s).2 [(one s).1] (gone r).2 (gone r).1:=ho.go s r he o.2.1 o.2.2.1;unfold listGo Pr.args;rw[if_pos he];have hm:s.used≤(one s).2.used∨(one s).2.e≠0:=by
    by_cases h2:(one s).2.e=0
    ·exact Or.inl (hf.2.2.2 h2).used
    ·exact Or.inr h2
   have h4:Out tk s (if (one s).2.e=0∧nextB tk [[44]] (one s).2.used=true then listGo tk one 7 ([(one s).1]++ [(leaf tk (one s).2).1]) (leaf tk (one s).2).2 else ([(one s).1],(one s).2)).2 (if (one s).2.e=0∧nextB tk [[44]] (one s).2.used=true then listGo tk one 7 ([(one s).1]++ [(leaf tk (one s).2).1]) (leaf tk (one s).2).2 else ([(one s).1],(one s).2)).1 (Pr.argsGo tk gone tk.length 1 (gone r).1 (gone r).2).2 (Pr.argsGo tk gone tk.length 1 (gone r).1 (gone r).2).1:=by
    by_cases h2:(one s).2.e=0
    ·exact Di ht ho tk.length 7 1 (by omega) (by omega) hf
    ·rw[if_neg (by simp[h2]),Dj (by rw[hf.2.2.1.1];exact h2)];exact hf.dead h2 _ _
   simp only[List.nil_append,List.singleton_append] at h4 ⊢;exact ⟨o.1,h4.2.1,h4.2.2.1,fun e2=> (o.2.2.2 he).trans o.2.1.2.2 (h4.2.2.2 e2)⟩
 ·have h1:list tk one s=([],s):=by
   unfold list;split
   ·rfl
   ·unfold listGo;rw[if_neg he]
  rw[h1,if_neg (by rw[o.2.2.1.1];simp[he])];exact o.dead he _ _
theorem Lt {one:F} {s:St} (he:s.e≠0):list tk one s=([],s):=by
 unfold list;split
 ·rfl
 ·unfold listGo;rw[if_neg he]
theorem Q4g {k:Int} {s:St} (he:s.e≠0):kind tk k s=(0,s):=by
 unfold kind;rw[if_neg (by simp[he]),Ym he]
theorem Q2W {k:Int} {r:Pr.Rs} (he:r.e≠0):Pr.kind tk k r=([],r):=by
 unfold Pr.kind;rw[if_neg (by simp[he]),Yw he]
structure SimV (tk:List Tk) (d:Nat) (lo:Ps.Lv) (glo:Pr.Lv):Prop where
 ex:Sim tk lo.ex glo.ex
 rest:d≠0→Sim tk lo.fo glo.fo∧Sim tk lo.ne glo.ne∧Sim tk lo.fa glo.fa
theorem Lu (ht:Toks tk) {d:Nat} {f:F} {g:Pr.G} (hf:d≠0→Sim tk f g) {s:St} {r:Pr.Rs} (he:s.e=0) (hi:Inv tk s) (hr:Rel s r) (hk:(peek tk s.used).kind≠5):
  Out tk s (unary tk d f s).2 [(unary tk d f s).1] (Pr.unary tk d g r).2 (Pr.unary tk d g r).1:=by
 obtain ⟨o,e1⟩:=(Out.nil hi hr).leaf ht he hk;have re1:(Pr.leaf tk r).2.e=0:=o.2.2.1.1.trans e1;unfold unary Pr.unary deep Pr.nest;by_cases hd:d=0
 ·simp only[if_pos hd];have o2:=o.fail (e:=23) (by decide) [0] [];have h1:(fail tk 23 (leaf tk s).2).e≠0:=by unfold fail;rw[if_pos e1];show (23:Int)≠0;decide
  rw[if_neg h1,if_neg (by rw[o2.2.2.1.1];exact h1)];exact o2
 ·simp only[if_neg hd,if_pos e1,if_pos re1];exact ((o.then (hf hd)).node (k:=11) (by decide) (fun _=> by simp[lift])).cast (by rw[dig11];simp)
theorem Q4h (ht:Toks tk) {one:F} {gone:Pr.G} (ho:Sim tk one gone) {s0 s:St} {l:List Int} {r:Pr.Rs} {x:List UInt8} (o:Out tk s0 s l r x):
  Out tk s0 (list tk one s).2 (l++(list tk one s).1) (if Pr.is tk [41] r then (x,r) else (x++(Pr.args tk gone r).1,(Pr.args tk gone r).2)).2 (if Pr.is tk [41] r then (x,r) else (x++(Pr.args tk gone r).1,(Pr.args tk gone r).2)).1:=by
 have o1:=Q1z ht ho o;by_cases he:r.e=0
 ·cases h:Pr.is tk [41] r
  ·rw[h,if_pos ⟨he,rfl⟩] at o1;rw[if_neg (by simp)];exact o1
  ·rw[h,if_neg (by simp)] at o1;rw[if_pos rfl];exact o1
 ·have hs:s.e≠0:=by rw[←o.2.2.1.1];exact he
  rw[Lt hs,Y3 he,if_neg (by simp)];have hd:(Pr.args tk gone r).2=r:=by
   unfold Pr.args;rw[ho.dg _ he,Dj he]
  rw[hd];exact o.dead hs _ _
theorem Q5K (ht:Toks tk) {ex:F} {g:Pr.G} (hx:Sim tk ex g) {s0 s:St} {l:List Int} {r:Pr.Rs} {x:List UInt8} (hl:1≤l.length) (o:Out tk s0 s l r x):
  Out tk s0 (call tk ex l s).2 [(call tk ex l s).1] (Pr.call tk g x r).2 (Pr.call tk g x r).1:=
 (((Q4h ht hx (o.then (X4 ht [40]))).then (X4 ht [41])).node (k:=13) (by decide) (fun _=> by simp[lift];omega)).cast (by rw[dig13];simp[Pr.call])
theorem Q2X (ht:Toks tk) {s0 s:St} {a:Int} {r:Pr.Rs} {x:List UInt8} (he:s.e=0) (o:Out tk s0 s [a] r x):
  Out tk s0 (callee tk s a).2 (callee tk s a).1 (Pr.callee tk x r).2 (Pr.callee tk x r).1∧1≤(callee tk s a).1.length:=by
 have hb:=Yx o.2.1 o.2.2.1 he [46];unfold callee Pr.callee;by_cases h:nextB tk [[46]] s.used=true
 ·rw[if_pos h,if_pos (by rw[hb];exact h)];exact ⟨((o.leaf ht he (Qp h)).1.then (JW ht (k:=1) (by decide))).cast (by simp),by simp⟩
 ·rw[if_neg h,if_neg (by rw[hb];exact h)];exact ⟨o,by simp⟩
theorem Q5L (ht:Toks tk) {ex:F} {g:Pr.G} (hx:Sim tk ex g) {s:St} {r:Pr.Rs} (he:s.e=0) (hi:Inv tk s) (hr:Rel s r) (hk:(peek tk s.used).kind≠5):
  Out tk s (name tk ex s).2 [(name tk ex s).1] (Pr.name tk g r).2 (Pr.name tk g r).1:=by
 obtain ⟨o,e1⟩:=(Out.nil hi hr).leaf ht he hk;have hc:(Pr.leaf tk r).2.inn=(leaf tk s).2.clause:=(o.2.2.1.2.2 e1).2;have h1:=Yx o.2.1 o.2.2.1 e1 [46];have h2:=Yx o.2.1 o.2.2.1 e1 [40];have h3:nextB tk [[46], [40]] (leaf tk s).2.used=(nextB tk [[46]] (leaf tk s).2.used || nextB tk [[40]] (leaf tk s).2.used):=by
  have q:=Q2V o.2.1 o.2.2.1 e1 [[46], [40]];rw[←q, ←h1, ←h2];simp[Pr.any]
 unfold name Pr.name;simp only;rw[hc,h1,h2,h3,Bool.not_or];by_cases h:((leaf tk s).2.clause || (!nextB tk [[46]] (leaf tk s).2.used && !nextB tk [[40]] (leaf tk s).2.used))=true
 ·rw[if_pos h,if_pos h];exact (Out.one ht hi hr he hk (k:=14) (by decide)).cast (by rw[dig14];simp)
 ·rw[if_neg h,if_neg h];rw[List.nil_append,List.nil_append] at o;have o2:=Q2X ht e1 o;exact Q5K ht hx o2.2 o2.1
theorem Q5M (ht:Toks tk) {ex:F} {g:Pr.G} (hx:Sim tk ex g):Sim tk (atom tk ex) (Pr.atom tk g):=by
 refine ⟨fun s r he hi hr=> ?_,fun s he=> ?_,fun r he=> ?_⟩
 ·have o:=Out.nil hi hr;have hp:=YX hi hr he;have b1:=Yx hi hr he tTrue;have b2:=Yx hi hr he tFalse;have b3:=Yx hi hr he tRes;have b4:=Yx hi hr he [40];have b5:nextB tk [tTrue,tFalse] s.used=(nextB tk [tTrue] s.used || nextB tk [tFalse] s.used):=by
   have q:=Q2V hi hr he [tTrue,tFalse];rw[←q, ←b1, ←b2];simp[Pr.any]
  have hc:=(hr.2.2 he).2;unfold lift atom Pr.atom;simp only[if_pos he,if_pos (hr.1.trans he)];rw[hp,b1,b2,b3,b4,hc,b5];by_cases h1:(peek tk s.used).kind=3
  ·rw[if_pos h1,if_pos h1];exact (Out.one ht hi hr he (by omega) (k:=15) (by decide)).cast (by rw[dig15];simp)
  ·rw[if_neg h1,if_neg h1];by_cases h2:(nextB tk [tTrue] s.used || nextB tk [tFalse] s.used)=true
   ·rw[if_pos h2,if_pos h2];exact (Out.one ht hi hr he (Qp (b5.trans h2)) (k:=16) (by decide)).cast (by rw[dig16];simp)
   ·rw[if_neg h2,if_neg h2];by_cases h3:(s.clause && nextB tk [tRes] s.used)=true
    ·rw[if_pos h3,if_pos h3];exact (Out.one ht hi hr he (Qp (by simp only[Bool.and_eq_true] at h3;exact h3.2)) (k:=17) (by decide)).cast (by rw[dig17];simp)
    ·rw[if_neg h3,if_neg h3];by_cases h4:nextB tk [[40]] s.used=true
     ·rw[if_pos h4,if_pos h4];exact ((((o.leaf ht he (Qp h4)).1.then hx).then (X4 ht [41])).node (k:=12) (by decide) (fun _=> by simp[lift])).cast (by rw[dig12];simp)
     ·rw[if_neg h4,if_neg h4];by_cases h5:(peek tk s.used).kind=1
      ·rw[if_pos h5,if_pos h5];exact Q5L ht hx he hi hr (by omega)
      ·rw[if_neg h5,if_neg h5];exact o.fail (by decide) _ _
 ·unfold lift atom;rw[if_neg he]
 ·unfold Pr.atom;rw[if_neg he]
theorem Jp (ht:Toks tk) {d:Nat} {lo:Ps.Lv} {glo:Pr.Lv} (h:SimV tk d lo glo):Sim tk (factor tk d lo) (Pr.factor tk d glo):=by
 have ha:=Q5M ht h.ex;refine ⟨fun s r he hi hr=> ?_,fun s he=> ?_,fun r he=> ?_⟩
 ·have hb:=Yx hi hr he [45];unfold lift factor Pr.factor;by_cases hn:nextB tk [[45]] s.used=true
  ·rw[if_pos ⟨he,hn⟩,if_pos (by rw[hb];exact hn)];exact Lu ht (fun hd=> (h.rest hd).2.2) he hi hr (Qp hn)
  ·rw[if_neg (by simp[hn]),if_neg (by rw[hb];exact hn)];exact ha.go s r he hi hr
 ·unfold lift factor;rw[if_neg (by simp[he])];exact ha.df s he
 ·unfold Pr.factor;rw[Y3 he,if_neg (by simp)];exact ha.dg r he
theorem Dk (ht:Toks tk) {d:Nat} {lo:Ps.Lv} {glo:Pr.Lv} (h:SimV tk d lo glo):Sim tk (comparison tk d lo) (fun r=> if Pr.any tk sCmp (Pr.sum tk d glo r).2 then (Pr.bin (Pr.sum tk d glo r).1 (Pr.leaf tk (Pr.sum tk d glo r).2).1 (Pr.sum tk d glo (Pr.leaf tk (Pr.sum tk d glo r).2).2).1,(Pr.sum tk d glo (Pr.leaf tk (Pr.sum tk d glo r).2).2).2) else Pr.sum tk d glo r):=by
 have hs:Sim tk (sum tk d lo) (Pr.sum tk d glo):=Yh ht (Yh ht (Jp ht h) sMul) sSum;obtain ⟨n,hn⟩:∃ n,tk.length=n+1:=⟨tk.length - 1,by have:=ht.pos;omega⟩
 refine ⟨fun s r he hi hr=> ?_,fun s he=> ?_,fun r he=> ?_⟩
 ·have o:Out tk s (sum tk d lo s).2 [(sum tk d lo s).1] (Pr.sum tk d glo r).2 (Pr.sum tk d glo r).1:=hs.go s r he hi hr;have hb:=Q1x o sCmp;unfold lift comparison row;rw[hn];unfold rowGo;by_cases hx:(sum tk d lo s).2.e=0∧nextB tk sCmp (sum tk d lo s).2.used=true
  ·simp only[if_pos hx,if_pos (hb.1 hx),if_true];exact (((o.leaf ht hx.1 (Qp hx.2)).1.then hs).node (k:=10) (by decide) (fun _=> by simp[lift])).cast (by rw[dig10];simp[Pr.bin])
  ·simp only[if_neg hx,if_neg (fun e=> hx (hb.2 e))];exact o
 ·unfold lift comparison row;have h1:(sum tk d lo s).2=s:=hs.df s he;rw[h1];exact Dh he _ _
 ·have h1:(Pr.sum tk d glo r).2=r:=hs.dg r he;rw[h1,Dg he,if_neg (by simp)];exact h1
theorem Yi (ht:Toks tk) {d:Nat} {lo:Ps.Lv} {glo:Pr.Lv} (h:SimV tk d lo glo):Sim tk (negation tk d lo) (Pr.not tk d glo):=by
 have ha:=Dk ht h;refine ⟨fun s r he hi hr=> ?_,fun s he=> ?_,fun r he=> ?_⟩
 ·have hb:=Yx hi hr he tNot;unfold lift negation Pr.not;by_cases hn:nextB tk [tNot] s.used=true
  ·rw[if_pos ⟨he,hn⟩,if_pos (by rw[hb];exact hn)];exact Lu ht (fun hd=> (h.rest hd).2.1) he hi hr (Qp hn)
  ·rw[if_neg (by simp[hn]),if_neg (by rw[hb];exact hn)];exact ha.go s r he hi hr
 ·unfold lift negation;rw[if_neg (by simp[he])];exact ha.df s he
 ·unfold Pr.not;rw[Y3 he,if_neg (by simp)];exact ha.dg r he
theorem G0 (ht:Toks tk) {d:Nat} {lo:Ps.Lv} {glo:Pr.Lv} (h:SimV tk d lo glo):Sim tk (formula tk d lo) (Pr.formula tk d glo):=by
 have hs:Sim tk (disjunction tk d lo) (Pr.or tk d glo):=Yh ht (Yh ht (Yi ht h) sAnd) sOr;refine ⟨fun s r he hi hr=> ?_,fun s he=> ?_,fun r he=> ?_⟩
 ·have o:Out tk s (disjunction tk d lo s).2 [(disjunction tk d lo s).1] (Pr.or tk d glo r).2 (Pr.or tk d glo r).1:=hs.go s r he hi hr;have hb:=Q3y o [61,62];unfold lift formula Pr.formula;simp only;by_cases hx:(disjunction tk d lo s).2.e=0∧nextB tk [[61,62]] (disjunction tk d lo s).2.used=true
  ·rw[if_pos hx,if_pos (hb.1 hx)];obtain ⟨o1,e1⟩:=o.leaf ht hx.1 (Qp hx.2);have re1:=o1.2.2.1.1.trans e1;unfold deep Pr.nest;by_cases hd:d=0
   ·simp only[if_pos hd];have o2:=o1.fail (e:=23) (by decide) [0] [];have h1:(fail tk 23 (leaf tk (disjunction tk d lo s).2).2).e≠0:=(by unfold fail;rw[if_pos e1];show (23:Int)≠0;decide);rw[if_neg h1,if_neg (by rw[o2.2.2.1.1];exact h1)];exact o2
   ·simp only[if_neg hd,if_pos e1,if_pos re1];exact ((o1.then (h.rest hd).1).node (k:=10) (by decide) (fun _=> by simp[lift])).cast (by rw[dig10];simp[Pr.bin])
  ·rw[if_neg hx,if_neg (fun e=> hx (hb.2 e))];exact o
 ·unfold lift formula;have h1:(disjunction tk d lo s).2=s:=hs.df s he;simp only;rw[h1,if_neg (by simp[he])];exact h1
 ·unfold Pr.formula;have h1:(Pr.or tk d glo r).2=r:=hs.dg r he;simp only;rw[h1,Y3 he,if_neg (by simp)];exact h1
theorem Q1A (ht:Toks tk) {d:Nat} {lo:Ps.Lv} {glo:Pr.Lv} (h:SimV tk d lo glo):Sim tk (express tk d lo) (Pr.express tk d glo):=by
 have hf:=G0 ht h;have hx:=h.ex;refine ⟨fun s r he hi hr=> ?_,fun s he=> ?_,fun r he=> ?_⟩
 ·have o:=Out.nil hi hr;have b1:=Yx hi hr he tLet;have b2:=Yx hi hr he tIf;have b3:=Yx hi hr he tAssert;have hc:=(hr.2.2 he).2;unfold lift express Pr.express;simp only[if_pos he,if_pos (hr.1.trans he)];rw[b1,b2,b3,hc];cases hcl:s.clause with
  | true=> simpa [lift] using hf.go s r he hi hr
  | false=>
   simp only[Bool.not_false,Bool.true_and,Bool.false_eq_true,if_false];by_cases h1:nextB tk [tLet] s.used=true
   ·rw[if_pos h1,if_pos h1];exact (((((((o.leaf ht he (Qp h1)).1.then (JW ht (k:=1) (by decide))).then (X4 ht [61])).then hx).then (X4 ht tIn)).then hx).node (k:=7) (by decide) (fun _=> by simp[lift])).cast (by rw[dig7];simp[Pr.exLet])
   ·rw[if_neg h1,if_neg h1];by_cases h2:nextB tk [tIf] s.used=true
    ·rw[if_pos h2,if_pos h2];exact (((((((o.leaf ht he (Qp h2)).1.then hx).then (X4 ht tThen)).then hx).then (X4 ht tElse)).then hx).node (k:=8) (by decide) (fun _=> by simp[lift])).cast (by rw[dig8];simp[Pr.exIf])
    ·rw[if_neg h2,if_neg h2];by_cases h3:nextB tk [tAssert] s.used=true
     ·rw[if_pos h3,if_pos h3];exact (((((o.leaf ht he (Qp h3)).1.then hx).then (X4 ht tIn)).then hx).node (k:=9) (by decide) (fun _=> by simp[lift])).cast (by rw[dig9];simp[Pr.exAssert])
     ·rw[if_neg h3,if_neg h3];exact hf.go s r he hi hr
 ·unfold lift express;rw[if_neg he]
 ·unfold Pr.express;rw[if_neg he]
theorem Q0m (ht:Toks tk):∀ d:Nat,SimV tk d (Ps.lv tk d) (Pr.lv tk d)
 | 0=> by
  refine ⟨⟨fun s r he hi hr=> (Out.nil hi hr).fail (by decide) _ _,fun s he=> ?_,fun r he=> ?_⟩,fun h=> absurd rfl h⟩
  ·unfold lift Ps.lv;exact Ym he
  ·unfold Pr.lv;exact Yw he
 | d+1=> by
  have h:=Q0m ht d;exact ⟨Q1A ht h,fun _=> ⟨G0 ht h,Yi ht h,Jp ht h⟩⟩
end
end Go.Proofs.YtiecccakcenobaaGreatDoor.Pc
namespace Go.Proofs.YtiecccakcenobaaGreatDoor.Pc
open Tryz
open Tr Ps
section
variable {tk:List Tk}
theorem Out.clause {s0 s:St} {l:List Int} {r:Pr.Rs} {x:List UInt8} (o:Out tk s0 s l r x) (b:Bool):Inv tk {s with clause:=b}∧Rel {s with clause:=b} {r with inn:=b}:=by
 refine ⟨o.2.1,o.2.2.1.1,o.2.2.1.2.1,fun e=> ⟨(o.2.2.1.2.2 e).1,rfl⟩⟩
end
end Go.Proofs.YtiecccakcenobaaGreatDoor.Pc
namespace Go.Proofs.YtiecccakcenobaaGreatDoor.Pc
open Tryz
open Tr Ps
theorem Lw (l:List Bool) (i j:Nat) (h:i < l.length):(l.set i true).getD j false=(l.getD j false || decide (j=i)):=by
 simp only[List.getD];by_cases e:i=j
 ·subst e;rw[List.getElem?_set_self h];simp
 ·rw[List.getElem?_set_ne e,eK_ (fun h=> e h.symm),Bool.or_false]
theorem Q1B:∀ (ks:List Int) (kid:List Bool),ks.Nodup→(∀ k∈ks,0≤k∧k.toNat < kid.length∧kid.getD k.toNat false=false)→
  ∃ kid',marks kid ks=some kid'∧kid'.length=kid.length∧∀ j:Nat,kid'.getD j false=(kid.getD j false || decide ((j:Int)∈ks))
 | [],kid,_,_=> ⟨kid,rfl,rfl,fun j=> by simp⟩
 | k::ks,kid,hn,hk=> by
  have h0:=hk k (by simp);rw[List.nodup_cons] at hn;obtain ⟨kid',h1,h2,h3⟩:=Q1B ks (kid.set k.toNat true) hn.2 (fun x hx=> by
   have hx1:=hk x (by simp[hx]);refine ⟨hx1.1,by rw[List.length_set];exact hx1.2.1,?_⟩;rw[Lw _ _ _ h0.2.1,hx1.2.2,Bool.false_or,eK_];intro e;have:x=k:=(by omega);exact hn.1 (this ▸ hx))
  refine ⟨kid',?_,by rw[h2,List.length_set],fun j=> ?_⟩
  ·unfold marks;rw[h0.2.2,if_neg (by simp)];exact h1
  ·rw[h3,Lw _ _ _ h0.2.1,Bool.or_assoc];congr 1;rw[Bool.eq_iff_iff];simp only[Bool.or_eq_true,decide_eq_true_eq,List.mem_cons];constructor
   ·rintro (h | h)
    ·exact Or.inl (by omega)
    ·exact Or.inr h
   ·rintro (h | h)
    ·exact Or.inl (by omega)
    ·exact Or.inr h
theorem Dl {t:T}:∀ (l:List Nd) (i:Nat) (kid:List Bool),t.nodes.drop i=l→(∀ j n,t.nodes[j]? =some n→formed t j n=true)→(l.flatMap (·.kids)).Nodup→(∀ k∈l.flatMap (·.kids),0≤k∧k.toNat < kid.length∧kid.getD k.toNat false=false)→
  ∃ kid',rightGo t i l kid=some kid'∧kid'.length=kid.length∧∀ j:Nat,kid'.getD j false=(kid.getD j false || decide ((j:Int)∈l.flatMap (·.kids)))
 | [],i,kid,_,_,_,_=> ⟨kid,rfl,rfl,fun j=> by simp⟩
 | n::l,i,kid,hl,hf,hn,hk=> by
  have hlt:i < t.nodes.length:=by
   rcases eS_ i t.nodes.length with h1 | h1
   ·exact h1
   ·rw[List.drop_eq_nil_of_le h1] at hl;cases hl
  have hl2:=List.drop_eq_getElem_cons hlt;rw[hl] at hl2;injection hl2 with e1 e2;have hni:t.nodes[i]? =some n:=by rw[eA_ hlt, ←e1]
  rw[List.flatMap_cons,List.nodup_append] at hn;obtain ⟨hn1,hn2,hn3⟩:=hn;obtain ⟨k1,a1,a2,a3⟩:=Q1B n.kids kid hn1 (fun x hx=> hk x (by rw[List.flatMap_cons];exact List.mem_append_left _ hx));obtain ⟨k2,b1,b2,b3⟩:=Dl l (i+1) k1 e2.symm hf hn2 (fun x hx=> by
   have hx1:=hk x (by rw[List.flatMap_cons];exact List.mem_append_right _ hx);refine ⟨hx1.1,by rw[a2];exact hx1.2.1,?_⟩;rw[a3,hx1.2.2,Bool.false_or,eK_];intro h;rw[Int.toNat_of_nonneg hx1.1] at h;exact hn3 x h x hx rfl)
  refine ⟨k2,?_,by rw[b2,a2],fun j=> ?_⟩
  ·unfold rightGo;rw[if_pos (hf i n hni),a1];exact b1
  ·rw[b3,a3,Bool.or_assoc,List.flatMap_cons];congr 1;rw[Bool.eq_iff_iff];simp only[Bool.or_eq_true,decide_eq_true_eq,List.mem_append]
theorem Q0n {tk:List Tk} {s:St} {root:Int} {x:List UInt8} (hf:Fm tk s.nodes) (hu:s.used=tk.length) (h:Got tk St.first s [root] x):
  right ⟨tk,s.nodes⟩=true∧0 < s.nodes.length∧root=((s.nodes.length - 1:Nat):Int)∧32::dump ⟨tk,s.nodes⟩ (s.nodes.length - 1)=x:=by
 obtain ⟨m,hm,hp⟩:=h.nodes;have hm2:s.nodes=m:=by rw[hm];rfl
 subst hm2;have hz:St.first.nodes.length=0:=rfl;rw[hz] at hp;have hlow:=hf.low;have hr:root∈ints 0 s.nodes.length:=hp.mem_iff.1 (by simp);rw[JV] at hr;have h0:0 < s.nodes.length:=by omega
 have hkid:∀ k∈s.nodes.flatMap (·.kids),0≤k∧k < ((s.nodes.length - 1:Nat):Int):=by
  intro k hk;rw[List.mem_flatMap] at hk;obtain ⟨n,hn,hk⟩:=hk;obtain ⟨j,hj⟩:=List.getElem?_of_mem hn;have h1:=(hlow j n hj).1 k hk;have h2:=Z4 hj;omega
 have hroot:root=((s.nodes.length - 1:Nat):Int):=by
  have h1:((s.nodes.length - 1:Nat):Int)∈s.nodes.flatMap (·.kids)++ [root]:=hp.mem_iff.2 (by rw[JV];omega);rw[List.mem_append,List.mem_singleton] at h1;rcases h1 with h1 | h1
  ·have:=hkid _ h1;omega
  ·exact h1.symm
 have hnd:(s.nodes.flatMap (·.kids)++ [root]).Nodup:=hp.nodup_iff.2 (by
  unfold ints;exact List.Pairwise.map _ (fun a b hab=> fun e=> hab (Int.ofNat.inj e)) List.nodup_range')
 rw[List.nodup_append] at hnd;obtain ⟨kid,b1,b2,b3⟩:=Dl (t:=⟨tk,s.nodes⟩) s.nodes 0 (List.replicate s.nodes.length false) (by simp) hf hnd.1 (fun k hk=> by
  have:=hkid k hk;refine ⟨this.1,by rw[List.length_replicate];omega,?_⟩;simp only[List.getD,List.getElem?_replicate];split <;> rfl)
 rw[List.length_replicate] at b2;have htx:=h.text;have hlv:=h.lvs;simp only[List.flatMap_cons,List.flatMap_nil,List.append_nil,hroot,Int.toNat_natCast] at htx hlv;refine ⟨?_,h0,hroot,htx⟩;rw[GG b1];simp only[Bool.and_eq_true,Bool.not_eq_true',beq_iff_eq];refine ⟨⟨?_,?_⟩,?_⟩
 ·cases kid with
  | nil=> simp only[eU_] at b2;omega
  | cons _ _=> rfl
 ·rw[←Bool.not_eq_true,List.contains_iff_mem];intro hmem;obtain ⟨j,hj⟩:=List.getElem?_of_mem hmem;rw[List.getElem?_take] at hj;split at hj
  ·rename_i hj1;have h1:=b3 j;simp only[List.getD,hj,Option.getD_some,List.getElem?_replicate] at h1;have h2:(j:Int)∈s.nodes.flatMap (·.kids)++ [root]:=hp.mem_iff.2 (by rw[JV];omega);rw[List.mem_append,List.mem_singleton] at h2;rcases h2 with h2 | h2
   ·rw[eM_ h2,Bool.or_true] at h1;cases h1
   ·omega
  ·cases hj
 ·show leafs s.nodes (s.nodes.length - 1)=_;rw[hlv,hu];show (List.range' 0 (tk.length - 0)).map Int.ofNat=_;rw[Nat.sub_zero, ←List.range_eq_range'];rfl
end Go.Proofs.YtiecccakcenobaaGreatDoor.Pc
namespace Go.Proofs.YtiecccakcenobaaGreatDoor.Pc
open Tryz
open Tr Ps
section
variable {tk:List Tk}
theorem Q6I (ht:Toks tk) {s:St} {l:List Int} {r:Pr.Rs} {x:List UInt8} (o:Out tk St.first s l r x) {k:Int} (hk:1≤k∧k≤18):
  (Pr.kind tk 5 r).2.e=(node k (l++ [(kind tk 5 s).1]) (kind tk 5 s).2).2.e∧
  ((node k (l++ [(kind tk 5 s).1]) (kind tk 5 s).2).2.e≠0→(Pr.kind tk 5 r).2.pos=(node k (l++ [(kind tk 5 s).1]) (kind tk 5 s).2).2.pos)∧
  ((node k (l++ [(kind tk 5 s).1]) (kind tk 5 s).2).2.e=0→Fm tk (node k (l++ [(kind tk 5 s).1]) (kind tk 5 s).2).2.nodes∧(node k (l++ [(kind tk 5 s).1]) (kind tk 5 s).2).2.used=tk.length∧
   Got tk St.first (node k (l++ [(kind tk 5 s).1]) (kind tk 5 s).2).2 [(node k (l++ [(kind tk 5 s).1]) (kind tk 5 s).2).1] ([32,40]++Lib.decDigits k.toNat++(x++(Pr.kind tk 5 r).1)++ [41])∧
   ((node k (l++ [(kind tk 5 s).1]) (kind tk 5 s).2).2.nodes[(node k (l++ [(kind tk 5 s).1]) (kind tk 5 s).2).2.nodes.length - 1]?).map (·.kind)=some k):=by
 by_cases he:s.e=0
 ·obtain ⟨t,h1,h2,h3⟩:=o.2.1.get;have hp:=YX o.2.1 o.2.2.1 he;by_cases h5:(peek tk s.used).kind=5
  ·have hu:s.used+1=tk.length:=by
    have q:=o.2.1.1;rcases eS_ (s.used+1) tk.length with h4 | h4
    ·exact absurd (h2 ▸ h5) (ht.other _ _ h4 h1)
    ·omega
   have htx:t.text= []:=(ht.last t (by rw[←h1];congr 1;omega)).2;obtain ⟨g1,g2,g3,g4,_,g5⟩:=ZD o.2.1.2.2 h1;have e1:kind tk 5 s=leaf tk s:=(by unfold kind;rw[if_pos ⟨he,h5⟩]);have e2:Pr.kind tk 5 r=([32,36],r):=by
    unfold Pr.kind;rw[if_pos ⟨o.2.2.1.1.trans he,by rw[hp];exact h5⟩];unfold Pr.leaf;rw[hp,if_pos h5]
   rw[e1,e2];rw[h2] at h5;rw[if_pos h5,htx] at g5;have hg:=(o.2.2.2 he).trans o.2.1.2.2 g5;have hroom:=(o.2.2.2 he).room;have z1:St.first.nodes.length=0:=rfl;have z2:St.first.used=0:=rfl;obtain ⟨k1,k2,k3,k4,_,k5⟩:=Df g1 hg (g3.trans he) hk (by rw[g4,g2];omega);refine ⟨by rw[k3];exact o.2.2.1.1.trans he,fun h=> absurd k3 h,fun _=> ⟨k1,by rw[k2,g2,hu],k5,?_⟩⟩;have hm:¬ ((l++ [(leaf tk s).1]).any (fun x=> decide (x < 0) || decide (((leaf tk s).2.nodes.length:Int)≤x))=true):=by
    simp only[List.any_eq_true,Bool.or_eq_true,decide_eq_true_eq,not_exists,not_and];intro y hy;have:=hg.mem hy;omega
   have e3:node k (l++ [(leaf tk s).1]) (leaf tk s).2=(((leaf tk s).2.nodes.length:Int),{(leaf tk s).2 with nodes:=(leaf tk s).2.nodes++ [⟨k,-1,l++ [(leaf tk s).1]⟩]}):=by
    unfold node;rw[if_pos (g3.trans he),if_neg hm]
   rw[e3];simp
  ·have e1:kind tk 5 s=(0,fail tk 22 s):=(by unfold kind;rw[if_neg (by simp[h5])]);have e2:Pr.kind tk 5 r=([],Pr.fail tk 22 r):=(by unfold Pr.kind;rw[if_neg (by rw[hp];simp[h5])]);have o2:=o.fail (e:=22) (by decide) [] [];have h6:(fail tk 22 s).e≠0:=(by unfold fail;rw[if_pos he];show (22:Int)≠0;decide);rw[e1,e2];simp only;rw[UD h6];exact ⟨o2.2.2.1.1,o2.2.2.1.2.1,fun h=> absurd h h6⟩
 ·have hr:r.e≠0:=by rw[o.2.2.1.1];exact he
  rw[Q4g he,Q2W hr];simp only;rw[UD he];exact ⟨o.2.2.1.1,o.2.2.1.2.1,fun h=> absurd h he⟩
structure Same (tk:List Tk) (k:Int) (s:St) (r:Pr.Rs) (x:List UInt8):Prop where
 e:r.e=s.e
 pos:s.e≠0→r.pos=s.pos
 right:s.e=0→Tr.right ⟨tk,s.nodes⟩=true∧0 < s.nodes.length∧dump ⟨tk,s.nodes⟩ (s.nodes.length - 1)=x∧(s.nodes[s.nodes.length - 1]?).map (·.kind)=some k
 used:s.e=0→s.used=tk.length
 small:s.e=0→s.nodes.length≤3*tk.length∧∀ n∈s.nodes,n.kids.length≤s.nodes.length
theorem Q0o {s:St} {l:List Int} {x:List UInt8} (hu:s.used=tk.length) (h:Got tk St.first s l x):s.nodes.length≤3*tk.length∧∀ n∈s.nodes,n.kids.length≤s.nodes.length:=by
 have hr:=h.room;obtain ⟨m,hm,hp⟩:=h.nodes;have hm2:s.nodes=m:=by rw[hm];rfl
 subst hm2;have hz:St.first.nodes.length=0:=rfl;have hz2:St.first.used=0:=rfl;rw[hz,hz2] at hr;have hl:=hp.length_eq;simp only[eC_,ints,List.length_map,List.length_range'] at hl;refine ⟨by omega,fun n hn=> ?_⟩;have h1:n.kids.length≤(s.nodes.flatMap (·.kids)).length:=by
  obtain ⟨a,b,hab⟩:=List.append_of_mem hn;rw[hab];simp only[List.flatMap_append,List.flatMap_cons,eC_];omega
 omega
theorem Q1C (ht:Toks tk) {s:St} {l:List Int} {r:Pr.Rs} {x:List UInt8} (o:Out tk St.first s l r x) {k:Int} (hk:1≤k∧k≤18):
  Same tk k (node k (l++ [(kind tk 5 s).1]) (kind tk 5 s).2).2 (Pr.kind tk 5 r).2 ([40]++Lib.decDigits k.toNat++(x++(Pr.kind tk 5 r).1)++ [41]):=by
 obtain ⟨h1,h2,h3⟩:=Q6I ht o hk;refine ⟨h1,h2,fun h=> ?_,fun h=> (h3 h).2.1,fun h=> Q0o (h3 h).2.1 (h3 h).2.2.1⟩;obtain ⟨g1,g2,g3,g4⟩:=h3 h;obtain ⟨r1,r2,_,r4⟩:=Q0n g1 g2 g3;refine ⟨r1,r2,?_,g4⟩;simpa using r4
theorem Ly (ht:Toks tk):Inv tk St.first∧Rel St.first Pr.Rs.first:=by
 refine ⟨⟨ht.pos,eV_ _,fun j n hj=> by cases hj⟩,rfl,fun h=> absurd rfl h,fun _=> ⟨rfl,rfl⟩⟩
theorem Q2Y (ht:Toks tk) (d:Nat):Same tk 18 (alone tk (Ps.lv tk d).ex St.first).2 (Pr.alone tk (Pr.lv tk d).ex Pr.Rs.first).2 (Pr.alone tk (Pr.lv tk d).ex Pr.Rs.first).1:=by
 have hx:=(Q0m ht d).ex;obtain ⟨hi,hr⟩:=Ly ht;obtain ⟨i2,r2⟩:=(Out.nil hi hr).clause true;have o1:Out tk {St.first with clause:=true} _ [((Ps.lv tk d).ex {St.first with clause:=true}).1] _ _:=hx.go {St.first with clause:=true} {Pr.Rs.first with inn:=true} rfl i2 r2;have o2:Out tk St.first ((Ps.lv tk d).ex {St.first with clause:=true}).2 [((Ps.lv tk d).ex {St.first with clause:=true}).1] ((Pr.lv tk d).ex {Pr.Rs.first with inn:=true}).2 ((Pr.lv tk d).ex {Pr.Rs.first with inn:=true}).1:=
  ⟨hi,o1.2.1,o1.2.2.1,fun e2=> ⟨(o1.2.2.2 e2).nodes,(o1.2.2.2 e2).used,(o1.2.2.2 e2).lvs,(o1.2.2.2 e2).text,(o1.2.2.2 e2).room⟩⟩
 have ss:=Q1C ht o2 (k:=18) (by decide);unfold alone Pr.alone;refine ⟨ss.e,ss.pos,fun h=> ?_,ss.used,ss.small⟩;obtain ⟨q1,q2,q3,q4⟩:=ss.right h;refine ⟨q1,q2,?_,q4⟩;simp only;rw[show (node 18 [((Ps.lv tk d).ex {St.first with clause:=true}).1,(kind tk 5 ((Ps.lv tk d).ex {St.first with clause:=true}).2).1] (kind tk 5 ((Ps.lv tk d).ex {St.first with clause:=true}).2).2)=(node 18 ([((Ps.lv tk d).ex {St.first with clause:=true}).1]++ [(kind tk 5 ((Ps.lv tk d).ex {St.first with clause:=true}).2).1]) (kind tk 5 ((Ps.lv tk d).ex {St.first with clause:=true}).2).2) from rfl,q3,dig18];simp
end
end Go.Proofs.YtiecccakcenobaaGreatDoor.Pc
namespace Go.Proofs.YtiecccakcenobaaGreatDoor.Pc
open Tryz
open Tr Ps
section
variable {tk:List Tk}
def beside (s:St):Pr.Rs:=⟨s.used,s.clause,s.e,s.pos⟩
theorem Jq (s:St):Rel s (beside s):=⟨rfl,fun _=> rfl,fun _=> ⟨rfl,rfl⟩⟩
theorem SimL.keep {f:St→List Int × St} {g:Pr.G} (h:SimL tk f g) {s:St} (hi:Inv tk s):Inv tk (f s).2:=by
 by_cases he:s.e=0
 ·exact (h.go s (beside s) he hi (Jq s)).2.1
 ·rw[h.df s he];exact hi
theorem SimL.used {f:St→List Int × St} {g:Pr.G} (h:SimL tk f g) {s:St} (hi:Inv tk s) (he:s.e=0) (he2:(f s).2.e=0):s.used≤(f s).2.used:=
 ((h.go s (beside s) he hi (Jq s)).2.2.2 he2).used
theorem Sim.keep {f:F} {g:Pr.G} (h:Sim tk f g) {s:St} (hi:Inv tk s):Inv tk (f s).2:=SimL.keep h hi
def Og (tk:List Tk) (s:St) (l:List Int):Prop:=∃ s0 r x,Out tk s0 s l r x
theorem Og.nil {s:St} (hi:Inv tk s):Og tk s []:=⟨s,beside s, [],Out.nil hi (Jq s)⟩
theorem Og.inv {s:St} {l:List Int} (h:Og tk s l):Inv tk s:=by
 obtain ⟨s0,r,x,o⟩:=h;exact o.2.1
theorem Og.then {s:St} {l:List Int} (h:Og tk s l) {f:F} {g:Pr.G} (k:Sim tk f g):Og tk (f s).2 (l++ [(f s).1]):=by
 obtain ⟨s0,r,x,o⟩:=h;exact ⟨s0,_,_,o.then k⟩
theorem Og.leaf (ht:Toks tk) {s:St} {l:List Int} (h:Og tk s l) (he:s.e=0) (hk:(peek tk s.used).kind≠5):Og tk (Ps.leaf tk s).2 (l++ [(Ps.leaf tk s).1])∧(Ps.leaf tk s).2.e=0:=by
 obtain ⟨s0,r,x,o⟩:=h;exact ⟨⟨s0,_,_,(o.leaf ht he hk).1⟩,(o.leaf ht he hk).2⟩
theorem Og.node {s:St} {l:List Int} (h:Og tk s l) {k:Int} (hk:1≤k∧k≤18) (hl:s.e=0→2≤l.length):Og tk (Ps.node k l s).2 [(Ps.node k l s).1]:=by
 obtain ⟨s0,r,x,o⟩:=h;exact ⟨s0,_,_,o.node hk hl⟩
theorem Og.clause {s:St} {l:List Int} (h:Og tk s l) (b:Bool):Og tk {s with clause:=b} []:=Og.nil h.inv
theorem Qd {s:St} (h:Inv tk s) (hl:tk.length≤1000000):0 < tk.length∧tk.length≤1000000∧s.used≤tk.length∧s.nodes.length≤5000000:=by
 have h1:=h.1;have h2:=h.2.1;omega
theorem Q4i (k:Int) (l:List Int) (s:St):(Ps.node k l s).2.used=s.used:=by
 unfold Ps.node;by_cases h:s.e=0
 ·rw[if_pos h];by_cases h2:(l.any fun x=> decide (x < 0) || decide ((s.nodes.length:Int)≤x))=true
  ·rw[if_pos h2]
  ·rw[if_neg h2]
 ·rw[if_neg h]
theorem leaf_used {s:St} (hi:Inv tk s):(Ps.leaf tk s).2.used=s.used+1:=by
 obtain ⟨t,h1,_⟩:=hi.get;exact (ZD hi.2.2 h1).2.1
end
end Go.Proofs.YtiecccakcenobaaGreatDoor.Pc
namespace Go.Proofs.YtiecccakcenobaaGreatDoor
open Tryz
open Go.RowKit
theorem QR (w:World) (l:List (List UInt8)) {r:Nat} (hr:r=w.heap.size):RdS (w.alloc (.cells (strCells l).toArray 9)) (fun k=> k=w.heap.size) 1 (.slice (some ⟨r,0,none⟩) l.length l.length) l.length (strCells l):=by
 subst hr;refine ⟨by simp[strCells],_,_,rfl,rl_ _,Or.inr ⟨_,_,rfl,Or.inr rfl,?_⟩⟩;intro j v hj;rw[Nat.zero_add];exact Q3 (Yr _ _ _ rfl) j (by simpa using hj)
def SignsSay (ts:List (List UInt8)) (W:World) (e:Ending) (W':World):Prop:=∃ v,e= .returned v∧RdS W' (fun k=> W.heap.size≤k∧k < W'.heap.size) 1 v ts.length (strCells ts)∧Below W.heap.size W W'
theorem YY (W:World) (l:List (List UInt8)):SignsSay l W (.returned (.slice (some ⟨W.heap.size,0,none⟩) l.length l.length)) (W.alloc (.cells (strCells l).toArray 9)):=
 ⟨_,rfl,(QR W l rfl).imp fun k hk=> ⟨by omega,by rw[hk, ←Q5];omega⟩,(eB_ _ _).alloc (rl_ _) _⟩
theorem Q0p (W:World):Calls prog 222 #[.int .i64 0] W (SignsSay Ps.sOr W):=by
 go_in;go_wp2;go_ret;exact YY W Ps.sOr
theorem Q0q (W:World):Calls prog 222 #[.int .i64 1] W (SignsSay Ps.sAnd W):=by
 go_in;go_wp2;go_ret;exact YY W Ps.sAnd
theorem Q0r (W:World):Calls prog 222 #[.int .i64 2] W (SignsSay Ps.sCmp W):=by
 go_in;go_wp2;go_ret;exact YY W Ps.sCmp
theorem Q0s (W:World):Calls prog 222 #[.int .i64 3] W (SignsSay Ps.sSum W):=by
 go_in;go_wp2;go_ret;exact YY W Ps.sSum
theorem Q0t (W:World):Calls prog 222 #[.int .i64 4] W (SignsSay Ps.sMul W):=by
 go_in;go_wp2;go_ret;exact YY W Ps.sMul
section
variable {w0:World} {p b:Nat} {tk:List Tr.Tk} {dp:Int}
def Knows (w0:World) (p b:Nat) (tk:List Tr.Tk) (dp:Int) (k:FuncId) (args:Array Value) (f:Ps.F):Prop:=
 ∀ (Q:Nat→Prop) (W:World) (s:Ps.St),Up Q W→PI Q w0 W p b tk dp s→Pc.Inv tk s→Calls prog k args W (Does Q w0 p b tk dp (f s) W)
theorem Ze (ht:Pc.Toks tk) (hl:tk.length≤1000000) {lv:Int} (hlv:(lv==2)=false) {ts:List (List UInt8)} (hts:ts.length≤1000) (hsg:∀ W,Calls prog 222 #[.int .i64 lv] W (SignsSay ts W)) {n:Int} {f:Ps.F} {g:Pr.G} (hf:Pc.Sim tk f g)
  (hpart:Knows w0 p b tk dp 221 #[.pointer (some ⟨p,0,none⟩),.int .i64 lv,.int .i64 n] f):
  Knows w0 p b tk dp 193 #[.pointer (some ⟨p,0,none⟩),.int .i64 lv,.int .i64 n] (Ps.row tk f ts false):=by
 intro Q W s hQ h hi;have H:=h6_ ht hl hts hsg hf hpart;have HI:=h3_ h hi hQ;have HO:=hd_ ((Pc.Og.nil hi).then hf);clear ht hl hts hsg hf hpart h hi hQ;go_in;go_wp2_with fail;refine (H.F Q W s HI.C HI.a HI.b).mono ?_;rintro e W1 ⟨rfl,h1,h2⟩;have H1:=h2_ h1 (h2);clear h1 h2;dsimp only;go_wp2_with fail;go_loopg [7] tk.length (fun k v7 wr=> ∃ (a:Int) (s1:Ps.St),v7= .int .i64 a∧PI Q w0 wr p b tk dp s1∧Pc.Og tk s1 [a]∧(s1.e=0→tk.length≤k+s1.used)∧Ps.rowGo tk f ts false k a s1=Ps.row tk f ts false s∧FrT PTs W wr)
 case atStart=> exact ⟨_,_,rfl,H1.a,HO.o,fun _=> Nat.le_add_right _ _,rfl,H1.B⟩
 case round=>
  obtain ⟨a,s1,rfl,hp,hog,hfu,hgo,hfr⟩:=hrel;have HR:=h5_ hp hog hfu hgo hfr;have hok:=Qr hp;by_cases he:s1.e=0
  ·rw[eM_ he] at hok;have HOK:=hd_ hok;have HE:=hd_ he;clear hp hog hfu hgo hfr hok he;by_cases hn:Ps.nextB tk ts s1.used=true
   ·have HN:=hd_ hn;clear hn;go_wp2_with fail;refine (HOK.o).mono ?_;rintro e W2 ⟨rfl,rfl⟩;dsimp only;go_wp2_with fail;refine (H.d _).mono ?_;rintro e W3 ⟨v3,rfl,hr3,hb3⟩;obtain ⟨a3,c3,rfl⟩:=hr3.form;have hnx:=QQ (HR.a.past hb3) (Pc.Qd HR.b.inv H.b) hr3 (fun k hk=> hk.2) H.c;rw[HN.o] at hnx;have HNX:=hd_ hnx;have H3:=hd_ hb3;clear hr3 hb3 hnx;dsimp only;go_wp2_with fail;refine HNX.o.mono ?_;rintro e W4 ⟨rfl,hb4⟩;have H4:=hd_ (H3.o.trans (hb4.mono H3.o.size));have c0:=(HR.a.past H4.o).c0;clear hb4;dsimp only;go_wp2_with fail;refine (Qz (HR.a.past H4.o) (Pc.Qd HR.b.inv H.b)).mono ?_;rintro e W5 ⟨rfl,h5,g5⟩;have hol:=HR.b.leaf H.a HE.o (Pc.Qp HN.o);have H5:=h3_ h5 ((FrT.of H4.o).trans g5) hol;clear h5 g5 hol c0;dsimp only;go_wp2_with fail;refine (H.F Q _ _ (HI.C.frt (HR.E.trans H5.b)) H5.a H5.c.inv).mono ?_;rintro e W6 ⟨rfl,h6,g6⟩;have hon:=((H5.c.then H.e).node (k:=10) (by decide) (fun _=> by simp))
    have H6:=h3_ h6 (H5.b.trans g6) hon;clear h6 g6 hon;dsimp only;go_wp2_with fail;have hal:Below W6.heap.size W6 (W6.alloc (.cells (intCells [a,(Ps.leaf tk s1).1,(f (Ps.leaf tk s1).2).1]).toArray 3)):=(eB_ _ _).alloc (rl_ _) _;refine (Xe (l:= [a,(Ps.leaf tk s1).1,(f (Ps.leaf tk s1).2).1]) (H6.a.past hal) (Pc.Qd (H5.c.then H.e).inv H.b) (Xn W6 _ rfl) (fun k hk=> by rw[hk, ←Q5];omega) (by simp) (HI.C.frt ((HR.E.trans H6.b).trans (FrT.of hal))) 10).mono ?_;rintro e W7 ⟨rfl,h7,g7⟩;have H7:=h2_ h7 (H6.b.trans ((FrT.of hal).trans g7));clear h7 g7 hal;dsimp only;go_wp2_with fail;obtain ⟨m,hm⟩:∃ m,gk=m+1:=⟨gk - 1,by have q1:=HR.c HE.o;have q2:=HR.b.inv.1;omega⟩
    go_roundg m
    case measure=> omega
    case rel=>
     have hgo:=HR.d;rw[hm] at hgo;unfold Ps.rowGo at hgo;rw[if_pos ⟨HE.o,HN.o⟩,if_neg (by simp)] at hgo;refine ⟨_,_,rfl,H7.a,H6.C,fun he7=> ?_,hgo,HR.E.trans H7.B⟩;have q1:=HR.c HE.o;have q2:=Pc.leaf_used HR.b.inv;have q3:(f (Ps.leaf tk s1).2).2.e=0:=by
      by_cases h0:(f (Ps.leaf tk s1).2).2.e=0
      ·exact h0
      ·rw[Pc.UD h0] at he7;exact absurd he7 h0
     have q4:=Pc.SimL.used H.e H5.c.inv H5.D q3;have q5:=Pc.Q4i 10 [a,(Ps.leaf tk s1).1,(f (Ps.leaf tk s1).2).1] (f (Ps.leaf tk s1).2).2;rw[q5];simp only[Pc.lift] at q4;omega
   ·rw[Bool.not_eq_true] at hn;have HN:=hd_ hn;clear hn;go_wp2_with fail;refine (HOK.o).mono ?_;rintro e W2 ⟨rfl,rfl⟩;dsimp only;go_wp2_with fail;refine (H.d _).mono ?_;rintro e W3 ⟨v3,rfl,hr3,hb3⟩;obtain ⟨a3,c3,rfl⟩:=hr3.form;have hnx:=QQ (HR.a.past hb3) (Pc.Qd HR.b.inv H.b) hr3 (fun k hk=> hk.2) H.c;rw[HN.o] at hnx;have HNX:=hd_ hnx;have H3:=hd_ hb3;clear hr3 hb3 hnx;dsimp only;go_wp2_with fail;refine HNX.o.mono ?_;rintro e W4 ⟨rfl,hb4⟩;have H4:=hd_ (H3.o.trans (hb4.mono H3.o.size));clear hb4;dsimp only;go_wp2_with fail;go_ret;have hgo:=HR.d;have e1:∀ m,Ps.rowGo tk f ts false m a s1=(a,s1):=by
     intro m;cases m with
     | zero=> rfl
     | succ m=> unfold Ps.rowGo;rw[if_neg (by rw[HN.o];simp)]
    rw[e1] at hgo;rw[←hgo];exact ⟨rfl,HR.a.past H4.o,HR.E.trans (FrT.of H4.o)⟩
  ·rw[eK_ he] at hok;have HOK:=hd_ hok;have HE:=hd_ he;clear hp hog hfu hgo hfr hok he;go_wp2_with fail;refine (HOK.o).mono ?_;rintro e W2 ⟨rfl,rfl⟩;dsimp only;go_wp2_with fail;go_ret;have hgo:=HR.d;have e1:∀ m,Ps.rowGo tk f ts false m a s1=(a,s1):=by
    intro m;cases m with
    | zero=> rfl
    | succ m=> unfold Ps.rowGo;rw[if_neg (by simp[HE.o])]
   rw[e1] at hgo;rw[←hgo];exact ⟨rfl,HR.a,HR.E⟩
theorem Q4j (ht:Pc.Toks tk) (hl:tk.length≤1000000) {ts:List (List UInt8)} (hts:ts.length≤1000) (hsg:∀ W,Calls prog 222 #[.int .i64 2] W (SignsSay ts W)) {n:Int} {f:Ps.F} {g:Pr.G} (hf:Pc.Sim tk f g)
  (hpart:Knows w0 p b tk dp 221 #[.pointer (some ⟨p,0,none⟩),.int .i64 2,.int .i64 n] f):
  Knows w0 p b tk dp 193 #[.pointer (some ⟨p,0,none⟩),.int .i64 2,.int .i64 n] (Ps.row tk f ts true):=by
 intro Q W s hQ h hi;have H:=h6_ ht hl hts hsg hf hpart;have HI:=h3_ h hi hQ;have HO:=hd_ ((Pc.Og.nil hi).then hf);clear ht hl hts hsg hf hpart h hi hQ;go_in;go_wp2_with fail;refine (H.F Q W s HI.C HI.a HI.b).mono ?_;rintro e W1 ⟨rfl,h1,h2⟩;have H1:=h2_ h1 (h2);clear h1 h2;dsimp only;go_wp2_with fail;go_loopg [7] tk.length (fun k v7 wr=> ∃ (a:Int) (s1:Ps.St),v7= .int .i64 a∧PI Q w0 wr p b tk dp s1∧Pc.Og tk s1 [a]∧(s1.e=0→tk.length≤k+s1.used)∧Ps.rowGo tk f ts true k a s1=Ps.row tk f ts true s∧FrT PTs W wr)
 case atStart=> exact ⟨_,_,rfl,H1.a,HO.o,fun _=> Nat.le_add_right _ _,rfl,H1.B⟩
 case round=>
  obtain ⟨a,s1,rfl,hp,hog,hfu,hgo,hfr⟩:=hrel;have HR:=h5_ hp hog hfu hgo hfr;have hok:=Qr hp;by_cases he:s1.e=0
  ·rw[eM_ he] at hok;have HOK:=hd_ hok;have HE:=hd_ he;clear hp hog hfu hgo hfr hok he;by_cases hn:Ps.nextB tk ts s1.used=true
   ·have HN:=hd_ hn;clear hn;go_wp2_with fail;refine (HOK.o).mono ?_;rintro e W2 ⟨rfl,rfl⟩;dsimp only;go_wp2_with fail;refine (H.d _).mono ?_;rintro e W3 ⟨v3,rfl,hr3,hb3⟩;obtain ⟨a3,c3,rfl⟩:=hr3.form;have hnx:=QQ (HR.a.past hb3) (Pc.Qd HR.b.inv H.b) hr3 (fun k hk=> hk.2) H.c;rw[HN.o] at hnx;have HNX:=hd_ hnx;have H3:=hd_ hb3;clear hr3 hb3 hnx;dsimp only;go_wp2_with fail;refine HNX.o.mono ?_;rintro e W4 ⟨rfl,hb4⟩;have H4:=hd_ (H3.o.trans (hb4.mono H3.o.size));have c0:=(HR.a.past H4.o).c0;clear hb4;dsimp only;go_wp2_with fail;refine (Qz (HR.a.past H4.o) (Pc.Qd HR.b.inv H.b)).mono ?_;rintro e W5 ⟨rfl,h5,g5⟩;have hol:=HR.b.leaf H.a HE.o (Pc.Qp HN.o);have H5:=h3_ h5 ((FrT.of H4.o).trans g5) hol;clear h5 g5 hol c0;dsimp only;go_wp2_with fail;refine (H.F Q _ _ (HI.C.frt (HR.E.trans H5.b)) H5.a H5.c.inv).mono ?_;rintro e W6 ⟨rfl,h6,g6⟩;have hon:=((H5.c.then H.e).node (k:=10) (by decide) (fun _=> by simp))
    have H6:=h3_ h6 (H5.b.trans g6) hon;clear h6 g6 hon;dsimp only;go_wp2_with fail;have hal:Below W6.heap.size W6 (W6.alloc (.cells (intCells [a,(Ps.leaf tk s1).1,(f (Ps.leaf tk s1).2).1]).toArray 3)):=(eB_ _ _).alloc (rl_ _) _;refine (Xe (l:= [a,(Ps.leaf tk s1).1,(f (Ps.leaf tk s1).2).1]) (H6.a.past hal) (Pc.Qd (H5.c.then H.e).inv H.b) (Xn W6 _ rfl) (fun k hk=> by rw[hk, ←Q5];omega) (by simp) (HI.C.frt ((HR.E.trans H6.b).trans (FrT.of hal))) 10).mono ?_;rintro e W7 ⟨rfl,h7,g7⟩;have H7:=h2_ h7 (H6.b.trans ((FrT.of hal).trans g7));clear h7 g7 hal;dsimp only;go_wp2_with fail;go_ret;obtain ⟨m,hm⟩:∃ m,gk=m+1:=⟨gk - 1,by have q1:=HR.c HE.o;have q2:=HR.b.inv.1;omega⟩
    have hgo:=HR.d;rw[hm] at hgo;unfold Ps.rowGo at hgo;rw[if_pos ⟨HE.o,HN.o⟩,if_pos rfl] at hgo;rw[←hgo];exact ⟨rfl,H7.a,HR.E.trans H7.B⟩
   ·rw[Bool.not_eq_true] at hn;have HN:=hd_ hn;clear hn;go_wp2_with fail;refine (HOK.o).mono ?_;rintro e W2 ⟨rfl,rfl⟩;dsimp only;go_wp2_with fail;refine (H.d _).mono ?_;rintro e W3 ⟨v3,rfl,hr3,hb3⟩;obtain ⟨a3,c3,rfl⟩:=hr3.form;have hnx:=QQ (HR.a.past hb3) (Pc.Qd HR.b.inv H.b) hr3 (fun k hk=> hk.2) H.c;rw[HN.o] at hnx;have HNX:=hd_ hnx;have H3:=hd_ hb3;clear hr3 hb3 hnx;dsimp only;go_wp2_with fail;refine HNX.o.mono ?_;rintro e W4 ⟨rfl,hb4⟩;have H4:=hd_ (H3.o.trans (hb4.mono H3.o.size));clear hb4;dsimp only;go_wp2_with fail;go_ret;have hgo:=HR.d;have e1:∀ m,Ps.rowGo tk f ts true m a s1=(a,s1):=by
     intro m;cases m with
     | zero=> rfl
     | succ m=> unfold Ps.rowGo;rw[if_neg (by rw[HN.o];simp)]
    rw[e1] at hgo;rw[←hgo];exact ⟨rfl,HR.a.past H4.o,HR.E.trans (FrT.of H4.o)⟩
  ·rw[eK_ he] at hok;have HOK:=hd_ hok;have HE:=hd_ he;clear hp hog hfu hgo hfr hok he;go_wp2_with fail;refine (HOK.o).mono ?_;rintro e W2 ⟨rfl,rfl⟩;dsimp only;go_wp2_with fail;go_ret;have hgo:=HR.d;have e1:∀ m,Ps.rowGo tk f ts true m a s1=(a,s1):=by
    intro m;cases m with
    | zero=> rfl
    | succ m=> unfold Ps.rowGo;rw[if_neg (by simp[HE.o])]
   rw[e1] at hgo;rw[←hgo];exact ⟨rfl,HR.a,HR.E⟩
theorem UE {lv:Int} (h1:(lv==1)=false) (h4:(lv==4)=false) (hb:0≤lv∧lv≤3) {n:Int} {f:Ps.F} (hr:Knows w0 p b tk dp 193 #[.pointer (some ⟨p,0,none⟩),.int .i64 (lv+1),.int .i64 n] f):
  Knows w0 p b tk dp 221 #[.pointer (some ⟨p,0,none⟩),.int .i64 lv,.int .i64 n] f:=by
 intro Q W s hQ h hi;obtain ⟨b1,b2⟩:=hb;have HC:=hd_ (hr Q W s hQ h hi);clear h hi hr hQ;go_in;go_wp2_with fail;refine (HC.o).mono ?_;rintro e W1 ⟨rfl,h1,h2⟩;have H1:=h2_ h1 (h2);clear h1 h2;dsimp only;go_wp2_with fail;go_ret;exact ⟨rfl,H1.a,H1.B⟩
theorem Q4k {n:Int} {f:Ps.F} (hr:Knows w0 p b tk dp 234 #[.pointer (some ⟨p,0,none⟩),.int .i64 n] f):
  Knows w0 p b tk dp 221 #[.pointer (some ⟨p,0,none⟩),.int .i64 1,.int .i64 n] f:=by
 intro Q W s hQ h hi;have HC:=hd_ (hr Q W s hQ h hi);clear h hi hr hQ;go_in;go_wp2_with fail;refine (HC.o).mono ?_;rintro e W1 ⟨rfl,h1,h2⟩;have H1:=h2_ h1 (h2);clear h1 h2;dsimp only;go_wp2_with fail;go_ret;exact ⟨rfl,H1.a,H1.B⟩
theorem Q4l {n:Int} {f:Ps.F} (hr:Knows w0 p b tk dp 235 #[.pointer (some ⟨p,0,none⟩),.int .i64 n] f):
  Knows w0 p b tk dp 221 #[.pointer (some ⟨p,0,none⟩),.int .i64 4,.int .i64 n] f:=by
 intro Q W s hQ h hi;have HC:=hd_ (hr Q W s hQ h hi);clear h hi hr hQ;go_in;go_wp2_with fail;refine (HC.o).mono ?_;rintro e W1 ⟨rfl,h1,h2⟩;have H1:=h2_ h1 (h2);clear h1 h2;dsimp only;go_wp2_with fail;go_ret;exact ⟨rfl,H1.a,H1.B⟩
end
section
variable {w0:World} {p b:Nat} {tk:List Tr.Tk} {dp:Int}
theorem Q2Z (ht:Pc.Toks tk) (hl:tk.length≤1000000) {n:Int} {d:Nat} (hn0:0≤n) (hn1:n≤300) (hd:n+1+d=dp+1) {f:Ps.F} {g:Pr.G} (hf:d≠0→Pc.Sim tk f g) (hk:d≠0→Knows w0 p b tk dp 235 #[.pointer (some ⟨p,0,none⟩),.int .i64 (n+1)] f)
  {Q:Nat→Prop} {W:World} {s:Ps.St} (hQ:Up Q W) (h:PI Q w0 W p b tk dp s) (hi:Pc.Inv tk s) (he:s.e=0) (h5:(Ps.peek tk s.used).kind≠5):
  Calls prog 242 #[.pointer (some ⟨p,0,none⟩),.int .i64 n,.func (.func 235) #[.pointer (some ⟨p,0,none⟩)] #[]] W (Does Q w0 p b tk dp (Ps.unary tk d f s) W):=by
 have HI:=h3_ h hi hQ;have HL:=hd_ hl;have hlf:=(Pc.Og.nil hi).leaf ht he h5;have hde:=hlf.2;have c0:=h.c0;have HF:=h4_ hd hf hk hlf;have hun:Ps.unary tk d f s=if (Ps.deep tk d (Ps.leaf tk s).2).e=0 then Ps.node 11 [(Ps.leaf tk s).1,(f (Ps.deep tk d (Ps.leaf tk s).2)).1] (f (Ps.deep tk d (Ps.leaf tk s).2)).2 else (0,Ps.deep tk d (Ps.leaf tk s).2):=rfl;have hw1:=Pc.Qd hlf.1.inv hl;have HLF:=hd_ (Qz h (Pc.Qd hi hl));rw[hun];have HDP:=hd_ (fun (V:World) hV=> Yc (Q:=Q) (W:=V) (p:=p) (b:=b) (w0:=w0) hV hw1 hd);by_cases hz:d=0
 ·have hds:(Ps.deep tk d (Ps.leaf tk s).2).e≠0:=by
   unfold Ps.deep Ps.fail;rw[if_pos hz,if_pos hde];show (23:Int)≠0;decide
  have hdb:decide ((Ps.deep tk d (Ps.leaf tk s).2).e≠0)=true:=eM_ hds;rw[if_neg hds];rw[hdb] at HDP;clear hQ h hi hl hlf hde hun hw1 hd hf hk ht he h5 hz hds hdb;go_in;go_wp2_with fail;refine (HLF.o).mono ?_;rintro e W1 ⟨rfl,h1,g1⟩;have H1:=h2_ h1 (g1);clear h1 g1 c0;dsimp only;go_wp2_with fail;refine (HDP.o _ H1.a).mono ?_;rintro e W2 ⟨rfl,h2,g2⟩;have H2:=h2_ h2 (g2);clear h2 g2;dsimp only;go_wp2_with fail;go_ret;exact ⟨rfl,H2.a,H1.B.trans H2.B⟩
 ·have hds:Ps.deep tk d (Ps.leaf tk s).2=(Ps.leaf tk s).2:=by unfold Ps.deep;rw[if_neg hz]
  have hdb:decide ((Ps.leaf tk s).2.e≠0)=false:=eK_ (by simp[hde]);rw[hds] at HDP ⊢;rw[hdb] at HDP;rw[if_pos hde];have HZ:=hd_ hz;clear hQ h hi hl hlf hde hun hw1 hd hf hk ht he h5 hz hds hdb;go_in;go_wp2_with fail;refine (HLF.o).mono ?_;rintro e W1 ⟨rfl,h1,g1⟩;have H1:=h2_ h1 (g1);clear h1 g1 c0;dsimp only;go_wp2_with fail;refine (HDP.o _ H1.a).mono ?_;rintro e W2 ⟨rfl,h2,g2⟩;have H2:=h2_ h2 (g2);clear h2 g2;dsimp only;go_wp2_with fail;refine (HF.c HZ.o Q _ _ (HI.C.frt (H1.B.trans H2.B)) H2.a HF.d.inv).mono ?_;rintro e W3 ⟨rfl,h3,g3⟩;have H3:=h2_ h3 g3;clear h3 g3;dsimp only;go_wp2_with fail;have hal:Below W3.heap.size W3 (W3.alloc (.cells (intCells [(Ps.leaf tk s).1,(f (Ps.leaf tk s).2).1]).toArray 3)):=(eB_ _ _).alloc (rl_ _) _;refine (Xe (l:= [(Ps.leaf tk s).1,(f (Ps.leaf tk s).2).1]) (H3.a.past hal) (Pc.Qd (HF.d.then (HF.b HZ.o)).inv HL.o) (Xn W3 _ rfl) (fun k hk=> by rw[hk, ←Q5];omega) (by simp) (HI.C.frt (((H1.B.trans H2.B).trans H3.B).trans (FrT.of hal))) 11).mono ?_;rintro e W4 ⟨rfl,h4,g4⟩;have H4:=h2_ h4 (((H1.B.trans H2.B).trans H3.B).trans ((FrT.of hal).trans g4));clear h4 g4 hal;dsimp only;go_wp2_with fail;go_ret;exact ⟨rfl,H4.a,H4.B⟩
theorem Q30 (ht:Pc.Toks tk) (hl:tk.length≤1000000) {n:Int} {d:Nat} (hn0:0≤n) (hn1:n≤300) (hd:n+1+d=dp+1) {f:Ps.F} {g:Pr.G} (hf:d≠0→Pc.Sim tk f g) (hk:d≠0→Knows w0 p b tk dp 234 #[.pointer (some ⟨p,0,none⟩),.int .i64 (n+1)] f)
  {Q:Nat→Prop} {W:World} {s:Ps.St} (hQ:Up Q W) (h:PI Q w0 W p b tk dp s) (hi:Pc.Inv tk s) (he:s.e=0) (h5:(Ps.peek tk s.used).kind≠5):
  Calls prog 242 #[.pointer (some ⟨p,0,none⟩),.int .i64 n,.func (.func 234) #[.pointer (some ⟨p,0,none⟩)] #[]] W (Does Q w0 p b tk dp (Ps.unary tk d f s) W):=by
 have HI:=h3_ h hi hQ;have HL:=hd_ hl;have hlf:=(Pc.Og.nil hi).leaf ht he h5;have hde:=hlf.2;have c0:=h.c0;have HF:=h4_ hd hf hk hlf;have hun:Ps.unary tk d f s=if (Ps.deep tk d (Ps.leaf tk s).2).e=0 then Ps.node 11 [(Ps.leaf tk s).1,(f (Ps.deep tk d (Ps.leaf tk s).2)).1] (f (Ps.deep tk d (Ps.leaf tk s).2)).2 else (0,Ps.deep tk d (Ps.leaf tk s).2):=rfl;have hw1:=Pc.Qd hlf.1.inv hl;have HLF:=hd_ (Qz h (Pc.Qd hi hl));rw[hun];have HDP:=hd_ (fun (V:World) hV=> Yc (Q:=Q) (W:=V) (p:=p) (b:=b) (w0:=w0) hV hw1 hd);by_cases hz:d=0
 ·have hds:(Ps.deep tk d (Ps.leaf tk s).2).e≠0:=by
   unfold Ps.deep Ps.fail;rw[if_pos hz,if_pos hde];show (23:Int)≠0;decide
  have hdb:decide ((Ps.deep tk d (Ps.leaf tk s).2).e≠0)=true:=eM_ hds;rw[if_neg hds];rw[hdb] at HDP;clear hQ h hi hl hlf hde hun hw1 hd hf hk ht he h5 hz hds hdb;go_in;go_wp2_with fail;refine (HLF.o).mono ?_;rintro e W1 ⟨rfl,h1,g1⟩;have H1:=h2_ h1 (g1);clear h1 g1 c0;dsimp only;go_wp2_with fail;refine (HDP.o _ H1.a).mono ?_;rintro e W2 ⟨rfl,h2,g2⟩;have H2:=h2_ h2 (g2);clear h2 g2;dsimp only;go_wp2_with fail;go_ret;exact ⟨rfl,H2.a,H1.B.trans H2.B⟩
 ·have hds:Ps.deep tk d (Ps.leaf tk s).2=(Ps.leaf tk s).2:=by unfold Ps.deep;rw[if_neg hz]
  have hdb:decide ((Ps.leaf tk s).2.e≠0)=false:=eK_ (by simp[hde]);rw[hds] at HDP ⊢;rw[hdb] at HDP;rw[if_pos hde];have HZ:=hd_ hz;clear hQ h hi hl hlf hde hun hw1 hd hf hk ht he h5 hz hds hdb;go_in;go_wp2_with fail;refine (HLF.o).mono ?_;rintro e W1 ⟨rfl,h1,g1⟩;have H1:=h2_ h1 (g1);clear h1 g1 c0;dsimp only;go_wp2_with fail;refine (HDP.o _ H1.a).mono ?_;rintro e W2 ⟨rfl,h2,g2⟩;have H2:=h2_ h2 (g2);clear h2 g2;dsimp only;go_wp2_with fail;refine (HF.c HZ.o Q _ _ (HI.C.frt (H1.B.trans H2.B)) H2.a HF.d.inv).mono ?_;rintro e W3 ⟨rfl,h3,g3⟩;have H3:=h2_ h3 g3;clear h3 g3;dsimp only;go_wp2_with fail;have hal:Below W3.heap.size W3 (W3.alloc (.cells (intCells [(Ps.leaf tk s).1,(f (Ps.leaf tk s).2).1]).toArray 3)):=(eB_ _ _).alloc (rl_ _) _;refine (Xe (l:= [(Ps.leaf tk s).1,(f (Ps.leaf tk s).2).1]) (H3.a.past hal) (Pc.Qd (HF.d.then (HF.b HZ.o)).inv HL.o) (Xn W3 _ rfl) (fun k hk=> by rw[hk, ←Q5];omega) (by simp) (HI.C.frt (((H1.B.trans H2.B).trans H3.B).trans (FrT.of hal))) 11).mono ?_;rintro e W4 ⟨rfl,h4,g4⟩;have H4:=h2_ h4 (((H1.B.trans H2.B).trans H3.B).trans ((FrT.of hal).trans g4));clear h4 g4 hal;dsimp only;go_wp2_with fail;go_ret;exact ⟨rfl,H4.a,H4.B⟩
theorem DN (ht:Pc.Toks tk) (hl:tk.length≤1000000) {n:Int} {d:Nat} (hn0:0≤n) (hn1:n≤300) (hd:n+1+d=dp+1) {lo:Ps.Lv} {glo:Pr.Lv} (hs:Pc.SimV tk d lo glo) (hk:d≠0→Knows w0 p b tk dp 235 #[.pointer (some ⟨p,0,none⟩),.int .i64 (n+1)] lo.fa)
  (ha:Knows w0 p b tk dp 243 #[.pointer (some ⟨p,0,none⟩),.int .i64 n] (Ps.atom tk lo.ex)):
  Knows w0 p b tk dp 235 #[.pointer (some ⟨p,0,none⟩),.int .i64 n] (Ps.factor tk d lo):=by
 intro Q W s hQ h hi;have hok:=Qr h;have HU:=hd_ (fun (V:World) hq hV he h5=> Q2Z (Q:=Q) (W:=V) (s:=s) ht hl hn0 hn1 hd (fun z=> (hs.rest z).2.2) hk hq hV hi he h5);have HA:=hd_ (fun (V:World) hq hV=> ha Q V s hq hV hi);have HQ:=hd_ hQ;have HNX:=hd_ (fun (V:World) (hV:PI Q w0 V p b tk dp s) {P v} hv hP=> QQ (ts:= [[45]]) (P:=P) (v:=v) hV (Pc.Qd hi hl) hv hP (by simp));have HP:=hd_ h;unfold Ps.factor;by_cases he:s.e=0
 ·rw[eM_ he] at hok;have HOK:=hd_ hok;have hal:Below W.heap.size W (W.alloc (.cells (strCells [[45]]).toArray 9)):=(eB_ _ _).alloc (rl_ _) _;have hnx:=HNX.o _ (h.past hal) (QR W [[45]] rfl) (fun k hk=> by rw[hk, ←Q5];omega);by_cases hn:Ps.nextB tk [[45]] s.used=true
  ·rw[if_pos ⟨he,hn⟩];rw[hn] at hnx;have HN:=hd_ hnx;have HE:=h3_ he (Pc.Qp hn) hal;clear hQ h hi hl hs hk ha ht hd hok he hn hnx hal HNX;go_in;go_wp2_with fail;refine (HOK.o).mono ?_;rintro e W1 ⟨rfl,rfl⟩;dsimp only;go_wp2_with fail;refine HN.o.mono ?_;rintro e W2 ⟨rfl,hb2⟩;have H2:=hd_ (HE.C.trans (hb2.mono HE.C.size));clear hb2;dsimp only;go_wp2_with fail;refine (HU.o _ (HQ.o.size H2.o.size) (HP.o.past H2.o) HE.a HE.b).mono ?_;rintro e W3 ⟨rfl,h3,g3⟩;have H3:=h2_ h3 ((FrT.of H2.o).trans g3);clear h3 g3;dsimp only;go_wp2_with fail;go_ret;exact ⟨rfl,H3.a,H3.B⟩
  ·rw[if_neg (by simp[hn])];rw[Bool.not_eq_true] at hn;rw[hn] at hnx;have HN:=hd_ hnx;have HE:=hd_ hal;clear hQ h hi hl hs hk ha ht hd hok he hn hnx hal HNX HU;go_in;go_wp2_with fail;refine (HOK.o).mono ?_;rintro e W1 ⟨rfl,rfl⟩;dsimp only;go_wp2_with fail;refine HN.o.mono ?_;rintro e W2 ⟨rfl,hb2⟩;have H2:=hd_ (HE.o.trans (hb2.mono HE.o.size));clear hb2;dsimp only;go_wp2_with fail;refine (HA.o _ (HQ.o.size H2.o.size) (HP.o.past H2.o)).mono ?_;rintro e W3 ⟨rfl,h3,g3⟩;have H3:=h2_ h3 ((FrT.of H2.o).trans g3);clear h3 g3;dsimp only;go_wp2_with fail;go_ret;exact ⟨rfl,H3.a,H3.B⟩
 ·rw[eK_ he] at hok;have HOK:=hd_ hok;rw[if_neg (by simp[he])];clear hQ h hi hl hs hk ha ht hd hok he HNX HU;go_in;go_wp2_with fail;refine (HOK.o).mono ?_;rintro e W1 ⟨rfl,rfl⟩;dsimp only;go_wp2_with fail;refine (HA.o _ HQ.o HP.o).mono ?_;rintro e W3 ⟨rfl,h3,g3⟩;have H3:=h2_ h3 g3;clear h3 g3;dsimp only;go_wp2_with fail;go_ret;exact ⟨rfl,H3.a,H3.B⟩
theorem Gb (ht:Pc.Toks tk) (hl:tk.length≤1000000) {n:Int} {d:Nat} (hn0:0≤n) (hn1:n≤300) (hd:n+1+d=dp+1) {lo:Ps.Lv} {glo:Pr.Lv} (hs:Pc.SimV tk d lo glo) (hk:d≠0→Knows w0 p b tk dp 234 #[.pointer (some ⟨p,0,none⟩),.int .i64 (n+1)] lo.ne)
  (ha:Knows w0 p b tk dp 193 #[.pointer (some ⟨p,0,none⟩),.int .i64 2,.int .i64 n] (Ps.comparison tk d lo)):
  Knows w0 p b tk dp 234 #[.pointer (some ⟨p,0,none⟩),.int .i64 n] (Ps.negation tk d lo):=by
 intro Q W s hQ h hi;have hok:=Qr h;have HU:=hd_ (fun (V:World) hq hV he h5=> Q30 (Q:=Q) (W:=V) (s:=s) ht hl hn0 hn1 hd (fun z=> (hs.rest z).2.1) hk hq hV hi he h5);have HA:=hd_ (fun (V:World) hq hV=> ha Q V s hq hV hi);have HQ:=hd_ hQ;have HNX:=hd_ (fun (V:World) (hV:PI Q w0 V p b tk dp s) {P v} hv hP=> QQ (ts:= [Ps.tNot]) (P:=P) (v:=v) hV (Pc.Qd hi hl) hv hP (by simp));have HP:=hd_ h;unfold Ps.negation;by_cases he:s.e=0
 ·rw[eM_ he] at hok;have HOK:=hd_ hok;have hal:Below W.heap.size W (W.alloc (.cells (strCells [Ps.tNot]).toArray 9)):=(eB_ _ _).alloc (rl_ _) _;have hnx:=HNX.o _ (h.past hal) (QR W [Ps.tNot] rfl) (fun k hk=> by rw[hk, ←Q5];omega);by_cases hn:Ps.nextB tk [Ps.tNot] s.used=true
  ·rw[if_pos ⟨he,hn⟩];rw[hn] at hnx;have HN:=hd_ hnx;have HE:=h3_ he (Pc.Qp hn) hal;clear hQ h hi hl hs hk ha ht hd hok he hn hnx hal HNX;go_in;go_wp2_with fail;refine (HOK.o).mono ?_;rintro e W1 ⟨rfl,rfl⟩;dsimp only;go_wp2_with fail;refine HN.o.mono ?_;rintro e W2 ⟨rfl,hb2⟩;have H2:=hd_ (HE.C.trans (hb2.mono HE.C.size));clear hb2;dsimp only;go_wp2_with fail;refine (HU.o _ (HQ.o.size H2.o.size) (HP.o.past H2.o) HE.a HE.b).mono ?_;rintro e W3 ⟨rfl,h3,g3⟩;have H3:=h2_ h3 ((FrT.of H2.o).trans g3);clear h3 g3;dsimp only;go_wp2_with fail;go_ret;exact ⟨rfl,H3.a,H3.B⟩
  ·rw[if_neg (by simp[hn])];rw[Bool.not_eq_true] at hn;rw[hn] at hnx;have HN:=hd_ hnx;have HE:=hd_ hal;clear hQ h hi hl hs hk ha ht hd hok he hn hnx hal HNX HU;go_in;go_wp2_with fail;refine (HOK.o).mono ?_;rintro e W1 ⟨rfl,rfl⟩;dsimp only;go_wp2_with fail;refine HN.o.mono ?_;rintro e W2 ⟨rfl,hb2⟩;have H2:=hd_ (HE.o.trans (hb2.mono HE.o.size));clear hb2;dsimp only;go_wp2_with fail;refine (HA.o _ (HQ.o.size H2.o.size) (HP.o.past H2.o)).mono ?_;rintro e W3 ⟨rfl,h3,g3⟩;have H3:=h2_ h3 ((FrT.of H2.o).trans g3);clear h3 g3;dsimp only;go_wp2_with fail;go_ret;exact ⟨rfl,H3.a,H3.B⟩
 ·rw[eK_ he] at hok;have HOK:=hd_ hok;rw[if_neg (by simp[he])];clear hQ h hi hl hs hk ha ht hd hok he HNX HU;go_in;go_wp2_with fail;refine (HOK.o).mono ?_;rintro e W1 ⟨rfl,rfl⟩;dsimp only;go_wp2_with fail;refine (HA.o _ HQ.o HP.o).mono ?_;rintro e W3 ⟨rfl,h3,g3⟩;have H3:=h2_ h3 g3;clear h3 g3;dsimp only;go_wp2_with fail;go_ret;exact ⟨rfl,H3.a,H3.B⟩
theorem Dm (ht:Pc.Toks tk) (hl:tk.length≤1000000) {n:Int} {d:Nat} (hn0:0≤n) (hn1:n≤300) (hd:n+1+d=dp+1) {lo:Ps.Lv} {glo:Pr.Lv} (hs:Pc.SimV tk d lo glo) (hk:d≠0→Knows w0 p b tk dp 147 #[.pointer (some ⟨p,0,none⟩),.int .i64 (n+1)] lo.fo)
  (ha:Knows w0 p b tk dp 193 #[.pointer (some ⟨p,0,none⟩),.int .i64 0,.int .i64 n] (Ps.disjunction tk d lo)):
  Knows w0 p b tk dp 147 #[.pointer (some ⟨p,0,none⟩),.int .i64 n] (Ps.formula tk d lo):=by
 intro Q W s hQ h hi;have hsj:Pc.Sim tk (Ps.disjunction tk d lo) (Pr.or tk d glo):=Pc.Yh ht (Pc.Yh ht (Pc.Yi ht hs) Ps.sAnd) Ps.sOr;have hog:=(Pc.Og.nil hi).then hsj;have HA:=hd_ (ha Q W s hQ h hi);have HQ:=hd_ hQ;have HL:=h5_ ht hl hd hs hk;have hfo:Ps.formula tk d lo s=if (Ps.disjunction tk d lo s).2.e=0∧Ps.nextB tk [[61,62]] (Ps.disjunction tk d lo s).2.used=true then (if (Ps.deep tk d (Ps.leaf tk (Ps.disjunction tk d lo s).2).2).e=0 then Ps.node 10 [(Ps.disjunction tk d lo s).1,(Ps.leaf tk (Ps.disjunction tk d lo s).2).1,(lo.fo (Ps.deep tk d (Ps.leaf tk (Ps.disjunction tk d lo s).2).2)).1] (lo.fo (Ps.deep tk d (Ps.leaf tk (Ps.disjunction tk d lo s).2).2)).2 else (0,Ps.deep tk d (Ps.leaf tk (Ps.disjunction tk d lo s).2).2)) else Ps.disjunction tk d lo s:=rfl;rw[hfo];obtain ⟨r,hr⟩:∃ r,Ps.disjunction tk d lo s=r:=⟨_,rfl⟩
 obtain ⟨a,s1⟩:=r;rw[hr] at HA hog ⊢;simp only[List.nil_append] at hog;have HO:=hd_ hog;clear hQ h hi hl hs hk ha ht hd hsj hfo hr hog;dsimp only at HA HO ⊢;by_cases he:s1.e=0
 ·by_cases hn:Ps.nextB tk [[61,62]] s1.used=true
  ·rw[if_pos ⟨he,hn⟩];have hlf:=HO.o.leaf HL.a he (Pc.Qp hn);have hde:=hlf.2;have HE:=h3_ he hn hlf;have hw1:=Pc.Qd hlf.1.inv HL.b;have HDP:=hd_ (fun (V:World) hV=> Yc (Q:=Q) (W:=V) (p:=p) (b:=b) (w0:=w0) hV hw1 HL.c);clear he hn hlf hw1;by_cases hz:d=0
   ·have hds:(Ps.deep tk d (Ps.leaf tk s1).2).e≠0:=by
     unfold Ps.deep Ps.fail;rw[if_pos hz,if_pos hde];show (23:Int)≠0;decide
    have hdb:decide ((Ps.deep tk d (Ps.leaf tk s1).2).e≠0)=true:=eM_ hds;rw[if_neg hds];rw[hdb] at HDP;clear hde hz hds hdb;go_in;go_wp2_with fail;refine (HA.o).mono ?_;rintro e W1 ⟨rfl,h1,g1⟩;have H1:=h2_ h1 (g1);clear h1 g1;have hok:=Qr H1.a;rw[eM_ HE.a] at hok;have HOK:=hd_ hok;clear hok;dsimp only;go_wp2_with fail;refine (HOK.o).mono ?_;rintro e W2 ⟨rfl,rfl⟩;dsimp only;go_wp2_with fail;have hal:Below W1.heap.size W1 (W1.alloc (.cells (strCells [[61,62]]).toArray 9)):=(eB_ _ _).alloc (rl_ _) _;have hnx:=QQ (ts:= [[61,62]]) (H1.a.past hal) (Pc.Qd HO.o.inv HL.b) (QR W1 [[61,62]] rfl) (fun k hk=> by rw[hk, ←Q5];omega) (by simp);rw[HE.b] at hnx;refine hnx.mono ?_;rintro e W3 ⟨rfl,hb3⟩;have H3:=hd_ (hal.trans (hb3.mono hal.size));clear hb3 hnx hal;have c0:=(H1.a.past H3.o).c0;dsimp only;go_wp2_with fail;refine (Qz (H1.a.past H3.o) (Pc.Qd HO.o.inv HL.b)).mono ?_;rintro e W4 ⟨rfl,h4,g4⟩;have H4:=h2_ h4 (H1.B.trans ((FrT.of H3.o).trans g4));clear h4 g4 c0;dsimp only;go_wp2_with fail;refine (HDP.o _ H4.a).mono ?_;rintro e W5 ⟨rfl,h5,g5⟩;have H5:=h2_ h5 (g5);clear h5 g5;dsimp only;go_wp2_with fail;go_ret;exact ⟨rfl,H5.a,H4.B.trans H5.B⟩
   ·have hds:Ps.deep tk d (Ps.leaf tk s1).2=(Ps.leaf tk s1).2:=(by unfold Ps.deep;rw[if_neg hz]);have hdb:decide ((Ps.leaf tk s1).2.e≠0)=false:=eK_ (by simp[hde]);rw[hds] at HDP ⊢;rw[hdb] at HDP;rw[if_pos hde];have HZ:=hd_ hz;clear hde hz hds hdb;go_in;go_wp2_with fail;refine (HA.o).mono ?_;rintro e W1 ⟨rfl,h1,g1⟩;have H1:=h2_ h1 (g1);clear h1 g1;have hok:=Qr H1.a;rw[eM_ HE.a] at hok;have HOK:=hd_ hok;clear hok;dsimp only;go_wp2_with fail;refine (HOK.o).mono ?_;rintro e W2 ⟨rfl,rfl⟩;dsimp only;go_wp2_with fail;have hal:Below W1.heap.size W1 (W1.alloc (.cells (strCells [[61,62]]).toArray 9)):=(eB_ _ _).alloc (rl_ _) _;have hnx:=QQ (ts:= [[61,62]]) (H1.a.past hal) (Pc.Qd HO.o.inv HL.b) (QR W1 [[61,62]] rfl) (fun k hk=> by rw[hk, ←Q5];omega) (by simp);rw[HE.b] at hnx;refine hnx.mono ?_;rintro e W3 ⟨rfl,hb3⟩;have H3:=hd_ (hal.trans (hb3.mono hal.size));clear hb3 hnx hal;have c0:=(H1.a.past H3.o).c0;dsimp only;go_wp2_with fail;refine (Qz (H1.a.past H3.o) (Pc.Qd HO.o.inv HL.b)).mono ?_;rintro e W4 ⟨rfl,h4,g4⟩;have H4:=h2_ h4 (H1.B.trans ((FrT.of H3.o).trans g4));clear h4 g4 c0;dsimp only;go_wp2_with fail;refine (HDP.o _ H4.a).mono ?_;rintro e W5 ⟨rfl,h5,g5⟩;have H5:=h2_ h5 (g5);clear h5 g5;dsimp only;go_wp2_with fail;refine (HL.E HZ.o Q _ _ (HQ.o.frt (H4.B.trans H5.B)) H5.a HE.c.inv).mono ?_;rintro e W6 ⟨rfl,h6,g6⟩;have H6:=h2_ h6 (H4.B.trans (H5.B.trans g6));clear h6 g6;dsimp only;go_wp2_with fail;have hal:Below W6.heap.size W6 (W6.alloc (.cells (intCells [a,(Ps.leaf tk s1).1,(lo.fo (Ps.leaf tk s1).2).1]).toArray 3)):=(eB_ _ _).alloc (rl_ _) _;refine (Xe (l:= [a,(Ps.leaf tk s1).1,(lo.fo (Ps.leaf tk s1).2).1]) (H6.a.past hal) (Pc.Qd (HE.c.then (HL.d.rest HZ.o).1).inv HL.b) (Xn W6 _ rfl) (fun k hk=> by rw[hk, ←Q5];omega) (by simp) (HQ.o.frt (H6.B.trans (FrT.of hal))) 10).mono ?_;rintro e W7 ⟨rfl,h7,g7⟩;have H7:=h2_ h7 (H6.B.trans ((FrT.of hal).trans g7));clear h7 g7 hal;dsimp only;go_wp2_with fail;go_ret;exact ⟨rfl,H7.a,H7.B⟩
  ·rw[if_neg (by simp[hn])];rw[Bool.not_eq_true] at hn;have HE:=h3_ he hn hn;clear he hn;go_in;go_wp2_with fail;refine (HA.o).mono ?_;rintro e W1 ⟨rfl,h1,g1⟩;have H1:=h2_ h1 (g1);clear h1 g1;have hok:=Qr H1.a;rw[eM_ HE.a] at hok;have HOK:=hd_ hok;clear hok;dsimp only;go_wp2_with fail;refine (HOK.o).mono ?_;rintro e W2 ⟨rfl,rfl⟩;dsimp only;go_wp2_with fail;have hal:Below W1.heap.size W1 (W1.alloc (.cells (strCells [[61,62]]).toArray 9)):=(eB_ _ _).alloc (rl_ _) _;have hnx:=QQ (ts:= [[61,62]]) (H1.a.past hal) (Pc.Qd HO.o.inv HL.b) (QR W1 [[61,62]] rfl) (fun k hk=> by rw[hk, ←Q5];omega) (by simp);rw[HE.b] at hnx;refine hnx.mono ?_;rintro e W3 ⟨rfl,hb3⟩;have H3:=hd_ (hal.trans (hb3.mono hal.size));clear hb3 hnx hal;dsimp only;go_wp2_with fail;go_ret;exact ⟨rfl,H1.a.past H3.o,H1.B.trans (FrT.of H3.o)⟩
 ·rw[if_neg (by simp[he])];have HE:=hd_ he;clear he;go_in;go_wp2_with fail;refine (HA.o).mono ?_;rintro e W1 ⟨rfl,h1,g1⟩;have H1:=h2_ h1 (g1);clear h1 g1;have hok:=Qr H1.a;rw[eK_ HE.o] at hok;have HOK:=hd_ hok;clear hok;dsimp only;go_wp2_with fail;refine (HOK.o).mono ?_;rintro e W2 ⟨rfl,rfl⟩;dsimp only;go_wp2_with fail;go_ret;exact ⟨rfl,H1.a,H1.B⟩
end
theorem Lz:(prog.info? 3).map (fun i=> (i.zero,i.size,i.bytes))=some (some (.int .i64 0),1,8):=by kernel_rfl
section
variable {w0:World} {p b:Nat} {tk:List Tr.Tk} {dp:Int}
def KnowsB (Box:World→Prop) (w0:World) (p b:Nat) (tk:List Tr.Tk) (dp:Int) (k:FuncId) (args:Array Value) (f:Ps.F):Prop:=
 ∀ (Q:Nat→Prop) (W:World) (s:Ps.St),Up Q W→PI Q w0 W p b tk dp s→Pc.Inv tk s→Box W→Calls prog k args W (Does Q w0 p b tk dp (f s) W)
def Lists (Q:Nat→Prop) (w0:World) (p b:Nat) (tk:List Tr.Tk) (dp:Int) (r:List Int × Ps.St) (W:World) (e:Ending) (W':World):Prop:=
 ∃ v,e= .returned v∧W'.ownsRow W.heap.size 3 1 v r.1.length (intCells r.1)∧PI (Off Q v) w0 W' p b tk dp r.2∧FrT PTs W W'
theorem Q1D {f:Ps.F} {s:Ps.St} (he:s.e≠0) (m:Nat) (ks:List Int):Ps.listGo tk f m ks s=(ks,s):=by
 cases m with
 | zero=> unfold Ps.listGo;rw[Pc.Ym he]
 | succ m=> unfold Ps.listGo;rw[if_neg he]
theorem Q6J (w:World) (l:List Int) (hl:l.length≤1000):(w.alloc (.cells (intCells l).toArray 3)).ownsRow w.heap.size 3 1 (.slice (some ⟨w.heap.size,0,none⟩) l.length l.length) l.length (intCells l):=by
 refine ⟨by simp[intCells],Or.inr ⟨w.heap.size,l.length,(intCells l).toArray,rfl,rl_ _,eD_ _ _,rl_ _,by unfold maxLen;omega,by simp[intCells],by rw[Nat.mul_one];exact List.take_of_length_le (by simp[intCells])⟩⟩
def ListRel (Q:Nat→Prop) (w0 W:World) (p b:Nat) (tk:List Tr.Tk) (dp:Int) (f:Ps.F) (s:Ps.St) (k:Nat) (v5 v6:Value) (wr:World):Prop:=
 ∃ (ks:List Int) (a:Option Addr) (c j:Nat) (s1:Ps.St),v5= .slice a ks.length c∧v6= .int .i64 j∧1≤j∧j≤9∧k=9 - j∧ks.length≤2*j∧wr.ownsRow W.heap.size 3 1 (.slice a ks.length c) ks.length (intCells ks)∧
  PI (Off Q (.slice a ks.length c)) w0 wr p b tk dp s1∧Pc.Inv tk s1∧Ps.listGo tk f (9 - j) ks s1=Ps.list tk f s∧FrT PTs W wr
theorem Dn (ht:Pc.Toks tk) (hl:tk.length≤1000000) {f:Ps.F} {g:Pr.G} (hf:Pc.Sim tk f g) {Box:World→Prop} (hbox:∀ V V',Box V→FrT PTs V V'→Box V') {bp bn:Nat}
  (hone:KnowsB Box w0 p b tk dp 256 #[.pointer (some ⟨bp,0,none⟩),.pointer (some ⟨bn,0,none⟩)] f):
  ∀ (Q:Nat→Prop) (W:World) (s:Ps.St),Up Q W→PI Q w0 W p b tk dp s→Pc.Inv tk s→Box W→
   Calls prog 255 #[.pointer (some ⟨p,0,none⟩),.func (.func 256) #[] #[.pointer (some ⟨bp,0,none⟩),.pointer (some ⟨bn,0,none⟩)]] W (Lists Q w0 p b tk dp (Ps.list tk f s) W):=by
 intro Q W s hQ h hi hB;have H:=h5_ ht hl hf hbox hone;have HI:=h4_ h hi hQ hB;have hal:Below W.heap.size W (W.alloc (.cells (strCells [[41]]).toArray 9)):=(eB_ _ _).alloc (rl_ _) _;have hnx:=QQ (ts:= [[41]]) (h.past hal) (Pc.Qd hi hl) (QR W [[41]] rfl) (fun k hk=> by rw[hk, ←Q5];omega) (by simp);have hdef:Ps.list tk f s=if Ps.nextB tk [[41]] s.used=true then ([],s) else Ps.listGo tk f 8 [] s:=rfl;by_cases hn:Ps.nextB tk [[41]] s.used=true
 ·rw[if_pos hn] at hdef;rw[hdef];rw[hn] at hnx;have HN:=h2_ hnx hal;clear ht hl hf hbox hone hQ h hi hB hal hnx hdef hn;go_in;go_wp2_with fail;refine HN.a.mono ?_;rintro e W2 ⟨rfl,hb2⟩;have H2:=hd_ (HN.B.trans (hb2.mono HN.B.size));clear hb2;dsimp only;go_wp2_with fail;go_ret;exact ⟨_,rfl,World.ownsRow_nil _ _ _ _,(HI.a.past H2.o).imp fun k _ hq=> ⟨hq,by simp[Value.ownBlock]⟩,FrT.of H2.o⟩
 ·rw[if_neg hn] at hdef;rw[Bool.not_eq_true] at hn;rw[hn] at hnx;have HN:=h3_ hnx hal hdef;obtain ⟨i0,hii,hz0,hz1,hz2⟩:=Qv Lz;have Hi:=hd_ hii;have Hz0:=hd_ hz0;have Hz1:=hd_ hz1;have Hz2:=hd_ hz2;clear hii hz0 hz1 hz2;clear ht hl hf hbox hone hQ h hi hB hal hnx hdef hn;go_in;go_wp2_with fail;refine HN.a.mono ?_;rintro e W2 ⟨rfl,hb2⟩;have H2:=hd_ (HN.b.trans (hb2.mono HN.b.size));clear hb2;dsimp only;go_wp2_with fail;go_loopg [5,6] 8 (fun k v5 v6 wr=> ListRel Q w0 W p b tk dp f s k v5 v6 wr)
  case atStart=> exact ⟨[],none,0,1,s,rfl,rfl,rl_ _,by omega,rfl,by simp,World.ownsRow_nil _ _ _ _,(HI.a.past H2.o).imp fun k _ hq=> ⟨hq,by simp[Value.ownBlock]⟩,HI.b,HN.C.symm,FrT.of H2.o⟩
  case round=>
   obtain ⟨ks,a,c,j,s1,rfl,rfl,hj1,hj9,hk,hkl,hown,hp,hin,hgo,hfr⟩:=hrel;have hj1':(1:Int)≤(j:Int):=(by omega);have hj9':(j:Int)≤9:=(by omega);have hok:=Qr hp;have HR:=h7_ hk hkl hown hp hin hgo hfr;clear hk hkl hown hp hin hgo hfr;by_cases he:s1.e=0
   ·rw[eM_ he] at hok;have HOK:=hd_ hok;have HE:=hd_ he;clear hok he;by_cases hj:j=9
    ·subst hj;go_wp2_with fail;refine (HOK.o).mono ?_;rintro e W3 ⟨rfl,rfl⟩;dsimp only;go_wp2_with fail;refine (Xd HR.d (Pc.Qd HR.e H.b) 15).mono ?_;rintro e W4 ⟨rfl,h4,g4⟩;have H4:=h2_ h4 g4;clear h4 g4;dsimp only;go_wp2_with fail;go_ret;have hgo:=HR.f;have e1:Ps.listGo tk f (9 - 9) ks s1=(ks,Ps.fail tk 15 s1):=rfl;rw[e1] at hgo;rw[←hgo];exact ⟨_,rfl,YB HR.c H4.B (by decide),H4.a,HR.G.trans H4.B⟩
    ·have hj8:(j:Int)≤8:=(by omega);have HJ:=hd_ hj;clear hj;go_wp2_with fail;refine (HOK.o).mono ?_;rintro e W3 ⟨rfl,rfl⟩;dsimp only;go_wp2_with fail;refine (H.E _ _ _ (Off.up (HI.c.frt HR.G) HR.c) HR.d HR.e (H.d _ _ HI.D HR.G)).mono ?_;rintro e W4 ⟨rfl,h4,g4⟩;have hi4:=((Pc.Og.nil HR.e).then H.c).inv;have ho4:=YB HR.c g4 (by decide);have H4:=h4_ h4 (HR.G.trans g4) hi4 ho4;clear h4 g4 hi4 ho4;obtain ⟨⟨x,s2⟩,hx⟩:∃ r,f s1=r:=⟨_,rfl⟩
     rw[hx] at H4 ⊢;have HX:=hd_ hx;clear hx;dsimp only at H4 ⊢;go_wp2_with (at_builtin;refine QW rfl _ _ 46 rfl W.heap.size 3 i0 (.int .i64 0) 1 8 underlying46 Hi.o Hz0.o Hz1.o Hz2.o rfl (by decide) _ ks.length (intCells ks) rfl (H4.D.alloc _) rfl (Xn W4 [x] rfl) (ints_one _) (by have:=HR.b;unfold maxLen;simp;omega) (by have:=HR.b;simp;omega) (eE_ H4.b.size (Nat.le_of_lt (by rw[←Q5];omega))) ?_);intro a5 c5 W5 ho5 hg5 hat5;have hal:Below W4.heap.size W4 (W4.alloc (.cells (intCells [x]).toArray 3)):=(eB_ _ _).alloc (rl_ _) _;have hp5:=(H4.a.past hal).appended (H4.D.alloc _) HI.a.below.size hg5 (v3:= .slice a5 (ks.length+1) c5) (by rw[←Q5];exact hat5);have hf5:FrT PTs W W5:=(H4.b.trans (FrT.of hal)).grown hg5 (fun k hk=> (H4.D.lt k hk).1);have hks:intCells ks++intCells [x]=intCells (ks++ [x]):=(by simp[intCells]);rw[hks] at ho5;have H5:=h3_ ho5 hp5 hf5;have hok5:=Qr hp5;clear ho5 hg5 hat5 hal hp5 hf5 hks;by_cases he2:s2.e=0
     ·rw[eM_ he2] at hok5;have HOK5:=hd_ hok5;have HE2:=hd_ he2;clear hok5 he2;have hal2:Below W5.heap.size W5 (W5.alloc (.cells (strCells [[44]]).toArray 9)):=(eB_ _ _).alloc (rl_ _) _;have hnx2:=QQ (ts:= [[44]]) (H5.b.past hal2) (Pc.Qd H4.c H.b) (QR W5 [[44]] rfl) (fun k hk=> by rw[hk, ←Q5];omega) (by simp);by_cases hn2:Ps.nextB tk [[44]] s2.used=true
      ·rw[hn2] at hnx2;have HN2:=h3_ hnx2 hal2 hn2;clear hnx2 hal2 hn2;go_wp2_with fail;refine (HOK5.o).mono ?_;rintro e W6 ⟨rfl,rfl⟩;dsimp only;go_wp2_with fail;refine HN2.a.mono ?_;rintro e W7 ⟨rfl,hb7⟩;have H7:=hd_ (HN2.b.trans (hb7.mono HN2.b.size));have d0:=(H5.b.past H7.o).c0;clear hb7;dsimp only;go_wp2_with fail;refine (Qz (H5.b.past H7.o) (Pc.Qd H4.c H.b)).mono ?_;rintro e W8 ⟨rfl,h8,g8⟩;have hi8:=((Pc.Og.nil H4.c).leaf H.a HE2.o (Pc.Qp HN2.C)).1.inv;have g58:=(FrT.of H7.o).trans g8;have H8:=h4_ h8 (H5.C.trans g58) hi8 (YB H5.a g58 (by decide));clear h8 g8 hi8 g58 d0;dsimp only;obtain ⟨⟨y,s3⟩,hy⟩:∃ r,Ps.leaf tk s2=r:=⟨_,rfl⟩
       rw[hy] at H8 ⊢;have HY:=hd_ hy;clear hy;dsimp only at H8 ⊢;go_wp2_with (at_builtin;refine QW rfl _ _ 46 rfl W.heap.size 3 i0 (.int .i64 0) 1 8 underlying46 Hi.o Hz0.o Hz1.o Hz2.o rfl (by decide) _ _ (intCells (ks++ [x])) rfl (H8.D.alloc _) rfl (Xn W8 [y] rfl) (ints_one _) (by have:=HR.b;unfold maxLen;simp;omega) (by have:=HR.b;simp;omega) (eE_ H8.b.size (Nat.le_of_lt (by rw[←Q5];omega))) ?_);intro a9 c9 W9 ho9 hg9 hat9;have hal9:Below W8.heap.size W8 (W8.alloc (.cells (intCells [y]).toArray 3)):=(eB_ _ _).alloc (rl_ _) _;have hp9:=(H8.a.past hal9).appended (H8.D.alloc _) HI.a.below.size hg9 (v3:= .slice a9 (ks.length+1+1) c9) (by rw[←Q5];exact hat9);have hf9:FrT PTs W W9:=(H8.b.trans (FrT.of hal9)).grown hg9 (fun k hk=> (H8.D.lt k hk).1);have hks:intCells (ks++ [x])++intCells [y]=intCells (ks++ [x,y]):=(by simp[intCells]);rw[hks] at ho9;have H9:=h3_ ho9 hp9 hf9;clear ho9 hg9 hat9 hal9 hp9 hf9 hks;go_wp2_with fail;go_roundg (9 - (j+1))
       case measure=> have:=HR.a;have:=HJ.o;omega
       case rel=>
        have hgo:=HR.f;have hj:=HJ.o;obtain ⟨m,hm⟩:∃ m,9 - j=m+1:=⟨8 - j,by omega⟩
        have e9:9 - (j+1)=m:=(by omega);rw[hm] at hgo;unfold Ps.listGo at hgo;rw[if_pos HE.o,HX.o] at hgo;simp only at hgo;rw[if_pos ⟨HE2.o,HN2.C⟩,HY.o] at hgo;have q1:(ks++ [x,y]).length=ks.length+1+1:=(by simp);refine ⟨ks++ [x,y],a9,c9,j+1,s3,by rw[q1],by go_num,by omega,by omega,rfl,by have:=HR.b;simp;omega,by rw[q1];exact H9.a,by rw[q1];exact H9.b,H8.c,by rw[e9];exact hgo,H9.C⟩
      ·rw[Bool.not_eq_true] at hn2;rw[hn2] at hnx2;have HN2:=h3_ hnx2 hal2 hn2;clear hnx2 hal2 hn2;go_wp2_with fail;refine (HOK5.o).mono ?_;rintro e W6 ⟨rfl,rfl⟩;dsimp only;go_wp2_with fail;refine HN2.a.mono ?_;rintro e W7 ⟨rfl,hb7⟩;have H7:=hd_ (HN2.b.trans (hb7.mono HN2.b.size));clear hb7;dsimp only;go_wp2_with fail;go_ret;have hgo:=HR.f;have hj:=HJ.o;obtain ⟨m,hm⟩:∃ m,9 - j=m+1:=⟨8 - j,by omega⟩
       rw[hm] at hgo;unfold Ps.listGo at hgo;rw[if_pos HE.o,HX.o] at hgo;simp only at hgo;rw[if_neg (by rw[HN2.C];simp)] at hgo;rw[←hgo];have q1:(ks++ [x]).length=ks.length+1:=(by simp);exact ⟨_,rfl,by rw[q1];exact Qu H5.a H7.o,H5.b.past H7.o,H5.C.trans (FrT.of H7.o)⟩
     ·rw[eK_ he2] at hok5;have HOK5:=hd_ hok5;have HE2:=hd_ he2;clear hok5 he2;go_wp2_with fail;refine (HOK5.o).mono ?_;rintro e W6 ⟨rfl,rfl⟩;dsimp only;go_wp2_with fail;go_ret;have hgo:=HR.f;have hj:=HJ.o;obtain ⟨m,hm⟩:∃ m,9 - j=m+1:=⟨8 - j,by omega⟩
      rw[hm] at hgo;unfold Ps.listGo at hgo;rw[if_pos HE.o,HX.o] at hgo;simp only at hgo;rw[if_neg (by simp[HE2.o])] at hgo;rw[←hgo];have q1:(ks++ [x]).length=ks.length+1:=(by simp);exact ⟨_,rfl,by rw[q1];exact H5.a,H5.b,H5.C⟩
   ·rw[eK_ he] at hok;have HOK:=hd_ hok;have HE:=hd_ he;clear hok he;go_wp2_with fail;refine (HOK.o).mono ?_;rintro e W3 ⟨rfl,rfl⟩;dsimp only;go_wp2_with fail;go_ret;have hgo:=HR.f;rw[Q1D HE.o] at hgo;rw[←hgo];exact ⟨_,rfl,HR.c,HR.d,HR.G⟩
end
end Go.Proofs.YtiecccakcenobaaGreatDoor
