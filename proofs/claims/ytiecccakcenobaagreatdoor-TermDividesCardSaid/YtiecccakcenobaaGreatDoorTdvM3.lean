/- A part of the proof. -/
import Derived.Test.YtiecccakcenobaaGreatDoorTdvM2
import Derived.Laws.BitsAllLaws
import Derived.Deep.QuietTactic
import Derived.BigQuiet
import Derived.Sort.Walk0
import Derived.Laws.Cover1
import Derived.Deep.Upon
import Derived.Lib.AppendZerosOnto
import Derived.Lib.Overlaps
import Derived.Laws.IdiomCopy
set_option linter.all false
set_option maxRecDepth 100000
set_option maxHeartbeats 64000000
namespace Go.Proofs.YtiecccakcenobaaGreatDoor
open Tryz
open Go.RowKit
variable {ts:List TypeId} {xs:List Value} {b n p:Nat} {s:Ps.St} {v:Value} {W W' w w' w0 x y:World}
section
variable {Q:Nat->Prop}
structure FrT (ts:List TypeId) (w w':World):Prop where
 os:w'.os=w.os
 tape:w'.tape=w.tape
 output:w'.output=w.output
 size:w.heap.size<=w'.heap.size
 block:∀ (k:Nat) (o:Obj),w.heap[k]? =some o->(∀ cs T fr,o= .cells cs T fr->T∉ts)->w'.heap[k]? =some o
theorem FrT.refl (ts:List TypeId) (w:World):FrT ts w w:=⟨rfl,rfl,rfl,rl_ _,fun _ _ h _=> h⟩
theorem FrT.trans {ts:List TypeId} {x y z:World} (h:FrT ts x y) (k:FrT ts y z):FrT ts x z:=
 ⟨k.os.trans h.os,k.tape.trans h.tape,k.output.trans h.output,eE_ h.size k.size,fun i o hi hn=> k.block i o (h.block i o hi hn) hn⟩
theorem FrT.of (h:Below x.heap.size x y):FrT ts x y:=
 ⟨h.os,h.tape,h.output,h.size,fun k o hk _=> (h.block k (Q4 hk)).trans hk⟩
theorem FrT.cells {ts:List TypeId} {x y:World} (h:FrT ts x y) {k:Nat} {cs:Array Value} {T:TypeId} {fr:Nat × Nat} (hk:x.heap[k]? =some (.cells cs T fr)) (hT:T∉ts):y.heap[k]? =some (.cells cs T fr):=
 h.block k _ hk fun cs2 T2 fr2 e=> by
  injection e with _ e2 _;rw[<-e2];exact hT
theorem FrT.of_nbt {T TB:TypeId} {cs:Array Value} {fr:Nat × Nat} (h:NBt T b x y) (hb:x.heap[b]? =some (.cells cs TB fr)) (h1:T∈ts) (h2:TB∈ts):FrT ts x y:=by
 refine ⟨h.os,h.tape,h.output,h.size,fun k o hk hn=> h.block k o hk ?_ ?_⟩
 ·rintro rfl;rw[hb] at hk;simp only[Option.some.injEq] at hk;exact hn cs TB fr hk.symm h2
 ·rintro cs2 fr2 rfl;exact hn cs2 T fr2 rfl h1
theorem YP {base:Nat} {e:TypeId} {size:Nat} (h:w.ownsRow base e size v n xs) (hf:FrT ts w w') (hT:e∉ts):w'.ownsRow base e size v n xs:=
 Qk h fun k hk=> by
  obtain ⟨cur,hc⟩:=Qm h hk;rw[hc];exact hf.cells hc hT
theorem BuildI.other {B:Nat} {vt vn:Value} {t:Tr.T} {used:Nat} (h:BuildI Q w B b vt vn t used) (hs:w.heap.size<=w'.heap.size) {p:Nat} {cs:Array Value} {T:TypeId} (hp:w.heap[p]? =some (.cells cs T (0,0)))
  (hT:T≠197/\T≠157/\T≠3/\T≠224) (hk:∀ k,k < w.heap.size->k≠p->w'.heap[k]? =w.heap[k]?):BuildI Q w' B b vt vn t used:=by
 have hne:∀ (k:Nat) (cs2:Array Value) (T2:TypeId),T≠T2->w.heap[k]? =some (.cells cs2 T2 (0,0))->w'.heap[k]? =some (.cells cs2 T2 (0,0)):=by
  intro k cs2 T2 h1 h2;rw[hk k (Q4 h2),h2];rintro rfl;rw[hp] at h2;injection h2 with h2;injection h2 with _ h3 _;exact h1 h3
 have hkeep:∀ T2,T≠T2->Keeps (BPt T2 w B b vn) w w':=fun T2 h1 k hk'=> by
  obtain ⟨_,cs2,h2⟩:=hk';rw[h2];exact hne k cs2 T2 h1 h2
 have hbpt:∀ T2,T≠T2->∀ k,BPt T2 w B b vn k->BPt T2 w' B b vn k:=fun T2 h1 k hk'=> ⟨hk'.1.size hs,hk'.2.imp fun cs2 h2=> hne k cs2 T2 h1 h2⟩;obtain ⟨kvs,hk1,hk2,hk3⟩:=h.nodes;refine ⟨hne b _ _ hT.2.2.2 h.cell,h.base,h.ne,(h.toks.keep (hkeep _ hT.1)).imp (hbpt _ hT.1),kvs,hk1,Qk hk2 fun k hk'=> ?_,fun i n kv hi hkv=> ((hk3 i n kv hi hkv).keep fun k hk=> hkeep _ hT.2.2.1 k hk.1).imp fun k hk=> ⟨hbpt _ hT.2.2.1 k hk.1,hk.2⟩⟩;obtain ⟨cur,hc⟩:=Qm hk2 hk';rw[hc];exact hne k cur _ hT.2.1 hc
def PTs:List TypeId:= [191,224,157]
def pCells (b:Nat) (dp:Int) (s:Ps.St):Array Value:= #[.pointer (some ⟨b,0,none⟩),.int .i64 dp,.bool s.clause,.int .i64 s.e,.int .i64 s.pos]
structure PI (Q:Nat->Prop) (w0 W:World) (p b:Nat) (tk:List Tr.Tk) (dp:Int) (s:Ps.St):Prop where
 anc:Anc Q w0 W b ⟨tk,s.nodes⟩ s.used
 cell:W.heap[p]? =some (.cells (pCells b dp s) 191 (0,0))
 low:w0.heap.size<=p
theorem PI.below {w0 W:World} {p b:Nat} {tk:List Tr.Tk} {dp:Int} {s:Ps.St} (h:PI Q w0 W p b tk dp s):Below w0.heap.size w0 W:=h.anc.below
theorem PI.past {w0 W W':World} {p b:Nat} {tk:List Tr.Tk} {dp:Int} {s:Ps.St} (h:PI Q w0 W p b tk dp s) (hb:Below W.heap.size W W'):PI Q w0 W' p b tk dp s:=
 ⟨h.anc.past hb,Q7 h.cell hb,h.low⟩
theorem PI.c0 {tk:List Tr.Tk} {dp:Int} (h:PI Q w0 W p b tk dp s):W.cell? ⟨p,0,none⟩=some (.pointer (some ⟨b,0,none⟩)):=Q3 h.cell 0 rfl
theorem PI.c1 {tk:List Tr.Tk} {dp:Int} (h:PI Q w0 W p b tk dp s):W.cell? ⟨p,1,none⟩=some (.int .i64 dp):=Q3 h.cell 1 rfl
theorem PI.c2 {tk:List Tr.Tk} {dp:Int} (h:PI Q w0 W p b tk dp s):W.cell? ⟨p,2,none⟩=some (.bool s.clause):=Q3 h.cell 2 rfl
theorem PI.c3 {tk:List Tr.Tk} {dp:Int} (h:PI Q w0 W p b tk dp s):W.cell? ⟨p,3,none⟩=some (.int .i64 s.e):=Q3 h.cell 3 rfl
theorem PI.c4 {tk:List Tr.Tk} {dp:Int} (h:PI Q w0 W p b tk dp s):W.cell? ⟨p,4,none⟩=some (.int .i64 s.pos):=Q3 h.cell 4 rfl
theorem PI.frozen {w0 W:World} {p b:Nat} {tk:List Tr.Tk} {dp:Int} {s:Ps.St} (h:PI Q w0 W p b tk dp s) (j:Nat):W.frozen? ⟨p,j,none⟩=false:=Qp h.cell j
theorem PI.step {tk:List Tr.Tk} {dp:Int} (h:PI Q w0 W p b tk dp s) {ns:List Tr.Nd} {u:Nat} (ha:Anc Q w0 W' b ⟨tk,ns⟩ u) (hn:NBt 157 b W W'):
  PI Q w0 W' p b tk dp {s with nodes:=ns,used:=u}/\FrT PTs W W':=by
 obtain ⟨B,vt,vn,_,hB,_⟩:=h.anc;have hne:p≠b:=by
  rintro rfl;have h1:=hB.cell;rw[h.cell] at h1;injection h1 with h1;injection h1 with _ h2 _;exact absurd h2 (by decide)
 exact ⟨⟨ha,hn.cells h.cell hne (by decide),h.low⟩,FrT.of_nbt hn hB.cell (by decide) (by decide)⟩
theorem PI.set {tk:List Tr.Tk} {dp:Int} {s':Ps.St} (h:PI Q w0 W p b tk dp s) (hs:s'.nodes=s.nodes/\s'.used=s.used) (ho:W'.os=W.os) (ht:W'.tape=W.tape) (hu:W'.output=W.output) (hz:W.heap.size=W'.heap.size)
  (hc:W'.heap[p]? =some (.cells (pCells b dp s') 191 (0,0))) (hk:∀ k,k≠p->W'.heap[k]? =W.heap[k]?):PI Q w0 W' p b tk dp s'/\FrT PTs W W':=by
 obtain ⟨B,vt,vn,h1,hB,h3⟩:=h.anc;refine ⟨⟨⟨B,vt,vn,h1,?_,?_⟩,hc,h.low⟩,⟨ho,ht,hu,by omega,fun k o hk1 hk2=> ?_⟩⟩
 ·rw[hs.1,hs.2];exact hB.other (by omega) h.cell (by decide) fun k _ hne=> hk k hne
 ·exact ⟨ho.trans h3.os,ht.trans h3.tape,hu.trans h3.output,by have:=h3.size;omega,fun k hk1=> (hk k (by have:=h.low;omega)).trans (h3.block k hk1)⟩
 ·rw[hk k,hk1];rintro rfl;rw[h.cell] at hk1;injection hk1 with hk1;exact hk2 _ _ _ hk1.symm (by decide)
def Does (Q:Nat->Prop) (w0:World) (p b:Nat) (tk:List Tr.Tk) (dp:Int) (r:Int × Ps.St) (W:World) (e:Ending) (W':World):Prop:=
 e= .returned (.int .i64 r.1)/\PI Q w0 W' p b tk dp r.2/\FrT PTs W W'
def Up (Q:Nat->Prop) (W:World):Prop:=∀ k,W.heap.size<=k->Q k
theorem Up.size {W W':World} (h:Up Q W) (hs:W.heap.size<=W'.heap.size):Up Q W':=fun k hk=> h k (eE_ hs hk)
theorem Up.frt (h:Up Q W) (hf:FrT ts W W'):Up Q W':=h.size hf.size
theorem PI.imp {R:Nat->Prop} {w0 W:World} {p b:Nat} {tk:List Tr.Tk} {dp:Int} {s:Ps.St} (h:PI Q w0 W p b tk dp s) (hq:∀ k,k < W.heap.size->Q k->R k):PI R w0 W p b tk dp s:=⟨h.anc.imp hq,h.cell,h.low⟩
theorem PI.grown {w0 W W':World} {p b base n:Nat} {tk:List Tr.Tk} {dp:Int} {s:Ps.St} {v:Value} {xs:List Value} (h:PI Q w0 W p b tk dp s) (ho:W.ownsRow base 3 1 v n xs) (hbase:w0.heap.size<=base) (hv:∀ k,v.ownBlock=some k->¬ Q k) (hg:W.grownBy W' v.ownBlock):PI Q w0 W' p b tk dp s:=by
 refine ⟨h.anc.grown ho hbase hv hg,?_,h.low⟩;rw[hg.block p (Q4 h.cell) fun e=> ?_]
 ·exact h.cell
 ·obtain ⟨cur,hc⟩:=Qm ho e.symm;rw[h.cell] at hc;simp at hc
end
end Go.Proofs.YtiecccakcenobaaGreatDoor
namespace Go.Proofs.YtiecccakcenobaaGreatDoor.Zp
open Tryz
variable {out:List Nat} {d:Nat}
def pad:Nat->Nat->List Nat
 | 0,_=> []
 | k+1,r=> r % 10::pad k (r / 10)
theorem GE:∀ (k r:Nat),(pad k r).length=k
 | 0,_=> rfl
 | k+1,r=> by rw[pad,eL_,GE k]
theorem Q4x:∀ (k r:Nat),Dig 10 (pad k r)
 | 0,_=> Dig.nil
 | k+1,r=> Dig.cons (Nat.mod_lt _ (by omega)) (Q4x k _)
theorem Q4y:∀ (k r:Nat),val 10 (pad k r)+10 ^ k*(r / 10 ^ k)=r
 | 0,r=> by simp[pad,val]
 | k+1,r=> by
  rw[pad,val];have ih:=Q4y k (r / 10);rw[Nat.div_div_eq_div_mul,Nat.mul_comm 10] at ih;rw[Nat.pow_succ];have h1:=Nat.mod_add_div r 10;have h2:10 ^ k*10*(r / (10 ^ k*10))=10*(10 ^ k*(r / (10 ^ k*10))):=by rw[Nat.mul_comm (10 ^ k) 10,Nat.mul_assoc]
  rw[h2];omega
theorem Q3q {k r:Nat} (h:r < 10 ^ k):val 10 (pad k r)=r:=by
 have:=Q4y k r;rw[Nat.div_eq_of_lt h] at this;omega
theorem Q6x {n m z:Nat} (h:val 10 out+10 ^ out.length*n=z) (hr:n % 1000000000=m):val 10 (out++pad 9 m)+10 ^ (out++pad 9 m).length*(n / 1000000000)=z:=by
 have h1:val 10 (pad 9 m)=m:=Q3q (by rw[<-hr];exact Nat.mod_lt _ (by decide));rw[Y7,eC_,GE,h1,Nat.pow_add,Nat.mul_assoc,Nat.add_assoc, <-Nat.mul_add, <-h, <-hr];rw[Nat.mod_add_div]
def bytes (l:List Nat):List UInt8:=l.map fun d=> (48+d).toUInt8
theorem Q7F {z:Int} (hz:z≠0) (hd:Dig 10 out) (hv:val 10 out=z.natAbs):(bytes (trim out)++if z < 0 then [45] else []).reverse=text z:=by
 rw[Xh (by omega) hd,hv,text];have h1:dec z.natAbs=(bytes (digs 10 z.natAbs)).reverse:=by
  rw[dec,if_neg (by omega),bytes, <-List.map_reverse]
 by_cases h:z < 0
 ·rw[if_pos h,if_pos h,List.reverse_append, <-h1];rfl
 ·rw[if_neg h,if_neg h,List.append_nil, <-h1]
theorem Q1B (h:d < 10):((48+d).toUInt8).toNat=48+d:=by
 rw[Nat.toUInt8,UInt8.toNat_ofNat'];omega
theorem Q5d (h:d < 10):((48+d).toUInt8==48)=(d==0):=by
 by_cases hd:d=0
 ·subst hd;rfl
 ·rw[show (d==0)=false by simpa using hd];have:¬ (48+d).toUInt8=48:=fun e=> by
   have:=congrArg UInt8.toNat e;rw[Q1B h] at this;have h2:(48:UInt8).toNat=48:=rfl;omega
  simpa using this
def isDig (c:UInt8):Bool:=48<=c.toNat && c.toNat<=57
def num (l:List UInt8):Nat:=l.foldl (fun n c=> n*10+(c.toNat - 48)) 0
theorem Q5e (l:List UInt8):∀ (a:Nat),l.foldl (fun n c=> n*10+(c.toNat - 48)) a=a*10 ^ l.length+num l:=by
 induction l with
 | nil=> intro a;simp[num]
 | cons c r ih=>
  intro a;unfold num;rw[List.foldl_cons,List.foldl_cons,ih,ih];rw[eL_,Nat.pow_succ,Nat.add_mul,Nat.zero_mul,Nat.zero_add,Nat.mul_assoc,Nat.mul_comm 10,Nat.add_assoc]
theorem Zo (l r:List UInt8):num (l++r)=num l*10 ^ r.length+num r:=by
 unfold num;rw[List.foldl_append,Q5e];rfl
theorem Q8v (l:List UInt8) (h:∀ c∈l,isDig c=true):num l < 10 ^ l.length:=by
 induction l with
 | nil=> simp[num]
 | cons c r ih=>
  have h1:=ih fun x hx=> h x (eR_ _ hx);have h2:=h c eX_;unfold isDig at h2;simp at h2;rw[show c::r= [c]++r from rfl,Zo];have h3:num [c]=c.toNat - 48:=by simp[num]
  have h4:(num [c]+1)*10 ^ r.length<=10*10 ^ r.length:=Nat.mul_le_mul_right _ (by omega);rw[eC_,List.length_singleton,Nat.add_comm 1,Nat.pow_succ,Nat.mul_comm _ 10];rw[Nat.add_mul,Nat.one_mul] at h4;omega
def minusOf (l:List UInt8):Bool:=l.head? ==some 45
theorem Q3r {l:List UInt8} (h:minusOf l=true):l=45::l.tail:=by
 cases l with
 | nil=> cases h
 | cons c r=>
  have:c=45:=by simpa [minusOf] using h
  rw[this];rfl
def restOf (l:List UInt8):List UInt8:=if minusOf l then l.tail else l
def parse (l:List UInt8):Int × Int:=
 if 60 < (restOf l).length then (0,11)
 else if restOf l= []\/(restOf l).all isDig=false\/((restOf l).head? =some 48/\(1 < (restOf l).length\/minusOf l=true)) then (0,10)
 else (if minusOf l then -(num (restOf l):Int) else num (restOf l),0)
end Go.Proofs.YtiecccakcenobaaGreatDoor.Zp
namespace Go.Proofs.YtiecccakcenobaaGreatDoor
open Tryz
open Go.RowKit
variable {ops:Array Oper} {cs:Array Value} {Q:Exit->Act->World->Prop} {z:Int} {l ys:List Nat} {ts:List TypeId} {xs:List Value} {B X Y b c d g i j k m n x y:Nat} {o:Oper} {a:Option Addr} {v vx vy:Value} {w w' w1:World}
def Bk (T:TypeId) (w:World) (k:Nat):Prop:=∃ cs,w.heap[k]? =some (.cells cs T (0,0))
theorem Bk.lt {T:TypeId} (h:Bk T w k):k < w.heap.size:=Q4 h.choose_spec
def RdB (T:TypeId) (w:World) (size:Nat) (v:Value) (n:Nat) (xs:List Value):Prop:=RdS w (Bk T w) size v n xs
theorem RdB.keep {T:TypeId} {w w':World} {size:Nat} {v:Value} {n:Nat} {xs:List Value} (h:RdB T w size v n xs) (hk:Keeps (Bk T w) w w'):RdB T w' size v n xs:=
 (RdS.keep h hk).imp fun k hb=> by
  obtain ⟨cs,hc⟩:=hb;exact ⟨cs,(hk k ⟨cs,hc⟩).trans hc⟩
theorem RdB.below {T:TypeId} {size:Nat} (h:RdB T w size v n xs) (hb:Below w.heap.size w w'):RdB T w' size v n xs:=
 h.keep (Keeps.of hb fun _ hk=> hk.lt)
theorem RdB.frt {T:TypeId} {size:Nat} (h:RdB T w size v n xs) (hf:FrT ts w w') (hT:T∉ts):RdB T w' size v n xs:=
 h.keep fun k hk=> by
  obtain ⟨cs,hc⟩:=hk;rw[hc];exact hf.cells hc hT
theorem RdB.own {T:TypeId} {w:World} {base:Nat} {size:Nat} {v:Value} {n:Nat} {xs:List Value} (h:w.ownsRow base T size v n xs):RdB T w size v n xs:=
 (RdS.own h).imp fun k hk=> Qm h hk.1
theorem RdB.nil (T:TypeId) (w:World) (size:Nat):RdB T w size (.slice none 0 0) 0 []:=RdS.nil w _ size
theorem RdB.take {T:TypeId} {w:World} {v:Value} {n:Nat} {xs:List Value} (h:RdB T w 1 v n xs) {m:Nat} (hm:m<=n):∃ a c,v= .slice a n c/\RdB T w 1 (.slice a m c) m (xs.take m):=by
 obtain ⟨h1,a,c,rfl,hc,h2⟩:=h;refine ⟨a,c,rfl,by rw[eN_];omega,a,c,rfl,by omega,?_⟩;rcases h2 with ⟨rfl,h3⟩ | ⟨b,off,rfl,h3,h4⟩
 ·exact Or.inl ⟨rfl,by omega⟩
 ·refine Or.inr ⟨b,off,rfl,?_,fun j u hj=> h4 j u ?_⟩
  ·rcases h3 with h3 | h3
   ·exact Or.inl (by omega)
   ·exact Or.inr h3
  ·rw[List.getElem?_take] at hj;split at hj
   ·exact hj
   ·cases hj
abbrev B32:Nat:=4294967296
def u32Cells (l:List Nat):List Value:=l.map fun (d:Nat)=> Value.int .u32 (d:Int)
theorem Dd (h:i < l.length):(u32Cells l)[i]? =some (.int .u32 ((l[i]! :Nat):Int)):=by
 simp only[u32Cells,List.getElem?_map,eA_ h,Option.map_some];rw[getElem!_pos l i h]
theorem Q1C (l:List Nat) (k:Nat):(u32Cells l).take k=u32Cells (l.take k):=by simp[u32Cells,List.map_take]
def RdU (w:World) (v:Value) (l:List Nat):Prop:=RdB 174 w 1 v l.length (u32Cells l)
def wd (z:Int):List Nat:=Zp.digs B32 z.natAbs
def Num (w:World) (v:Value) (z:Int):Prop:=∃ s,v= .agg #[.bool (decide (z < 0)),s]/\RdU w s (wd z)
theorem RdU.below {w w':World} {v:Value} {l:List Nat} (h:RdU w v l) (hb:Below w.heap.size w w'):RdU w' v l:=RdB.below h hb
theorem Num.below {w w':World} {v:Value} {z:Int} (h:Num w v z) (hb:Below w.heap.size w w'):Num w' v z:=by
 obtain ⟨s,h1,h2⟩:=h;exact ⟨s,h1,h2.below hb⟩
theorem Num.frt {ts:List TypeId} {w w':World} {v:Value} {z:Int} (h:Num w v z) (hf:FrT ts w w') (hT:174∉ts):Num w' v z:=by
 obtain ⟨s,h1,h2⟩:=h;exact ⟨s,h1,RdB.frt h2 hf hT⟩
def Bd (k:Nat) (z:Int):Prop:=z.natAbs < 10 ^ k
theorem Bd.mono {k m:Nat} {z:Int} (h:Bd k z) (hm:k<=m):Bd m z:=eI_ h (Nat.pow_le_pow_right (by decide) hm)
theorem Bd.add {x y:Int} (h:Bd k x) (h2:Bd k y) (hm:k+1<=m):Bd m (x+y):=by
 refine Bd.mono ?_ hm;unfold Bd at*;have:=Nat.pow_succ 10 k;omega
theorem Bd.mul {x y:Int} (h:Bd k x) (h2:Bd m y) (hn:k+m<=n):Bd n (x*y):=by
 refine Bd.mono ?_ hn;unfold Bd at*;rw[Int.natAbs_mul,Nat.pow_add];exact Nat.mul_lt_mul'' h h2
theorem Bd.len (h:Bd k z):(wd z).length<=k:=
 Zp.QR (by decide) k _ (eI_ h (Nat.pow_le_pow_left (by decide) k))
theorem Bd.len10 (h:Bd k z):(Zp.digs 10 z.natAbs).length<=k:=Zp.QR (by decide) k _ h
theorem Xp (z:Int):Zp.Dig B32 (wd z):=Zp.Qo (by decide) _
theorem ZP (z:Int):Zp.val B32 (wd z)=z.natAbs:=Zp.Qi (by decide) _
structure One (t T:TypeId) (z:Value) (bytes:Nat):Prop where
 u:prog.underlying t=some (.slice T)
 i:(prog.info? T).map (fun i=> (i.zero,i.size,i.bytes))=some (some z,1,bytes)
 z:z.cells= #[z]
 b:bytes<=4096
theorem app1 {rest:List Oper} {a:Act} (hgd:o.guard=none) (s x:Operand) {t T:TypeId} {z:Value} {bytes:Nat} (hT:One t T z bytes)
  (ho:o.op= .call {callee:= .builtin .append,args:= #[s,x],argTypes:= #[t,t]})
  {B base n:Nat} {w0:World} {v:Value} {xs:List Value} (hs:a.eval s=v) (hown:w1.ownsRow base T 1 v n xs) (hB:B<=base) (hbase:base<=w1.heap.size) (hb:Below B w0 w1)
  {r c:Nat} (d:Value) (hx:a.eval x= .slice (some ⟨r,0,none⟩) 1 c) (hr:r=w1.heap.size) (hd:d.oneCell'=true) (hn:n<=1073741824)
  (h:∀ a2 c2 w',w'.ownsRow base T 1 (.slice a2 (n+1) c2) (n+1) (xs++ [d])->Below B w0 w'->(w1.alloc (.cells #[d] T)).grownBy w' v.ownBlock->wpList prog ops Q rest (a.put o.dst (.slice a2 (n+1) c2)) w'):
  wpList prog ops Q (o::rest) a (w1.alloc (.cells #[d] T)):=by
 obtain ⟨i,hi,hz0,hz1,hz2⟩:=Qw hT.i;refine Yz hgd s x t ho base T T i z 1 bytes hT.u hi hz0 hz1 hz2 (by rw[hT.z];rfl) (by decide) v n xs hs hown r c [d] hx hr rfl (by simpa using hd) hn hT.b hbase fun v' w' h1 h2=> ?_;obtain ⟨a3,c3,rfl⟩:=Qj h1;exact h a3 c3 w' h1 ((hb.alloc (eE_ hB hbase) _).grown h2 (by rw[<-Q5];have:=hb.size;omega) fun k hk=> eE_ hB (hown.lt k hk).1) h2
theorem Q5f {z:Value} (hz:z.cells= #[z]) (n:Nat):madeCells z.cells (n*1)=(List.replicate n z).toArray:=by
 rw[hz];apply Array.ext
 ·simp[madeCells]
 ·intro j h1 h2;simp[madeCells,Nat.mod_one]
theorem make1 {t T:TypeId} {z:Value} {bytes:Nat} (hT:One t T z bytes) {n c:Nat} (hn:n<=c) (hc:c<=1073741824) (w:World):
  (Instr.makeSlice t (.int .i64 (n:Int)) (.int .i64 (c:Int))).run prog w= .ok (.slice (some ⟨w.heap.size,0,none⟩) n c) (w.alloc (.cells (List.replicate c z).toArray T)):=by
 obtain ⟨i0,hi,hz0,hz1,hz2⟩:=Qw hT.i;have h:=Ju (P:=prog) t T i0 z hT.u hi hz0 .i64 .i64 n c hn (by rw[hz2];have:=Nat.mul_le_mul hT.b hc;omega) (by omega) w;rw[hz1,Q5f hT.z] at h;exact h
theorem own1 {T:TypeId} {base:Nat} {cs:List Value} (h:w.heap[g]? =some (.cells cs.toArray T (0,0))) (hb:base<=g) (hn:n<=cs.length) (hc:cs.length<=1073741824):
  w.ownsRow base T 1 (.slice (some ⟨g,0,none⟩) n cs.length) n (cs.take n):=
 ⟨by rw[eN_,Nat.min_eq_left hn,Nat.mul_one],Or.inr ⟨g,cs.length,cs.toArray,rfl,hb,h,hn,by unfold maxLen;omega,by simp,by simp⟩⟩
theorem rdb1 {T:TypeId} {cs:List Value} (h:w.heap[g]? =some (.cells cs.toArray T (0,0))) {c:Nat} (hn:n<=cs.length) (hc:n<=c):
  RdB T w 1 (.slice (some ⟨g,0,none⟩) n c) n (cs.take n):=by
 refine ⟨by rw[eN_,Nat.min_eq_left hn,Nat.mul_one],_,c,rfl,hc,Or.inr ⟨g,0,rfl,Or.inr ⟨_,h⟩,fun j u hj=> ?_⟩⟩;rw[Nat.zero_add];refine Q3 h j ?_;rw[List.getElem?_take] at hj;split at hj
 ·simpa using hj
 ·cases hj
theorem Zq:One 25 174 (.int .u32 0) 4:=⟨underlying25,by kernel_rfl,rfl,by decide⟩
theorem Q7G (n:Nat):List.replicate n (Value.int .u32 0)=u32Cells (List.replicate n 0):=by simp[u32Cells]
theorem De (hn:n<=c) (hc:c<=1073741824) (w:World):(Instr.makeSlice 25 (.int .i64 (n:Int)) (.int .i64 (c:Int))).run prog w= .ok (.slice (some ⟨w.heap.size,0,none⟩) n c) (w.alloc (.cells (u32Cells (List.replicate c 0)).toArray 174)):=by
 have h:=make1 Zq hn hc w;rw[Q7G] at h;exact h
theorem Q7H (l:List Nat) (y:Nat) (v:Nat):(u32Cells (l.set y v)).toArray=(u32Cells l).toArray.setIfInBounds y (.int .u32 (v:Int)):=by
 simp[u32Cells,List.map_set]
theorem Za (l:List Nat) (v:Nat):u32Cells (l++ [v])=u32Cells l++ [.int .u32 (v:Int)]:=by simp[u32Cells]
theorem Y0 (l:List Nat):(u32Cells l).length=l.length:=by simp[u32Cells]
theorem GF {base:Nat} (h:w.heap[g]? =some (.cells (u32Cells l).toArray 174 (0,0))) (hb:base<=g) (hn:n<=l.length) (hc:l.length<=1073741824):
  w.ownsRow base 174 1 (.slice (some ⟨g,0,none⟩) n l.length) n (u32Cells (l.take n)):=by
 have h2:=own1 (n:=n) h hb (by rw[Y0];exact hn) (by rw[Y0];exact hc);rw[Y0,Q1C] at h2;exact h2
theorem Zb (h:w.heap[g]? =some (.cells (u32Cells l).toArray 174 (0,0))) {c:Nat} (hc:l.length<=c):RdU w (.slice (some ⟨g,0,none⟩) l.length c) l:=by
 have h2:=rdb1 (n:=l.length) h (by rw[Y0];exact rl_ _) hc;rw[List.take_of_length_le (by rw[Y0];exact rl_ _)] at h2;exact h2
theorem GG {base:Nat} (h:w.ownsRow base 174 1 v n (u32Cells l)):RdU w v l:=by
 have h2:=h.1;rw[Y0,Nat.mul_one] at h2;subst h2;exact RdB.own h
theorem RdU.cell {w:World} {a:Option Addr} {n c:Nat} {l:List Nat} (h:RdU w (.slice a n c) l) {i:Nat} (hi:i < l.length):
  ∃ b off,a=some ⟨b,off,none⟩/\w.cell? ⟨b,off+i,none⟩=some (.int .u32 ((l[i]! :Nat):Int)):=by
 obtain ⟨_,a2,c2,e,hc,h2⟩:=h;injection e with e1 e2 e3;subst e1 e2 e3;rcases h2 with ⟨_,h2⟩ | ⟨b,off,rfl,_,h2⟩
 ·omega
 ·exact ⟨b,off,rfl,h2 i _ (Dd hi)⟩
theorem RdU.cut (h:RdU w (.slice a n c) l) {m:Nat} (hm:m<=l.length):RdU w (.slice a m c) (l.take m):=by
 have h2:=h;obtain ⟨a2,c2,e,h3⟩:=RdB.take (m:=m) h hm;injection e with e1 e2 e3;subst e1 e3;unfold RdU;rw[Q1C] at h3;rw[eN_,Nat.min_eq_left hm];exact h3
theorem RdU.form (h:RdU w v l):∃ a c,v= .slice a l.length c/\l.length<=c:=by
 obtain ⟨_,a,c,e,hc,_⟩:=h;exact ⟨a,c,e,hc⟩
theorem ZQ:∀ (l:List Nat),(Zp.trim l).length<=l.length
 | []=> rl_ _
 | d::r=> by
  have:=ZQ r;unfold Zp.trim;split <;> simp only[eL_,eU_] <;> omega
theorem Df:∀ (l:List Nat),Zp.trim l=l.take (Zp.trim l).length
 | []=> rfl
 | d::r=> by
  have:=Df r;unfold Zp.trim;split
  ·simp
  ·simp only[eL_,List.take_succ_cons];rw[<-this]
theorem RdU.trim {w:World} {a:Option Addr} {n c:Nat} {l:List Nat} (h:RdU w (.slice a n c) l):RdU w (.slice a (Zp.trim l).length c) (Zp.trim l):=by
 have h2:=h.cut (ZQ l);rw[<-Df] at h2;exact h2
theorem Q6y (hd:Zp.Dig B32 l):(Zp.trim l).length=0↔Zp.val B32 l=0:=by
 rw[Zp.Xh (by decide) hd,List.length_eq_zero_iff,Zp.Xy (by decide)]
theorem Xj (h:RdU w (.slice a l.length c) l) (hl:l.length<=1073741824):
  Calls prog 84 #[.slice a l.length c] w fun e w'=> e= .returned (.slice a (Zp.trim l).length c)/\w=w':=by
 have hl':(l.length:Int)<=1073741824:=by omega
 have HR:=hd_ h;have hc:l.length<=c:=by obtain ⟨_,a2,c2,e,hc,_⟩:=h;injection e with e1 e2 e3;omega
 have hlen:∀ n,n<=l.length->Zp.trim l=l.take n->(Zp.trim l).length=n:=fun n hn e=> by rw[e,eN_,Nat.min_eq_left hn]
 have HL:=hd_ hlen;clear h hlen;go_in;go_wp2;go_loopg [3] l.length (fun k v wr=> ∃ j:Nat,v= .int .i64 j/\k=j/\j<=l.length/\wr=w/\∀ i,j<=i->i < l.length->l[i]! =0)
 case atStart=> exact ⟨l.length,rfl,rfl,rl_ _,rfl,fun i h1 h2=> absurd h2 (by omega)⟩
 case round=>
  obtain ⟨j,rfl,hk,hj,rfl,hall⟩:=hrel;have HK:=hd_ hk;have HA:=hd_ hall;clear hk hall;rcases Nat.eq_zero_or_pos j with rfl | h0
  ·go_wp2;go_ret;refine ⟨?_,rfl⟩;rw[HL.o 0 (eV_ _) (Zp.Z5 l 0 (eV_ _) HA.o (Or.inl rfl))];rfl
  ·obtain ⟨m,rfl⟩:∃ m,j=m+1:=⟨j - 1,by omega⟩
   obtain ⟨b,off,rfl,hcell⟩:=HR.o.cell (i:=m) (by omega);have hm:(m:Int) < (l.length:Int):=(by omega);obtain ⟨d,hd⟩:∃ d,l[m]! =d:=⟨_,rfl⟩
   rw[hd] at hcell;have HZ:=hd_ hd;clear hd;by_cases hz:d=0
   ·subst hz;go_wp2;go_roundg m
    case measure=> have:=HK.o;omega
    case rel=>
     refine ⟨m,by go_num,rfl,by omega,rfl,fun i h1 h2=> ?_⟩;by_cases e:i=m
     ·rw[e];exact HZ.o
     ·exact HA.o i (by omega) h2
   ·have hz':((d:Int)==0)=false:=(by simp;omega);go_wp2;go_ret;refine ⟨?_,rfl⟩;rw[HL.o (m+1) hj (Zp.Z5 l (m+1) hj HA.o (Or.inr (by show l[m]! ≠0;rw[HZ.o];exact hz)))];rfl
theorem Q6z {s:Value} (hd:Zp.Dig B32 l) (neg:Bool) (z:Int) (hz:z=if neg then -((Zp.val B32 l:Nat):Int) else ((Zp.val B32 l:Nat):Int)) (h:RdU w s (Zp.trim l)):
  Num w (.agg #[.bool (neg && decide ((0:Int) < (Zp.trim l).length)),s]) z:=by
 have hw:wd z=Zp.trim l:=by
  rw[Zp.Xh (by decide) hd,wd,hz];cases neg <;> simp
 refine ⟨s,?_,by rw[hw];exact h⟩;have h0:=Q6y hd;have:(neg && decide ((0:Int) < (Zp.trim l).length))=decide (z < 0):=by
  rw[hz];cases neg
  ·simp
  ·simp only[Bool.true_and,if_true];by_cases e:Zp.val B32 l=0
   ·rw[h0.2 e,e];simp
   ·have:(Zp.trim l).length≠0:=fun e2=> e (h0.1 e2);simp;omega
 rw[this]
theorem QZ (h:RdU w v l) (hl:l.length<=1073741824) (hd:Zp.Dig B32 l) (neg:Bool) (z:Int) (hz:z=if neg then -((Zp.val B32 l:Nat):Int) else ((Zp.val B32 l:Nat):Int)):
  Calls prog 61 #[.bool neg,v] w fun e w'=> ∃ v',e= .returned v'/\Num w' v' z/\Below w.heap.size w w':=by
 obtain ⟨a,c,rfl,hc⟩:=h.form;have HT:=hd_ (fun W (hb:Below w.heap.size w W)=> Xj (h.below hb) hl);have HN:=hd_ (fun W (hb:Below w.heap.size w W) (b:Bool) (e:b=(neg && decide ((0:Int) < (Zp.trim l).length)))=> e ▸ Q6z hd neg z hz (h.below hb).trim);have hl2:((Zp.trim l).length:Int)<=1073741824:=by have:=ZQ l;omega
 clear h hz;go_in;go_wp2_with fail;refine (HT.o _ ((eB_ _ _).alloc (rl_ _) _)).mono ?_;rintro e w1 ⟨rfl,rfl⟩;dsimp only;cases neg
 ·go_wp2_with fail;refine eG_ (v:=_) (eY_ rfl _ _ w.heap.size _ _ _ _ rfl (eD_ _ _) underlying27 rfl rfl) rfl ⟨_,rfl,?_,(eB_ _ _).alloc (rl_ _) _⟩;exact HN.o _ ((eB_ _ _).alloc (rl_ _) _) _ (by simp)
 ·go_wp2_with fail;refine eG_ (v:=_) (eY_ rfl _ _ w.heap.size _ _ _ _ rfl (eD_ _ _) underlying27 rfl rfl) rfl ⟨_,rfl,?_,(eB_ _ _).alloc (rl_ _) _⟩;exact HN.o _ ((eB_ _ _).alloc (rl_ _) _) _ (by simp)
theorem Qe {vs:Array Value} {T:TypeId} {fr:Nat × Nat} (h:w.heap[g]? =some (.cells cs T fr)):FrT [T] w (w.setRow g vs):=by
 refine ⟨rfl,rfl,rfl,by simp[World.setRow],fun k o hk hn=> ?_⟩;by_cases e:k=g
 ·subst e;rw[h] at hk;cases hk;exact absurd (List.mem_singleton_self _) (hn _ _ _ rfl)
 ·rw[Q8 e];exact hk
theorem Num.form {w:World} {v:Value} {z:Int} (h:Num w v z):∃ a c,v= .agg #[.bool (decide (z < 0)),.slice a (wd z).length c]/\RdU w (.slice a (wd z).length c) (wd z):=by
 obtain ⟨s,rfl,h2⟩:=h;obtain ⟨a,c,rfl,_⟩:=h2.form;exact ⟨a,c,rfl,h2⟩
theorem Num.cells (h:Num w v z):∃ cs,v= .agg cs/\cs.size=2/\∀ u∈cs.toList,u.oneCell'=true:=by
 obtain ⟨a,c,rfl,_⟩:=h.form;exact ⟨_,rfl,rfl,by simp[Value.oneCell']⟩
theorem Qq:(prog.info? 27).map (·.size)=some 2:=by kernel_rfl
theorem QB {rest:List Oper} {a:Act} (hgd:o.guard=none) (x v:Operand) (ho:o.op= .store 27 x v)
  {g:Nat} {zs:Array Value} (hx:a.eval x= .pointer (some ⟨g,0,none⟩)) (hg:w1.heap[g]? =some (.cells zs 27 (0,0))) (hz:zs.size=2) {val:Value} {z:Int} (hv:a.eval v=val) (hn:Num w1 val z)
  {B:Nat} {w0:World} (hB:B<=g) (hb:Below B w0 w1)
  (h:∀ W cs,W=w1.setRow g cs->val= .agg cs->W.heap[g]? =some (.cells cs 27 (0,0))->cs.size=2->Num W val z->Below B w0 W->FrT [27] w1 W->wpList prog ops Q rest (a.put o.dst undef) W):
  wpList prog ops Q (o::rest) a w1:=by
 obtain ⟨cs,rfl,hs,h1⟩:=hn.cells;refine Qc hgd _ x v ho _ g zs cs hx hg hv (by rw[hz,hs]) (by rw[hs];exact Qq) h1 ?_;exact h _ cs rfl rfl (Qb hg) hs (hn.frt (Qe hg) (by decide)) (Q9 hb hB cs) (Qe hg)
theorem Y2 {fn:Func} {tmps:Array Value} {p:Tmp} (h:fn.results= #[.cell p 27]) (hp:tmps.getD p undef= .pointer (some ⟨g,0,none⟩)) (hg:w.heap[g]? =some (.cells cs 27 (0,0))) (hs:cs.size=2):
  (results fn tmps).run prog w= .ok (.agg cs) w:=
 eY_ h _ _ g _ _ _ _ hp hg underlying27 rfl (by rw[hs];exact Qq)
theorem XN:One 46 3 (.int .i64 0) 8:=⟨underlying46,by kernel_rfl,rfl,by decide⟩
def natCells (l:List Nat):List Value:=l.map fun (d:Nat)=> Value.int .i64 (d:Int)
theorem Q6A (h:i < l.length):(natCells l)[i]? =some (.int .i64 ((l[i]! :Nat):Int)):=by
 simp only[natCells,List.getElem?_map,eA_ h,Option.map_some];rw[getElem!_pos l i h]
theorem Q6B (l:List Nat) (k:Nat):(natCells l).take k=natCells (l.take k):=by simp[natCells,List.map_take]
theorem Q7I (n:Nat):List.replicate n (Value.int .i64 0)=natCells (List.replicate n 0):=by simp[natCells]
theorem Q0E (l:List Nat):(natCells l).length=l.length:=by simp[natCells]
theorem Q7J (l:List Nat) (y:Nat) (v:Nat):(natCells (l.set y v)).toArray=(natCells l).toArray.setIfInBounds y (.int .i64 (v:Int)):=by
 simp[natCells,List.map_set]
theorem Q6C (l:List Nat) (v:Nat):natCells (l++ [v])=natCells l++ [.int .i64 (v:Int)]:=by simp[natCells]
def RdD (w:World) (v:Value) (l:List Nat):Prop:=RdB 3 w 1 v l.length (natCells l)
theorem RdD.below {w w':World} {v:Value} {l:List Nat} (h:RdD w v l) (hb:Below w.heap.size w w'):RdD w' v l:=RdB.below h hb
theorem RdD.frt {ts:List TypeId} {w w':World} {v:Value} {l:List Nat} (h:RdD w v l) (hf:FrT ts w w') (hT:3∉ts):RdD w' v l:=RdB.frt h hf hT
theorem RdD.nil (w:World):RdD w (.slice none 0 0) []:=RdB.nil _ w 1
theorem RdD.cell {w:World} {a:Option Addr} {n c:Nat} {l:List Nat} (h:RdD w (.slice a n c) l) {i:Nat} (hi:i < l.length):
  ∃ b off,a=some ⟨b,off,none⟩/\w.cell? ⟨b,off+i,none⟩=some (.int .i64 ((l[i]! :Nat):Int)):=by
 obtain ⟨_,a2,c2,e,hc,h2⟩:=h;injection e with e1 e2 e3;subst e1 e2 e3;rcases h2 with ⟨_,h2⟩ | ⟨b,off,rfl,_,h2⟩
 ·omega
 ·exact ⟨b,off,rfl,h2 i _ (Q6A hi)⟩
theorem RdD.cut (h:RdD w (.slice a n c) l) {m:Nat} (hm:m<=l.length):RdD w (.slice a m c) (l.take m):=by
 have h2:=h;obtain ⟨a2,c2,e,h3⟩:=RdB.take (m:=m) h hm;injection e with e1 e2 e3;subst e1 e3;unfold RdD;rw[Q6B] at h3;rw[eN_,Nat.min_eq_left hm];exact h3
theorem RdD.form (h:RdD w v l):∃ a c,v= .slice a l.length c/\l.length<=c:=by
 obtain ⟨_,a,c,e,hc,_⟩:=h;exact ⟨a,c,e,hc⟩
theorem Q1D (hn:n<=c) (hc:c<=1073741824) (w:World):(Instr.makeSlice 46 (.int .i64 (n:Int)) (.int .i64 (c:Int))).run prog w= .ok (.slice (some ⟨w.heap.size,0,none⟩) n c) (w.alloc (.cells (natCells (List.replicate c 0)).toArray 3)):=by
 have h:=make1 XN hn hc w;rw[Q7I] at h;exact h
theorem LL (h:w.heap[g]? =some (.cells (natCells l).toArray 3 (0,0))) {c:Nat} (hc:l.length<=c):RdD w (.slice (some ⟨g,0,none⟩) l.length c) l:=by
 have h2:=rdb1 (n:=l.length) h (by rw[Q0E];exact rl_ _) hc;rw[List.take_of_length_le (by rw[Q0E];exact rl_ _)] at h2;exact h2
theorem U5 {base:Nat} (h:w.ownsRow base 3 1 v n (natCells l)):RdD w v l:=by
 have h2:=h.1;rw[Q0E,Nat.mul_one] at h2;subst h2;exact RdB.own h
def sgn (z:Int):Int:=if z < 0 then -1 else if z=0 then 0 else 1
def dg (z:Int):List Nat:=Zp.digs 10 z.natAbs
def Zn (w:World) (v:Value) (z:Int):Prop:=∃ s,v= .agg #[.int .i64 (sgn z),s]/\RdD w s (dg z)
theorem Zn.below {w w':World} {v:Value} {z:Int} (h:Zn w v z) (hb:Below w.heap.size w w'):Zn w' v z:=by
 obtain ⟨s,h1,h2⟩:=h;exact ⟨s,h1,h2.below hb⟩
theorem Zn.frt {ts:List TypeId} {w w':World} {v:Value} {z:Int} (h:Zn w v z) (hf:FrT ts w w') (hT:3∉ts):Zn w' v z:=by
 obtain ⟨s,h1,h2⟩:=h;exact ⟨s,h1,h2.frt hf hT⟩
theorem Yo (z:Int):Zp.Dig 10 (dg z):=Zp.Qo (by decide) _
theorem XR (z:Int):Zp.val 10 (dg z)=z.natAbs:=Zp.Qi (by decide) _
theorem YC:sgn z=0↔z=0:=by
 by_cases h1:z < 0
 ·rw[sgn,if_pos h1];omega
 ·by_cases h2:z=0
  ·rw[sgn,if_neg h1,if_pos h2];omega
  ·rw[sgn,if_neg h1,if_neg h2];omega
theorem Zn.zero (w:World):Zn w (.agg #[.int .i64 0,.slice none 0 0]) 0:=⟨_,rfl,by
 have:dg 0= []:=Zp.QG 10;rw[this];exact RdD.nil w⟩
theorem Num.zero (w:World):Num w (.agg #[.bool false,.slice none 0 0]) 0:=⟨_,rfl,by
 have:wd 0= []:=Zp.QG B32;rw[this];exact RdB.nil _ w 1⟩
theorem Q3s (hn:n < B32*B32):Zp.trim [n % B32,n / B32]=Zp.digs B32 n:=by
 have hd:Zp.Dig B32 [n % B32,n / B32]:=Zp.Dig.cons (Nat.mod_lt _ (by decide)) (Zp.Dig.cons ((Nat.div_lt_iff_lt_mul (by decide)).2 hn) Zp.Dig.nil);rw[Zp.Xh (by decide) hd];congr 1;simp only[Zp.val,Nat.mul_zero,Nat.add_zero];exact Nat.mod_add_div _ _
theorem Q1E (hn:n < B32*B32): #[Value.int .u32 ((n:Int) % 4294967296),Value.int .u32 ((n:Int) / 4294967296 % 4294967296)]=(u32Cells [n % B32,n / B32]).toArray:=by
 have h1:n / B32 < B32:=(Nat.div_lt_iff_lt_mul (by decide)).2 hn;have e1:((n / B32:Nat):Int)=(n:Int) / 4294967296 % 4294967296:=by
  have h2:n / 4294967296 < 4294967296:=h1;show ((n / 4294967296:Nat):Int)=_;omega
 show _= #[Value.int .u32 ((n % 4294967296:Nat):Int),Value.int .u32 ((n / B32:Nat):Int)];rw[e1];rfl
theorem Zr (n:Nat) (hn:n < B32*B32) (w:World):
  Calls prog 62 #[.int .u64 (n:Int)] w fun e w'=> ∃ v',e= .returned v'/\RdU w' v' (Zp.digs B32 n)/\Below w.heap.size w w':=by
 have HW:=hd_ (Q3s hn);have HC:=hd_ (Q1E hn);clear hn;go_in;go_wp2_with fail;rw[HC.o];have hr:=Zb (w:=w.alloc (.cells (u32Cells [n % B32,n / B32]).toArray 174)) (l:= [n % B32,n / B32]) (c:=2) (eD_ _ _) (rl_ _);have HR:=hd_ hr;refine (Xj (l:= [n % B32,n / B32]) hr (by simp)).mono ?_;clear hr;rintro e w1 ⟨rfl,rfl⟩;dsimp only;go_wp2_with fail;go_ret;refine ⟨_,rfl,?_,(eB_ _ _).alloc (rl_ _) _⟩;rw[<-HW.o];exact HR.o.trim
theorem Gi (b:Bool) (w:World):Calls prog 72 #[.bool b] w fun e w'=> e= .returned (.int .i64 (if b then -1 else 1))/\w=w':=by
 cases b
 all_goals
  go_in;go_wp2;go_ret;exact ⟨rfl,rfl⟩
theorem Xb (h:Num w v z):Calls prog 29 #[v] w fun e w'=> e= .returned (.int .i64 (sgn z))/\Below w.heap.size w w':=by
 obtain ⟨s,rfl,h2⟩:=h;obtain ⟨a,c,rfl,hc⟩:=h2.form;have h0:(wd z).length=0↔z=0:=by rw[List.length_eq_zero_iff,wd,Zp.Xy (by decide),Int.natAbs_eq_zero]
 by_cases hz:z=0
 ·subst hz;have hl:(wd 0).length=0:=h0.2 rfl;go_in;go_wp2;go_ret;exact ⟨rfl,(eB_ _ _).alloc (rl_ _) _⟩
 ·have hl:(wd z).length≠0:=fun e=> hz (h0.1 e);have hl2:(((wd z).length:Int)==0)=false:=by rw[beq_eq_false_iff_ne];omega
  by_cases hn:z < 0
  ·have e:sgn z=-1:=(by unfold sgn;rw[if_pos hn]);rw[e];have hd:decide (z < 0)=true:=(by simpa using hn);rw[hd];clear h0 hl hz;go_in;go_wp2;go_ret;exact ⟨rfl,(eB_ _ _).alloc (rl_ _) _⟩
  ·have e:sgn z=1:=(by unfold sgn;rw[if_neg hn,if_neg hz]);rw[e];have hd:decide (z < 0)=false:=(by simpa using hn);rw[hd];clear h0 hl hz;go_in;go_wp2;go_ret;exact ⟨rfl,(eB_ _ _).alloc (rl_ _) _⟩
theorem Q6D {n:Int} (h:n < 0) (h2: -9223372036854775808<=n):IntKind.u64.wrap (-(IntKind.u64.wrap n))=((n.natAbs:Nat):Int):=by
 rw[IntKind.wrap_u64,IntKind.wrap_u64];omega
theorem Q6E {n:Int} (h:¬ n < 0) (h2:n<=9223372036854775807):IntKind.u64.wrap n=((n.natAbs:Nat):Int):=by
 rw[IntKind.wrap_u64];omega
theorem QM (n:Int) (h1: -9223372036854775808<=n) (h2:n<=9223372036854775807) (w:World):
  Calls prog 22 #[.int .i64 n] w fun e w'=> ∃ v',e= .returned v'/\Num w' v' n/\Below w.heap.size w w':=by
 have hb:n.natAbs < B32*B32:=by show _ < 18446744073709551616;omega
 have HB:=hd_ hb;have hlen:(Zp.digs B32 n.natAbs).length<=1073741824:=by
  have:=Zp.QR (B:=B32) (by decide) 2 n.natAbs (by simpa [Nat.pow_succ] using hb);omega
 clear hb;by_cases hn:n < 0
 ·have e1:=Q6D hn h1;have HE:=hd_ e1;have hd:decide (n < 0)=true:=eM_ hn;have HN:=h2_ hn hlen;clear e1 h1 h2 hlen hn;go_in;go_wp2_with fail;rw[HE.o];refine (Zr _ HB.o _).mono ?_;rintro e w1 ⟨v1,rfl,hr,hb⟩;have HR:=h2_ hr hb;have h0:=hb.block w.heap.size (Q4 (eD_ _ _));clear hr hb;dsimp only;go_wp2_with fail;refine (QZ HR.a HN.B (Zp.Qo (by decide) _) true n (by rw[Zp.Qi (by decide)];have:=HN.a;simp;omega)).mono ?_;rintro e w2 ⟨v2,rfl,hr,hb⟩;have hg:=(hb.block w.heap.size (Q4 (h0.trans (eD_ _ _)))).trans (h0.trans (eD_ _ _));have hbb:=((((eB_ w.heap.size w).alloc (rl_ _) (.cells #[.bool false,.slice none 0 0] 27)).trans (HR.B.mono (by rw[<-Q5];omega))).trans (hb.mono (Nat.le_of_lt (Q4 (h0.trans (eD_ _ _))))))
  have HS:=h3_ hg hr hbb;clear hr hb h0 hg hbb;dsimp only;go_wp2_with (refine QB rfl _ _ rfl rfl HS.a rfl rfl HS.b (rl_ _) HS.C ?_;rintro W cs - rfl hg hs hn hb -;have HT:=h4_ hg hs hn hb;clear hg hs hn hb);exact eG_ (Y2 rfl rfl HT.a HT.b) rfl ⟨_,rfl,HT.c,HT.D⟩
 ·have e1:=Q6E hn h2;have HE:=hd_ e1;have hd:decide (n < 0)=false:=eK_ hn;have HN:=h2_ hn hlen;clear e1 h1 h2 hlen hn;go_in;go_wp2_with fail;rw[HE.o];refine (Zr _ HB.o _).mono ?_;rintro e w1 ⟨v1,rfl,hr,hb⟩;have HR:=h2_ hr hb;have h0:=hb.block w.heap.size (Q4 (eD_ _ _));clear hr hb;dsimp only;go_wp2_with fail;refine (QZ HR.a HN.B (Zp.Qo (by decide) _) false n (by rw[Zp.Qi (by decide)];have:=HN.a;simp;omega)).mono ?_;rintro e w2 ⟨v2,rfl,hr,hb⟩;have hg:=(hb.block w.heap.size (Q4 (h0.trans (eD_ _ _)))).trans (h0.trans (eD_ _ _));have hbb:=((((eB_ w.heap.size w).alloc (rl_ _) (.cells #[.bool false,.slice none 0 0] 27)).trans (HR.B.mono (by rw[<-Q5];omega))).trans (hb.mono (Nat.le_of_lt (Q4 (h0.trans (eD_ _ _))))))
  have HS:=h3_ hg hr hbb;clear hr hb h0 hg hbb;dsimp only;go_wp2_with (refine QB rfl _ _ rfl rfl HS.a rfl rfl HS.b (rl_ _) HS.C ?_;rintro W cs - rfl hg hs hn hb -;have HT:=h4_ hg hs hn hb;clear hg hs hn hb);exact eG_ (Y2 rfl rfl HT.a HT.b) rfl ⟨_,rfl,HT.c,HT.D⟩
theorem QI (h:Zp.Dig B l) (j:Nat) (hj:j < l.length):∃ d,l[j]! =d/\l[j]? =some d/\d < B:=
 ⟨l[j]!,rfl,by rw[getElem!_pos l j hj];exact eA_ hj,h.get j hj⟩
theorem X7 (h:l[j]? =some d):l.drop j=d::l.drop (j+1):=by
 obtain ⟨hj,rfl⟩:=List.getElem?_eq_some_iff.1 h;exact List.drop_eq_getElem_cons hj
theorem LM (hb:b<=B32) (hd:d < B32) (hm:m < b):m+d*b < B32*B32:=by
 have h1:=Zp.YK (B:=B32) hm hd;rw[Nat.div_lt_iff_lt_mul (by decide)] at h1;exact eI_ h1 (Nat.mul_le_mul_right _ hb)
theorem QA (h:n < B32*B32):IntKind.u64.wrap (n:Int)=(n:Int):=by
 rw[IntKind.wrap_u64];have:n < 18446744073709551616:=h;omega
def ScRel (w:World) (b m0:Nat) (l:List Nat) (k:Nat) (v7 v2 v16:Value) (wr:World):Prop:=
 ∃ (a:Option Addr) (c i m:Nat) (done:List Nat),v7= .slice a i c/\v2= .int .u64 m/\v16= .int .i64 i/\k=l.length - i/\i<=l.length/\m < b/\done.length=i/\
  wr.ownsRow w.heap.size 174 1 (.slice a i c) i (u32Cells done)/\done++Zp.scale B32 b (l.drop i) m=Zp.scale B32 b l m0/\Below w.heap.size w wr
theorem U6 (h:RdU w v l) (hl:l.length<=1073741823) (hd:Zp.Dig B32 l) (b m0:Nat) (hb:b<=B32) (hm:m0 < b):
  Calls prog 85 #[v,.int .u64 (b:Int),.int .u64 (m0:Int)] w fun e w'=> ∃ v',e= .returned v'/\RdU w' v' (Zp.scale B32 b l m0)/\Below w.heap.size w w':=by
 obtain ⟨a0,c0,rfl,hc⟩:=h.form;have HH:=h4_ h hd hb hm;have hl':(l.length:Int)<=1073741823:=by omega
 have hmk:∀ W:World,(Instr.makeSlice 25 (.int .i64 0) (.int .i64 ((l.length:Int)+1))).run prog W= .ok (.slice (some ⟨W.heap.size,0,none⟩) 0 (l.length+1)) (W.alloc (.cells (u32Cells (List.replicate (l.length+1) 0)).toArray 174)):=fun W=> De (n:=0) (c:=l.length+1) (eV_ _) (by omega) W;clear h hd hm;go_in;go_wp2_with fail;go_loopg [7,2,16] l.length (fun k v7 v2 v16 wr=> ScRel w b m0 l k v7 v2 v16 wr)
 case atStart=>
  refine ⟨_,_,0,m0, [],rfl,rfl,rfl,rfl,eV_ _,HH.D,rfl,?_,rfl,(eB_ _ _).alloc (rl_ _) _⟩;have h2:=GF (n:=0) (base:=w.heap.size) (l:=List.replicate (l.length+1) 0) (eD_ w _) (rl_ _) (eV_ _) (by simp;omega);simpa using h2
 case round=>
  clear hmk;obtain ⟨a,c,i,m,done,rfl,rfl,rfl,hk,hi,hm,hdl,hown,hgo,hbl⟩:=hrel;have HR:=h6_ hk hm hdl hown hgo hbl;clear hk hm hdl hown hgo hbl;by_cases hlt:i < l.length
  ·have hlt':(i:Int) < (l.length:Int):=(by omega);obtain ⟨d,hd1,hd2,hd3⟩:=QI HH.b i hlt;obtain ⟨bb,off,rfl,hcell⟩:=(HH.a.below HR.F).cell hlt;rw[hd1] at hcell;have hfit:=LM HH.c hd3 HR.b;obtain ⟨sm,hsm⟩:∃ sm:Nat,m+d*b=sm:=⟨_,rfl⟩
   have hw1:IntKind.u64.wrap (d:Int)=(d:Int):=QA (eI_ hd3 (by decide));have hw2:IntKind.u64.wrap ((d:Int)*(b:Int))=(d:Int)*(b:Int):=by
    have:=QA (n:=d*b) (by omega);rwa [Int.natCast_mul] at this
   have hw3:IntKind.u64.wrap ((m:Int)+(d:Int)*(b:Int))=(sm:Int):=by
    have:=QA (n:=m+d*b) hfit;rw[Int.natCast_add,Int.natCast_mul, <-Int.natCast_mul, <-Int.natCast_add,hsm] at this;rw[<-Int.natCast_mul, <-Int.natCast_add,hsm];exact this
   have HD:=h3_ hd2 hsm (Zp.YK (B:=B32) HR.b hd3);clear hd1 hd2 hd3 hfit hsm;go_wp2_with (first
    | (refine app1 rfl _ _ Zq rfl rfl HR.d (rl_ _) HR.F.size HR.F (.int .u32 ((sm:Int) % 4294967296)) rfl rfl rfl (by omega) ?_;rintro a2 c2 w2 ho2 hb2 -;have HA:=h2_ ho2 hb2;clear ho2 hb2))
   go_roundg (l.length - (i+1))
   case measure=> have:=HR.a;omega
   case rel=>
    refine ⟨a2,c2,i+1,sm / B32,done++ [sm % B32],rfl,rfl,by go_num,rfl,by omega,?_,by simp[HR.c],?_,?_,HA.B⟩
    ·have:=HD.C;rwa [HD.b] at this
    ·rw[Za];exact HA.a
    ·rw[<-HR.e,X7 HD.a,eQ_];show _=done++((m+d*b) % B32::Zp.scale B32 b (l.drop (i+1)) ((m+d*b) / B32));rw[HD.b];rfl
  ·obtain rfl:l.length=i:=(by omega);have hmB:m < B32:=eI_ HR.b HH.c;have hw1:(m:Int) % 4294967296=(m:Int):=by
    have:m < 4294967296:=hmB;omega
   clear hmB;go_wp2_with (first
    | (refine app1 rfl _ _ Zq rfl rfl HR.d (rl_ _) HR.F.size HR.F (.int .u32 (m:Int)) rfl rfl rfl (by omega) ?_;rintro a2 c2 w2 ho2 hb2 -;have HA:=h2_ ho2 hb2;clear ho2 hb2))
   go_ret;refine ⟨_,rfl,?_,HA.B⟩;have h1:=HR.e;rw[List.drop_length,Zp.scale] at h1;rw[<-h1];have h2:=HA.a;rw[<-Za] at h2;exact GG h2
theorem Yh (x y c:Nat) (hx:x < B32) (hy:y < B32) (hc:c<=1) (w:World):
  Calls prog 175 #[.int .u32 (x:Int),.int .u32 (y:Int),.int .u32 (c:Int)] w fun e w'=>
   e= .returned (.tuple #[.int .u32 (((x+y+c) % B32:Nat):Int),.int .u32 (((x+y+c) / B32:Nat):Int)])/\w=w':=by
 obtain ⟨sm,hsm⟩:∃ sm:Nat,x+y+c=sm:=⟨_,rfl⟩
 have hb:sm < 8589934593:=by have:x < 4294967296:=hx;have:y < 4294967296:=hy;omega
 have hw1:IntKind.u64.wrap (x:Int)=(x:Int):=by rw[IntKind.wrap_u64];omega
 have hw2:IntKind.u64.wrap (y:Int)=(y:Int):=by rw[IntKind.wrap_u64];omega
 have hw3:IntKind.u64.wrap (c:Int)=(c:Int):=by rw[IntKind.wrap_u64];omega
 have hw4:IntKind.u64.wrap ((x:Int)+(y:Int))=(x:Int)+(y:Int):=by rw[IntKind.wrap_u64];omega
 have hw5:IntKind.u64.wrap ((x:Int)+(y:Int)+(c:Int))=(sm:Int):=by rw[IntKind.wrap_u64];omega
 have hw6:(sm:Int) / 4294967296 % 4294967296=(sm:Int) / 4294967296:=by omega
 rw[hsm];clear hx hy hc hsm hb;go_in;go_wp2;go_ret2;exact ⟨rfl,rfl⟩
theorem GH {z:Nat} (h:z < 4294967296):z.testBit 31=decide (2147483648<=z):=by
 rw[Nat.testBit_eq_decide_div_mod_eq];show decide (z / 2147483648 % 2=1)=_;rw[decide_eq_decide];omega
theorem Q7K {z:Nat} (h:z < 4294967296):z / 2147483648=(z.testBit 31).toNat:=by
 rw[GH h];by_cases e:2147483648<=z
 ·rw[eM_ e];show _=1;omega
 ·rw[eK_ e];show _=0;omega
theorem Q7L (hx:x < 4294967296) (hy:y < 4294967296) (hc:c<=1) (hd:d=(x+4294967296 - y - c) % 4294967296):
  (((4294967295 ^^^ x) &&& y) ||| ((4294967295 ^^^ (x ^^^ y)) &&& d)) / 2147483648=if x < y+c then 1 else 0:=by
 have hd2:d < 4294967296:=by omega
 have h1:4294967295 ^^^ x < 2 ^ 32:=Nat.xor_lt_two_pow (by decide) hx;have h2:x ^^^ y < 2 ^ 32:=Nat.xor_lt_two_pow hx hy;have h3:4294967295 ^^^ (x ^^^ y) < 2 ^ 32:=Nat.xor_lt_two_pow (by decide) h2;have h4:((4294967295 ^^^ x) &&& y) ||| ((4294967295 ^^^ (x ^^^ y)) &&& d) < 2 ^ 32:=Nat.or_lt_two_pow (Nat.and_lt_two_pow _ hy) (Nat.and_lt_two_pow _ hd2)
 rw[Q7K h4,Nat.testBit_or,Nat.testBit_and,Nat.testBit_and,Nat.testBit_xor,Nat.testBit_xor,Nat.testBit_xor,GH hx,GH hy,GH hd2,show (4294967295:Nat).testBit 31=true from by decide];by_cases a:2147483648<=x <;> by_cases b:2147483648<=y <;> by_cases e:2147483648<=d <;> simp only[a,b,e,decide_true,decide_false] <;> split <;> first | rfl | omega
theorem Q6F (hx:x < 4294967296) (hy:y < 4294967296) (hc:c<=1):
  bits BinOp.or IntKind.u32 (bits BinOp.and IntKind.u32 (bits BinOp.xor IntKind.u32 IntKind.u32.max (x:Int)) (y:Int)) (bits BinOp.and IntKind.u32 (bits BinOp.xor IntKind.u32 IntKind.u32.max (bits BinOp.xor IntKind.u32 (x:Int) (y:Int))) (((x:Int) - (y:Int) - (c:Int)) % 4294967296)) / 2147483648=
   ((if x < y+c then 1 else 0:Nat):Int):=by
 obtain ⟨d,hd⟩:∃ d,d=(x+4294967296 - y - c) % 4294967296:=⟨_,rfl⟩
 have hd2:d < 4294967296:=by omega
 have e0:((x:Int) - (y:Int) - (c:Int)) % 4294967296=(d:Int):=by omega
 have em:IntKind.u32.max=((4294967295:Nat):Int):=by decide
 have h1:4294967295 ^^^ x < 2 ^ 32:=Nat.xor_lt_two_pow (by decide) hx;have h2:x ^^^ y < 2 ^ 32:=Nat.xor_lt_two_pow hx hy;have h3:4294967295 ^^^ (x ^^^ y) < 2 ^ 32:=Nat.xor_lt_two_pow (by decide) h2;have h4:(4294967295 ^^^ x) &&& y < 2 ^ 32:=Nat.and_lt_two_pow _ hy;have h5:(4294967295 ^^^ (x ^^^ y)) &&& d < 2 ^ 32:=Nat.and_lt_two_pow _ hd2;rw[e0,em,u32_xor_nat _ _ (by decide) hx,u32_xor_nat _ _ hx hy,u32_xor_nat _ _ (by decide) h2,u32_and_nat _ _ h1 hy,u32_and_nat _ _ h3 hd2,u32_or_nat _ _ h4 h5];rw[<-Q7L hx hy hc hd];rfl
theorem YQ (x y c:Nat) (hx:x < B32) (hy:y < B32) (hc:c<=1) (w:World):
  Calls prog 176 #[.int .u32 (x:Int),.int .u32 (y:Int),.int .u32 (c:Int)] w fun e w'=>
   e= .returned (.tuple #[.int .u32 (((x+B32 - y - c) % B32:Nat):Int),.int .u32 (((if x < y+c then 1 else 0:Nat)):Int)])/\w=w':=by
 have HB:=hd_ (Q6F hx hy hc);have hd:(((x+B32 - y - c) % B32:Nat):Int)=((x:Int) - (y:Int) - (c:Int)) % 4294967296:=by
  show (((x+4294967296 - y - c) % 4294967296:Nat):Int)=_;have:x < 4294967296:=hx;have:y < 4294967296:=hy;omega
 rw[hd];obtain ⟨q,hq⟩:∃ q,(if x < y+c then 1 else 0:Nat)=q:=⟨_,rfl⟩
 rw[hq] at HB |-;clear hd hq;have hs:IntKind.u32.signed=false:=rfl;go_in;go_wp2;rw[HB.o];go_ret2;refine ⟨?_,rfl⟩;show Ending.returned (.tuple #[.int .u32 ((((x:Int) - (y:Int)) % 4294967296 - (c:Int)) % 4294967296),.int .u32 (q:Int)])=_;rw[Int.emod_sub_emod]
theorem JJ (h:l[j]? =some d):(l.drop j).headD 0=d/\(l.drop j).tail=l.drop (j+1):=by
 rw[X7 h];exact ⟨rfl,rfl⟩
theorem US (h:l.length<=j):(l.drop j).headD 0=0/\(l.drop j).tail=l.drop (j+1):=by
 rw[List.drop_of_length_le h,List.drop_of_length_le (by omega)];exact ⟨rfl,rfl⟩
theorem Jc {xs:List Nat} (hx:xs[j]? =some x) (hy:(ys.drop j).headD 0=y/\(ys.drop j).tail=ys.drop (j+1)):
  Zp.plus B32 (xs.drop j) (ys.drop j) c=(x+y+c) % B32::Zp.plus B32 (xs.drop (j+1)) (ys.drop (j+1)) ((x+y+c) / B32):=by
 rw[X7 hx,Zp.plus,hy.1,hy.2]
theorem Dg {xs:List Nat} (hx:xs[j]? =some x) (hy:(ys.drop j).headD 0=y/\(ys.drop j).tail=ys.drop (j+1)) (h1:x < B32) (h2:y < B32) (h3:c<=1):
  Zp.minus B32 (xs.drop j) (ys.drop j) c=(x+B32 - y - c) % B32::Zp.minus B32 (xs.drop (j+1)) (ys.drop (j+1)) (if x < y+c then 1 else 0):=by
 rw[X7 hx,Zp.minus,hy.1,hy.2];congr 1;by_cases h:x < y+c
 ·rw[if_pos h,Nat.mod_eq_of_lt (by omega)];omega
 ·rw[if_neg h];have:x+B32 - y - c=(x - y - c)+B32:=by omega
  rw[this,Nat.add_mod_right,Nat.mod_eq_of_lt (by omega),Nat.sub_sub]
theorem Jd {done:List Nat} {v:Nat} (hd:done.length=j) (hj:j < n):(done++List.replicate (n - j) 0).set j v=(done++ [v])++List.replicate (n - (j+1)) 0:=by
 obtain ⟨m,hm⟩:∃ m,n - j=m+1:=⟨n - j - 1,by omega⟩
 rw[hm,show n - (j+1)=m from by omega,List.replicate_succ,List.set_append_right _ _ (by omega),hd,Nat.sub_self,List.set_cons_zero,eQ_];rfl
def PlRel (w:World) (n cap:Nat) (target:List Nat) (rest:Nat->Nat->List Nat) (k:Nat) (v6 vi:Value) (wr:World):Prop:=
 ∃ (i c:Nat) (done:List Nat),v6= .int .u32 c/\vi= .int .i64 i/\k=n - i/\i<=n/\c<=1/\done.length=i/\
  wr.heap[w.heap.size]? =some (.cells (u32Cells (done++List.replicate (cap - i) 0)).toArray 174 (0,0))/\done++rest i c=target/\Below w.heap.size w wr
theorem Y9 (a b:Nat) (hn:a<=b) (hc:b<=1073741824) (va vb:Int) (ha:va=(a:Int)) (hb:vb=(b:Int)) (w:World):(Instr.makeSlice 25 (.int .i64 va) (.int .i64 vb)).run prog w= .ok (.slice (some ⟨w.heap.size,0,none⟩) a b) (w.alloc (.cells (u32Cells (List.replicate b 0)).toArray 174)):=by
 subst ha hb;exact De hn hc w
theorem XK (h:w.heap[g]? =some (.cells (u32Cells l).toArray 174 (0,0))) (j v:Nat):(w.setCell ⟨g,j,none⟩ (.int .u32 (v:Int))).heap[g]? =some (.cells (u32Cells (l.set j v)).toArray 174 (0,0)):=by
 rw[Qx h,Q7H]
theorem filled {done:List Nat} {cap:Nat} (hd:done.length=i) (hi:i < cap):(u32Cells (done++List.replicate (cap - i) 0)).toArray[i]? =some (.int .u32 0):=by
 have h:=Dd (l:=done++List.replicate (cap - i) 0) (i:=i) (by simp;omega);rw[List.getElem?_toArray,h];have:(done++List.replicate (cap - i) 0)[i]! =0:=by
  rw[getElem!_pos _ _ (by simp;omega),List.getElem_append_right (by omega),List.getElem_replicate]
 rw[this];rfl
theorem Q6 {T:TypeId} (h:w.heap[g]? =some (.cells cs T (0,0))) (i:Nat):w.frozen? ⟨g,i,none⟩=false:=by simp[World.frozen?,h]
theorem ZR (hx:x < B32) (hy:y < B32) (hc:c<=1):(x+y+c) / B32<=1:=by
 have:(x+y+c) / B32 < 2:=(Nat.div_lt_iff_lt_mul (by decide)).2 (by omega);omega
theorem Q1F {x y:List Nat} (hx:RdU w vx x) (hy:RdU w vy y) (hlx:x.length<=1073741822) (hly:y.length<=1073741822) (hdx:Zp.Dig B32 x) (hdy:Zp.Dig B32 y):
  Calls prog 136 #[vx,vy] w fun e w'=> ∃ v',e= .returned v'/\RdU w' v' (if x.length < y.length then Zp.plus B32 y x 0 else Zp.plus B32 x y 0)/\Below w.heap.size w w':=by
 obtain ⟨ax,cx,rfl,hcx⟩:=hx.form;obtain ⟨ay,cy,rfl,hcy⟩:=hy.form;have HX:=h2_ hx hdx;have HY:=h2_ hy hdy;clear hx hy hdx hdy;by_cases hc:x.length < y.length
 ·have hlt:decide (x.length < y.length)=true:=eM_ hc;have hle:x.length<=y.length:=by omega
  have hX':(y.length:Int)<=1073741822:=by omega
  have hY':(x.length:Int)<=1073741822:=by omega
  have hmk:∀ W:World,(Instr.makeSlice 25 (.int .i64 (y.length:Int)) (.int .i64 ((y.length:Int)+1))).run prog W= .ok (.slice (some ⟨W.heap.size,0,none⟩) y.length (y.length+1)) (W.alloc (.cells (u32Cells (List.replicate (y.length+1) 0)).toArray 174)):=fun W=> Y9 y.length (y.length+1) (by omega) (by omega) _ _ rfl (by omega) W;rw[if_pos hc];have HC:=h2_ hc hle;clear hc hle;go_in;go_wp2_with fail;go_loopg [6,24] y.length (fun k v6 vi wr=> PlRel w y.length (y.length+1) (Zp.plus B32 y x 0) (fun i c=> Zp.plus B32 (y.drop i) (x.drop i) c) k v6 vi wr)
  case atStart=> exact ⟨0,0, [],rfl,rfl,rfl,eV_ _,eV_ _,rfl,by rw[List.nil_append,Nat.sub_zero];exact eD_ _ _,rfl,(eB_ _ _).alloc (rl_ _) _⟩
  case round=>
   clear hmk;obtain ⟨i,c,done,rfl,rfl,hk,hi,hc1,hdl,hg,hgo,hbl⟩:=hrel;have HR:=h6_ hk hc1 hdl hg hgo hbl;clear hk hc1 hdl hg hgo hbl;by_cases hlt:i < y.length
   ·have hcelli:(i:Int) < (y.length:Int):=(by omega);obtain ⟨d,hd1,hd2,hd3⟩:=QI HY.B i (by omega);obtain ⟨b1,o1,e1,hcell⟩:=(HY.a.below HR.F).cell (i:=i) (by omega);rw[hd1] at hcell;have HD:=h2_ hd2 hd3;clear hd1 hd2 hd3;obtain rfl:=e1;by_cases hin:i < x.length
    ·have hcell2i:(i:Int) < (x.length:Int):=(by omega);obtain ⟨d2,hd1,hd2,hd3⟩:=QI HX.B i (by omega);obtain ⟨b2,o2,e1,hcell2⟩:=(HX.a.below HR.F).cell (i:=i) (by omega);rw[hd1] at hcell2;have HE:=h2_ hd2 hd3;clear hd1 hd2 hd3;obtain rfl:=e1;obtain ⟨q,hq⟩:∃ q:Nat,(d+d2+c) % B32=q:=⟨_,rfl⟩
     obtain ⟨r,hr⟩:∃ r:Nat,(d+d2+c) / B32=r:=⟨_,rfl⟩
     have hcall:=Yh d d2 c HD.B HE.B HR.b wr;rw[hq,hr] at hcall;have hcs:=Q3 HR.d i (filled HR.c (by omega));have hfz:=Q6 HR.d i;have HQ:=h3_ hq hr (JJ HE.a);have HCA:=hd_ hcall;clear hq hr hcall;go_wp2_with fail;refine HCA.o.mono ?_;rintro e w2 ⟨rfl,rfl⟩;dsimp only;go_wp2_with fail;go_roundg (y.length - (i+1))
     case measure=> have:=HR.a;omega
     case rel=>
      refine ⟨i+1,r,done++ [q],rfl,by go_num,rfl,by omega,?_,by simp[HR.c],?_,?_,HR.F.setCell (rl_ _) _⟩
      ·rw[<-HQ.b];exact ZR HD.B HE.B HR.b
      ·have h2:=XK HR.d i q;rw[Jd HR.c (by omega)] at h2;exact h2
      ·rw[<-HR.e,Jc HD.a HQ.C,HQ.a,HQ.b,eQ_];rfl
    ·have hin':¬ (i:Int) < (x.length:Int):=(by omega);obtain ⟨q,hq⟩:∃ q:Nat,(d+0+c) % B32=q:=⟨_,rfl⟩
     obtain ⟨r,hr⟩:∃ r:Nat,(d+0+c) / B32=r:=⟨_,rfl⟩
     have hcall:=Yh d 0 c HD.B (by decide) HR.b wr;rw[hq,hr] at hcall;have hcs:=Q3 HR.d i (filled HR.c (by omega));have hfz:=Q6 HR.d i;have HQ:=h3_ hq hr (US (l:=x) (j:=i) (by omega));have HCA:=hd_ hcall;clear hq hr hcall;go_wp2_with fail;refine HCA.o.mono ?_;rintro e w2 ⟨rfl,rfl⟩;dsimp only;go_wp2_with fail;go_roundg (y.length - (i+1))
     case measure=> have:=HR.a;omega
     case rel=>
      refine ⟨i+1,r,done++ [q],rfl,by go_num,rfl,by omega,?_,by simp[HR.c],?_,?_,HR.F.setCell (rl_ _) _⟩
      ·rw[<-HQ.b];exact ZR HD.B (by decide) HR.b
      ·have h2:=XK HR.d i q;rw[Jd HR.c (by omega)] at h2;exact h2
      ·rw[<-HR.e,Jc HD.a HQ.C,HQ.a,HQ.b,eQ_];rfl
   ·obtain rfl:y.length=i:=(by omega);have hcl:c < 4294967296:=(by have:=HR.b;omega);have hown:=GF (base:=w.heap.size) HR.d (rl_ _) (n:=y.length) (by simp[HR.c]) (by simp[HR.c] <;> omega);rw[List.take_left' HR.c] at hown;have hlen:(done++List.replicate (y.length+1 - y.length) 0).length=y.length+1:=(by simp[HR.c] <;> omega);rw[hlen] at hown;have HO:=hd_ hown;clear hown hlen;go_wp2_with (first
     | (refine app1 rfl _ _ Zq rfl rfl HO.o (rl_ _) HR.F.size HR.F (.int .u32 (c:Int)) rfl rfl rfl (by omega) ?_;rintro a2 c2 w2 ho2 hb2 -;have HA:=h2_ ho2 hb2;clear ho2 hb2))
    go_ret;refine ⟨_,rfl,?_,HA.B⟩;have h1:=HR.e;rw[List.drop_length,List.drop_of_length_le HC.B] at h1;rw[<-h1];have h2:=HA.a;rw[<-Za] at h2;exact GG h2
 ·have hlt:decide (x.length < y.length)=false:=eK_ hc;have hle:y.length<=x.length:=by omega
  have hX':(x.length:Int)<=1073741822:=by omega
  have hY':(y.length:Int)<=1073741822:=by omega
  have hmk:∀ W:World,(Instr.makeSlice 25 (.int .i64 (x.length:Int)) (.int .i64 ((x.length:Int)+1))).run prog W= .ok (.slice (some ⟨W.heap.size,0,none⟩) x.length (x.length+1)) (W.alloc (.cells (u32Cells (List.replicate (x.length+1) 0)).toArray 174)):=fun W=> Y9 x.length (x.length+1) (by omega) (by omega) _ _ rfl (by omega) W;rw[if_neg hc];have HC:=h2_ hc hle;clear hc hle;go_in;go_wp2_with fail;go_loopg [6,24] x.length (fun k v6 vi wr=> PlRel w x.length (x.length+1) (Zp.plus B32 x y 0) (fun i c=> Zp.plus B32 (x.drop i) (y.drop i) c) k v6 vi wr)
  case atStart=> exact ⟨0,0, [],rfl,rfl,rfl,eV_ _,eV_ _,rfl,by rw[List.nil_append,Nat.sub_zero];exact eD_ _ _,rfl,(eB_ _ _).alloc (rl_ _) _⟩
  case round=>
   clear hmk;obtain ⟨i,c,done,rfl,rfl,hk,hi,hc1,hdl,hg,hgo,hbl⟩:=hrel;have HR:=h6_ hk hc1 hdl hg hgo hbl;clear hk hc1 hdl hg hgo hbl;by_cases hlt:i < x.length
   ·have hcelli:(i:Int) < (x.length:Int):=(by omega);obtain ⟨d,hd1,hd2,hd3⟩:=QI HX.B i (by omega);obtain ⟨b1,o1,e1,hcell⟩:=(HX.a.below HR.F).cell (i:=i) (by omega);rw[hd1] at hcell;have HD:=h2_ hd2 hd3;clear hd1 hd2 hd3;obtain rfl:=e1;by_cases hin:i < y.length
    ·have hcell2i:(i:Int) < (y.length:Int):=(by omega);obtain ⟨d2,hd1,hd2,hd3⟩:=QI HY.B i (by omega);obtain ⟨b2,o2,e1,hcell2⟩:=(HY.a.below HR.F).cell (i:=i) (by omega);rw[hd1] at hcell2;have HE:=h2_ hd2 hd3;clear hd1 hd2 hd3;obtain rfl:=e1;obtain ⟨q,hq⟩:∃ q:Nat,(d+d2+c) % B32=q:=⟨_,rfl⟩
     obtain ⟨r,hr⟩:∃ r:Nat,(d+d2+c) / B32=r:=⟨_,rfl⟩
     have hcall:=Yh d d2 c HD.B HE.B HR.b wr;rw[hq,hr] at hcall;have hcs:=Q3 HR.d i (filled HR.c (by omega));have hfz:=Q6 HR.d i;have HQ:=h3_ hq hr (JJ HE.a);have HCA:=hd_ hcall;clear hq hr hcall;go_wp2_with fail;refine HCA.o.mono ?_;rintro e w2 ⟨rfl,rfl⟩;dsimp only;go_wp2_with fail;go_roundg (x.length - (i+1))
     case measure=> have:=HR.a;omega
     case rel=>
      refine ⟨i+1,r,done++ [q],rfl,by go_num,rfl,by omega,?_,by simp[HR.c],?_,?_,HR.F.setCell (rl_ _) _⟩
      ·rw[<-HQ.b];exact ZR HD.B HE.B HR.b
      ·have h2:=XK HR.d i q;rw[Jd HR.c (by omega)] at h2;exact h2
      ·rw[<-HR.e,Jc HD.a HQ.C,HQ.a,HQ.b,eQ_];rfl
    ·have hin':¬ (i:Int) < (y.length:Int):=(by omega);obtain ⟨q,hq⟩:∃ q:Nat,(d+0+c) % B32=q:=⟨_,rfl⟩
     obtain ⟨r,hr⟩:∃ r:Nat,(d+0+c) / B32=r:=⟨_,rfl⟩
     have hcall:=Yh d 0 c HD.B (by decide) HR.b wr;rw[hq,hr] at hcall;have hcs:=Q3 HR.d i (filled HR.c (by omega));have hfz:=Q6 HR.d i;have HQ:=h3_ hq hr (US (l:=y) (j:=i) (by omega));have HCA:=hd_ hcall;clear hq hr hcall;go_wp2_with fail;refine HCA.o.mono ?_;rintro e w2 ⟨rfl,rfl⟩;dsimp only;go_wp2_with fail;go_roundg (x.length - (i+1))
     case measure=> have:=HR.a;omega
     case rel=>
      refine ⟨i+1,r,done++ [q],rfl,by go_num,rfl,by omega,?_,by simp[HR.c],?_,?_,HR.F.setCell (rl_ _) _⟩
      ·rw[<-HQ.b];exact ZR HD.B (by decide) HR.b
      ·have h2:=XK HR.d i q;rw[Jd HR.c (by omega)] at h2;exact h2
      ·rw[<-HR.e,Jc HD.a HQ.C,HQ.a,HQ.b,eQ_];rfl
   ·obtain rfl:x.length=i:=(by omega);have hcl:c < 4294967296:=(by have:=HR.b;omega);have hown:=GF (base:=w.heap.size) HR.d (rl_ _) (n:=x.length) (by simp[HR.c]) (by simp[HR.c] <;> omega);rw[List.take_left' HR.c] at hown;have hlen:(done++List.replicate (x.length+1 - x.length) 0).length=x.length+1:=(by simp[HR.c] <;> omega);rw[hlen] at hown;have HO:=hd_ hown;clear hown hlen;go_wp2_with (first
     | (refine app1 rfl _ _ Zq rfl rfl HO.o (rl_ _) HR.F.size HR.F (.int .u32 (c:Int)) rfl rfl rfl (by omega) ?_;rintro a2 c2 w2 ho2 hb2 -;have HA:=h2_ ho2 hb2;clear ho2 hb2))
    go_ret;refine ⟨_,rfl,?_,HA.B⟩;have h1:=HR.e;rw[List.drop_length,List.drop_of_length_le HC.B] at h1;rw[<-h1];have h2:=HA.a;rw[<-Za] at h2;exact GG h2
theorem U7 {x y:List Nat} (hx:RdU w vx x) (hy:RdU w vy y) (hlx:x.length<=1073741822) (hle:y.length<=x.length) (hdx:Zp.Dig B32 x) (hdy:Zp.Dig B32 y):
  Calls prog 137 #[vx,vy] w fun e w'=> ∃ v',e= .returned v'/\RdU w' v' (Zp.minus B32 x y 0)/\Below w.heap.size w w':=by
 obtain ⟨ax,cx,rfl,hcx⟩:=hx.form;obtain ⟨ay,cy,rfl,hcy⟩:=hy.form;have HX:=h2_ hx hdx;have HY:=h2_ hy hdy;have hX':(x.length:Int)<=1073741822:=by omega
 have hY':(y.length:Int)<=1073741822:=by omega
 have hmk:∀ W:World,(Instr.makeSlice 25 (.int .i64 (x.length:Int)) (.int .i64 (x.length:Int))).run prog W= .ok (.slice (some ⟨W.heap.size,0,none⟩) x.length x.length) (W.alloc (.cells (u32Cells (List.replicate x.length 0)).toArray 174)):=fun W=> Y9 x.length x.length (by omega) (by omega) _ _ rfl rfl W;have HC:=hd_ hle;clear hx hy hdx hdy hle;go_in;go_wp2_with fail;go_loopg [6,14] x.length (fun k v6 vi wr=> PlRel w x.length x.length (Zp.minus B32 x y 0) (fun i c=> Zp.minus B32 (x.drop i) (y.drop i) c) k v6 vi wr)
 case atStart=> exact ⟨0,0, [],rfl,rfl,rfl,eV_ _,eV_ _,rfl,by rw[List.nil_append,Nat.sub_zero];exact eD_ _ _,rfl,(eB_ _ _).alloc (rl_ _) _⟩
 case round=>
  clear hmk;obtain ⟨i,c,done,rfl,rfl,hk,hi,hc1,hdl,hg,hgo,hbl⟩:=hrel;have HR:=h6_ hk hc1 hdl hg hgo hbl;clear hk hc1 hdl hg hgo hbl;by_cases hlt:i < x.length
  ·have hcelli:(i:Int) < (x.length:Int):=(by omega);obtain ⟨d,hd1,hd2,hd3⟩:=QI HX.B i (by omega);obtain ⟨b1,o1,e1,hcell⟩:=(HX.a.below HR.F).cell (i:=i) (by omega);rw[hd1] at hcell;have HD:=h2_ hd2 hd3;clear hd1 hd2 hd3;obtain rfl:=e1;by_cases hin:i < y.length
   ·have hcell2i:(i:Int) < (y.length:Int):=(by omega);obtain ⟨d2,hd1,hd2,hd3⟩:=QI HY.B i (by omega);obtain ⟨b2,o2,e1,hcell2⟩:=(HY.a.below HR.F).cell (i:=i) (by omega);rw[hd1] at hcell2;have HE:=h2_ hd2 hd3;clear hd1 hd2 hd3;obtain rfl:=e1;obtain ⟨q,hq⟩:∃ q:Nat,(d+B32 - d2 - c) % B32=q:=⟨_,rfl⟩
    obtain ⟨r,hr⟩:∃ r:Nat,(if d < d2+c then 1 else 0)=r:=⟨_,rfl⟩
    have hcall:=YQ d d2 c HD.B HE.B HR.b wr;rw[hq,hr] at hcall;have hcs:=Q3 HR.d i (filled HR.c (by omega));have hfz:=Q6 HR.d i;have HQ:=h3_ hq hr (JJ HE.a);have HCA:=hd_ hcall;clear hq hr hcall;go_wp2_with fail;refine HCA.o.mono ?_;rintro e w2 ⟨rfl,rfl⟩;dsimp only;go_wp2_with fail;go_roundg (x.length - (i+1))
    case measure=> have:=HR.a;omega
    case rel=>
     refine ⟨i+1,r,done++ [q],rfl,by go_num,rfl,by omega,?_,by simp[HR.c],?_,?_,HR.F.setCell (rl_ _) _⟩
     ·rw[<-HQ.b];split <;> omega
     ·have h2:=XK HR.d i q;rw[Jd HR.c (by omega)] at h2;exact h2
     ·rw[<-HR.e,Dg HD.a HQ.C HD.B HE.B HR.b,HQ.a,HQ.b,eQ_];rfl
   ·have hin':¬ (i:Int) < (y.length:Int):=(by omega);obtain ⟨q,hq⟩:∃ q:Nat,(d+B32 - 0 - c) % B32=q:=⟨_,rfl⟩
    obtain ⟨r,hr⟩:∃ r:Nat,(if d < 0+c then 1 else 0)=r:=⟨_,rfl⟩
    have hcall:=YQ d 0 c HD.B (by decide) HR.b wr;rw[hq,hr] at hcall;have hcs:=Q3 HR.d i (filled HR.c (by omega));have hfz:=Q6 HR.d i;have HQ:=h3_ hq hr (US (l:=y) (j:=i) (by omega));have HCA:=hd_ hcall;clear hq hr hcall;go_wp2_with fail;refine HCA.o.mono ?_;rintro e w2 ⟨rfl,rfl⟩;dsimp only;go_wp2_with fail;go_roundg (x.length - (i+1))
    case measure=> have:=HR.a;omega
    case rel=>
     refine ⟨i+1,r,done++ [q],rfl,by go_num,rfl,by omega,?_,by simp[HR.c],?_,?_,HR.F.setCell (rl_ _) _⟩
     ·rw[<-HQ.b];split <;> omega
     ·have h2:=XK HR.d i q;rw[Jd HR.c (by omega)] at h2;exact h2
     ·rw[<-HR.e,Dg HD.a HQ.C HD.B (by decide) HR.b,HQ.a,HQ.b,eQ_];rfl
  ·obtain rfl:x.length=i:=(by omega);go_wp2_with fail;go_ret;refine ⟨_,rfl,?_,HR.F⟩;have h1:=HR.e;have h2:=HR.d;have e0:Zp.minus B32 (x.drop x.length) (y.drop x.length) c= []:=(by rw[List.drop_length];rfl);rw[e0,List.append_nil] at h1;rw[Nat.sub_self,List.replicate_zero,List.append_nil,h1] at h2;have h3:=Zb h2 (c:=x.length) (by rw[Zp.Z6];exact rl_ _);rw[Zp.Z6] at h3;exact h3
theorem Q7M (b:Bool) (w:World):Calls prog 72 #[.bool b] w fun e w'=> e= .returned (.int .i64 (if b then -1 else 1))/\w'=w:=
 (Gi b w).mono fun _ _ h=> ⟨h.1,h.2.symm⟩
theorem Q0F {f:FuncId} {args:Array Value} (c:∀ W:World,Calls prog f args W fun e w'=> e= .returned v/\w'=W) (w:World) (a n:Nat):
  Calls prog f args (w.drewN (a+n)) fun e w'=> e= .returned v/\∃ m,w'=w.drewN (a+m):=
 (c _).mono fun _ _ h=> ⟨h.1,n,h.2⟩
theorem Qf (w:World):∀ n:Nat,Below B w (w.drewN n)
 | n=> ⟨rfl,rfl,rfl,rl_ _,fun _ _=> rfl⟩
theorem U8 (h:(Zp.digs B32 X).length < (Zp.digs B32 Y).length):X < Y:=by
 have:=Zp.Lr (by decide) (Zp.Qo (B:=B32) (by decide) X) h;rwa [Zp.Qi (by decide)] at this
theorem Q7N {e:Nat} (hl:(Zp.digs B32 X).length=(Zp.digs B32 Y).length) (hd:(Zp.digs B32 X).drop (j+1)=(Zp.digs B32 Y).drop (j+1)) (hx:(Zp.digs B32 X)[j]? =some d) (hy:(Zp.digs B32 Y)[j]? =some e) (hn:d≠e):
  Zp.ord X Y=if decide (d < e)=true then -1 else 1:=by
 have hj:=(List.getElem?_eq_some_iff.1 hx).1;have hx2:(Zp.digs B32 X)[j]! =d:=by rw[getElem!_pos _ j hj];exact (List.getElem?_eq_some_iff.1 hx).2
 have hy2:(Zp.digs B32 Y)[j]! =e:=by rw[getElem!_pos _ j (by omega)];exact (List.getElem?_eq_some_iff.1 hy).2
 rcases Nat.lt_or_gt_of_ne hn with h | h
 ·have h1:=Zp.J7 (by decide) (Zp.Qo (B:=B32) (by decide) X) j hj (by omega) hd (by rw[hx2,hy2];exact h);rw[Zp.Qi (by decide),Zp.Qi (by decide)] at h1;rw[if_pos (by simp;omega),Zp.ord,if_pos h1]
 ·have h1:=Zp.J7 (by decide) (Zp.Qo (B:=B32) (by decide) Y) j (by omega) hj hd.symm (by rw[hx2,hy2];exact h);rw[Zp.Qi (by decide),Zp.Qi (by decide)] at h1;rw[if_neg (by simp;omega),Zp.ord,if_neg (by omega),if_neg (by omega)]
theorem Q6G (hl:(Zp.digs B32 X).length=(Zp.digs B32 Y).length) (hd:(Zp.digs B32 X).drop 0=(Zp.digs B32 Y).drop 0):Zp.ord X Y=0:=by
 have h:=congrArg (Zp.val B32) hd;rw[List.drop_zero,List.drop_zero,Zp.Qi (by decide),Zp.Qi (by decide)] at h;rw[Zp.ord,if_neg (by omega),if_pos h]
def CmRel (w:World) (x y:List Nat) (k:Nat) (v5:Value) (wr:World):Prop:=
 ∃ (j:Nat) (i:Int),v5= .int .i64 i/\i=(j:Int) - 1/\k=j/\j<=x.length/\x.drop j=y.drop j/\Below w.heap.size w wr
theorem ZS (hx:RdU w vx (Zp.digs B32 X)) (hy:RdU w vy (Zp.digs B32 Y)) (hlx:(Zp.digs B32 X).length<=1073741823) (hly:(Zp.digs B32 Y).length<=1073741823):
  Calls prog 73 #[vx,vy] w fun e w'=> e= .returned (.int .i64 (Zp.ord X Y))/\Below w.heap.size w w':=by
 obtain ⟨ax,cx,rfl,hcx⟩:=hx.form;obtain ⟨ay,cy,rfl,hcy⟩:=hy.form;obtain ⟨x,hxe⟩:∃ x,Zp.digs B32 X=x:=⟨_,rfl⟩
 obtain ⟨y,hye⟩:∃ y,Zp.digs B32 Y=y:=⟨_,rfl⟩
 have hdx:=Zp.Qo (B:=B32) (by decide) X;have hdy:=Zp.Qo (B:=B32) (by decide) Y;have HL:Hid (∀ h:x.length < y.length,X < Y):=hd_ fun h=> U8 (by rw[hxe,hye];exact h);have HG:Hid (∀ h:y.length < x.length,Y < X):=hd_ fun h=> U8 (by rw[hxe,hye];exact h);have HT:Hid (∀ (j d e:Nat) (hl:x.length=y.length) (hd:x.drop (j+1)=y.drop (j+1)) (hx:x[j]? =some d) (hy:y[j]? =some e) (hn:d≠e),Zp.ord X Y=if decide (d < e)=true then -1 else 1):=
  hd_ fun j d e hl hd h1 h2 h3=> Q7N (by rw[hxe,hye];exact hl) (by rw[hxe,hye];exact hd) (by rw[hxe];exact h1) (by rw[hye];exact h2) h3
 have HS:Hid (∀ (hl:x.length=y.length) (hd:x.drop 0=y.drop 0),Zp.ord X Y=0):=hd_ fun hl hd=> Q6G (by rw[hxe,hye];exact hl) (by rw[hxe,hye];exact hd);rw[hxe] at hx hlx hcx hdx |-;rw[hye] at hy hly hcy hdy |-;have HX:=h2_ hx hdx;have HY:=h2_ hy hdy;have hX':(x.length:Int)<=1073741823:=by omega
 have hY':(y.length:Int)<=1073741823:=by omega
 obtain ⟨o,ho⟩:∃ o,Zp.ord X Y=o:=⟨_,rfl⟩
 rw[ho] at HT HS |-;have HO:=hd_ ho;clear hx hy hdx hdy hxe hye ho;by_cases hc:x.length=y.length
 ·have hne:(((x.length:Nat):Int) !=((y.length:Nat):Int))=false:=by simp[hc]
  have HC:=hd_ hc;clear hc;go_in;go_wp2_with fail;go_loopg [5] x.length (fun k v5 wr=> CmRel w x y k v5 wr)
  case atStart=> exact ⟨x.length,_,rfl,rfl,rfl,rl_ _,by rw[List.drop_of_length_le (rl_ _),List.drop_of_length_le (by rw[HC.o];exact rl_ _)],eB_ _ _⟩
  case round=>
   obtain ⟨j,i,rfl,hi,hk,hj,hdr,hb⟩:=hrel;have HR:=h4_ hk hj hdr hb;clear hk hdr hb;cases j with
   | zero=>
    obtain rfl:i=-1:=(by omega);clear hi;go_wp2_with fail;go_ret;refine ⟨?_,HR.D⟩;rw[<-HS.o HC.o HR.c];rfl
   | succ m=>
    obtain rfl:i=(m:Int):=(by omega);have hmx:(m:Int) < (x.length:Int):=(by omega);have hmy:(m:Int) < (y.length:Int):=(by have:=HC.o;omega);obtain ⟨d,hd1,hd2,hd3⟩:=QI HX.B m (by omega);obtain ⟨e,he1,he2,he3⟩:=QI HY.B m (by omega);obtain ⟨b1,o1,ex,hcx⟩:=(HX.a.below HR.D).cell (i:=m) (by omega);obtain ⟨b2,o2,ey,hcy⟩:=(HY.a.below HR.D).cell (i:=m) (by omega);rw[hd1] at hcx;rw[he1] at hcy;have HD:=h2_ hd2 he2;clear hd1 hd2 hd3 he1 he2 he3 hi;obtain rfl:=ex;obtain rfl:=ey;by_cases hde:d=e
    ·subst hde;have hne2:((d:Int) !=(d:Int))=false:=(by simp);go_wp2_with fail;go_quiet (fail);go_wp2_with fail;go_roundg m
     case measure=> have:=HR.a;omega
     case rel=> exact ⟨m,_,rfl,rfl,rfl,by omega,Zp.Ls m (by omega) (by omega) HR.c (by rw[getElem!_pos _ _ (by omega),getElem!_pos _ _ (by omega),(List.getElem?_eq_some_iff.1 HD.a).2,(List.getElem?_eq_some_iff.1 HD.B).2]),HR.D.trans (Qf _ _)⟩
    ·have hne2:((d:Int) !=(e:Int))=true:=(by simp;omega);cases hq:decide (d < e)
     all_goals
      have ho:=HT.o m d e HC.o HR.c HD.a HD.B hde;rw[hq] at ho;have HO2:=hd_ ho;clear ho hde;go_wp2_with fail;go_quiet (fail);go_wp2_with fail;go_quiet ((go_at_call 72;exact Q0F (Q7M _) _ _ _));go_wp2_with fail;go_ret
      first | exact ⟨by rw[HO2.o];rfl,HR.D.trans (Qf _ _)⟩ | exact ⟨by rw[HO2.o];rfl,HR.D.trans ((Qf _ _).trans (Qf _ _))⟩
 ·have hne:(((x.length:Nat):Int) !=((y.length:Nat):Int))=true:=by simp;omega
  cases hq:decide (x.length < y.length)
  all_goals
   have ho:o=(if decide (x.length < y.length)=true then -1 else 1):=by
    rw[<-HO.o,Zp.ord];by_cases h:x.length < y.length
    ·rw[if_pos (HL.o h),if_pos (by simpa using h)]
    ·have:=HG.o (by omega);rw[if_neg (by omega),if_neg (by omega),if_neg (by simpa using h)]
   rw[hq] at ho;have HO2:=hd_ ho;clear ho hc;go_in;go_wp2_with ((go_at_call 72;refine (Gi _ _).mono ?_;rintro e w' ⟨rfl,rfl⟩));go_ret;exact ⟨by rw[HO2.o];rfl,eB_ _ _⟩
theorem XE (w:World) (cs:Array Value) (T:TypeId) {r:Nat} (h:r=w.heap.size):(w.alloc (.cells cs T)).heap[r]? =some (.cells cs T (0,0)):=by
 subst h;exact eD_ _ _
theorem box1 (w:World) (A:Array Value) (TA:TypeId):(w.alloc (.cells A TA)).heap[w.heap.size]? =some (.cells A TA (0,0))/\Below w.heap.size w (w.alloc (.cells A TA)):=
 ⟨eD_ _ _,(eB_ _ _).alloc (rl_ _) _⟩
theorem box2 (w:World) (A:Array Value) (TA:TypeId) (B:Array Value) (TB:TypeId):
  ((w.alloc (.cells A TA)).alloc (.cells B TB)).heap[w.heap.size]? =some (.cells A TA (0,0))/\((w.alloc (.cells A TA)).alloc (.cells B TB)).heap[w.heap.size+1]? =some (.cells B TB (0,0))/\Below w.heap.size w ((w.alloc (.cells A TA)).alloc (.cells B TB)):=
 ⟨by rw[eJ_ _ _ _ (by rw[<-Q5];omega)];exact eD_ _ _,XE _ _ _ (Q5 _ _),((eB_ _ _).alloc (rl_ _) _).alloc (by rw[<-Q5];omega) _⟩
theorem box3 (w:World) (A:Array Value) (TA:TypeId) (B:Array Value) (TB:TypeId) (C:Array Value) (TC:TypeId):
  (((w.alloc (.cells A TA)).alloc (.cells B TB)).alloc (.cells C TC)).heap[w.heap.size]? =some (.cells A TA (0,0))/\(((w.alloc (.cells A TA)).alloc (.cells B TB)).alloc (.cells C TC)).heap[w.heap.size+1]? =some (.cells B TB (0,0))/\
  (((w.alloc (.cells A TA)).alloc (.cells B TB)).alloc (.cells C TC)).heap[w.heap.size+2]? =some (.cells C TC (0,0))/\Below w.heap.size w (((w.alloc (.cells A TA)).alloc (.cells B TB)).alloc (.cells C TC)):=by
 obtain ⟨h1,h2,h3⟩:=box2 w A TA B TB;have hs:((w.alloc (.cells A TA)).alloc (.cells B TB)).heap.size=w.heap.size+2:=by rw[<-Q5, <-Q5]
 exact ⟨by rw[eJ_ _ _ _ (by omega)];exact h1,by rw[eJ_ _ _ _ (by omega)];exact h2,XE _ _ _ hs.symm,h3.alloc (by omega) _⟩
theorem Q7O (z:Int): -z=(if !decide (z < 0) then -((Zp.val B32 (wd z):Nat):Int) else ((Zp.val B32 (wd z):Nat):Int)):=by
 rw[ZP];by_cases e:z < 0
 ·simp[e];omega
 ·simp[e];omega
theorem Q7P (z:Int):((z.natAbs:Nat):Int)=(if false=true then -((Zp.val B32 (wd z):Nat):Int) else ((Zp.val B32 (wd z):Nat):Int)):=by
 rw[ZP];rfl
theorem Q3t (h:Num w v z) (hl:(wd z).length<=1073741824):Calls prog 56 #[v] w fun e w'=> ∃ v',e= .returned v'/\Num w' v' (-z)/\Below w.heap.size w w':=by
 obtain ⟨a,c,rfl,hr⟩:=h.form;have HH:=h3_ hr hl (Q7O z);obtain ⟨ng,hng⟩:∃ b,decide (z < 0)=b:=⟨_,rfl⟩
 rw[hng] at HH |-;clear h hr hl hng;go_in;go_wp2_with fail;obtain ⟨V,hV⟩:∃ V,(w.alloc (.cells #[.bool ng,.slice a (wd z).length c] 27)).alloc (.cells #[.bool false,.slice none 0 0] 27)=V:=⟨_,rfl⟩
 have hbx:=box2 w #[.bool ng,.slice a (wd z).length c] 27 #[.bool false,.slice none 0 0] 27;rw[hV] at hbx |-;have HV:=hd_ hbx;clear hbx hV;refine (QZ (HH.a.below HV.C) HH.b (Xp z) (!ng) (-z) HH.C).mono ?_;rintro e w2 ⟨v2,rfl,hr,hb⟩;have HS:=h3_ ((hb.block _ (Q4 HV.b)).trans HV.b) hr (HV.C.trans (hb.mono HV.C.size));clear hr hb;dsimp only;go_wp2_with (refine QB rfl _ _ rfl rfl HS.a rfl rfl HS.b (by omega) HS.C ?_;rintro W cs - rfl hg hs hn hb -;have HT:=h4_ hg hs hn hb;clear hg hs hn hb);exact eG_ (Y2 rfl rfl HT.a HT.b) rfl ⟨_,rfl,HT.c,HT.D⟩
theorem Dh (h:Num w v z) (hl:(wd z).length<=1073741824):Calls prog 108 #[v] w fun e w'=> ∃ v',e= .returned v'/\Num w' v' (z.natAbs:Int)/\Below w.heap.size w w':=by
 obtain ⟨a,c,rfl,hr⟩:=h.form;have HH:=h3_ hr hl (Q7P z);obtain ⟨ng,hng⟩:∃ b,decide (z < 0)=b:=⟨_,rfl⟩
 rw[hng];clear h hr hl hng;go_in;go_wp2_with fail;obtain ⟨V,hV⟩:∃ V,(w.alloc (.cells #[.bool ng,.slice a (wd z).length c] 27)).alloc (.cells #[.bool false,.slice none 0 0] 27)=V:=⟨_,rfl⟩
 have hbx:=box2 w #[.bool ng,.slice a (wd z).length c] 27 #[.bool false,.slice none 0 0] 27;rw[hV] at hbx |-;have HV:=hd_ hbx;clear hbx hV;refine (QZ (HH.a.below HV.C) HH.b (Xp z) false (z.natAbs:Int) HH.C).mono ?_;rintro e w2 ⟨v2,rfl,hr,hb⟩;have HS:=h3_ ((hb.block _ (Q4 HV.b)).trans HV.b) hr (HV.C.trans (hb.mono HV.C.size));clear hr hb;dsimp only;go_wp2_with (refine QB rfl _ _ rfl rfl HS.a rfl rfl HS.b (by omega) HS.C ?_;rintro W cs - rfl hg hs hn hb -;have HT:=h4_ hg hs hn hb;clear hg hs hn hb);exact eG_ (Y2 rfl rfl HT.a HT.b) rfl ⟨_,rfl,HT.c,HT.D⟩
theorem Qr {o:Nat} {x y:Value} (h:w.cell? ⟨b,o,none⟩=some v) (hne:b≠g):((w.setCell ⟨g,0,none⟩ x).setCell ⟨g,1,none⟩ y).cell? ⟨b,o,none⟩=some v:=by
 rw[World.cell?_setCell_other _ _ _ _ (fun e=> hne (by injection e with e1;exact e1.symm)),World.cell?_setCell_other _ _ _ _ (fun e=> hne (by injection e with e1;exact e1.symm))];exact h
theorem YD {T:TypeId} (h:w.heap[g]? =some (.cells cs T (0,0))) (hs:cs.size=2) (x y:Value):
  (w.setCell ⟨g,0,none⟩ x).setCell ⟨g,1,none⟩ y=w.setRow g #[x,y]:=by
 rw[setCell_eq_setRow w g 0 cs _ (0,0) x h,setCell_eq_setRow _ g 1 _ _ (0,0) y (Qb h),setRow_setRow];obtain ⟨l⟩:=cs
 match l,hs with
 | [_,_],_=> rfl
theorem YR {w3:World} {b:Bool} {a3:Option Addr} {c3:Nat} (hn:Num w3 (.agg #[.bool b,.slice a3 n c3]) z) (hg:w3.heap[g]? =some (.cells cs 27 (0,0))) (hs:cs.size=2) (hb:Below B w w3) (hB:B<=g):
  ((w3.setCell ⟨g,0,none⟩ (.bool b)).setCell ⟨g,1,none⟩ (.slice a3 n c3)).heap[g]? =some (.cells #[.bool b,.slice a3 n c3] 27 (0,0))/\
  Num ((w3.setCell ⟨g,0,none⟩ (.bool b)).setCell ⟨g,1,none⟩ (.slice a3 n c3)) (.agg #[.bool b,.slice a3 n c3]) z/\
  Below B w ((w3.setCell ⟨g,0,none⟩ (.bool b)).setCell ⟨g,1,none⟩ (.slice a3 n c3)):=by
 rw[YD hg hs];exact ⟨Qb hg,hn.frt (Qe hg) (by decide),Q9 hb hB _⟩
theorem Q5g (h:Zp.ord X Y≠ -1) (hl:(Zp.digs B32 X).length < (Zp.digs B32 Y).length):False:=by
 have h1:=U8 hl;rw[Zp.ord,if_pos h1] at h;exact h rfl
theorem Q6H {x y:Int} (h:decide (x < 0)=decide (y < 0)):
  x+y=if decide (x < 0) then -(((if (wd x).length < (wd y).length then Zp.val B32 (Zp.plus B32 (wd y) (wd x) 0) else Zp.val B32 (Zp.plus B32 (wd x) (wd y) 0):Nat)):Int) else (((if (wd x).length < (wd y).length then Zp.val B32 (Zp.plus B32 (wd y) (wd x) 0) else Zp.val B32 (Zp.plus B32 (wd x) (wd y) 0):Nat)):Int):=by
 have e:(if (wd x).length < (wd y).length then Zp.val B32 (Zp.plus B32 (wd y) (wd x) 0) else Zp.val B32 (Zp.plus B32 (wd x) (wd y) 0))=x.natAbs+y.natAbs:=by
  by_cases hc:(wd x).length < (wd y).length
  ·rw[if_pos hc,Zp.GO _ _ _ (by omega),ZP,ZP];omega
  ·rw[if_neg hc,Zp.GO _ _ _ (by omega),ZP,ZP];omega
 rw[e];have h2:x < 0↔y < 0:=by simpa using h
 by_cases hx:x < 0
 ·rw[if_pos (by simpa using hx)];omega
 ·rw[if_neg (by simpa using hx)];omega
theorem Q4z (h:Zp.ord X Y≠ -1):((Zp.val B32 (Zp.minus B32 (Zp.digs B32 X) (Zp.digs B32 Y) 0):Nat):Int)=(X:Int) - (Y:Int):=by
 have hle:Y<=X:=by
  unfold Zp.ord at h;by_cases h1:X < Y
  ·rw[if_pos h1] at h;exact absurd rfl h
  ·omega
 have hlen:(Zp.digs B32 Y).length<=(Zp.digs B32 X).length:=by
  rcases eS_ (Zp.digs B32 X).length (Zp.digs B32 Y).length with h1 | h1
  ·exact (Q5g h h1).elim
  ·exact h1
 have:=Zp.UD (B:=B32) (by decide) (Zp.digs B32 X) (Zp.digs B32 Y) 0 (Zp.Qo (by decide) _) (Zp.Qo (by decide) _) (by omega) hlen (by rw[Zp.Qi (by decide),Zp.Qi (by decide)];omega);rw[Zp.Qi (by decide),Zp.Qi (by decide)] at this;omega
theorem Zs {x y:Int} (hx:Num w vx x) (hy:Num w vy y) (hlx:(wd x).length<=1073741820) (hly:(wd y).length<=1073741820):
  Calls prog 101 #[vx,vy] w fun e w'=> ∃ v',e= .returned v'/\Num w' v' (x+y)/\Below w.heap.size w w':=by
 obtain ⟨ax,cx,rfl,hrx⟩:=hx.form;obtain ⟨ay,cy,rfl,hry⟩:=hy.form;have HH:=h4_ hrx hry hlx hly;have HP:Hid (∀ W,Below w.heap.size w W->Calls prog 136 #[.slice ax (wd x).length cx,.slice ay (wd y).length cy] W fun e w'=> ∃ v',e= .returned v'/\RdU w' v' (if (wd x).length < (wd y).length then Zp.plus B32 (wd y) (wd x) 0 else Zp.plus B32 (wd x) (wd y) 0)/\Below W.heap.size W w'):=
  hd_ fun W hb=> Q1F (hrx.below hb) (hry.below hb) (by omega) (by omega) (Xp x) (Xp y)
 by_cases hs:decide (x < 0)=decide (y < 0)
 ·have hsum:=Q6H hs;obtain ⟨nx,hnx⟩:∃ b,decide (x < 0)=b:=⟨_,rfl⟩
  rw[<-hs];rw[hnx] at hsum |-;have hsm:∀ l:List Nat,l=(if (wd x).length < (wd y).length then Zp.plus B32 (wd y) (wd x) 0 else Zp.plus B32 (wd x) (wd y) 0)->Zp.Dig B32 l/\l.length<=1073741824/\x+y=(if nx=true then -((Zp.val B32 l:Nat):Int) else ((Zp.val B32 l:Nat):Int)):=by
   intro l hl;subst hl;refine ⟨?_,?_,?_⟩
   ·split
    ·exact Zp.GP (by decide) _ _ _ (Xp y) (Xp x) (by omega)
    ·exact Zp.GP (by decide) _ _ _ (Xp x) (Xp y) (by omega)
   ·split
    ·rw[Zp.GQ];omega
    ·rw[Zp.GQ];omega
   ·rw[hsum];split <;> split <;> rfl
  obtain ⟨l,hl⟩:∃ l,l=(if (wd x).length < (wd y).length then Zp.plus B32 (wd y) (wd x) 0 else Zp.plus B32 (wd x) (wd y) 0):=⟨_,rfl⟩
  have HS:=hd_ (hsm l hl);rw[<-hl] at HP;clear hx hy hrx hry hlx hly hs hsum hnx hsm hl;go_in;go_wp2_with fail;obtain ⟨V,hV⟩:∃ V,((w.alloc (.cells #[.bool nx,.slice ax (wd x).length cx] 27)).alloc (.cells #[.bool nx,.slice ay (wd y).length cy] 27)).alloc (.cells #[.bool false,.slice none 0 0] 27)=V:=⟨_,rfl⟩
  have hbx:=box3 w #[.bool nx,.slice ax (wd x).length cx] 27 #[.bool nx,.slice ay (wd y).length cy] 27 #[.bool false,.slice none 0 0] 27;rw[hV] at hbx |-;have HV:=hd_ hbx;clear hbx hV;have a0:=Q3 HV.a 0 rfl;have a1:=Q3 HV.a 1 rfl;have b0:=Q3 HV.b 0 rfl;have b1:=Q3 HV.b 1 rfl;go_region_held3 (fun w'=> w'.cell? ⟨w.heap.size,0,none⟩=some (.bool nx)/\w'.cell? ⟨w.heap.size,1,none⟩=some (.slice ax (wd x).length cx)/\w'.cell? ⟨w.heap.size+1,0,none⟩=some (.bool nx)/\w'.cell? ⟨w.heap.size+1,1,none⟩=some (.slice ay (wd y).length cy)) (first | exact ⟨a0,a1,b0,b1⟩ | exact ⟨e0,e1,e2,e3⟩ | exact ⟨f0,f1,f2,f3⟩ | exact ⟨Qr f0 (by omega),Qr f1 (by omega),Qr f2 (by omega),Qr f3 (by omega)⟩ | go_keep)
   ((first
    | (go_at_call 136;refine (HP.o _ (HV.D.trans (Qf _ _))).mono ?_;rintro e w2 ⟨v2,rfl,hr2,hb2⟩;have hb3:=(Qf (B:=V.heap.size) V 1).trans (hb2.mono (Nat.le_refl V.heap.size));have e0:=Q3 ((hb3.block _ (Q4 HV.a)).trans HV.a) 0 rfl;have e1:=Q3 ((hb3.block _ (Q4 HV.a)).trans HV.a) 1 rfl;have e2:=Q3 ((hb3.block _ (Q4 HV.b)).trans HV.b) 0 rfl;have e3:=Q3 ((hb3.block _ (Q4 HV.b)).trans HV.b) 1 rfl;have H2:=h2_ hr2 hb3;clear hr2 hb2 hb3)
    | (go_at_call 61;refine (QZ H2.a HS.b HS.a nx (x+y) HS.C).mono ?_;rintro e w3 ⟨v3,rfl,hr3,hb3⟩;have hb4:=H2.B.trans (hb3.mono H2.B.size);have f0:=Q3 ((hb4.block _ (Q4 HV.a)).trans HV.a) 0 rfl;have f1:=Q3 ((hb4.block _ (Q4 HV.a)).trans HV.a) 1 rfl;have f2:=Q3 ((hb4.block _ (Q4 HV.b)).trans HV.b) 0 rfl;have f3:=Q3 ((hb4.block _ (Q4 HV.b)).trans HV.b) 1 rfl;have r0:=Q3 ((hb4.block _ (Q4 HV.c)).trans HV.c) 0 rfl;have r1:=Q3 ((hb4.block _ (Q4 HV.c)).trans HV.c) 1 rfl;have z0:=Q6 ((hb4.block _ (Q4 HV.c)).trans HV.c) 0;have z1:=Q6 ((hb4.block _ (Q4 HV.c)).trans HV.c) 1;obtain ⟨a3,c3,rfl,_⟩:=hr3.form;have H3:=h2_ hr3 hb4;clear hr3 hb3 hb4)))
  clear a0 a1 b0 b1 e0 e1 e2 e3 f0 f1 f2 f3 r0 r1 z0 z1;go_wp2_with fail;obtain ⟨y1,y2,y3⟩:=YR H3.a ((H3.B.block _ (Q4 HV.c)).trans HV.c) rfl (HV.D.trans (H3.B.mono HV.D.size)) (show w.heap.size<=w.heap.size+2 by omega);exact eG_ (Y2 rfl rfl y1 rfl) rfl ⟨_,rfl,y2,y3⟩
 ·have hneq:∀ nx ny,decide (x < 0)=nx->decide (y < 0)=ny->(nx==ny)=false:=fun nx ny h1 h2=> by rw[<-h1, <-h2];simpa using hs
  have hcmp:∀ W,Below w.heap.size w W->Calls prog 73 #[.slice ax (wd x).length cx,.slice ay (wd y).length cy] W fun e w'=> e= .returned (.int .i64 (Zp.ord x.natAbs y.natAbs))/\Below W.heap.size W w':=
   fun W hb=> ZS (X:=x.natAbs) (Y:=y.natAbs) (hrx.below hb) (hry.below hb) (by show (wd x).length<=_;omega) (by show (wd y).length<=_;omega)
  obtain ⟨o,ho⟩:∃ o,Zp.ord x.natAbs y.natAbs=o:=⟨_,rfl⟩
  by_cases hc:o=-1
  ·have hge:x.natAbs<=y.natAbs:=(by unfold Zp.ord at ho;split at ho <;> omega);have ho2:Zp.ord y.natAbs x.natAbs≠ -1:=by
    unfold Zp.ord;rw[if_neg (by omega)];split <;> decide
   have hd:=Q4z (X:=y.natAbs) (Y:=x.natAbs) ho2;have hle:(wd x).length<=(wd y).length:=by
    rcases eS_ (wd y).length (wd x).length with h1 | h1
    ·have h2:=U8 (X:=y.natAbs) (Y:=x.natAbs) h1;omega
    ·exact h1
   have HM:Hid (∀ W,Below w.heap.size w W->Calls prog 137 #[.slice ay (wd y).length cy,.slice ax (wd x).length cx] W fun e w'=> ∃ v',e= .returned v'/\RdU w' v' (Zp.minus B32 (wd y) (wd x) 0)/\Below W.heap.size W w'):=
    hd_ fun W hb=> U7 (hry.below hb) (hrx.below hb) (by omega) hle (Xp y) (Xp x)
   have hz:∀ n,decide (y < 0)=n->x+y=(if n=true then -((Zp.val B32 (Zp.minus B32 (wd y) (wd x) 0):Nat):Int) else ((Zp.val B32 (Zp.minus B32 (wd y) (wd x) 0):Nat):Int)):=by
    intro n hn;rw[show Zp.val B32 (Zp.minus B32 (wd y) (wd x) 0)=Zp.val B32 (Zp.minus B32 (Zp.digs B32 y.natAbs) (Zp.digs B32 x.natAbs) 0) from rfl,hd, <-hn];have h2:¬ (x < 0↔y < 0):=(by simpa using hs);by_cases hy0:y < 0
    ·rw[if_pos (by simpa using hy0)];omega
    ·rw[if_neg (by simpa using hy0)];omega
   have hml:(Zp.minus B32 (wd y) (wd x) 0).length<=1073741824:=(by rw[Zp.Z6];omega);have hmd:Zp.Dig B32 (Zp.minus B32 (wd y) (wd x) 0):=Zp.UE (by decide) _ _ _ (Xp y) (Xp x) (by omega);obtain ⟨nx,hnx⟩:∃ b,decide (x < 0)=b:=⟨_,rfl⟩
   obtain ⟨ny,hny⟩:∃ b,decide (y < 0)=b:=⟨_,rfl⟩
   have hne:=hneq nx ny hnx hny;have HS:=h3_ hmd hml (hz ny hny);have HC:=hd_ hcmp;rw[hnx,hny];rw[ho] at HC;subst hc;clear ho ho2 hge;clear hx hy hrx hry hlx hly hs hnx hny hz hml hmd hle hd hcmp hneq;go_in;go_wp2_with fail;obtain ⟨V,hV⟩:∃ V,((w.alloc (.cells #[.bool nx,.slice ax (wd x).length cx] 27)).alloc (.cells #[.bool ny,.slice ay (wd y).length cy] 27)).alloc (.cells #[.bool false,.slice none 0 0] 27)=V:=⟨_,rfl⟩
   have hbx:=box3 w #[.bool nx,.slice ax (wd x).length cx] 27 #[.bool ny,.slice ay (wd y).length cy] 27 #[.bool false,.slice none 0 0] 27;rw[hV] at hbx |-;have HV:=hd_ hbx;clear hbx hV;refine (HC.o _ HV.D).mono ?_;rintro e w4 ⟨rfl,hb⟩;have p0:=(hb.block _ (Q4 HV.a)).trans HV.a;have p1:=(hb.block _ (Q4 HV.b)).trans HV.b;have p2:=(hb.block _ (Q4 HV.c)).trans HV.c;have HV2:=h4_ p0 p1 p2 (HV.D.trans (hb.mono HV.D.size));clear p0 p1 p2 hb;dsimp only;go_wp2_with fail;have a0:=Q3 HV2.a 0 rfl;have a1:=Q3 HV2.a 1 rfl;have b0:=Q3 HV2.b 0 rfl;have b1:=Q3 HV2.b 1 rfl;go_region_held3 (fun w'=> w'.cell? ⟨w.heap.size,0,none⟩=some (.bool nx)/\w'.cell? ⟨w.heap.size,1,none⟩=some (.slice ax (wd x).length cx)/\w'.cell? ⟨w.heap.size+1,0,none⟩=some (.bool ny)/\w'.cell? ⟨w.heap.size+1,1,none⟩=some (.slice ay (wd y).length cy)) (first | exact ⟨a0,a1,b0,b1⟩ | exact ⟨e0,e1,e2,e3⟩ | exact ⟨f0,f1,f2,f3⟩ | exact ⟨Qr f0 (by omega),Qr f1 (by omega),Qr f2 (by omega),Qr f3 (by omega)⟩ | go_keep)
    ((first
     | (go_at_call 137;refine (HM.o _ (HV2.D.trans (Qf _ _))).mono ?_;rintro e w2 ⟨v2,rfl,hr2,hb2⟩;have hb3:=(Qf (B:=w4.heap.size) w4 1).trans (hb2.mono (Nat.le_refl w4.heap.size));have e0:=Q3 ((hb3.block _ (Q4 HV2.a)).trans HV2.a) 0 rfl;have e1:=Q3 ((hb3.block _ (Q4 HV2.a)).trans HV2.a) 1 rfl;have e2:=Q3 ((hb3.block _ (Q4 HV2.b)).trans HV2.b) 0 rfl;have e3:=Q3 ((hb3.block _ (Q4 HV2.b)).trans HV2.b) 1 rfl;have H2:=h2_ hr2 hb3;clear hr2 hb2 hb3)
     | (go_at_call 61;refine (QZ H2.a HS.b HS.a ny (x+y) HS.C).mono ?_;rintro e w3 ⟨v3,rfl,hr3,hb3⟩;have hb4:=H2.B.trans (hb3.mono H2.B.size);have f0:=Q3 ((hb4.block _ (Q4 HV2.a)).trans HV2.a) 0 rfl;have f1:=Q3 ((hb4.block _ (Q4 HV2.a)).trans HV2.a) 1 rfl;have f2:=Q3 ((hb4.block _ (Q4 HV2.b)).trans HV2.b) 0 rfl;have f3:=Q3 ((hb4.block _ (Q4 HV2.b)).trans HV2.b) 1 rfl;have r0:=Q3 ((hb4.block _ (Q4 HV2.c)).trans HV2.c) 0 rfl;have r1:=Q3 ((hb4.block _ (Q4 HV2.c)).trans HV2.c) 1 rfl;have z0:=Q6 ((hb4.block _ (Q4 HV2.c)).trans HV2.c) 0;have z1:=Q6 ((hb4.block _ (Q4 HV2.c)).trans HV2.c) 1;obtain ⟨a3,c3,rfl,_⟩:=hr3.form;have H3:=h2_ hr3 hb4;clear hr3 hb3 hb4)))
   clear a0 a1 b0 b1 e0 e1 e2 e3 f0 f1 f2 f3 r0 r1 z0 z1;go_wp2_with fail;obtain ⟨y1,y2,y3⟩:=YR H3.a ((H3.B.block _ (Q4 HV2.c)).trans HV2.c) rfl (HV2.D.trans (H3.B.mono HV2.D.size)) (show w.heap.size<=w.heap.size+2 by omega);exact eG_ (Y2 rfl rfl y1 rfl) rfl ⟨_,rfl,y2,y3⟩
  ·have hge:y.natAbs<=x.natAbs:=(by unfold Zp.ord at ho;split at ho <;> omega);have ho2:Zp.ord x.natAbs y.natAbs≠ -1:=by
    unfold Zp.ord;rw[if_neg (by omega)];split <;> decide
   have hd:=Q4z (X:=x.natAbs) (Y:=y.natAbs) ho2;have hle:(wd y).length<=(wd x).length:=by
    rcases eS_ (wd x).length (wd y).length with h1 | h1
    ·have h2:=U8 (X:=x.natAbs) (Y:=y.natAbs) h1;omega
    ·exact h1
   have HM:Hid (∀ W,Below w.heap.size w W->Calls prog 137 #[.slice ax (wd x).length cx,.slice ay (wd y).length cy] W fun e w'=> ∃ v',e= .returned v'/\RdU w' v' (Zp.minus B32 (wd x) (wd y) 0)/\Below W.heap.size W w'):=
    hd_ fun W hb=> U7 (hrx.below hb) (hry.below hb) (by omega) hle (Xp x) (Xp y)
   have hz:∀ n,decide (x < 0)=n->x+y=(if n=true then -((Zp.val B32 (Zp.minus B32 (wd x) (wd y) 0):Nat):Int) else ((Zp.val B32 (Zp.minus B32 (wd x) (wd y) 0):Nat):Int)):=by
    intro n hn;rw[show Zp.val B32 (Zp.minus B32 (wd x) (wd y) 0)=Zp.val B32 (Zp.minus B32 (Zp.digs B32 x.natAbs) (Zp.digs B32 y.natAbs) 0) from rfl,hd, <-hn];have h2:¬ (x < 0↔y < 0):=(by simpa using hs);by_cases hy0:x < 0
    ·rw[if_pos (by simpa using hy0)];omega
    ·rw[if_neg (by simpa using hy0)];omega
   have hml:(Zp.minus B32 (wd x) (wd y) 0).length<=1073741824:=(by rw[Zp.Z6];omega);have hmd:Zp.Dig B32 (Zp.minus B32 (wd x) (wd y) 0):=Zp.UE (by decide) _ _ _ (Xp x) (Xp y) (by omega);obtain ⟨nx,hnx⟩:∃ b,decide (x < 0)=b:=⟨_,rfl⟩
   obtain ⟨ny,hny⟩:∃ b,decide (y < 0)=b:=⟨_,rfl⟩
   have hne:=hneq nx ny hnx hny;have HS:=h3_ hmd hml (hz nx hnx);have HC:=hd_ hcmp;rw[hnx,hny];rw[ho] at HC;have hge0:decide ((0:Int)<=o)=true:=by
    apply eM_;unfold Zp.ord at ho;split at ho
    ·omega
    ·split at ho <;> omega
   clear ho ho2 hge hc;clear hx hy hrx hry hlx hly hs hnx hny hz hml hmd hle hd hcmp hneq;go_in;go_wp2_with fail;obtain ⟨V,hV⟩:∃ V,((w.alloc (.cells #[.bool nx,.slice ax (wd x).length cx] 27)).alloc (.cells #[.bool ny,.slice ay (wd y).length cy] 27)).alloc (.cells #[.bool false,.slice none 0 0] 27)=V:=⟨_,rfl⟩
   have hbx:=box3 w #[.bool nx,.slice ax (wd x).length cx] 27 #[.bool ny,.slice ay (wd y).length cy] 27 #[.bool false,.slice none 0 0] 27;rw[hV] at hbx |-;have HV:=hd_ hbx;clear hbx hV;refine (HC.o _ HV.D).mono ?_;rintro e w4 ⟨rfl,hb⟩;have p0:=(hb.block _ (Q4 HV.a)).trans HV.a;have p1:=(hb.block _ (Q4 HV.b)).trans HV.b;have p2:=(hb.block _ (Q4 HV.c)).trans HV.c;have HV2:=h4_ p0 p1 p2 (HV.D.trans (hb.mono HV.D.size));clear p0 p1 p2 hb;dsimp only;go_wp2_with fail;have a0:=Q3 HV2.a 0 rfl;have a1:=Q3 HV2.a 1 rfl;have b0:=Q3 HV2.b 0 rfl;have b1:=Q3 HV2.b 1 rfl;go_region_held3 (fun w'=> w'.cell? ⟨w.heap.size,0,none⟩=some (.bool nx)/\w'.cell? ⟨w.heap.size,1,none⟩=some (.slice ax (wd x).length cx)/\w'.cell? ⟨w.heap.size+1,0,none⟩=some (.bool ny)/\w'.cell? ⟨w.heap.size+1,1,none⟩=some (.slice ay (wd y).length cy)) (first | exact ⟨a0,a1,b0,b1⟩ | exact ⟨e0,e1,e2,e3⟩ | exact ⟨f0,f1,f2,f3⟩ | exact ⟨Qr f0 (by omega),Qr f1 (by omega),Qr f2 (by omega),Qr f3 (by omega)⟩ | go_keep)
    ((first
     | (go_at_call 137;refine (HM.o _ (HV2.D.trans (Qf _ _))).mono ?_;rintro e w2 ⟨v2,rfl,hr2,hb2⟩;have hb3:=(Qf (B:=w4.heap.size) w4 1).trans (hb2.mono (Nat.le_refl w4.heap.size));have e0:=Q3 ((hb3.block _ (Q4 HV2.a)).trans HV2.a) 0 rfl;have e1:=Q3 ((hb3.block _ (Q4 HV2.a)).trans HV2.a) 1 rfl;have e2:=Q3 ((hb3.block _ (Q4 HV2.b)).trans HV2.b) 0 rfl;have e3:=Q3 ((hb3.block _ (Q4 HV2.b)).trans HV2.b) 1 rfl;have H2:=h2_ hr2 hb3;clear hr2 hb2 hb3)
     | (go_at_call 61;refine (QZ H2.a HS.b HS.a nx (x+y) HS.C).mono ?_;rintro e w3 ⟨v3,rfl,hr3,hb3⟩;have hb4:=H2.B.trans (hb3.mono H2.B.size);have f0:=Q3 ((hb4.block _ (Q4 HV2.a)).trans HV2.a) 0 rfl;have f1:=Q3 ((hb4.block _ (Q4 HV2.a)).trans HV2.a) 1 rfl;have f2:=Q3 ((hb4.block _ (Q4 HV2.b)).trans HV2.b) 0 rfl;have f3:=Q3 ((hb4.block _ (Q4 HV2.b)).trans HV2.b) 1 rfl;have r0:=Q3 ((hb4.block _ (Q4 HV2.c)).trans HV2.c) 0 rfl;have r1:=Q3 ((hb4.block _ (Q4 HV2.c)).trans HV2.c) 1 rfl;have z0:=Q6 ((hb4.block _ (Q4 HV2.c)).trans HV2.c) 0;have z1:=Q6 ((hb4.block _ (Q4 HV2.c)).trans HV2.c) 1;obtain ⟨a3,c3,rfl,_⟩:=hr3.form;have H3:=h2_ hr3 hb4;clear hr3 hb3 hb4)))
   clear a0 a1 b0 b1 e0 e1 e2 e3 f0 f1 f2 f3 r0 r1 z0 z1;go_wp2_with fail;obtain ⟨y1,y2,y3⟩:=YR H3.a ((H3.B.block _ (Q4 HV2.c)).trans HV2.c) rfl (HV2.D.trans (H3.B.mono HV2.D.size)) (show w.heap.size<=w.heap.size+2 by omega);exact eG_ (Y2 rfl rfl y1 rfl) rfl ⟨_,rfl,y2,y3⟩
end Go.Proofs.YtiecccakcenobaaGreatDoor
namespace Go.Proofs
def Tryz.cloneu32_ren:Go.Shelf.Ren:=⟨fun | 41=> 100 | n=> n,fun | 22=> 25 | 23=> 174 | 4=> 4 | n=> n,fun | n=> n⟩
theorem Tryz.cloneu32:Go.Proofs.SlLaysE0.n41 prog Tryz.cloneu32_ren:={
 mixed:=by kernel_rfl
 f41:=⟨Tryz.f100.name,by decide,Tryz.func100.trans (congrArg some (by kernel_rfl))⟩
 t4:=underlying4
 a4:=isAgg4
 z4:=sizeOf4
 v4:=zeroValue4
 t22:=underlying25
 a22:=isAgg25
 z22:=sizeOf25
 v22:=zeroValue25}
end Go.Proofs
namespace Go.Proofs.YtiecccakcenobaaGreatDoor
open Tryz
open Go.RowKit
variable {a:Act} {ops:Array Oper} {Q:Exit->Act->World->Prop} {ss xs:List Value} {n:Nat} {o:Oper} {P:Program} {l:Tp.L} {v:Value} {W W3 w w':World}
theorem Q6I:(prog.info? 174).map (fun i=> (i.zero,i.size,i.bytes))=some (some (.int .u32 0),1,4):=by kernel_rfl
theorem Q5h {P:Nat->Prop} (h:RdS w P 1 v n xs) (hn:n<=1073741824) (h1:∀ u∈xs,u.oneCell'=true):
  Calls prog 100 #[v] w fun e w'=> ∃ v',e= .returned v'/\w'.ownsRow w.heap.size 174 1 v' n xs/\Below w.heap.size w w':=by
 obtain ⟨hl,a,c,rfl,hc,⟨rfl,rfl⟩ | ⟨b,off,rfl,_,hr⟩⟩:=h
 ·have:xs= []:=List.eq_nil_of_length_eq_zero (by simpa using hl);subst this;exact (AnyE.slices_Clone_nil Tryz.cloneu32 0 c w).mono fun e w' ⟨h1,h2⟩=> ⟨_,h1,World.ownsRow_nil _ _ _ _,by rw[h2];exact eB_ _ _⟩
 ·obtain ⟨i0,hi,hz0,hz1,hz2⟩:=Qw Q6I;exact (AnyE.slices_Clone Tryz.cloneu32 i0 (.int .u32 0) 1 4 hi hz0 hz1 hz2 rfl (by decide) (fun w=> by kernel_rfl) b off n c xs w hl (by unfold maxLen;omega) (by omega) hr h1).mono
   fun e w' ⟨v',q1,q2,_,q3⟩=> ⟨v',q1,q2,q3⟩
theorem Q3u {vx vy:Value} {x y:Int} (hx:Num w vx x) (hy:Num w vy y) (hlx:(wd x).length<=1073741820) (hly:(wd y).length<=1073741820):
  Calls prog 109 #[vx,vy] w fun e w'=> ∃ v',e= .returned v'/\Num w' v' (x - y)/\Below w.heap.size w w':=by
 have hneg:(wd (-y)).length<=1073741820:=by rw[show wd (-y)=wd y from by unfold wd;rw[Int.natAbs_neg]];exact hly
 have HH:=h5_ hx hy hlx hly hneg;obtain ⟨ax,cx,rfl,hrx⟩:=hx.form;obtain ⟨ay,cy,rfl,hry⟩:=hy.form;obtain ⟨nx,hnx⟩:∃ b,decide (x < 0)=b:=⟨_,rfl⟩
 obtain ⟨ny,hny⟩:∃ b,decide (y < 0)=b:=⟨_,rfl⟩
 rw[hnx,hny] at HH |-;rw[Int.sub_eq_add_neg];clear hx hy hrx hry hlx hly hneg hnx hny;go_in;go_wp2_with fail;obtain ⟨V,hV⟩:∃ V,((w.alloc (.cells #[.bool nx,.slice ax (wd x).length cx] 27)).alloc (.cells #[.bool ny,.slice ay (wd y).length cy] 27)).alloc (.cells #[.bool false,.slice none 0 0] 27)=V:=⟨_,rfl⟩
 have hbx:=box3 w #[.bool nx,.slice ax (wd x).length cx] 27 #[.bool ny,.slice ay (wd y).length cy] 27 #[.bool false,.slice none 0 0] 27;rw[hV] at hbx |-;have HV:=hd_ hbx;clear hbx hV;have a0:=Q3 HV.a 0 rfl;have a1:=Q3 HV.a 1 rfl;have b0:=Q3 HV.b 0 rfl;have b1:=Q3 HV.b 1 rfl;go_region_held3 (fun w'=> w'.cell? ⟨w.heap.size,0,none⟩=some (.bool nx)/\w'.cell? ⟨w.heap.size,1,none⟩=some (.slice ax (wd x).length cx)/\w'.cell? ⟨w.heap.size+1,0,none⟩=some (.bool ny)/\w'.cell? ⟨w.heap.size+1,1,none⟩=some (.slice ay (wd y).length cy)) (first | exact ⟨a0,a1,b0,b1⟩ | exact ⟨e0,e1,e2,e3⟩ | exact ⟨f0,f1,f2,f3⟩ | exact ⟨Qr f0 (by omega),Qr f1 (by omega),Qr f2 (by omega),Qr f3 (by omega)⟩ | go_keep)
  ((first
   | (go_at_call 56;refine (Q3t (HH.b.below (HV.D.trans (Qf _ _))) (by have:=HH.d;omega)).mono ?_;rintro e w2 ⟨v2,rfl,hr2,hb2⟩;have hb3:=(Qf (B:=V.heap.size) V 1).trans (hb2.mono (Nat.le_refl V.heap.size));have e0:=Q3 ((hb3.block _ (Q4 HV.a)).trans HV.a) 0 rfl;have e1:=Q3 ((hb3.block _ (Q4 HV.a)).trans HV.a) 1 rfl;have e2:=Q3 ((hb3.block _ (Q4 HV.b)).trans HV.b) 0 rfl;have e3:=Q3 ((hb3.block _ (Q4 HV.b)).trans HV.b) 1 rfl;have H2:=h2_ hr2 hb3;clear hr2 hb2 hb3)
   | (go_at_call 101;refine (Zs ((HH.a.below HV.D).below H2.B) H2.a HH.c HH.E).mono ?_;rintro e w3 ⟨v3,rfl,hr3,hb3⟩;have hb4:=H2.B.trans (hb3.mono H2.B.size);have f0:=Q3 ((hb4.block _ (Q4 HV.a)).trans HV.a) 0 rfl;have f1:=Q3 ((hb4.block _ (Q4 HV.a)).trans HV.a) 1 rfl;have f2:=Q3 ((hb4.block _ (Q4 HV.b)).trans HV.b) 0 rfl;have f3:=Q3 ((hb4.block _ (Q4 HV.b)).trans HV.b) 1 rfl;have r0:=Q3 ((hb4.block _ (Q4 HV.c)).trans HV.c) 0 rfl;have r1:=Q3 ((hb4.block _ (Q4 HV.c)).trans HV.c) 1 rfl;have z0:=Q6 ((hb4.block _ (Q4 HV.c)).trans HV.c) 0;have z1:=Q6 ((hb4.block _ (Q4 HV.c)).trans HV.c) 1;obtain ⟨a3,c3,rfl,_⟩:=hr3.form;have H3:=h2_ hr3 hb4;clear hr3 hb3 hb4)))
 clear a0 a1 b0 b1 e0 e1 e2 e3 f0 f1 f2 f3 r0 r1 z0 z1;go_wp2_with fail;obtain ⟨y1,y2,y3⟩:=YR H3.a ((H3.B.block _ (Q4 HV.c)).trans HV.c) rfl (HV.D.trans (H3.B.mono HV.D.size)) (show w.heap.size<=w.heap.size+2 by omega);exact eG_ (Y2 rfl rfl y1 rfl) rfl ⟨_,rfl,y2,y3⟩
def pairCells (q:(Tp.Nm × Int) × Value):List Value:= [.string ⟨q.1.1.toArray⟩,.bool (decide (q.1.2 < 0)),q.2]
theorem Jw (q:(Tp.Nm × Int) × Value):(pairCells q).length=3:=rfl
def prCells (l:Tp.L) (ss:List Value):List Value:=(l.zip ss).flatMap pairCells
structure PWords (w:World) (l:Tp.L) (ss:List Value):Prop where
 len:ss.length=l.length
 rd:∀ (i:Nat) (p:Tp.Nm × Int) (s:Value),l[i]? =some p->ss[i]? =some s->RdU w s (wd p.2)
theorem PWords.keep (h:PWords w l ss) (hk:∀ s ws,RdU w s ws->RdU w' s ws):PWords w' l ss:=⟨h.len,fun i p s h1 h2=> hk _ _ (h.rd i p s h1 h2)⟩
theorem PWords.nil (w:World):PWords w [] []:=⟨rfl,fun i p s h1 _=> by simp at h1⟩
theorem XT (h:ss.length=l.length):(prCells l ss).length=l.length*3:=by
 rw[prCells,ZK Jw,List.length_zip,h,Nat.min_self]
theorem Y3 (p:Tp.Nm × Int) (l:Tp.L) (s:Value) (ss:List Value):prCells (p::l) (s::ss)=pairCells (p,s)++prCells l ss:=rfl
theorem Xz:∀ {l m:Tp.L} {ss tt:List Value},ss.length=l.length->prCells (l++m) (ss++tt)=prCells l ss++prCells m tt
 | [],m, [],tt,_=> rfl
 | p::l,m,s::ss,tt,h=> by
  rw[List.cons_append,List.cons_append,Y3,Y3,Xz (by simpa using h),eQ_]
 | [],_,_::_,_,h=> by simp at h
 | _::_,_, [],_,h=> by simp at h
theorem PWords.one (h:PWords w l ss):∀ u∈prCells l ss,u.oneCell'=true:=by
 intro u hu;obtain ⟨q,hq,hu⟩:=List.mem_flatMap.1 hu;obtain ⟨i,hi,rfl⟩:=List.getElem_of_mem hq;rw[List.length_zip] at hi;rw[List.getElem_zip] at hu;obtain ⟨a,c,e,_⟩:=(h.rd i l[i] ss[i] (eA_ (by omega)) (eA_ (by omega))).form;simp only[pairCells,List.mem_cons,List.mem_nil_iff,or_false] at hu;rcases hu with rfl | rfl | rfl
 ·rfl
 ·rfl
 ·rw[e];rfl
def RdP (w:World) (v:Value) (l:Tp.L):Prop:=∃ ss,PWords w l ss/\RdB 112 w 3 v l.length (prCells l ss)
theorem RdP.below {w w':World} {v:Value} {l:Tp.L} (h:RdP w v l) (hb:Below w.heap.size w w'):RdP w' v l:=by
 obtain ⟨ss,h1,h2⟩:=h;exact ⟨ss,h1.keep fun _ _ h=> h.below hb,h2.below hb⟩
theorem RdP.form (h:RdP w v l):∃ a c,v= .slice a l.length c/\l.length<=c:=by
 obtain ⟨ss,_,_,a,c,e,hc,_⟩:=h;exact ⟨a,c,e,hc⟩
theorem Q6J {i:Nat} {p:Tp.Nm × Int} {s:Value} (h1:l[i]? =some p) (h2:ss[i]? =some s):(l.zip ss)[i]? =some (p,s):=by
 rw[List.getElem?_zip_eq_some];exact ⟨h1,h2⟩
theorem RdP.at {a:Option Addr} {c:Nat} (h:RdP w (.slice a n c) l) {i:Nat} {p:Tp.Nm × Int} (hp:l[i]? =some p):
  ∃ b off s,a=some ⟨b,off,none⟩/\w.cell? ⟨b,off+i*3,none⟩=some (.string ⟨p.1.toArray⟩)/\w.cell? ⟨b,off+i*3+1,none⟩=some (.bool (decide (p.2 < 0)))/\w.cell? ⟨b,off+i*3+2,none⟩=some s/\RdU w s (wd p.2):=by
 obtain ⟨ss,h1,_,a2,c2,e,hc,h2⟩:=h;injection e with e1 e2 e3;subst e1 e2 e3;have hi:=(List.getElem?_eq_some_iff.1 hp).1;obtain ⟨s,hs⟩:∃ s,ss[i]? =some s:=⟨_,eA_ (by rw[h1.len];exact hi)⟩
 rcases h2 with ⟨_,h2⟩ | ⟨b,off,rfl,_,h2⟩
 ·omega
 ·have h3:=QV Jw h2 (Q6J hp hs);exact ⟨b,off,s,rfl,h3 0 _ rfl,h3 1 _ rfl,h3 2 _ rfl,h1.rd i p s hp hs⟩
def MapR (w:World) (m:Nat) (l:Tp.L):Prop:=∃ v,w.heap[m]? =some (.cells #[v] 126 (0,0))/\RdP w v l
theorem MapR.below {w w':World} {m:Nat} {l:Tp.L} (h:MapR w m l) (hb:Below w.heap.size w w'):MapR w' m l:=by
 obtain ⟨v,h1,h2⟩:=h;exact ⟨v,(hb.block _ (Q4 h1)).trans h1,h2.below hb⟩
def ncmp (x y:Tp.Nm):Int:=if x < y then -1 else if y < x then 1 else 0
theorem XA (l:List UInt8):(⟨l.toArray⟩:ByteArray).toList=l:=ByteArray.toList_mk l
theorem QS (x y:Tp.Nm):(x==y)=decide (x=y):=by
 by_cases h:x=y
 ·rw[h];simp
 ·rw[eK_ h,beq_eq_false_iff_ne];exact h
theorem ZT (x:Tp.Nm) (w:World):Calls prog 134 #[.string ⟨x.toArray⟩] w fun e w'=> e= .returned (.bool false)/\w=w':=by
 go_in;go_wp2;go_ret;exact ⟨rfl,rfl⟩
theorem Le (x y:Tp.Nm) (w:World):Calls prog 97 #[.string ⟨x.toArray⟩,.string ⟨y.toArray⟩] w fun e w'=> e= .returned (.int .i64 (ncmp x y))/\w=w':=by
 have hl:Op.bytesLess (⟨x.toArray⟩:ByteArray).toList (⟨y.toArray⟩:ByteArray).toList=decide (x < y):=by rw[XA,XA,bytesLess_eq]
 have he:((⟨x.toArray⟩:ByteArray).toList==(⟨y.toArray⟩:ByteArray).toList)=decide (x=y):=by rw[XA,XA];exact QS x y
 have hl2:Op.bytesLess x y=decide (x < y):=bytesLess_eq x y;have he2:(x==y)=decide (x=y):=QS x y;unfold ncmp;rcases Tp.ZI x y with h | h | h
 ·rw[if_pos h];have h1:decide (x < y)=true:=eM_ h;rw[h1] at hl hl2;clear he he2 h h1;go_in;go_wp2_with ((go_at_call 134;refine (ZT _ _).mono ?_;rintro e w' ⟨rfl,rfl⟩));go_ret;exact ⟨rfl,rfl⟩
 ·subst h;rw[if_neg (Tp.XW x),if_neg (Tp.XW x)];have h1:decide (x < x)=false:=eK_ (Tp.XW x);have h2:decide (x=x)=true:=eM_ rfl;rw[h1] at hl hl2;rw[h2] at he he2;clear h1 h2;go_in;go_wp2_with ((go_at_call 134;refine (ZT _ _).mono ?_;rintro e w' ⟨rfl,rfl⟩));go_ret;exact ⟨rfl,rfl⟩
 ·rw[if_neg (Tp.Q1f h),if_pos h];have h1:decide (x < y)=false:=eK_ (Tp.Q1f h);have h2:decide (x=y)=false:=eK_ (fun e=> Tp.XW y (by rw[e] at h;exact h));rw[h1] at hl hl2;rw[h2] at he he2;clear h1 h2 h;go_in;go_wp2_with ((go_at_call 134;refine (ZT _ _).mono ?_;rintro e w' ⟨rfl,rfl⟩));go_ret;exact ⟨rfl,rfl⟩
theorem Q1G {x y:Tp.Nm}:(ncmp x y < 0)↔x < y:=by
 unfold ncmp;split
 ·simp[*]
 ·split <;> simp[*]
theorem LN {x y:Tp.Nm}:(ncmp x y=0)↔x=y:=by
 unfold ncmp;rcases Tp.ZI x y with h | h | h
 ·rw[if_pos h];exact ⟨fun e=> absurd e (by decide),fun e=> absurd h (by rw[e];exact Tp.XW y)⟩
 ·rw[h,if_neg (Tp.XW y),if_neg (Tp.XW y)];simp
 ·rw[if_neg (Tp.Q1f h),if_pos h];exact ⟨fun e=> absurd e (by decide),fun e=> absurd h (by rw[e];exact Tp.XW y)⟩
theorem Gj (x y:Tp.Nm) (b:Bool) (s:Value) (hs:∃ a n c,s= .slice a n c) (w:World):
  Calls prog 96 #[.agg #[.string ⟨x.toArray⟩,.bool b,s],.string ⟨y.toArray⟩] w fun e w'=> e= .returned (.int .i64 (ncmp x y))/\Below w.heap.size w w':=by
 obtain ⟨a,n,c,rfl⟩:=hs;go_in;go_wp2_with ((go_at_call 97;refine (Le _ _ _).mono ?_;rintro e w' ⟨rfl,rfl⟩));go_ret;exact ⟨rfl,(eB_ _ _).alloc (rl_ _) _⟩
def Found (l:Tp.L) (k:Tp.Nm) (w:World) (e:Ending) (w':World):Prop:=∃ i:Nat,e= .returned (.tuple #[.int .i64 i,.bool (Tp.has l k)])/\Tp.At l k i/\Below w.heap.size w w'
def BsRel (w:World) (l:Tp.L) (k:Tp.Nm) (gk:Nat) (v9 v10:Value) (wr:World):Prop:=
 ∃ i j:Nat,v9= .int .i64 i/\v10= .int .i64 j/\gk=j - i/\i<=j/\j<=l.length/\(∀ p∈l.take i,p.1 < k)/\(∀ p∈l.drop j,¬ p.1 < k)/\Below w.heap.size w wr
theorem LO (hr:Tp.Rise l) {h:Nat} {p:Tp.Nm × Int} (hp:l[h]? =some p):(∀ q∈l.take h,q.1 < p.1)/\(∀ q∈l.drop (h+1),p.1 < q.1)/\l.take (h+1)=l.take h++ [p]/\l.drop h=p::l.drop (h+1):=by
 obtain ⟨hh,e⟩:=List.getElem?_eq_some_iff.1 hp;have e1:l.take (h+1)=l.take h++ [p]:=by rw[List.take_add_one,hp];rfl
 have e2:l.drop h=p::l.drop (h+1):=by rw[List.drop_eq_getElem_cons hh,e]
 have e3:l.take h++p::l.drop (h+1)=l:=by rw[<-e2,eW_]
 have hr2:Tp.Rise (l.take h++p::l.drop (h+1)):=by rw[e3];exact hr
 obtain ⟨h1,h2,h3⟩:=List.pairwise_append.1 hr2;exact ⟨fun q hq=> h3 q hq p eX_,fun q hq=> (List.pairwise_cons.1 h2).1 q hq,e1,e2⟩
theorem Lf (h:RdP w v l) (hr:Tp.Rise l) (hl:l.length<=1073741824) (k:Tp.Nm):
  Calls prog 95 #[v,.string ⟨k.toArray⟩,.func (.func 96) #[] #[]] w (Found l k w):=by
 obtain ⟨a,c,rfl,hc⟩:=h.form;have HH:=h3_ h hr hl;have hl':(l.length:Int)<=1073741824:=by omega
 clear h hr hl;go_in;go_wp2_with fail;go_loopg [9,10] l.length (fun gk v9 v10 wr=> BsRel w l k gk v9 v10 wr)
 case atStart=> exact ⟨0,l.length,rfl,rfl,rfl,eV_ _,rl_ _,fun p hp=> by simp at hp,fun p hp=> by simp at hp,eB_ _ _⟩
 case round=>
  obtain ⟨i,j,rfl,rfl,hk,hij,hj,hlo,hhi,hb⟩:=hrel;have HR:=h4_ hk hlo hhi hb;clear hk hlo hhi hb;by_cases hlt:i < j
  ·have hlt':decide (i < j)=true:=eM_ hlt;obtain ⟨h,hh⟩:∃ h,(i+j) / 2=h:=⟨_,rfl⟩
   have hh1:i<=h:=(by omega);have hh2:h < j:=(by omega);have hi':(i:Int)<=1073741824:=(by omega);have hj':(j:Int)<=1073741824:=(by omega);have hhl:(h:Int) < (l.length:Int):=(by omega);have hmid:((i:Int)+(j:Int)) / 2=(h:Int):=(by omega);obtain ⟨p,hp⟩:∃ p,l[h]? =some p:=⟨_,eA_ (by omega)⟩
   obtain ⟨b,off,s,ea,c0,c1,c2,hs⟩:=(HH.a.below HR.D).at hp;obtain ⟨aw,cw,ew,_⟩:=hs.form;have HP:=h2_ hp (LO HH.b hp);obtain rfl:=ea;subst ew;have hcall:=fun W=> Gj p.1 k (decide (p.2 < 0)) (.slice aw (wd p.2).length cw) ⟨_,_,_,rfl⟩ W;have HC:=hd_ hcall;clear hp hs hlt hh hcall;by_cases hcm:p.1 < k
   ·have hn:decide (ncmp p.1 k < 0)=true:=eM_ (Q1G.2 hcm);have HN:=hd_ hcm;clear hcm;go_wp2_with fail;refine (HC.o _).mono ?_;rintro e w2 ⟨rfl,hb2⟩;have HB:=hd_ (HR.D.trans (hb2.mono HR.D.size));clear hb2;dsimp only;go_wp2_with fail;go_roundg (j - (h+1))
    case measure=> have:=HR.a;omega
    case rel=>
     refine ⟨h+1,j,by go_num,rfl,rfl,by omega,hj,?_,HR.c,HB.o⟩;intro q hq;rw[HP.d] at hq;rcases List.mem_append.1 hq with hq | hq
     ·exact Tp.ZE (HP.b q hq) HN.o
     ·rw[List.mem_singleton.1 hq];exact HN.o
   ·have hn:decide (ncmp p.1 k < 0)=false:=eK_ (fun e=> hcm (Q1G.1 e));have HN:=hd_ hcm;clear hcm;go_wp2_with fail;refine (HC.o _).mono ?_;rintro e w2 ⟨rfl,hb2⟩;have HB:=hd_ (HR.D.trans (hb2.mono HR.D.size));clear hb2;dsimp only;go_wp2_with fail;go_roundg (h - i)
    case measure=> have:=HR.a;omega
    case rel=>
     refine ⟨i,h,rfl,rfl,rfl,hh1,by omega,HR.b,?_,HB.o⟩;intro q hq;rw[HP.E] at hq;rcases List.mem_cons.1 hq with rfl | hq
     ·exact HN.o
     ·exact fun e=> HN.o (Tp.ZE (HP.c q hq) e)
  ·obtain rfl:i=j:=(by omega);have hlt2:decide (i < i)=false:=eK_ (by omega);have hat:Tp.At l k i:=⟨hj,HR.b,HR.c⟩
   have HA:=h2_ hat (hat.has HH.b);clear hat hlt;by_cases hin:i < l.length
   ·have hin2:decide (i < List.length l)=true:=eM_ hin;have hin':(i:Int) < (l.length:Int):=(by omega);obtain ⟨p,hp⟩:∃ p,l[i]? =some p:=⟨_,eA_ hin⟩
    obtain ⟨b,off,s,ea,c0,c1,c2,hs⟩:=(HH.a.below HR.D).at hp;obtain ⟨aw,cw,ew,_⟩:=hs.form;have hhas:Tp.has l k=decide (p.1=k):=(by rw[HA.B,hp];simp);obtain rfl:=ea;subst ew;have hcall:=fun W=> Gj p.1 k (decide (p.2 < 0)) (.slice aw (wd p.2).length cw) ⟨_,_,_,rfl⟩ W;have HC:=h2_ hcall hhas;have hz:(ncmp p.1 k==0)=decide (p.1=k):=by
     by_cases e:p.1=k
     ·rw[eM_ e,beq_iff_eq,LN];exact e
     ·rw[eK_ e,beq_eq_false_iff_ne];exact fun h=> e (LN.1 h)
    have HZ:=hd_ hz;clear hp hs hcall hhas hin hz;go_wp2_with fail;refine (HC.a _).mono ?_;rintro e w2 ⟨rfl,hb2⟩;have HB:=hd_ (HR.D.trans (hb2.mono HR.D.size));clear hb2;dsimp only;go_wp2_with fail;rw[HZ.o];go_ret2;exact ⟨i,by rw[HC.B];rfl,HA.a,HB.o⟩
   ·have hin2:decide (i < List.length l)=false:=eK_ hin;have hhas:Tp.has l k=false:=(by rw[HA.B,List.getElem?_eq_none (by omega)];simp);have HC:=hd_ hhas;clear hin hhas;go_wp2_with fail;go_ret2;exact ⟨i,by rw[HC.o];rfl,HA.a,HR.D⟩
theorem YE (w:World) (t ty:TypeId) (base:Nat) (e:TypeId) (i:TypeInfo) (z:Value) (size bytes:Nat) (ht:P.underlying t=some (.slice e)) (hi:P.info? e=some i) (hz:i.zero=some z)
  (hsize:i.size=size) (hby:i.bytes=bytes) (hzs:z.cells.size=size) (hsz:0 < size)
  (v:Value) (n:Nat) (xs:List Value) (hown:w.ownsRow base e size v n xs) {Q:Nat->Prop} {x:Value} {m:Nat} {news:List Value} (hx:RdS w Q size x m news) (h1:∀ u∈news,u.oneCell'=true)
  (h63:n+m<=maxLen) (hbytes:(n+m)*bytes<=140737488355328) (hbase:base<=w.heap.size):
  ∃ a cap w',(Builtin.append_ #[t,t] ty #[v,x]).run P w= .ok (.slice a (n+m) cap) w'/\
   w'.ownsRow base e size (.slice a (n+m) cap) (n+m) (xs++news)/\w.grownBy w' v.ownBlock/\(∀ k,(Value.slice a (n+m) cap).ownBlock=some k->v.ownBlock=some k\/k=w.heap.size):=by
 obtain ⟨hl,ax,cx,rfl,hmc,hr⟩:=hx;rcases Nat.eq_zero_or_pos m with h0 | h0
 ·subst h0;obtain rfl:news= []:=List.eq_nil_of_length_eq_zero (by simpa using hl);have hs:Src P i.size t (.slice ax 0 cx) 0 [] w:=by
   rcases ax with _ | ad
   ·exact Src.ofNil w ht cx
   ·exact Src.ofSlice w ht ad 0 cx [] (by simp) (fun j u h=> by simp at h) (fun u h=> by cases h)
  have key:∃ a c,v= .slice a n c/\n<=c:=by
   rcases hown.2 with ⟨rfl,rfl⟩ | ⟨g,cap,cur,rfl,_,_,hn,_⟩
   ·exact ⟨none,0,rfl,rl_ _⟩
   ·exact ⟨_,cap,rfl,hn⟩
  obtain ⟨a,c,rfl,hnc⟩:=key;refine ⟨a,c,w,run_append_nothing (P:=P) w t t ty e i ht hi a n c hnc _ hs,by simpa using hown,⟨rfl,rfl,rfl,rl_ _,fun _ _ _=> rfl⟩,fun k hk=> Or.inl hk⟩
 ·rcases hr with ⟨_,h⟩ | ⟨b,off,rfl,_,hrg⟩
  ·omega
  ·obtain ⟨g,cap,w',hr,h2,h3,h4,h5⟩:=run_append_lies (P:=P) w t ty base e i z size bytes ht hi hz hsize hby hzs hsz v n xs hown ⟨b,off,none⟩ m cx news hl (fun j u hj=> by
    have:=hrg j u hj;rwa [Addr.add_mid]) h1 h0 h63 hbytes hbase w.heap.size rfl
   refine ⟨some ⟨g,0,none⟩,cap,w',hr,h2,h3,fun k hk=> ?_⟩;simp only[Value.ownBlock,Option.some.injEq] at hk;subst hk;exact h4
def layAt (cur:Array Value) (o:Nat) (vs:List Value):Array Value:=(cur.toList.take o++vs++cur.toList.drop (o+vs.length)).toArray
theorem Ya {cur:Array Value} {o:Nat} {vs:List Value} (h:o+vs.length<=cur.size):(layAt cur o vs).size=cur.size:=by
 simp[layAt];omega
theorem U9 {g:Nat} {T:TypeId}:∀ (vs:List Value) (o:Nat) (cur:Array Value) (w:World),w.heap[g]? =some (.cells cur T (0,0))->o+vs.length<=cur.size->w.setCells g o vs=w.setRow g (layAt cur o vs)
 | [],o,cur,w,hg,_=> by
  have e:layAt cur o []=cur:=by simp[layAt]
  rw[e,setRow_self w g cur T (0,0) hg];rfl
 | v::rest,o,cur,w,hg,hl=> by
  have hs:o < cur.size:=by simp at hl;omega
  show (w.setCell ⟨g,o,none⟩ v).setCells g (o+1) rest=_;have h2:(w.setCell ⟨g,o,none⟩ v).heap[g]? =some (.cells (cur.setIfInBounds o v) T (0,0)):=Qx hg v;rw[U9 rest (o+1) _ _ h2 (by simp at hl |-;omega),setCell_eq_setRow w g o cur T (0,0) v hg,setRow_setRow];congr 1;unfold layAt;have e:=list_seg_step cur.toList o v rest (by simp at hl |-;omega);simpa [Array.toList_setIfInBounds,Nat.add_assoc,Nat.add_comm 1] using congrArg List.toArray e
theorem Je (w:World) (dT sT ty elem:TypeId) (size g o dLen dCap:Nat) (a:Addr) (sLen sCap:Nat) (cur:Array Value) (t:TypeId) (cs:List Value)
  (hu:P.underlying dT=some (.slice elem)) (hs:(P.info? elem).map (·.size)=some size)
  (hg:w.heap[g]? =some (.cells cur t (0,0))) (hn:cs.length=Nat.min sLen dLen*size)
  (hsrc:∀ j v,cs[j]? =some v->w.cell? (a.add j)=some v) (hfit:o+cs.length<=cur.size) (h1:∀ v∈cs,v.oneCell'=true):
  (Builtin.copy_ #[dT,sT] ty #[.slice (some ⟨g,o,none⟩) dLen dCap,.slice (some a) sLen sCap]).run P w= .ok (goInt (Nat.min sLen dLen)) (w.setRow g (layAt cur o cs)):=by
 have hl:=run_loadCells_list (P:=P) w a cs hsrc;have hst:=run_storeCells_at P g o t cs 0 cur w hg (by simpa using hfit) h1;cases hq:P.info? elem with
 | none=> simp[hq] at hs
 | some i=>
  have hi:i.size=size:=by simpa [hq] using hs
  simp[Builtin.copy_,run_underlying hu,Builtin.lenOf,Builtin.firstCells,sizeOf,typeInfo,hq,hi, <-hn,hl,hst,layAt]
theorem Q3v (w:World) (t ty elem:TypeId) (z:Value) (g o n c:Nat) (cur:Array Value) (T:TypeId) (hu:P.underlying t=some (.slice elem)) (hz:(zeroValue elem).run P w= .ok z w)
  (hg:w.heap[g]? =some (.cells cur T (0,0))) (hn:0 < n) (hfit:o+(Builtin.zeroCells z.cells n).size<=cur.size) (h1:∀ v∈(Builtin.zeroCells z.cells n).toList,v.oneCell'=true):
  (Builtin.clear_ #[t] ty #[.slice (some ⟨g,o,none⟩) n c]).run P w= .ok (.tuple #[]) (w.setRow g (layAt cur o (Builtin.zeroCells z.cells n).toList)):=by
 have hst:=run_storeCells_at P g o T (Builtin.zeroCells z.cells n).toList 0 cur w hg (by simpa using hfit) h1;obtain ⟨m,rfl⟩:∃ m,n=m+1:=⟨n - 1,by omega⟩
 simp[Builtin.clear_,run_underlying hu,hz,hst,layAt]
theorem Di {rest:List Oper} (hgd:o.guard=none) (d s:Operand) (t t':TypeId)
  (ho:o.op= .call {callee:= .builtin .copy,args:= #[d,s],argTypes:= #[t,t']}) (v u:Value) (hd:a.eval d=v) (hs:a.eval s=u) {v':Value} {w':World}
  (hr:(Builtin.copy_ #[t,t'] o.type #[v,u]).run P w= .ok v' w') (h:wpList P ops Q rest (a.put o.dst v') w'):wpList P ops Q (o::rest) a w:=by
 refine wpList_plain hgd fun K hK=> ?_;unfold Oper.wp execOp;simp only[ho,resolve,invoke,builtin,Sem.run_bind,Sem.run_pure,Result.andThen_ok,List.map_toArray,List.map_cons,List.map_nil,hd,hs,hr];exact hK _ _ h
theorem QN {rest:List Oper} (hgd:o.guard=none) (s x:Operand) (t:TypeId)
  (ho:o.op= .call {callee:= .builtin .append,args:= #[s,x],argTypes:= #[t,t]})
  (base:Nat) (e:TypeId) (i:TypeInfo) (z:Value) (size bytes:Nat) (ht:P.underlying t=some (.slice e)) (hi:P.info? e=some i) (hz:i.zero=some z)
  (hsize:i.size=size) (hby:i.bytes=bytes) (hzs:z.cells.size=size) (hsz:0 < size)
  (v:Value) (n:Nat) (xs:List Value) (hs:a.eval s=v) (hown:w.ownsRow base e size v n xs) {R:Nat->Prop} {xv:Value} {m:Nat} {news:List Value} (hxv:a.eval x=xv) (hx:RdS w R size xv m news) (h1:∀ u∈news,u.oneCell'=true)
  (h63:n+m<=maxLen) (hbytes:(n+m)*bytes<=140737488355328) (hbase:base<=w.heap.size)
  (h:∀ a2 cap w',w'.ownsRow base e size (.slice a2 (n+m) cap) (n+m) (xs++news)->w.grownBy w' v.ownBlock->(∀ k,(Value.slice a2 (n+m) cap).ownBlock=some k->v.ownBlock=some k\/k=w.heap.size)->wpList P ops Q rest (a.put o.dst (.slice a2 (n+m) cap)) w'):
  wpList P ops Q (o::rest) a w:=by
 refine wpList_plain hgd fun K hK=> ?_;obtain ⟨a2,cap,w',hr,h2,h3,h4⟩:=YE (P:=P) w t o.type base e i z size bytes ht hi hz hsize hby hzs hsz v n xs hown hx h1 h63 hbytes hbase;unfold Oper.wp execOp;simp only[ho,resolve,invoke,builtin,Sem.run_bind,Sem.run_pure,Result.andThen_ok,List.map_toArray,List.map_cons,List.map_nil,hs,hxv,hr];exact hK _ _ (h a2 cap w' h2 h3 h4)
def Off (Q:Nat->Prop) (v:Value) (k:Nat):Prop:=Q k/\v.ownBlock≠some k
theorem Off.up {Q:Nat->Prop} (h:Up Q W) {base n size:Nat} {e:TypeId} {xs:List Value} (ho:W.ownsRow base e size v n xs):Up (Off Q v) W:=fun k hk=> ⟨h k hk,fun e=> by
 have:=(ho.lt k e).2;omega⟩
theorem FrT.grown {ts:List TypeId} {Wr:World} (h:FrT ts W Wr) (hg:Wr.grownBy W3 v.ownBlock) (hv:∀ k,v.ownBlock=some k->W.heap.size<=k):FrT ts W W3:=by
 refine ⟨hg.os.trans h.os,hg.tape.trans h.tape,hg.output.trans h.output,eE_ h.size hg.size,fun k o hk hn=> ?_⟩;have h1:=h.block k o hk hn;rw[hg.block k (Q4 h1) fun e=> ?_,h1];have:=hv k e.symm;have:=Q4 hk;omega
theorem PI.appended {Q:Nat->Prop} {w0:World} {p b base:Nat} {tk:List Tr.Tk} {dp:Int} {s:Ps.St} {v3:Value} (h:PI (Off Q v) w0 W p b tk dp s) (ho:W.ownsRow base 3 1 v n xs) (hbase:w0.heap.size<=base)
  (hg:W.grownBy W3 v.ownBlock) (hat:∀ k,v3.ownBlock=some k->v.ownBlock=some k\/k=W.heap.size):PI (Off Q v3) w0 W3 p b tk dp s:=by
 have h1:PI (fun k=> Off Q v k/\k≠W.heap.size) w0 W p b tk dp s:=h.imp fun k hk hq=> ⟨hq,by omega⟩;refine (h1.grown ho hbase (fun k hk hq=> hq.1.2 hk) hg).imp fun k _ hq=> ⟨hq.1.1,fun e=> ?_⟩;rcases hat k e with h2 | h2
 ·exact hq.1.2 h2
 ·exact hq.2 h2
end Go.Proofs.YtiecccakcenobaaGreatDoor
namespace Go.Proofs
def Tryz.clonepr_ren:Go.Shelf.Ren:=⟨fun | 41=> 131 | n=> n,fun | 22=> 109 | 23=> 112 | 4=> 4 | n=> n,fun | n=> n⟩
theorem Tryz.clonepr:Go.Proofs.SlLaysE0.n41 prog Tryz.clonepr_ren:={
 mixed:=by kernel_rfl
 f41:=⟨Tryz.f131.name,by decide,Tryz.func131.trans (congrArg some (by kernel_rfl))⟩
 t4:=underlying4
 a4:=isAgg4
 z4:=sizeOf4
 v4:=zeroValue4
 t22:=underlying109
 a22:=isAgg109
 z22:=sizeOf109
 v22:=zeroValue109}
end Go.Proofs
namespace Go.Proofs.YtiecccakcenobaaGreatDoor
open Tryz
open Go.RowKit
variable {cs:Array Value} {b:Bool} {n:Int} {ss xs:List Value} {B K M N g m r:Nat} {Q R:Nat->Prop} {l:Tp.L} {t:Tp.T} {p s v:Value} {w w':World}
theorem Jf:(prog.info? 112).map (fun i=> (i.zero,i.size,i.bytes))=some (some (.agg #[.string ⟨#[]⟩,.bool false,.slice none 0 0]),3,48):=by kernel_rfl
theorem Q6K {P:Nat->Prop} {n:Nat} (h:RdS w P 3 v n xs) (hn:n<=1073741824) (h1:∀ u∈xs,u.oneCell'=true):
  Calls prog 131 #[v] w fun e w'=> ∃ v',e= .returned v'/\w'.ownsRow w.heap.size 112 3 v' n xs/\Below w.heap.size w w':=by
 obtain ⟨hl,a,c,rfl,hc,⟨rfl,rfl⟩ | ⟨b,off,rfl,_,hr⟩⟩:=h
 ·have:xs= []:=List.eq_nil_of_length_eq_zero (by simpa using hl);subst this;exact (AnyE.slices_Clone_nil Tryz.clonepr 0 c w).mono fun e w' ⟨h1,h2⟩=> ⟨_,h1,World.ownsRow_nil _ _ _ _,by rw[h2];exact eB_ _ _⟩
 ·obtain ⟨i0,hi,hz0,hz1,hz2⟩:=Qw Jf;exact (AnyE.slices_Clone Tryz.clonepr i0 (.agg #[.string ⟨#[]⟩,.bool false,.slice none 0 0]) 3 48 hi hz0 hz1 hz2 rfl (by decide) (fun w=> by kernel_rfl) b off n c xs w hl (by unfold maxLen;omega) (by omega) hr h1).mono
   fun e w' ⟨v',q1,q2,_,q3⟩=> ⟨v',q1,q2,q3⟩
def InsOut (base:Nat) (w:World) (row:Option Nat) (n:Nat) (xs:List Value) (e:Ending) (w':World):Prop:=∃ v',e= .returned v'/\w'.ownsRow base 112 3 v' n xs/\w.grownBy w' row/\∀ k,v'.ownBlock=some k->row=some k\/w.heap.size<=k
theorem Q3w {base n:Nat} {ns:List Value} (hown:w.ownsRow base 112 3 v n xs) (hb:base<=w.heap.size) (hn:n<=1000000)
  (hg:w.heap[r]? =some (.cells ns.toArray 112 (0,0))) (hl:ns.length=3) (h1:∀ u∈ns,u.oneCell'=true):
  Calls prog 60 #[v,.int .i64 (n:Int),.slice (some ⟨r,0,none⟩) 1 1] w (InsOut base w v.ownBlock (n+1) (xs++ns)):=by
 obtain ⟨a,c,rfl⟩:=Qj hown;have hlt:=hown;obtain ⟨i0,hi,hz0,hz1,hz2⟩:=Qw Jf;have hx:RdS w (fun _=> True) 3 (.slice (some ⟨r,0,none⟩) 1 1) 1 ns:=⟨by rw[hl],_,1,rfl,rl_ _,Or.inr ⟨r,0,rfl,Or.inr trivial,fun j u hj=> by rw[Nat.zero_add];exact Q3 hg j (by simpa using hj)⟩⟩
 have hnc:(n:Int)<=1000000:=by omega
 have hcc:n<=c:=by
  obtain ⟨_,⟨e,_⟩ | ⟨g,cap,cur,e,_,_,h2,_⟩⟩:=hown
  ·cases e;exact rl_ _
  ·cases e;exact h2
 have hcc':(n:Int)<=(c:Int):=by omega
 have HH:=h5_ hown hb hn h1 hx;have HI:=h4_ hi hz0 hz1 hz2;clear hown hlt hx hg hl h1 hb hn hi hz0 hz1 hz2;rcases Nat.eq_or_lt_of_le hcc with he | he
 ·subst he;clear hcc hcc';go_in;go_wp2_with (refine QN rfl _ _ 109 rfl base 112 i0 _ 3 48 underlying109 HI.a HI.b HI.c HI.D rfl (by decide) _ n xs rfl HH.a rfl HH.E HH.d (by unfold maxLen;have:=HH.c;omega) (by have:=HH.c;omega) HH.b ?_;rintro a2 c2 w2 h2 h3 h4;have HA:=h3_ h2 h3 h4;clear h2 h3 h4);go_ret;exact ⟨_,rfl,HA.a,HA.b,fun k hk=> (HA.C k hk).imp id fun e=> by omega⟩
 ·have hce:(c=n)=False:=eq_false (by omega);go_in;go_wp2_with (refine QN rfl _ _ 109 rfl base 112 i0 _ 3 48 underlying109 HI.a HI.b HI.c HI.D rfl (by decide) _ n xs rfl HH.a rfl HH.E HH.d (by unfold maxLen;have:=HH.c;omega) (by have:=HH.c;omega) HH.b ?_;rintro a2 c2 w2 h2 h3 h4;have HA:=h3_ h2 h3 h4;clear h2 h3 h4);go_ret;exact ⟨_,rfl,HA.a,HA.b,fun k hk=> (HA.C k hk).imp id fun e=> by omega⟩
theorem Lg:Extern.find Tryz.f98=some (Extern.SlicesOverlaps.overlaps #[109,109] #[4]):=by kernel_rfl
theorem Dj {T:TypeId} (h:w.heap[g]? =some (.cells cs T (0,0))):w.shape? g=some (T,cs.size):=by
 unfold World.shape?;rw[h]
theorem Q0G {cur:Array Value} {T:TypeId} (hr:w.heap[r]? =some (.cells cs T (0,0))) (hg:w.heap[g]? =some (.cells cur T (0,0))) (hne:r≠g) (h0:cur.size≠0) (la ca o lb cb:Nat):
  (callFunc 98 #[.slice (some ⟨r,0,none⟩) la ca,.slice (some ⟨g,o,none⟩) lb cb]).run prog w= .ok (.value (.bool false)) w:=by
 rw[run_callFunc_extern Tryz.func98 (by kernel_rfl) (by kernel_rfl) (by kernel_rfl) Lg];rw[Lib.run_overlaps_apart w 109 4 112 underlying109 3 sizeOf112 ⟨r,0,none⟩ ⟨g,o,none⟩ la ca lb cb hne T T cs.size cur.size (Dj hr) (Dj hg) h0 (Q6 hr 0) (Q6 hr _)];rfl
structure FrM (Q:Nat->Prop) (m:Nat) (w w':World):Prop where
 os:w'.os=w.os
 tape:w'.tape=w.tape
 output:w'.output=w.output
 size:w.heap.size<=w'.heap.size
 block:∀ k,k < w.heap.size->k≠m->¬ (Q k/\Bk 112 w k)->w'.heap[k]? =w.heap[k]?
theorem FrM.of (h:Below w.heap.size w w'):FrM Q m w w':=⟨h.os,h.tape,h.output,h.size,fun k hk _ _=> h.block k hk⟩
theorem FrM.refl (Q:Nat->Prop) (m:Nat) (w:World):FrM Q m w w:=FrM.of (eB_ _ _)
theorem FrM.trans {Q:Nat->Prop} {m:Nat} {x y z:World} (h:FrM Q m x y) (g:FrM Q m y z):FrM Q m x z:=
 ⟨g.os.trans h.os,g.tape.trans h.tape,g.output.trans h.output,eE_ h.size g.size,fun k hk hm hn=> by
  have h1:=h.block k hk hm hn;rw[g.block k (eI_ hk h.size) hm fun ⟨q1,cs,q2⟩=> hn ⟨q1,cs,by rw[<-h1];exact q2⟩,h1]⟩
theorem FrM.imp (h:FrM Q m w w') (hq:∀ k,Q k->R k):FrM R m w w':=⟨h.os,h.tape,h.output,h.size,fun k hk hm hn=> h.block k hk hm fun ⟨q1,q2⟩=> hn ⟨hq k q1,q2⟩⟩
theorem FrM.below {base:Nat} (h:FrM Q m w w') (hm:base<=m) (hQ:∀ k,Q k->base<=k) (hb:base<=w.heap.size):Below base w w':=
 ⟨h.os,h.tape,h.output,h.size,fun k hk=> h.block k (by omega) (by omega) fun ⟨q,_⟩=> by have:=hQ k q;omega⟩
theorem FrM.cells {Q:Nat->Prop} {m:Nat} {w w':World} (h:FrM Q m w w') {k:Nat} {cs:Array Value} {T:TypeId} {fr:Nat × Nat} (hk:w.heap[k]? =some (.cells cs T fr)) (hm:k≠m) (hT:T≠112):w'.heap[k]? =some (.cells cs T fr):=by
 rw[h.block k (Q4 hk) hm fun ⟨_,cs2,q⟩=> hT ?_,hk];rw[hk] at q;injection q with q;injection q
theorem FrM.keeps (h:FrM Q m w w') {mc:Array Value} {MT:TypeId} (hm:w.heap[m]? =some (.cells mc MT (0,0))) {T:TypeId} (hT:T≠112) (hMT:T≠MT):Keeps (Bk T w) w w':=by
 rintro k ⟨cs,hk⟩;rw[h.cells hk ?_ hT,hk];rintro rfl;rw[hm] at hk;injection hk with hk;injection hk with _ e _;exact hMT e.symm
theorem FrM.rdu (h:FrM Q m w w') {mc:Array Value} (hm:w.heap[m]? =some (.cells mc 126 (0,0))) {v:Value} {l:List Nat} (hr:RdU w v l):RdU w' v l:=
 RdB.keep hr (h.keeps hm (by decide) (by decide))
theorem FrM.num (h:FrM Q m w w') {mc:Array Value} (hm:w.heap[m]? =some (.cells mc 126 (0,0))) {v:Value} {z:Int} (hr:Num w v z):Num w' v z:=by
 obtain ⟨s,h1,h2⟩:=hr;exact ⟨s,h1,h.rdu hm h2⟩
def MapO (base:Nat) (Q:Nat->Prop) (w:World) (m:Nat) (l:Tp.L):Prop:=
 base<=m/\∃ v ss,w.heap[m]? =some (.cells #[v] 126 (0,0))/\PWords w l ss/\w.ownsRow base 112 3 v l.length (prCells l ss)/\∀ k,v.ownBlock=some k->Q k
theorem MapO.read {base:Nat} (h:MapO base Q w m l):MapR w m l:=by
 obtain ⟨_,v,ss,h1,h2,h3,_⟩:=h;exact ⟨v,h1,ss,h2,RdB.own h3⟩
theorem MapO.imp {base:Nat} (h:MapO base Q w m l) (hq:∀ k,k < w.heap.size->Q k->R k):MapO base R w m l:=by
 obtain ⟨h0,v,ss,h1,h2,h3,h4⟩:=h;exact ⟨h0,v,ss,h1,h2,h3,fun k hk=> hq k (h3.lt k hk).2 (h4 k hk)⟩
theorem MapO.past {base:Nat} (h:MapO base Q w m l) (hb:Below w.heap.size w w'):MapO base Q w' m l:=by
 obtain ⟨h0,v,ss,h1,h2,h3,h4⟩:=h;exact ⟨h0,v,ss,(hb.block _ (Q4 h1)).trans h1,h2.keep fun _ _ h=> h.below hb,Qk h3 fun k hk=> hb.block k (h3.lt k hk).2,h4⟩
theorem MapO.cell {base:Nat} (h:MapO base Q w m l):∃ v,w.heap[m]? =some (.cells #[v] 126 (0,0)):=by
 obtain ⟨_,v,_,h1,_⟩:=h;exact ⟨v,h1⟩
theorem MapO.num {base:Nat} {Q:Nat->Prop} {w w':World} {m:Nat} {l:Tp.L} (h:MapO base Q w m l) (hf:FrM Q m w w') {v:Value} {z:Int} (hr:Num w v z):Num w' v z:=by
 obtain ⟨c,hc⟩:=h.cell;exact hf.num hc hr
theorem MapO.nil {base:Nat} {w:World} {m:Nat} (h:w.heap[m]? =some (.cells #[.slice none 0 0] 126 (0,0))) (hb:base<=m) (Q:Nat->Prop):MapO base Q w m []:=
 ⟨hb,_, [],h,PWords.nil w,World.ownsRow_nil _ _ _ _,fun k hk=> by simp[Value.ownBlock] at hk⟩
theorem Zt (h:ss.length=l.length) (i:Nat):(prCells l ss).take (i*3)=prCells (l.take i) (ss.take i):=by
 rcases eS_ l.length i with hi | hi
 ·rw[List.take_of_length_le (by rw[XT h];omega),List.take_of_length_le (by omega),List.take_of_length_le (by omega)]
 ·have e:prCells l ss=prCells (l.take i) (ss.take i)++prCells (l.drop i) (ss.drop i):=by
   rw[<-Xz (by rw[eN_,eN_,h]),eW_,eW_]
  rw[e];exact List.take_left' (by rw[XT (by rw[eN_,eN_,h]),eN_,Nat.min_eq_left hi])
theorem Zu (h:ss.length=l.length) (i:Nat):(prCells l ss).drop (i*3)=prCells (l.drop i) (ss.drop i):=by
 rcases eS_ l.length i with hi | hi
 ·rw[List.drop_of_length_le (by rw[XT h];omega),List.drop_of_length_le (by omega),List.drop_of_length_le (by omega)];rfl
 ·have e:prCells l ss=prCells (l.take i) (ss.take i)++prCells (l.drop i) (ss.drop i):=by
   rw[<-Xz (by rw[eN_,eN_,h]),eW_,eW_]
  rw[e];exact List.drop_left' (by rw[XT (by rw[eN_,eN_,h]),eN_,Nat.min_eq_left hi])
theorem PWords.ins (h:PWords w l ss) (i:Nat) (hi:i<=l.length) (p:Tp.Nm × Int) {s:Value} (hs:RdU w s (wd p.2)):PWords w (l.take i++p::l.drop i) (ss.take i++s::ss.drop i):=by
 have hl:=h.len;have ht:(ss.take i).length=(l.take i).length:=by rw[eN_,eN_,hl]
 refine ⟨by simp only[eC_,eL_,eN_,List.length_drop,hl],fun j q u h1 h2=> ?_⟩;rcases Nat.lt_trichotomy j i with hj | rfl | hj
 ·rw[eT_ (by rw[eN_];omega),List.getElem?_take,if_pos hj] at h1 h2;exact h.rd j q u h1 h2
 ·rw[eO_ (by rw[eN_];omega),eN_,Nat.min_eq_left (by omega),Nat.sub_self] at h1 h2;simp only[eZ_,Option.some.injEq] at h1 h2;subst h1 h2;exact hs
 ·rw[eO_ (by rw[eN_];omega),eN_,Nat.min_eq_left (by omega)] at h1 h2;obtain ⟨d,hd⟩:∃ d,j - i=d+1:=⟨j - i - 1,by omega⟩
  rw[hd,List.getElem?_cons_succ,List.getElem?_drop] at h1 h2;exact h.rd _ q u h1 h2
theorem PWords.del (h:PWords w l ss) (i:Nat):PWords w (l.eraseIdx i) (ss.eraseIdx i):=by
 have hl:=h.len;refine ⟨by simp only[List.length_eraseIdx,hl],fun j q u h1 h2=> ?_⟩;rw[List.getElem?_eraseIdx] at h1 h2;split at h1
 ·rename_i hj;rw[if_pos hj] at h2;exact h.rd j q u h1 h2
 ·rename_i hj;rw[if_neg hj] at h2;exact h.rd _ q u h1 h2
theorem PWords.set {w:World} {l:Tp.L} {ss:List Value} (h:PWords w l ss) (i:Nat) (p:Tp.Nm × Int) {s:Value} (hs:RdU w s (wd p.2)):PWords w (l.set i p) (ss.set i s):=by
 have hl:=h.len;refine ⟨by simp only[List.length_set,hl],fun j q u h1 h2=> ?_⟩;rw[List.getElem?_set] at h1 h2;split at h1
 ·rename_i hj;rw[if_pos hj] at h2;split at h1
  ·rename_i hj2;split at h2
   ·injection h1 with h1;injection h2 with h2;subst h1 h2;exact hs
   ·cases h2
  ·cases h1
 ·rename_i hj;rw[if_neg hj] at h2;exact h.rd _ q u h1 h2
def TmP (w:World) (p:Value) (l:Tp.L):Prop:=(p= .pointer none/\l= [])\/∃ m,p= .pointer (some ⟨m,0,none⟩)/\MapR w m l
theorem TmP.below {w w':World} {p:Value} {l:Tp.L} (h:TmP w p l) (hb:Below w.heap.size w w'):TmP w' p l:=h.imp id fun ⟨m,h1,h2⟩=> ⟨m,h1,h2.below hb⟩
def Tm (w:World) (v:Value) (t:Tp.T):Prop:=∃ s p,v= .agg #[.bool (decide (t.rest < 0)),s,p]/\RdU w s (wd t.rest)/\TmP w p t.l
theorem Tm.below {w w':World} {v:Value} {t:Tp.T} (h:Tm w v t) (hb:Below w.heap.size w w'):Tm w' v t:=by
 obtain ⟨s,p,h1,h2,h3⟩:=h;exact ⟨s,p,h1,h2.below hb,h3.below hb⟩
theorem Tm.form {w:World} {v:Value} {t:Tp.T} (h:Tm w v t):∃ a c p,v= .agg #[.bool (decide (t.rest < 0)),.slice a (wd t.rest).length c,p]/\RdU w (.slice a (wd t.rest).length c) (wd t.rest)/\TmP w p t.l/\(p= .pointer none\/∃ m,p= .pointer (some ⟨m,0,none⟩)):=by
 obtain ⟨s,p,h1,h2,h3⟩:=h;obtain ⟨a,c,rfl,_⟩:=h2.form;exact ⟨a,c,p,h1,h2,h3,h3.imp (fun h=> h.1) fun ⟨m,h,_⟩=> ⟨m,h⟩⟩
theorem Tm.num (h:Tm w (.agg #[.bool b,s,p]) t):Num w (.agg #[.bool b,s]) t.rest:=by
 obtain ⟨s2,p2,e,h2,_⟩:=h;injection e with e;have e1:b=decide (t.rest < 0)/\s=s2/\p=p2:=by simpa using e
 obtain ⟨rfl,rfl,rfl⟩:=e1;exact ⟨_,rfl,h2⟩
theorem Tm.of (h:Num w (.agg #[.bool b,s]) t.rest) (hp:TmP w p t.l):Tm w (.agg #[.bool b,s,p]) t:=by
 obtain ⟨s2,e,h2⟩:=h;injection e with e;have e1:b=decide (t.rest < 0)/\s=s2:=by simpa using e
 obtain ⟨rfl,rfl⟩:=e1;exact ⟨_,_,rfl,h2,hp⟩
theorem Tm.zero (w:World):Tm w (.agg #[.bool false,.slice none 0 0,.pointer none]) Tp.zero:=Tm.of (Num.zero w) (Or.inl ⟨rfl,rfl⟩)
structure Sm (K:Nat) (t:Tp.T):Prop where
 l:∀ p∈t.l,Bd K p.2
 rest:Bd K t.rest
 len:t.l.length<=K
theorem Sm.mono {K M:Nat} {t:Tp.T} (h:Sm K t) (hm:K<=M):Sm M t:=⟨fun p hp=> (h.l p hp).mono hm,h.rest.mono hm,eE_ h.len hm⟩
theorem Bd.zero (K:Nat):Bd K 0:=by
 unfold Bd;exact Nat.pow_pos (by decide)
theorem Sm.look {K:Nat} {l:Tp.L} (h:∀ p∈l,Bd K p.2) (x:Tp.Nm):Bd K (Tp.look l x):=by
 induction l with
 | nil=> exact Bd.zero K
 | cons p r ih=>
  by_cases e:p.1=x
  ·rw[Tp.QX e];exact h p eX_
  ·rw[Tp.QL e];exact ih fun q hq=> h q (eR_ _ hq)
theorem Q7Q (l:Tp.L) (s:Tp.Nm) (v:Int):(Tp.ins l s v).length<=l.length+1:=by
 induction l with
 | nil=> simp[Tp.ins]
 | cons p r ih=>
  rw[Tp.ins];split
  ·simp only[eL_];omega
  ·split <;> simp only[eL_] <;> omega
theorem Q7R (l:Tp.L) (s:Tp.Nm):(Tp.del l s).length<=l.length:=by
 induction l with
 | nil=> simp[Tp.del]
 | cons p r ih=>
  rw[Tp.del];split <;> simp only[eL_] <;> omega
theorem Q6L (l:Tp.L) (s:Tp.Nm) (v:Int):(Tp.setz l s v).length<=l.length+1:=by
 unfold Tp.setz;split
 ·have:=Q7R l s;omega
 ·exact Q7Q l s v
theorem Ua (n:Int):∀ (u l:Tp.L),(Tp.addL n l u).length<=l.length+u.length
 | [],l=> rl_ _
 | p::u,l=> by
  have h:=Ua n u (Tp.addGo n l p);have h2:=Q6L l p.1 (Tp.look l p.1+p.2*n);show (Tp.addL n (Tp.addGo n l p) u).length<=_;unfold Tp.addGo at h |-;simp only[eL_];omega
theorem Q8w (hr:Tp.Rise l) {p:Tp.Nm × Int} (hp:p∈l):Tp.look l p.1=p.2:=by
 induction l with
 | nil=> cases hp
 | cons q r ih=>
  rcases List.mem_cons.1 hp with rfl | hp
  ·exact Tp.QX rfl
  ·rw[Tp.QL fun e=> Tp.XX (hr.above p hp) e];exact ih hr.tail hp
theorem Q6M {a b:Int} (h1:Bd K a) (h2:Bd M b) (h3:Bd N n):Bd (K+M+N+1) (a+b*n):=
 Bd.add (h1.mono (show K<=K+M+N by omega)) (Bd.mul h2 h3 (show M+N<=K+M+N by omega)) (rl_ _)
theorem Sm.addL {K M N:Nat} {l u:Tp.L} {n:Int} (h:∀ p∈l,Bd K p.2) (ho:Tp.Ok l) (hu:∀ p∈u,Bd M p.2) (hr:Tp.Rise u) (hn:Bd N n):∀ p∈Tp.addL n l u,Bd (K+M+N+1) p.2:=by
 intro p hp;rw[<-Q8w (Tp.Zj n u ho).rise hp,Tp.UF n p.1 u ho hr];exact Q6M (Sm.look h _) (Sm.look hu _) hn
theorem Sm.add {K M N:Nat} {t u:Tp.T} {n:Int} (h:Sm K t) (ho:Tp.Ok t.l) (hu:Sm M u) (hr:Tp.Rise u.l) (hn:Bd N n):Sm (K+M+N+1) (Tp.add t u n):=
 ⟨Sm.addL h.l ho hu.l hr hn,Q6M h.rest hu.rest hn,by
  have h1:=Ua n u.l t.l;have h2:=h.len;have h3:=hu.len;show (Tp.addL n t.l u.l).length<=_;omega⟩
theorem Sm.zero:Sm 0 Tp.zero:=⟨fun p hp=> (by cases hp),Bd.zero 0,rl_ _⟩
theorem Sm.name (s:Tp.Nm):Sm 1 (Tp.name s):=⟨fun p hp=> (by rw[List.mem_singleton.1 hp];show (1:Int).natAbs < 10 ^ 1;decide),Bd.zero 1,rl_ _⟩
theorem Jg (s:Tp.Nm):Tp.Ok (Tp.name s).l:=Tp.Ok.one s (by decide)
def NmB (B:Nat) (l:Tp.L):Prop:=∀ p∈l,p.1.length<=B
theorem NmB.ins {B:Nat} {l:Tp.L} (h:NmB B l) {s:Tp.Nm} (hs:s.length<=B) (v:Int):NmB B (Tp.ins l s v):=fun p hp=> (Tp.Q0o hp).elim (fun e=> by rw[e];exact hs) (h p)
theorem NmB.setz {B:Nat} {l:Tp.L} (h:NmB B l) {s:Tp.Nm} (hs:s.length<=B) (v:Int):NmB B (Tp.setz l s v):=by
 unfold Tp.setz;split
 ·exact fun p hp=> h p (Tp.Q0p hp)
 ·exact h.ins hs v
theorem NmB.addL {B:Nat} (n:Int):∀ {u l:Tp.L},NmB B l->NmB B u->NmB B (Tp.addL n l u)
 | [],_,h,_=> h
 | p::u,l,h,hu=> NmB.addL n (u:=u) (h.setz (hu p eX_) _) fun q hq=> hu q (eR_ _ hq)
end Go.Proofs.YtiecccakcenobaaGreatDoor
