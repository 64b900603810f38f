/- A part of the proof. -/
import Derived.Test.YtiecccakcenobaaGreatDoorTdvM6
set_option linter.all false
set_option maxRecDepth 100000
set_option maxHeartbeats 64000000
namespace Go.Proofs.YtiecccakcenobaaGreatDoor.Pc
open Tr Ps
theorem dig7:Lib.decDigits (7:Int).toNat= [55]:=by decide+kernel
theorem dig8:Lib.decDigits (8:Int).toNat= [56]:=by decide+kernel
theorem dig9:Lib.decDigits (9:Int).toNat= [57]:=by decide+kernel
theorem dig10:Lib.decDigits (10:Int).toNat= [49,48]:=by decide+kernel
theorem dig11:Lib.decDigits (11:Int).toNat= [49,49]:=by decide+kernel
theorem dig12:Lib.decDigits (12:Int).toNat= [49,50]:=by decide+kernel
theorem dig13:Lib.decDigits (13:Int).toNat= [49,51]:=by decide+kernel
theorem dig14:Lib.decDigits (14:Int).toNat= [49,52]:=by decide+kernel
theorem dig15:Lib.decDigits (15:Int).toNat= [49,53]:=by decide+kernel
theorem dig16:Lib.decDigits (16:Int).toNat= [49,54]:=by decide+kernel
theorem dig17:Lib.decDigits (17:Int).toNat= [49,55]:=by decide+kernel
theorem dig18:Lib.decDigits (18:Int).toNat= [49,56]:=by decide+kernel
section
variable {tk:List Tk}
theorem Q8D {p:Prop} [Decidable p] {q:Bool} {s0:St} {f1 f2:List Int × St} {g1 g2:List UInt8 × Pr.Rs} (hpq:p↔q=true) (h1:p->Out tk s0 f1.2 f1.1 g1.2 g1.1) (h2:¬ p->Out tk s0 f2.2 f2.1 g2.2 g2.1):
  Out tk s0 (if p then f1 else f2).2 (if p then f1 else f2).1 (if q=true then g1 else g2).2 (if q=true then g1 else g2).1:=by
 by_cases h:p
 ·rw[if_pos h,if_pos (hpq.1 h)];exact h1 h
 ·rw[if_neg h,if_neg (fun e=> h (hpq.2 e))];exact h2 h
theorem DG (ht:Toks tk) {one:F} {gone:Pr.G} (ho:Sim tk one gone):∀ (n k c:Nat) {s0 s:St} {l:List Int} {r:Pr.Rs} {x:List UInt8},c+k=8->tk.length<=n+s.used->Out tk s0 s l r x->
  Out tk s0 (if s.e=0/\nextB tk [[44]] s.used=true then listGo tk one k (l++ [(leaf tk s).1]) (leaf tk s).2 else (l,s)).2 (if s.e=0/\nextB tk [[44]] s.used=true then listGo tk one k (l++ [(leaf tk s).1]) (leaf tk s).2 else (l,s)).1 (Pr.argsGo tk gone n c x r).2 (Pr.argsGo tk gone n c x r).1
 | 0,k,c,s0,s,l,r,x,_,hn,o=> by
  have:=o.2.1.1;omega
 | n+1,k,c,s0,s,l,r,x,hc,hn,o=> by
  have hb:=Q4D o [44];unfold Pr.argsGo;refine Q8D hb (fun h=> ?_) (fun _=> o);obtain ⟨o1,e1⟩:=o.leaf ht h.1 (Qu h.2);cases k with
  | zero=>
   obtain rfl:c=8:=(by omega);unfold listGo;simp only[if_true];have o2:=o1.fail (e:=15) (by decide) (l++ [(leaf tk s).1]) (x++(Pr.leaf tk r).1);have hd:(Pr.fail tk 15 (Pr.leaf tk r).2).e≠0:=by
    rw[o2.2.2.1.1];unfold fail;rw[if_pos e1];show (15:Int)≠0;decide
   rw[ho.dg _ hd];have hg:∀ (m c:Nat) (y:List UInt8),(Pr.argsGo tk gone m c y (Pr.fail tk 15 (Pr.leaf tk r).2)).2=Pr.fail tk 15 (Pr.leaf tk r).2:=by
    intro m c y;cases m with
    | zero=> rfl
    | succ m=> unfold Pr.argsGo;rw[Yd hd,if_neg (by simp)]
   rw[hg];have hd2:(fail tk 15 (leaf tk s).2).e≠0:=(by rw[<-o2.2.2.1.1];exact hd);exact o2.dead hd2 _ _
  | succ k=>
   have hc8:c≠8:=(by omega);unfold listGo;simp only[if_neg hc8,if_pos e1];have o2:=o1.then ho;have hu:(leaf tk s).2.used=s.used+1:=by
    obtain ⟨t,h1,_⟩:=o.2.1.get;exact (J0 o.2.1.2.2 h1).2.1
   have hm:(leaf tk s).2.used<=(one (leaf tk s).2).2.used\/(one (leaf tk s).2).2.e≠0:=by
    by_cases he:(one (leaf tk s).2).2.e=0
    ·obtain ⟨_,_,_,h4⟩:=ho.go (leaf tk s).2 (Pr.leaf tk r).2 e1 o1.2.1 o1.2.2.1;exact Or.inl (h4 he).used
    ·exact Or.inr he
   rcases hm with hm | hm
   ·have:=DG ht ho n k (c+1) (by omega) (by rw[hu] at hm;show tk.length<=n+(one (leaf tk s).2).2.used;omega) o2;simp only[lift,eQ_,List.cons_append,List.nil_append] at this |-;exact this
   ·simp only[lift] at o2;rw[if_neg (by simp[hm])];have hd:(gone (Pr.leaf tk r).2).2.e≠0:=(by rw[o2.2.2.1.1];exact hm);have hg:∀ (m c:Nat) (y:List UInt8),(Pr.argsGo tk gone m c y (gone (Pr.leaf tk r).2).2).2=(gone (Pr.leaf tk r).2).2:=by
     intro m c y;cases m with
     | zero=> rfl
     | succ m=> unfold Pr.argsGo;rw[Yd hd,if_neg (by simp)]
    rw[hg];exact o2.dead hm _ _
theorem DH {gone:Pr.G} {r:Pr.Rs} (he:r.e≠0):∀ (n c:Nat) (x:List UInt8),(Pr.argsGo tk gone n c x r).2=r
 | 0,_,_=> rfl
 | n+1,c,x=> by unfold Pr.argsGo;rw[Yd he,if_neg (by simp)]
theorem Q2b (ht:Toks tk) {one:F} {gone:Pr.G} (ho:Sim tk one gone) {s0 s:St} {l:List Int} {r:Pr.Rs} {x:List UInt8} (o:Out tk s0 s l r x):
  Out tk s0 (list tk one s).2 (l++(list tk one s).1) (if r.e=0/\Pr.is tk [41] r=false then (x++(Pr.args tk gone r).1,(Pr.args tk gone r).2) else (x,r)).2 (if r.e=0/\Pr.is tk [41] r=false then (x++(Pr.args tk gone r).1,(Pr.args tk gone r).2) else (x,r)).1:=by
 by_cases he:s.e=0
 ·have hb:=YJ o.2.1 o.2.2.1 he [41];unfold list;by_cases hn:nextB tk [[41]] s.used=true
  ·rw[if_pos hn,if_neg (by rw[hb,hn];simp),List.append_nil];exact o
  ·rw[if_neg hn,if_pos ⟨o.2.2.1.1.trans he,by rw[hb];simpa using hn⟩];have hf:Out tk s (one s).2 [(one s).1] (gone r).2 (gone r).1:=ho.go s r he o.2.1 o.2.2.1;unfold listGo Pr.args;rw[if_pos he];have hm:s.used<=(one s).2.used\/(one s).2.e≠0:=by
    by_cases h2:(one s).2.e=0
    ·exact Or.inl (hf.2.2.2 h2).used
    ·exact Or.inr h2
   have h4:Out tk s (if (one s).2.e=0/\nextB tk [[44]] (one s).2.used=true then listGo tk one 7 ([(one s).1]++ [(leaf tk (one s).2).1]) (leaf tk (one s).2).2 else ([(one s).1],(one s).2)).2 (if (one s).2.e=0/\nextB tk [[44]] (one s).2.used=true then listGo tk one 7 ([(one s).1]++ [(leaf tk (one s).2).1]) (leaf tk (one s).2).2 else ([(one s).1],(one s).2)).1 (Pr.argsGo tk gone tk.length 1 (gone r).1 (gone r).2).2 (Pr.argsGo tk gone tk.length 1 (gone r).1 (gone r).2).1:=by
    by_cases h2:(one s).2.e=0
    ·exact DG ht ho tk.length 7 1 (by omega) (by omega) hf
    ·rw[if_neg (by simp[h2]),DH (by rw[hf.2.2.1.1];exact h2)];exact hf.dead h2 _ _
   simp only[List.nil_append,List.singleton_append] at h4 |-;exact ⟨o.1,h4.2.1,h4.2.2.1,fun e2=> (o.2.2.2 he).trans o.2.1.2.2 (h4.2.2.2 e2)⟩
 ·have h1:list tk one s=([],s):=by
   unfold list;split
   ·rfl
   ·unfold listGo;rw[if_neg he]
  rw[h1,if_neg (by rw[o.2.2.1.1];simp[he])];exact o.dead he _ _
theorem Q02 {one:F} {s:St} (he:s.e≠0):list tk one s=([],s):=by
 unfold list;split
 ·rfl
 ·unfold listGo;rw[if_neg he]
theorem Q5t {k:Int} {s:St} (he:s.e≠0):kind tk k s=(0,s):=by
 unfold kind;rw[if_neg (by simp[he]),Yw he]
theorem Q3R {k:Int} {r:Pr.Rs} (he:r.e≠0):Pr.kind tk k r=([],r):=by
 unfold Pr.kind;rw[if_neg (by simp[he]),YI he]
structure SimV (tk:List Tk) (d:Nat) (lo:Ps.Lv) (glo:Pr.Lv):Prop where
 ex:Sim tk lo.ex glo.ex
 rest:d≠0->Sim tk lo.fo glo.fo/\Sim tk lo.ne glo.ne/\Sim tk lo.fa glo.fa
theorem Q03 (ht:Toks tk) {d:Nat} {f:F} {g:Pr.G} (hf:d≠0->Sim tk f g) {s:St} {r:Pr.Rs} (he:s.e=0) (hi:Inv tk s) (hr:Rel s r) (hk:(peek tk s.used).kind≠5):
  Out tk s (unary tk d f s).2 [(unary tk d f s).1] (Pr.unary tk d g r).2 (Pr.unary tk d g r).1:=by
 obtain ⟨o,e1⟩:=(Out.nil hi hr).leaf ht he hk;have re1:(Pr.leaf tk r).2.e=0:=o.2.2.1.1.trans e1;unfold unary Pr.unary deep Pr.nest;by_cases hd:d=0
 ·simp only[if_pos hd];have o2:=o.fail (e:=23) (by decide) [0] [];have h1:(fail tk 23 (leaf tk s).2).e≠0:=by unfold fail;rw[if_pos e1];show (23:Int)≠0;decide
  rw[if_neg h1,if_neg (by rw[o2.2.2.1.1];exact h1)];exact o2
 ·simp only[if_neg hd,if_pos e1,if_pos re1];exact ((o.then (hf hd)).node (k:=11) (by decide) (fun _=> by simp[lift])).cast (by rw[dig11];simp)
theorem Q5u (ht:Toks tk) {one:F} {gone:Pr.G} (ho:Sim tk one gone) {s0 s:St} {l:List Int} {r:Pr.Rs} {x:List UInt8} (o:Out tk s0 s l r x):
  Out tk s0 (list tk one s).2 (l++(list tk one s).1) (if Pr.is tk [41] r then (x,r) else (x++(Pr.args tk gone r).1,(Pr.args tk gone r).2)).2 (if Pr.is tk [41] r then (x,r) else (x++(Pr.args tk gone r).1,(Pr.args tk gone r).2)).1:=by
 have o1:=Q2b ht ho o;by_cases he:r.e=0
 ·cases h:Pr.is tk [41] r
  ·rw[h,if_pos ⟨he,rfl⟩] at o1;rw[if_neg (by simp)];exact o1
  ·rw[h,if_neg (by simp)] at o1;rw[if_pos rfl];exact o1
 ·have hs:s.e≠0:=by rw[<-o.2.2.1.1];exact he
  rw[Q02 hs,Yd he,if_neg (by simp)];have hd:(Pr.args tk gone r).2=r:=by
   unfold Pr.args;rw[ho.dg _ he,DH he]
  rw[hd];exact o.dead hs _ _
theorem Q73 (ht:Toks tk) {ex:F} {g:Pr.G} (hx:Sim tk ex g) {s0 s:St} {l:List Int} {r:Pr.Rs} {x:List UInt8} (hl:1<=l.length) (o:Out tk s0 s l r x):
  Out tk s0 (call tk ex l s).2 [(call tk ex l s).1] (Pr.call tk g x r).2 (Pr.call tk g x r).1:=
 (((Q5u ht hx (o.then (Xf ht [40]))).then (Xf ht [41])).node (k:=13) (by decide) (fun _=> by simp[lift];omega)).cast (by rw[dig13];simp[Pr.call])
theorem Q3S (ht:Toks tk) {s0 s:St} {a:Int} {r:Pr.Rs} {x:List UInt8} (he:s.e=0) (o:Out tk s0 s [a] r x):
  Out tk s0 (callee tk s a).2 (callee tk s a).1 (Pr.callee tk x r).2 (Pr.callee tk x r).1/\1<=(callee tk s a).1.length:=by
 have hb:=YJ o.2.1 o.2.2.1 he [46];unfold callee Pr.callee;by_cases h:nextB tk [[46]] s.used=true
 ·rw[if_pos h,if_pos (by rw[hb];exact h)];exact ⟨((o.leaf ht he (Qu h)).1.then (Uk ht (k:=1) (by decide))).cast (by simp),by simp⟩
 ·rw[if_neg h,if_neg (by rw[hb];exact h)];exact ⟨o,by simp⟩
theorem Q74 (ht:Toks tk) {ex:F} {g:Pr.G} (hx:Sim tk ex g) {s:St} {r:Pr.Rs} (he:s.e=0) (hi:Inv tk s) (hr:Rel s r) (hk:(peek tk s.used).kind≠5):
  Out tk s (name tk ex s).2 [(name tk ex s).1] (Pr.name tk g r).2 (Pr.name tk g r).1:=by
 obtain ⟨o,e1⟩:=(Out.nil hi hr).leaf ht he hk;have hc:(Pr.leaf tk r).2.inn=(leaf tk s).2.clause:=(o.2.2.1.2.2 e1).2;have h1:=YJ o.2.1 o.2.2.1 e1 [46];have h2:=YJ o.2.1 o.2.2.1 e1 [40];have h3:nextB tk [[46], [40]] (leaf tk s).2.used=(nextB tk [[46]] (leaf tk s).2.used || nextB tk [[40]] (leaf tk s).2.used):=by
  have q:=Q3Q o.2.1 o.2.2.1 e1 [[46], [40]];rw[<-q, <-h1, <-h2];simp[Pr.any]
 unfold name Pr.name;simp only;rw[hc,h1,h2,h3,Bool.not_or];by_cases h:((leaf tk s).2.clause || (!nextB tk [[46]] (leaf tk s).2.used && !nextB tk [[40]] (leaf tk s).2.used))=true
 ·rw[if_pos h,if_pos h];exact (Out.one ht hi hr he hk (k:=14) (by decide)).cast (by rw[dig14];simp)
 ·rw[if_neg h,if_neg h];rw[List.nil_append,List.nil_append] at o;have o2:=Q3S ht e1 o;exact Q73 ht hx o2.2 o2.1
theorem Q75 (ht:Toks tk) {ex:F} {g:Pr.G} (hx:Sim tk ex g):Sim tk (atom tk ex) (Pr.atom tk g):=by
 refine ⟨fun s r he hi hr=> ?_,fun s he=> ?_,fun r he=> ?_⟩
 ·have o:=Out.nil hi hr;have hp:=Ze hi hr he;have b1:=YJ hi hr he tTrue;have b2:=YJ hi hr he tFalse;have b3:=YJ hi hr he tRes;have b4:=YJ hi hr he [40];have b5:nextB tk [tTrue,tFalse] s.used=(nextB tk [tTrue] s.used || nextB tk [tFalse] s.used):=by
   have q:=Q3Q hi hr he [tTrue,tFalse];rw[<-q, <-b1, <-b2];simp[Pr.any]
  have hc:=(hr.2.2 he).2;unfold lift atom Pr.atom;simp only[if_pos he,if_pos (hr.1.trans he)];rw[hp,b1,b2,b3,b4,hc,b5];by_cases h1:(peek tk s.used).kind=3
  ·rw[if_pos h1,if_pos h1];exact (Out.one ht hi hr he (by omega) (k:=15) (by decide)).cast (by rw[dig15];simp)
  ·rw[if_neg h1,if_neg h1];by_cases h2:(nextB tk [tTrue] s.used || nextB tk [tFalse] s.used)=true
   ·rw[if_pos h2,if_pos h2];exact (Out.one ht hi hr he (Qu (b5.trans h2)) (k:=16) (by decide)).cast (by rw[dig16];simp)
   ·rw[if_neg h2,if_neg h2];by_cases h3:(s.clause && nextB tk [tRes] s.used)=true
    ·rw[if_pos h3,if_pos h3];exact (Out.one ht hi hr he (Qu (by simp only[Bool.and_eq_true] at h3;exact h3.2)) (k:=17) (by decide)).cast (by rw[dig17];simp)
    ·rw[if_neg h3,if_neg h3];by_cases h4:nextB tk [[40]] s.used=true
     ·rw[if_pos h4,if_pos h4];exact ((((o.leaf ht he (Qu h4)).1.then hx).then (Xf ht [41])).node (k:=12) (by decide) (fun _=> by simp[lift])).cast (by rw[dig12];simp)
     ·rw[if_neg h4,if_neg h4];by_cases h5:(peek tk s.used).kind=1
      ·rw[if_pos h5,if_pos h5];exact Q74 ht hx he hi hr (by omega)
      ·rw[if_neg h5,if_neg h5];exact o.fail (by decide) _ _
 ·unfold lift atom;rw[if_neg he]
 ·unfold Pr.atom;rw[if_neg he]
theorem JR (ht:Toks tk) {d:Nat} {lo:Ps.Lv} {glo:Pr.Lv} (h:SimV tk d lo glo):Sim tk (factor tk d lo) (Pr.factor tk d glo):=by
 have ha:=Q75 ht h.ex;refine ⟨fun s r he hi hr=> ?_,fun s he=> ?_,fun r he=> ?_⟩
 ·have hb:=YJ hi hr he [45];unfold lift factor Pr.factor;by_cases hn:nextB tk [[45]] s.used=true
  ·rw[if_pos ⟨he,hn⟩,if_pos (by rw[hb];exact hn)];exact Q03 ht (fun hd=> (h.rest hd).2.2) he hi hr (Qu hn)
  ·rw[if_neg (by simp[hn]),if_neg (by rw[hb];exact hn)];exact ha.go s r he hi hr
 ·unfold lift factor;rw[if_neg (by simp[he])];exact ha.df s he
 ·unfold Pr.factor;rw[Yd he,if_neg (by simp)];exact ha.dg r he
theorem DI (ht:Toks tk) {d:Nat} {lo:Ps.Lv} {glo:Pr.Lv} (h:SimV tk d lo glo):Sim tk (comparison tk d lo) (fun r=> if Pr.any tk sCmp (Pr.sum tk d glo r).2 then (Pr.bin (Pr.sum tk d glo r).1 (Pr.leaf tk (Pr.sum tk d glo r).2).1 (Pr.sum tk d glo (Pr.leaf tk (Pr.sum tk d glo r).2).2).1,(Pr.sum tk d glo (Pr.leaf tk (Pr.sum tk d glo r).2).2).2) else Pr.sum tk d glo r):=by
 have hs:Sim tk (sum tk d lo) (Pr.sum tk d glo):=Yq ht (Yq ht (JR ht h) sMul) sSum;obtain ⟨n,hn⟩:∃ n,tk.length=n+1:=⟨tk.length - 1,by have:=ht.pos;omega⟩
 refine ⟨fun s r he hi hr=> ?_,fun s he=> ?_,fun r he=> ?_⟩
 ·have o:Out tk s (sum tk d lo s).2 [(sum tk d lo s).1] (Pr.sum tk d glo r).2 (Pr.sum tk d glo r).1:=hs.go s r he hi hr;have hb:=Q29 o sCmp;unfold lift comparison row;rw[hn];unfold rowGo;by_cases hx:(sum tk d lo s).2.e=0/\nextB tk sCmp (sum tk d lo s).2.used=true
  ·simp only[if_pos hx,if_pos (hb.1 hx),if_true];exact (((o.leaf ht hx.1 (Qu hx.2)).1.then hs).node (k:=10) (by decide) (fun _=> by simp[lift])).cast (by rw[dig10];simp[Pr.bin])
  ·simp only[if_neg hx,if_neg (fun e=> hx (hb.2 e))];exact o
 ·unfold lift comparison row;have h1:(sum tk d lo s).2=s:=hs.df s he;rw[h1];exact DF he _ _
 ·have h1:(Pr.sum tk d glo r).2=r:=hs.dg r he;rw[h1,DE he,if_neg (by simp)];exact h1
theorem Yr (ht:Toks tk) {d:Nat} {lo:Ps.Lv} {glo:Pr.Lv} (h:SimV tk d lo glo):Sim tk (negation tk d lo) (Pr.not tk d glo):=by
 have ha:=DI ht h;refine ⟨fun s r he hi hr=> ?_,fun s he=> ?_,fun r he=> ?_⟩
 ·have hb:=YJ hi hr he tNot;unfold lift negation Pr.not;by_cases hn:nextB tk [tNot] s.used=true
  ·rw[if_pos ⟨he,hn⟩,if_pos (by rw[hb];exact hn)];exact Q03 ht (fun hd=> (h.rest hd).2.1) he hi hr (Qu hn)
  ·rw[if_neg (by simp[hn]),if_neg (by rw[hb];exact hn)];exact ha.go s r he hi hr
 ·unfold lift negation;rw[if_neg (by simp[he])];exact ha.df s he
 ·unfold Pr.not;rw[Yd he,if_neg (by simp)];exact ha.dg r he
theorem Gn (ht:Toks tk) {d:Nat} {lo:Ps.Lv} {glo:Pr.Lv} (h:SimV tk d lo glo):Sim tk (formula tk d lo) (Pr.formula tk d glo):=by
 have hs:Sim tk (disjunction tk d lo) (Pr.or tk d glo):=Yq ht (Yq ht (Yr ht h) sAnd) sOr;refine ⟨fun s r he hi hr=> ?_,fun s he=> ?_,fun r he=> ?_⟩
 ·have o:Out tk s (disjunction tk d lo s).2 [(disjunction tk d lo s).1] (Pr.or tk d glo r).2 (Pr.or tk d glo r).1:=hs.go s r he hi hr;have hb:=Q4D o [61,62];unfold lift formula Pr.formula;simp only;by_cases hx:(disjunction tk d lo s).2.e=0/\nextB tk [[61,62]] (disjunction tk d lo s).2.used=true
  ·rw[if_pos hx,if_pos (hb.1 hx)];obtain ⟨o1,e1⟩:=o.leaf ht hx.1 (Qu hx.2);have re1:=o1.2.2.1.1.trans e1;unfold deep Pr.nest;by_cases hd:d=0
   ·simp only[if_pos hd];have o2:=o1.fail (e:=23) (by decide) [0] [];have h1:(fail tk 23 (leaf tk (disjunction tk d lo s).2).2).e≠0:=(by unfold fail;rw[if_pos e1];show (23:Int)≠0;decide);rw[if_neg h1,if_neg (by rw[o2.2.2.1.1];exact h1)];exact o2
   ·simp only[if_neg hd,if_pos e1,if_pos re1];exact ((o1.then (h.rest hd).1).node (k:=10) (by decide) (fun _=> by simp[lift])).cast (by rw[dig10];simp[Pr.bin])
  ·rw[if_neg hx,if_neg (fun e=> hx (hb.2 e))];exact o
 ·unfold lift formula;have h1:(disjunction tk d lo s).2=s:=hs.df s he;simp only;rw[h1,if_neg (by simp[he])];exact h1
 ·unfold Pr.formula;have h1:(Pr.or tk d glo r).2=r:=hs.dg r he;simp only;rw[h1,Yd he,if_neg (by simp)];exact h1
theorem Q2c (ht:Toks tk) {d:Nat} {lo:Ps.Lv} {glo:Pr.Lv} (h:SimV tk d lo glo):Sim tk (express tk d lo) (Pr.express tk d glo):=by
 have hf:=Gn ht h;have hx:=h.ex;refine ⟨fun s r he hi hr=> ?_,fun s he=> ?_,fun r he=> ?_⟩
 ·have o:=Out.nil hi hr;have b1:=YJ hi hr he tLet;have b2:=YJ hi hr he tIf;have b3:=YJ hi hr he tAssert;have hc:=(hr.2.2 he).2;unfold lift express Pr.express;simp only[if_pos he,if_pos (hr.1.trans he)];rw[b1,b2,b3,hc];cases hcl:s.clause with
  | true=> simpa [lift] using hf.go s r he hi hr
  | false=>
   simp only[Bool.not_false,Bool.true_and,Bool.false_eq_true,if_false];by_cases h1:nextB tk [tLet] s.used=true
   ·rw[if_pos h1,if_pos h1];exact (((((((o.leaf ht he (Qu h1)).1.then (Uk ht (k:=1) (by decide))).then (Xf ht [61])).then hx).then (Xf ht tIn)).then hx).node (k:=7) (by decide) (fun _=> by simp[lift])).cast (by rw[dig7];simp[Pr.exLet])
   ·rw[if_neg h1,if_neg h1];by_cases h2:nextB tk [tIf] s.used=true
    ·rw[if_pos h2,if_pos h2];exact (((((((o.leaf ht he (Qu h2)).1.then hx).then (Xf ht tThen)).then hx).then (Xf ht tElse)).then hx).node (k:=8) (by decide) (fun _=> by simp[lift])).cast (by rw[dig8];simp[Pr.exIf])
    ·rw[if_neg h2,if_neg h2];by_cases h3:nextB tk [tAssert] s.used=true
     ·rw[if_pos h3,if_pos h3];exact (((((o.leaf ht he (Qu h3)).1.then hx).then (Xf ht tIn)).then hx).node (k:=9) (by decide) (fun _=> by simp[lift])).cast (by rw[dig9];simp[Pr.exAssert])
     ·rw[if_neg h3,if_neg h3];exact hf.go s r he hi hr
 ·unfold lift express;rw[if_neg he]
 ·unfold Pr.express;rw[if_neg he]
theorem Q0W (ht:Toks tk):∀ d:Nat,SimV tk d (Ps.lv tk d) (Pr.lv tk d)
 | 0=> by
  refine ⟨⟨fun s r he hi hr=> (Out.nil hi hr).fail (by decide) _ _,fun s he=> ?_,fun r he=> ?_⟩,fun h=> absurd rfl h⟩
  ·unfold lift Ps.lv;exact Yw he
  ·unfold Pr.lv;exact YI he
 | d+1=> by
  have h:=Q0W ht d;exact ⟨Q2c ht h,fun _=> ⟨Gn ht h,Yr ht h,JR ht h⟩⟩
end
end Go.Proofs.YtiecccakcenobaaGreatDoor.Pc
namespace Go.Proofs.YtiecccakcenobaaGreatDoor.Pc
open Tr Ps
section
variable {tk:List Tk}
theorem Out.clause {s0 s:St} {l:List Int} {r:Pr.Rs} {x:List UInt8} (o:Out tk s0 s l r x) (b:Bool):Inv tk {s with clause:=b}/\Rel {s with clause:=b} {r with inn:=b}:=by
 refine ⟨o.2.1,o.2.2.1.1,o.2.2.1.2.1,fun e=> ⟨(o.2.2.1.2.2 e).1,rfl⟩⟩
end
end Go.Proofs.YtiecccakcenobaaGreatDoor.Pc
namespace Go.Proofs.YtiecccakcenobaaGreatDoor.Pc
open Tr Ps
theorem Q04 (l:List Bool) (i j:Nat) (h:i < l.length):(l.set i true).getD j false=(l.getD j false || decide (j=i)):=by
 simp only[List.getD];by_cases e:i=j
 ·subst e;rw[List.getElem?_set_self h];simp
 ·rw[List.getElem?_set_ne e,eK_ (fun h=> e h.symm),Bool.or_false]
theorem Q2d:∀ (ks:List Int) (kid:List Bool),ks.Nodup->(∀ k∈ks,0<=k/\k.toNat < kid.length/\kid.getD k.toNat false=false)->
  ∃ kid',marks kid ks=some kid'/\kid'.length=kid.length/\∀ j:Nat,kid'.getD j false=(kid.getD j false || decide ((j:Int)∈ks))
 | [],kid,_,_=> ⟨kid,rfl,rfl,fun j=> by simp⟩
 | k::ks,kid,hn,hk=> by
  have h0:=hk k (by simp);rw[List.nodup_cons] at hn;obtain ⟨kid',h1,h2,h3⟩:=Q2d ks (kid.set k.toNat true) hn.2 (fun x hx=> by
   have hx1:=hk x (by simp[hx]);refine ⟨hx1.1,by rw[List.length_set];exact hx1.2.1,?_⟩;rw[Q04 _ _ _ h0.2.1,hx1.2.2,Bool.false_or,eK_];intro e;have:x=k:=(by omega);exact hn.1 (this ▸ hx))
  refine ⟨kid',?_,by rw[h2,List.length_set],fun j=> ?_⟩
  ·unfold marks;rw[h0.2.2,if_neg (by simp)];exact h1
  ·rw[h3,Q04 _ _ _ h0.2.1,Bool.or_assoc];congr 1;rw[Bool.eq_iff_iff];simp only[Bool.or_eq_true,decide_eq_true_eq,List.mem_cons];constructor
   ·rintro (h | h)
    ·exact Or.inl (by omega)
    ·exact Or.inr h
   ·rintro (h | h)
    ·exact Or.inl (by omega)
    ·exact Or.inr h
theorem DJ {t:T}:∀ (l:List Nd) (i:Nat) (kid:List Bool),t.nodes.drop i=l->(∀ j n,t.nodes[j]? =some n->formed t j n=true)->(l.flatMap (·.kids)).Nodup->(∀ k∈l.flatMap (·.kids),0<=k/\k.toNat < kid.length/\kid.getD k.toNat false=false)->
  ∃ kid',rightGo t i l kid=some kid'/\kid'.length=kid.length/\∀ j:Nat,kid'.getD j false=(kid.getD j false || decide ((j:Int)∈l.flatMap (·.kids)))
 | [],i,kid,_,_,_,_=> ⟨kid,rfl,rfl,fun j=> by simp⟩
 | n::l,i,kid,hl,hf,hn,hk=> by
  have hlt:i < t.nodes.length:=by
   rcases eS_ i t.nodes.length with h1 | h1
   ·exact h1
   ·rw[List.drop_eq_nil_of_le h1] at hl;cases hl
  have hl2:=List.drop_eq_getElem_cons hlt;rw[hl] at hl2;injection hl2 with e1 e2;have hni:t.nodes[i]? =some n:=by rw[eA_ hlt, <-e1]
  rw[List.flatMap_cons,List.nodup_append] at hn;obtain ⟨hn1,hn2,hn3⟩:=hn;obtain ⟨k1,a1,a2,a3⟩:=Q2d n.kids kid hn1 (fun x hx=> hk x (by rw[List.flatMap_cons];exact List.mem_append_left _ hx));obtain ⟨k2,b1,b2,b3⟩:=DJ l (i+1) k1 e2.symm hf hn2 (fun x hx=> by
   have hx1:=hk x (by rw[List.flatMap_cons];exact List.mem_append_right _ hx);refine ⟨hx1.1,by rw[a2];exact hx1.2.1,?_⟩;rw[a3,hx1.2.2,Bool.false_or,eK_];intro h;rw[Int.toNat_of_nonneg hx1.1] at h;exact hn3 x h x hx rfl)
  refine ⟨k2,?_,by rw[b2,a2],fun j=> ?_⟩
  ·unfold rightGo;rw[if_pos (hf i n hni),a1];exact b1
  ·rw[b3,a3,Bool.or_assoc,List.flatMap_cons];congr 1;rw[Bool.eq_iff_iff];simp only[Bool.or_eq_true,decide_eq_true_eq,List.mem_append]
theorem Q0X {tk:List Tk} {s:St} {root:Int} {x:List UInt8} (hf:Fm tk s.nodes) (hu:s.used=tk.length) (h:Got tk St.first s [root] x):
  right ⟨tk,s.nodes⟩=true/\0 < s.nodes.length/\root=((s.nodes.length - 1:Nat):Int)/\32::dump ⟨tk,s.nodes⟩ (s.nodes.length - 1)=x:=by
 obtain ⟨m,hm,hp⟩:=h.nodes;have hm2:s.nodes=m:=by rw[hm];rfl
 subst hm2;have hz:St.first.nodes.length=0:=rfl;rw[hz] at hp;have hlow:=hf.low;have hr:root∈ints 0 s.nodes.length:=hp.mem_iff.1 (by simp);rw[Uj] at hr;have h0:0 < s.nodes.length:=by omega
 have hkid:∀ k∈s.nodes.flatMap (·.kids),0<=k/\k < ((s.nodes.length - 1:Nat):Int):=by
  intro k hk;rw[List.mem_flatMap] at hk;obtain ⟨n,hn,hk⟩:=hk;obtain ⟨j,hj⟩:=List.getElem?_of_mem hn;have h1:=(hlow j n hj).1 k hk;have h2:=Zm hj;omega
 have hroot:root=((s.nodes.length - 1:Nat):Int):=by
  have h1:((s.nodes.length - 1:Nat):Int)∈s.nodes.flatMap (·.kids)++ [root]:=hp.mem_iff.2 (by rw[Uj];omega);rw[List.mem_append,List.mem_singleton] at h1;rcases h1 with h1 | h1
  ·have:=hkid _ h1;omega
  ·exact h1.symm
 have hnd:(s.nodes.flatMap (·.kids)++ [root]).Nodup:=hp.nodup_iff.2 (by
  unfold ints;exact List.Pairwise.map _ (fun a b hab=> fun e=> hab (Int.ofNat.inj e)) List.nodup_range')
 rw[List.nodup_append] at hnd;obtain ⟨kid,b1,b2,b3⟩:=DJ (t:=⟨tk,s.nodes⟩) s.nodes 0 (List.replicate s.nodes.length false) (by simp) hf hnd.1 (fun k hk=> by
  have:=hkid k hk;refine ⟨this.1,by rw[List.length_replicate];omega,?_⟩;simp only[List.getD,List.getElem?_replicate];split <;> rfl)
 rw[List.length_replicate] at b2;have htx:=h.text;have hlv:=h.lvs;simp only[List.flatMap_cons,List.flatMap_nil,List.append_nil,hroot,Int.toNat_natCast] at htx hlv;refine ⟨?_,h0,hroot,htx⟩;rw[Db b1];simp only[Bool.and_eq_true,Bool.not_eq_true',beq_iff_eq];refine ⟨⟨?_,?_⟩,?_⟩
 ·cases kid with
  | nil=> simp only[eU_] at b2;omega
  | cons _ _=> rfl
 ·rw[<-Bool.not_eq_true,List.contains_iff_mem];intro hmem;obtain ⟨j,hj⟩:=List.getElem?_of_mem hmem;rw[List.getElem?_take] at hj;split at hj
  ·rename_i hj1;have h1:=b3 j;simp only[List.getD,hj,Option.getD_some,List.getElem?_replicate] at h1;have h2:(j:Int)∈s.nodes.flatMap (·.kids)++ [root]:=hp.mem_iff.2 (by rw[Uj];omega);rw[List.mem_append,List.mem_singleton] at h2;rcases h2 with h2 | h2
   ·rw[eM_ h2,Bool.or_true] at h1;cases h1
   ·omega
  ·cases hj
 ·show leafs s.nodes (s.nodes.length - 1)=_;rw[hlv,hu];show (List.range' 0 (tk.length - 0)).map Int.ofNat=_;rw[Nat.sub_zero, <-List.range_eq_range'];rfl
end Go.Proofs.YtiecccakcenobaaGreatDoor.Pc
namespace Go.Proofs.YtiecccakcenobaaGreatDoor.Pc
open Tr Ps
section
variable {tk:List Tk}
theorem Q86 (ht:Toks tk) {s:St} {l:List Int} {r:Pr.Rs} {x:List UInt8} (o:Out tk St.first s l r x) {k:Int} (hk:1<=k/\k<=18):
  (Pr.kind tk 5 r).2.e=(node k (l++ [(kind tk 5 s).1]) (kind tk 5 s).2).2.e/\
  ((node k (l++ [(kind tk 5 s).1]) (kind tk 5 s).2).2.e≠0->(Pr.kind tk 5 r).2.pos=(node k (l++ [(kind tk 5 s).1]) (kind tk 5 s).2).2.pos)/\
  ((node k (l++ [(kind tk 5 s).1]) (kind tk 5 s).2).2.e=0->Fm tk (node k (l++ [(kind tk 5 s).1]) (kind tk 5 s).2).2.nodes/\(node k (l++ [(kind tk 5 s).1]) (kind tk 5 s).2).2.used=tk.length/\
   Got tk St.first (node k (l++ [(kind tk 5 s).1]) (kind tk 5 s).2).2 [(node k (l++ [(kind tk 5 s).1]) (kind tk 5 s).2).1] ([32,40]++Lib.decDigits k.toNat++(x++(Pr.kind tk 5 r).1)++ [41])/\
   ((node k (l++ [(kind tk 5 s).1]) (kind tk 5 s).2).2.nodes[(node k (l++ [(kind tk 5 s).1]) (kind tk 5 s).2).2.nodes.length - 1]?).map (·.kind)=some k):=by
 by_cases he:s.e=0
 ·obtain ⟨t,h1,h2,h3⟩:=o.2.1.get;have hp:=Ze o.2.1 o.2.2.1 he;by_cases h5:(peek tk s.used).kind=5
  ·have hu:s.used+1=tk.length:=by
    have q:=o.2.1.1;rcases eS_ (s.used+1) tk.length with h4 | h4
    ·exact absurd (h2 ▸ h5) (ht.other _ _ h4 h1)
    ·omega
   have htx:t.text= []:=(ht.last t (by rw[<-h1];congr 1;omega)).2;obtain ⟨g1,g2,g3,g4,_,g5⟩:=J0 o.2.1.2.2 h1;have e1:kind tk 5 s=leaf tk s:=(by unfold kind;rw[if_pos ⟨he,h5⟩]);have e2:Pr.kind tk 5 r=([32,36],r):=by
    unfold Pr.kind;rw[if_pos ⟨o.2.2.1.1.trans he,by rw[hp];exact h5⟩];unfold Pr.leaf;rw[hp,if_pos h5]
   rw[e1,e2];rw[h2] at h5;rw[if_pos h5,htx] at g5;have hg:=(o.2.2.2 he).trans o.2.1.2.2 g5;have hroom:=(o.2.2.2 he).room;have z1:St.first.nodes.length=0:=rfl;have z2:St.first.used=0:=rfl;obtain ⟨k1,k2,k3,k4,_,k5⟩:=DD g1 hg (g3.trans he) hk (by rw[g4,g2];omega);refine ⟨by rw[k3];exact o.2.2.1.1.trans he,fun h=> absurd k3 h,fun _=> ⟨k1,by rw[k2,g2,hu],k5,?_⟩⟩;have hm:¬ ((l++ [(leaf tk s).1]).any (fun x=> decide (x < 0) || decide (((leaf tk s).2.nodes.length:Int)<=x))=true):=by
    simp only[List.any_eq_true,Bool.or_eq_true,decide_eq_true_eq,not_exists,not_and];intro y hy;have:=hg.mem hy;omega
   have e3:node k (l++ [(leaf tk s).1]) (leaf tk s).2=(((leaf tk s).2.nodes.length:Int),{(leaf tk s).2 with nodes:=(leaf tk s).2.nodes++ [⟨k,-1,l++ [(leaf tk s).1]⟩]}):=by
    unfold node;rw[if_pos (g3.trans he),if_neg hm]
   rw[e3];simp
  ·have e1:kind tk 5 s=(0,fail tk 22 s):=(by unfold kind;rw[if_neg (by simp[h5])]);have e2:Pr.kind tk 5 r=([],Pr.fail tk 22 r):=(by unfold Pr.kind;rw[if_neg (by rw[hp];simp[h5])]);have o2:=o.fail (e:=22) (by decide) [] [];have h6:(fail tk 22 s).e≠0:=(by unfold fail;rw[if_pos he];show (22:Int)≠0;decide);rw[e1,e2];simp only;rw[G3 h6];exact ⟨o2.2.2.1.1,o2.2.2.1.2.1,fun h=> absurd h h6⟩
 ·have hr:r.e≠0:=by rw[o.2.2.1.1];exact he
  rw[Q5t he,Q3R hr];simp only;rw[G3 he];exact ⟨o.2.2.1.1,o.2.2.1.2.1,fun h=> absurd h he⟩
structure Same (tk:List Tk) (k:Int) (s:St) (r:Pr.Rs) (x:List UInt8):Prop where
 e:r.e=s.e
 pos:s.e≠0->r.pos=s.pos
 right:s.e=0->Tr.right ⟨tk,s.nodes⟩=true/\0 < s.nodes.length/\dump ⟨tk,s.nodes⟩ (s.nodes.length - 1)=x/\(s.nodes[s.nodes.length - 1]?).map (·.kind)=some k
 used:s.e=0->s.used=tk.length
 small:s.e=0->s.nodes.length<=3*tk.length/\∀ n∈s.nodes,n.kids.length<=s.nodes.length
theorem Q0Y {s:St} {l:List Int} {x:List UInt8} (hu:s.used=tk.length) (h:Got tk St.first s l x):s.nodes.length<=3*tk.length/\∀ n∈s.nodes,n.kids.length<=s.nodes.length:=by
 have hr:=h.room;obtain ⟨m,hm,hp⟩:=h.nodes;have hm2:s.nodes=m:=by rw[hm];rfl
 subst hm2;have hz:St.first.nodes.length=0:=rfl;have hz2:St.first.used=0:=rfl;rw[hz,hz2] at hr;have hl:=hp.length_eq;simp only[eC_,ints,List.length_map,List.length_range'] at hl;refine ⟨by omega,fun n hn=> ?_⟩;have h1:n.kids.length<=(s.nodes.flatMap (·.kids)).length:=by
  obtain ⟨a,b,hab⟩:=List.append_of_mem hn;rw[hab];simp only[List.flatMap_append,List.flatMap_cons,eC_];omega
 omega
theorem Q2e (ht:Toks tk) {s:St} {l:List Int} {r:Pr.Rs} {x:List UInt8} (o:Out tk St.first s l r x) {k:Int} (hk:1<=k/\k<=18):
  Same tk k (node k (l++ [(kind tk 5 s).1]) (kind tk 5 s).2).2 (Pr.kind tk 5 r).2 ([40]++Lib.decDigits k.toNat++(x++(Pr.kind tk 5 r).1)++ [41]):=by
 obtain ⟨h1,h2,h3⟩:=Q86 ht o hk;refine ⟨h1,h2,fun h=> ?_,fun h=> (h3 h).2.1,fun h=> Q0Y (h3 h).2.1 (h3 h).2.2.1⟩;obtain ⟨g1,g2,g3,g4⟩:=h3 h;obtain ⟨r1,r2,_,r4⟩:=Q0X g1 g2 g3;refine ⟨r1,r2,?_,g4⟩;simpa using r4
theorem Q05 (ht:Toks tk):Inv tk St.first/\Rel St.first Pr.Rs.first:=by
 refine ⟨⟨ht.pos,eV_ _,fun j n hj=> by cases hj⟩,rfl,fun h=> absurd rfl h,fun _=> ⟨rfl,rfl⟩⟩
theorem Q3T (ht:Toks tk) (d:Nat):Same tk 18 (alone tk (Ps.lv tk d).ex St.first).2 (Pr.alone tk (Pr.lv tk d).ex Pr.Rs.first).2 (Pr.alone tk (Pr.lv tk d).ex Pr.Rs.first).1:=by
 have hx:=(Q0W ht d).ex;obtain ⟨hi,hr⟩:=Q05 ht;obtain ⟨i2,r2⟩:=(Out.nil hi hr).clause true;have o1:Out tk {St.first with clause:=true} _ [((Ps.lv tk d).ex {St.first with clause:=true}).1] _ _:=hx.go {St.first with clause:=true} {Pr.Rs.first with inn:=true} rfl i2 r2;have o2:Out tk St.first ((Ps.lv tk d).ex {St.first with clause:=true}).2 [((Ps.lv tk d).ex {St.first with clause:=true}).1] ((Pr.lv tk d).ex {Pr.Rs.first with inn:=true}).2 ((Pr.lv tk d).ex {Pr.Rs.first with inn:=true}).1:=
  ⟨hi,o1.2.1,o1.2.2.1,fun e2=> ⟨(o1.2.2.2 e2).nodes,(o1.2.2.2 e2).used,(o1.2.2.2 e2).lvs,(o1.2.2.2 e2).text,(o1.2.2.2 e2).room⟩⟩
 have ss:=Q2e ht o2 (k:=18) (by decide);unfold alone Pr.alone;refine ⟨ss.e,ss.pos,fun h=> ?_,ss.used,ss.small⟩;obtain ⟨q1,q2,q3,q4⟩:=ss.right h;refine ⟨q1,q2,?_,q4⟩;simp only;rw[show (node 18 [((Ps.lv tk d).ex {St.first with clause:=true}).1,(kind tk 5 ((Ps.lv tk d).ex {St.first with clause:=true}).2).1] (kind tk 5 ((Ps.lv tk d).ex {St.first with clause:=true}).2).2)=(node 18 ([((Ps.lv tk d).ex {St.first with clause:=true}).1]++ [(kind tk 5 ((Ps.lv tk d).ex {St.first with clause:=true}).2).1]) (kind tk 5 ((Ps.lv tk d).ex {St.first with clause:=true}).2).2) from rfl,q3,dig18];simp
end
end Go.Proofs.YtiecccakcenobaaGreatDoor.Pc
namespace Go.Proofs.YtiecccakcenobaaGreatDoor.Pc
open Tr Ps
section
variable {tk:List Tk}
def beside (s:St):Pr.Rs:=⟨s.used,s.clause,s.e,s.pos⟩
theorem JS (s:St):Rel s (beside s):=⟨rfl,fun _=> rfl,fun _=> ⟨rfl,rfl⟩⟩
theorem SimL.keep {f:St->List Int × St} {g:Pr.G} (h:SimL tk f g) {s:St} (hi:Inv tk s):Inv tk (f s).2:=by
 by_cases he:s.e=0
 ·exact (h.go s (beside s) he hi (JS s)).2.1
 ·rw[h.df s he];exact hi
theorem SimL.used {f:St->List Int × St} {g:Pr.G} (h:SimL tk f g) {s:St} (hi:Inv tk s) (he:s.e=0) (he2:(f s).2.e=0):s.used<=(f s).2.used:=
 ((h.go s (beside s) he hi (JS s)).2.2.2 he2).used
theorem Sim.keep {f:F} {g:Pr.G} (h:Sim tk f g) {s:St} (hi:Inv tk s):Inv tk (f s).2:=SimL.keep h hi
def Og (tk:List Tk) (s:St) (l:List Int):Prop:=∃ s0 r x,Out tk s0 s l r x
theorem Og.nil {s:St} (hi:Inv tk s):Og tk s []:=⟨s,beside s, [],Out.nil hi (JS s)⟩
theorem Og.inv {s:St} {l:List Int} (h:Og tk s l):Inv tk s:=by
 obtain ⟨s0,r,x,o⟩:=h;exact o.2.1
theorem Og.then {s:St} {l:List Int} (h:Og tk s l) {f:F} {g:Pr.G} (k:Sim tk f g):Og tk (f s).2 (l++ [(f s).1]):=by
 obtain ⟨s0,r,x,o⟩:=h;exact ⟨s0,_,_,o.then k⟩
theorem Og.leaf (ht:Toks tk) {s:St} {l:List Int} (h:Og tk s l) (he:s.e=0) (hk:(peek tk s.used).kind≠5):Og tk (Ps.leaf tk s).2 (l++ [(Ps.leaf tk s).1])/\(Ps.leaf tk s).2.e=0:=by
 obtain ⟨s0,r,x,o⟩:=h;exact ⟨⟨s0,_,_,(o.leaf ht he hk).1⟩,(o.leaf ht he hk).2⟩
theorem Og.node {s:St} {l:List Int} (h:Og tk s l) {k:Int} (hk:1<=k/\k<=18) (hl:s.e=0->2<=l.length):Og tk (Ps.node k l s).2 [(Ps.node k l s).1]:=by
 obtain ⟨s0,r,x,o⟩:=h;exact ⟨s0,_,_,o.node hk hl⟩
theorem Og.clause {s:St} {l:List Int} (h:Og tk s l) (b:Bool):Og tk {s with clause:=b} []:=Og.nil h.inv
theorem Qg {s:St} (h:Inv tk s) (hl:tk.length<=1000000):0 < tk.length/\tk.length<=1000000/\s.used<=tk.length/\s.nodes.length<=5000000:=by
 have h1:=h.1;have h2:=h.2.1;omega
theorem Q5v (k:Int) (l:List Int) (s:St):(Ps.node k l s).2.used=s.used:=by
 unfold Ps.node;by_cases h:s.e=0
 ·rw[if_pos h];by_cases h2:(l.any fun x=> decide (x < 0) || decide ((s.nodes.length:Int)<=x))=true
  ·rw[if_pos h2]
  ·rw[if_neg h2]
 ·rw[if_neg h]
theorem leaf_used {s:St} (hi:Inv tk s):(Ps.leaf tk s).2.used=s.used+1:=by
 obtain ⟨t,h1,_⟩:=hi.get;exact (J0 hi.2.2 h1).2.1
end
end Go.Proofs.YtiecccakcenobaaGreatDoor.Pc
namespace Go.Proofs.YtiecccakcenobaaGreatDoor
open Tryz
open Go.RowKit
variable {a:Act} {ops:Array Oper} {n:Int} {l m:List Int} {o:Oper} {s:Ps.St} {v:Value} {V V' W:World}
theorem QU (w:World) (l:List (List UInt8)) {r:Nat} (hr:r=w.heap.size):RdS (w.alloc (.cells (strCells l).toArray 9)) (fun k=> k=w.heap.size) 1 (.slice (some ⟨r,0,none⟩) l.length l.length) l.length (strCells l):=by
 subst hr;refine ⟨by simp[strCells],_,_,rfl,rl_ _,Or.inr ⟨_,_,rfl,Or.inr rfl,?_⟩⟩;intro j v hj;rw[Nat.zero_add];exact Q3 (YB _ _ _ rfl) j (by simpa using hj)
def SignsSay (ts:List (List UInt8)) (W:World) (e:Ending) (W':World):Prop:=∃ v,e= .returned v/\RdS W' (fun k=> W.heap.size<=k/\k < W'.heap.size) 1 v ts.length (strCells ts)/\Below W.heap.size W W'
theorem Zf (W:World) (l:List (List UInt8)):SignsSay l W (.returned (.slice (some ⟨W.heap.size,0,none⟩) l.length l.length)) (W.alloc (.cells (strCells l).toArray 9)):=
 ⟨_,rfl,(QU W l rfl).imp fun k hk=> ⟨by omega,by rw[hk, <-Q5];omega⟩,(eB_ _ _).alloc (rl_ _) _⟩
theorem Q0Z (W:World):Calls prog 222 #[.int .i64 0] W (SignsSay Ps.sOr W):=by
 go_in;go_wp2;go_ret;exact Zf W Ps.sOr
theorem Q10 (W:World):Calls prog 222 #[.int .i64 1] W (SignsSay Ps.sAnd W):=by
 go_in;go_wp2;go_ret;exact Zf W Ps.sAnd
theorem Q11 (W:World):Calls prog 222 #[.int .i64 2] W (SignsSay Ps.sCmp W):=by
 go_in;go_wp2;go_ret;exact Zf W Ps.sCmp
theorem Q12 (W:World):Calls prog 222 #[.int .i64 3] W (SignsSay Ps.sSum W):=by
 go_in;go_wp2;go_ret;exact Zf W Ps.sSum
theorem Q13 (W:World):Calls prog 222 #[.int .i64 4] W (SignsSay Ps.sMul W):=by
 go_in;go_wp2;go_ret;exact Zf W Ps.sMul
section
variable {w0:World} {p b:Nat} {tk:List Tr.Tk} {dp:Int}
def Knows (w0:World) (p b:Nat) (tk:List Tr.Tk) (dp:Int) (k:FuncId) (args:Array Value) (f:Ps.F):Prop:=
 ∀ (Q:Nat->Prop) (W:World) (s:Ps.St),Up Q W->PI Q w0 W p b tk dp s->Pc.Inv tk s->Calls prog k args W (Does Q w0 p b tk dp (f s) W)
theorem ZA (ht:Pc.Toks tk) (hl:tk.length<=1000000) {lv:Int} (hlv:(lv==2)=false) {ts:List (List UInt8)} (hts:ts.length<=1000) (hsg:∀ W,Calls prog 222 #[.int .i64 lv] W (SignsSay ts W)) {n:Int} {f:Ps.F} {g:Pr.G} (hf:Pc.Sim tk f g)
  (hpart:Knows w0 p b tk dp 221 #[.pointer (some ⟨p,0,none⟩),.int .i64 lv,.int .i64 n] f):
  Knows w0 p b tk dp 193 #[.pointer (some ⟨p,0,none⟩),.int .i64 lv,.int .i64 n] (Ps.row tk f ts false):=by
 intro Q W s hQ h hi;have H:=h6_ ht hl hts hsg hf hpart;have HI:=h3_ h hi hQ;have HO:=hd_ ((Pc.Og.nil hi).then hf);clear ht hl hts hsg hf hpart h hi hQ;go_in;go_wp2_with fail;refine (H.F Q W s HI.C HI.a HI.b).mono ?_;rintro e W1 ⟨rfl,h1,h2⟩;have H1:=h2_ h1 (h2);clear h1 h2;dsimp only;go_wp2_with fail;go_loopg [7] tk.length (fun k v7 wr=> ∃ (a:Int) (s1:Ps.St),v7= .int .i64 a/\PI Q w0 wr p b tk dp s1/\Pc.Og tk s1 [a]/\(s1.e=0->tk.length<=k+s1.used)/\Ps.rowGo tk f ts false k a s1=Ps.row tk f ts false s/\FrT PTs W wr)
 case atStart=> exact ⟨_,_,rfl,H1.a,HO.o,fun _=> Nat.le_add_right _ _,rfl,H1.B⟩
 case round=>
  obtain ⟨a,s1,rfl,hp,hog,hfu,hgo,hfr⟩:=hrel;have HR:=h5_ hp hog hfu hgo hfr;have hok:=Qv hp;by_cases he:s1.e=0
  ·rw[eM_ he] at hok;have HOK:=hd_ hok;have HE:=hd_ he;clear hp hog hfu hgo hfr hok he;by_cases hn:Ps.nextB tk ts s1.used=true
   ·have HN:=hd_ hn;clear hn;go_wp2_with fail;refine (HOK.o).mono ?_;rintro e W2 ⟨rfl,rfl⟩;dsimp only;go_wp2_with fail;refine (H.d _).mono ?_;rintro e W3 ⟨v3,rfl,hr3,hb3⟩;obtain ⟨a3,c3,rfl⟩:=hr3.form;have hnx:=QT (HR.a.past hb3) (Pc.Qg HR.b.inv H.b) hr3 (fun k hk=> hk.2) H.c;rw[HN.o] at hnx;have HNX:=hd_ hnx;have H3:=hd_ hb3;clear hr3 hb3 hnx;dsimp only;go_wp2_with fail;refine HNX.o.mono ?_;rintro e W4 ⟨rfl,hb4⟩;have H4:=hd_ (H3.o.trans (hb4.mono H3.o.size));have c0:=(HR.a.past H4.o).c0;clear hb4;dsimp only;go_wp2_with fail;refine (QE (HR.a.past H4.o) (Pc.Qg HR.b.inv H.b)).mono ?_;rintro e W5 ⟨rfl,h5,g5⟩;have hol:=HR.b.leaf H.a HE.o (Pc.Qu HN.o);have H5:=h3_ h5 ((FrT.of H4.o).trans g5) hol;clear h5 g5 hol c0;dsimp only;go_wp2_with fail;refine (H.F Q _ _ (HI.C.frt (HR.E.trans H5.b)) H5.a H5.c.inv).mono ?_;rintro e W6 ⟨rfl,h6,g6⟩;have hon:=((H5.c.then H.e).node (k:=10) (by decide) (fun _=> by simp))
    have H6:=h3_ h6 (H5.b.trans g6) hon;clear h6 g6 hon;dsimp only;go_wp2_with fail;have hal:Below W6.heap.size W6 (W6.alloc (.cells (intCells [a,(Ps.leaf tk s1).1,(f (Ps.leaf tk s1).2).1]).toArray 3)):=(eB_ _ _).alloc (rl_ _) _;refine (Xr (l:= [a,(Ps.leaf tk s1).1,(f (Ps.leaf tk s1).2).1]) (H6.a.past hal) (Pc.Qg (H5.c.then H.e).inv H.b) (Xw W6 _ rfl) (fun k hk=> by rw[hk, <-Q5];omega) (by simp) (HI.C.frt ((HR.E.trans H6.b).trans (FrT.of hal))) 10).mono ?_;rintro e W7 ⟨rfl,h7,g7⟩;have H7:=h2_ h7 (H6.b.trans ((FrT.of hal).trans g7));clear h7 g7 hal;dsimp only;go_wp2_with fail;obtain ⟨m,hm⟩:∃ m,gk=m+1:=⟨gk - 1,by have q1:=HR.c HE.o;have q2:=HR.b.inv.1;omega⟩
    go_roundg m
    case measure=> omega
    case rel=>
     have hgo:=HR.d;rw[hm] at hgo;unfold Ps.rowGo at hgo;rw[if_pos ⟨HE.o,HN.o⟩,if_neg (by simp)] at hgo;refine ⟨_,_,rfl,H7.a,H6.C,fun he7=> ?_,hgo,HR.E.trans H7.B⟩;have q1:=HR.c HE.o;have q2:=Pc.leaf_used HR.b.inv;have q3:(f (Ps.leaf tk s1).2).2.e=0:=by
      by_cases h0:(f (Ps.leaf tk s1).2).2.e=0
      ·exact h0
      ·rw[Pc.G3 h0] at he7;exact absurd he7 h0
     have q4:=Pc.SimL.used H.e H5.c.inv H5.D q3;have q5:=Pc.Q5v 10 [a,(Ps.leaf tk s1).1,(f (Ps.leaf tk s1).2).1] (f (Ps.leaf tk s1).2).2;rw[q5];simp only[Pc.lift] at q4;omega
   ·rw[Bool.not_eq_true] at hn;have HN:=hd_ hn;clear hn;go_wp2_with fail;refine (HOK.o).mono ?_;rintro e W2 ⟨rfl,rfl⟩;dsimp only;go_wp2_with fail;refine (H.d _).mono ?_;rintro e W3 ⟨v3,rfl,hr3,hb3⟩;obtain ⟨a3,c3,rfl⟩:=hr3.form;have hnx:=QT (HR.a.past hb3) (Pc.Qg HR.b.inv H.b) hr3 (fun k hk=> hk.2) H.c;rw[HN.o] at hnx;have HNX:=hd_ hnx;have H3:=hd_ hb3;clear hr3 hb3 hnx;dsimp only;go_wp2_with fail;refine HNX.o.mono ?_;rintro e W4 ⟨rfl,hb4⟩;have H4:=hd_ (H3.o.trans (hb4.mono H3.o.size));clear hb4;dsimp only;go_wp2_with fail;go_ret;have hgo:=HR.d;have e1:∀ m,Ps.rowGo tk f ts false m a s1=(a,s1):=by
     intro m;cases m with
     | zero=> rfl
     | succ m=> unfold Ps.rowGo;rw[if_neg (by rw[HN.o];simp)]
    rw[e1] at hgo;rw[<-hgo];exact ⟨rfl,HR.a.past H4.o,HR.E.trans (FrT.of H4.o)⟩
  ·rw[eK_ he] at hok;have HOK:=hd_ hok;have HE:=hd_ he;clear hp hog hfu hgo hfr hok he;go_wp2_with fail;refine (HOK.o).mono ?_;rintro e W2 ⟨rfl,rfl⟩;dsimp only;go_wp2_with fail;go_ret;have hgo:=HR.d;have e1:∀ m,Ps.rowGo tk f ts false m a s1=(a,s1):=by
    intro m;cases m with
    | zero=> rfl
    | succ m=> unfold Ps.rowGo;rw[if_neg (by simp[HE.o])]
   rw[e1] at hgo;rw[<-hgo];exact ⟨rfl,HR.a,HR.E⟩
theorem Q5w (ht:Pc.Toks tk) (hl:tk.length<=1000000) {ts:List (List UInt8)} (hts:ts.length<=1000) (hsg:∀ W,Calls prog 222 #[.int .i64 2] W (SignsSay ts W)) {n:Int} {f:Ps.F} {g:Pr.G} (hf:Pc.Sim tk f g)
  (hpart:Knows w0 p b tk dp 221 #[.pointer (some ⟨p,0,none⟩),.int .i64 2,.int .i64 n] f):
  Knows w0 p b tk dp 193 #[.pointer (some ⟨p,0,none⟩),.int .i64 2,.int .i64 n] (Ps.row tk f ts true):=by
 intro Q W s hQ h hi;have H:=h6_ ht hl hts hsg hf hpart;have HI:=h3_ h hi hQ;have HO:=hd_ ((Pc.Og.nil hi).then hf);clear ht hl hts hsg hf hpart h hi hQ;go_in;go_wp2_with fail;refine (H.F Q W s HI.C HI.a HI.b).mono ?_;rintro e W1 ⟨rfl,h1,h2⟩;have H1:=h2_ h1 (h2);clear h1 h2;dsimp only;go_wp2_with fail;go_loopg [7] tk.length (fun k v7 wr=> ∃ (a:Int) (s1:Ps.St),v7= .int .i64 a/\PI Q w0 wr p b tk dp s1/\Pc.Og tk s1 [a]/\(s1.e=0->tk.length<=k+s1.used)/\Ps.rowGo tk f ts true k a s1=Ps.row tk f ts true s/\FrT PTs W wr)
 case atStart=> exact ⟨_,_,rfl,H1.a,HO.o,fun _=> Nat.le_add_right _ _,rfl,H1.B⟩
 case round=>
  obtain ⟨a,s1,rfl,hp,hog,hfu,hgo,hfr⟩:=hrel;have HR:=h5_ hp hog hfu hgo hfr;have hok:=Qv hp;by_cases he:s1.e=0
  ·rw[eM_ he] at hok;have HOK:=hd_ hok;have HE:=hd_ he;clear hp hog hfu hgo hfr hok he;by_cases hn:Ps.nextB tk ts s1.used=true
   ·have HN:=hd_ hn;clear hn;go_wp2_with fail;refine (HOK.o).mono ?_;rintro e W2 ⟨rfl,rfl⟩;dsimp only;go_wp2_with fail;refine (H.d _).mono ?_;rintro e W3 ⟨v3,rfl,hr3,hb3⟩;obtain ⟨a3,c3,rfl⟩:=hr3.form;have hnx:=QT (HR.a.past hb3) (Pc.Qg HR.b.inv H.b) hr3 (fun k hk=> hk.2) H.c;rw[HN.o] at hnx;have HNX:=hd_ hnx;have H3:=hd_ hb3;clear hr3 hb3 hnx;dsimp only;go_wp2_with fail;refine HNX.o.mono ?_;rintro e W4 ⟨rfl,hb4⟩;have H4:=hd_ (H3.o.trans (hb4.mono H3.o.size));have c0:=(HR.a.past H4.o).c0;clear hb4;dsimp only;go_wp2_with fail;refine (QE (HR.a.past H4.o) (Pc.Qg HR.b.inv H.b)).mono ?_;rintro e W5 ⟨rfl,h5,g5⟩;have hol:=HR.b.leaf H.a HE.o (Pc.Qu HN.o);have H5:=h3_ h5 ((FrT.of H4.o).trans g5) hol;clear h5 g5 hol c0;dsimp only;go_wp2_with fail;refine (H.F Q _ _ (HI.C.frt (HR.E.trans H5.b)) H5.a H5.c.inv).mono ?_;rintro e W6 ⟨rfl,h6,g6⟩;have hon:=((H5.c.then H.e).node (k:=10) (by decide) (fun _=> by simp))
    have H6:=h3_ h6 (H5.b.trans g6) hon;clear h6 g6 hon;dsimp only;go_wp2_with fail;have hal:Below W6.heap.size W6 (W6.alloc (.cells (intCells [a,(Ps.leaf tk s1).1,(f (Ps.leaf tk s1).2).1]).toArray 3)):=(eB_ _ _).alloc (rl_ _) _;refine (Xr (l:= [a,(Ps.leaf tk s1).1,(f (Ps.leaf tk s1).2).1]) (H6.a.past hal) (Pc.Qg (H5.c.then H.e).inv H.b) (Xw W6 _ rfl) (fun k hk=> by rw[hk, <-Q5];omega) (by simp) (HI.C.frt ((HR.E.trans H6.b).trans (FrT.of hal))) 10).mono ?_;rintro e W7 ⟨rfl,h7,g7⟩;have H7:=h2_ h7 (H6.b.trans ((FrT.of hal).trans g7));clear h7 g7 hal;dsimp only;go_wp2_with fail;go_ret;obtain ⟨m,hm⟩:∃ m,gk=m+1:=⟨gk - 1,by have q1:=HR.c HE.o;have q2:=HR.b.inv.1;omega⟩
    have hgo:=HR.d;rw[hm] at hgo;unfold Ps.rowGo at hgo;rw[if_pos ⟨HE.o,HN.o⟩,if_pos rfl] at hgo;rw[<-hgo];exact ⟨rfl,H7.a,HR.E.trans H7.B⟩
   ·rw[Bool.not_eq_true] at hn;have HN:=hd_ hn;clear hn;go_wp2_with fail;refine (HOK.o).mono ?_;rintro e W2 ⟨rfl,rfl⟩;dsimp only;go_wp2_with fail;refine (H.d _).mono ?_;rintro e W3 ⟨v3,rfl,hr3,hb3⟩;obtain ⟨a3,c3,rfl⟩:=hr3.form;have hnx:=QT (HR.a.past hb3) (Pc.Qg HR.b.inv H.b) hr3 (fun k hk=> hk.2) H.c;rw[HN.o] at hnx;have HNX:=hd_ hnx;have H3:=hd_ hb3;clear hr3 hb3 hnx;dsimp only;go_wp2_with fail;refine HNX.o.mono ?_;rintro e W4 ⟨rfl,hb4⟩;have H4:=hd_ (H3.o.trans (hb4.mono H3.o.size));clear hb4;dsimp only;go_wp2_with fail;go_ret;have hgo:=HR.d;have e1:∀ m,Ps.rowGo tk f ts true m a s1=(a,s1):=by
     intro m;cases m with
     | zero=> rfl
     | succ m=> unfold Ps.rowGo;rw[if_neg (by rw[HN.o];simp)]
    rw[e1] at hgo;rw[<-hgo];exact ⟨rfl,HR.a.past H4.o,HR.E.trans (FrT.of H4.o)⟩
  ·rw[eK_ he] at hok;have HOK:=hd_ hok;have HE:=hd_ he;clear hp hog hfu hgo hfr hok he;go_wp2_with fail;refine (HOK.o).mono ?_;rintro e W2 ⟨rfl,rfl⟩;dsimp only;go_wp2_with fail;go_ret;have hgo:=HR.d;have e1:∀ m,Ps.rowGo tk f ts true m a s1=(a,s1):=by
    intro m;cases m with
    | zero=> rfl
    | succ m=> unfold Ps.rowGo;rw[if_neg (by simp[HE.o])]
   rw[e1] at hgo;rw[<-hgo];exact ⟨rfl,HR.a,HR.E⟩
theorem G4 {lv:Int} (h1:(lv==1)=false) (h4:(lv==4)=false) (hb:0<=lv/\lv<=3) {n:Int} {f:Ps.F} (hr:Knows w0 p b tk dp 193 #[.pointer (some ⟨p,0,none⟩),.int .i64 (lv+1),.int .i64 n] f):
  Knows w0 p b tk dp 221 #[.pointer (some ⟨p,0,none⟩),.int .i64 lv,.int .i64 n] f:=by
 intro Q W s hQ h hi;obtain ⟨b1,b2⟩:=hb;have HC:=hd_ (hr Q W s hQ h hi);clear h hi hr hQ;go_in;go_wp2_with fail;refine (HC.o).mono ?_;rintro e W1 ⟨rfl,h1,h2⟩;have H1:=h2_ h1 (h2);clear h1 h2;dsimp only;go_wp2_with fail;go_ret;exact ⟨rfl,H1.a,H1.B⟩
theorem Q5x {f:Ps.F} (hr:Knows w0 p b tk dp 234 #[.pointer (some ⟨p,0,none⟩),.int .i64 n] f):
  Knows w0 p b tk dp 221 #[.pointer (some ⟨p,0,none⟩),.int .i64 1,.int .i64 n] f:=by
 intro Q W s hQ h hi;have HC:=hd_ (hr Q W s hQ h hi);clear h hi hr hQ;go_in;go_wp2_with fail;refine (HC.o).mono ?_;rintro e W1 ⟨rfl,h1,h2⟩;have H1:=h2_ h1 (h2);clear h1 h2;dsimp only;go_wp2_with fail;go_ret;exact ⟨rfl,H1.a,H1.B⟩
theorem Q5y {f:Ps.F} (hr:Knows w0 p b tk dp 235 #[.pointer (some ⟨p,0,none⟩),.int .i64 n] f):
  Knows w0 p b tk dp 221 #[.pointer (some ⟨p,0,none⟩),.int .i64 4,.int .i64 n] f:=by
 intro Q W s hQ h hi;have HC:=hd_ (hr Q W s hQ h hi);clear h hi hr hQ;go_in;go_wp2_with fail;refine (HC.o).mono ?_;rintro e W1 ⟨rfl,h1,h2⟩;have H1:=h2_ h1 (h2);clear h1 h2;dsimp only;go_wp2_with fail;go_ret;exact ⟨rfl,H1.a,H1.B⟩
end
section
variable {w0:World} {p b:Nat} {tk:List Tr.Tk} {dp:Int}
theorem Q3U (ht:Pc.Toks tk) (hl:tk.length<=1000000) {n:Int} {d:Nat} (hn0:0<=n) (hn1:n<=300) (hd:n+1+d=dp+1) {f:Ps.F} {g:Pr.G} (hf:d≠0->Pc.Sim tk f g) (hk:d≠0->Knows w0 p b tk dp 235 #[.pointer (some ⟨p,0,none⟩),.int .i64 (n+1)] f)
  {Q:Nat->Prop} {W:World} {s:Ps.St} (hQ:Up Q W) (h:PI Q w0 W p b tk dp s) (hi:Pc.Inv tk s) (he:s.e=0) (h5:(Ps.peek tk s.used).kind≠5):
  Calls prog 242 #[.pointer (some ⟨p,0,none⟩),.int .i64 n,.func (.func 235) #[.pointer (some ⟨p,0,none⟩)] #[]] W (Does Q w0 p b tk dp (Ps.unary tk d f s) W):=by
 have HI:=h3_ h hi hQ;have HL:=hd_ hl;have hlf:=(Pc.Og.nil hi).leaf ht he h5;have hde:=hlf.2;have c0:=h.c0;have HF:=h4_ hd hf hk hlf;have hun:Ps.unary tk d f s=if (Ps.deep tk d (Ps.leaf tk s).2).e=0 then Ps.node 11 [(Ps.leaf tk s).1,(f (Ps.deep tk d (Ps.leaf tk s).2)).1] (f (Ps.deep tk d (Ps.leaf tk s).2)).2 else (0,Ps.deep tk d (Ps.leaf tk s).2):=rfl;have hw1:=Pc.Qg hlf.1.inv hl;have HLF:=hd_ (QE h (Pc.Qg hi hl));rw[hun];have HDP:=hd_ (fun (V:World) hV=> Yk (Q:=Q) (W:=V) (p:=p) (b:=b) (w0:=w0) hV hw1 hd);by_cases hz:d=0
 ·have hds:(Ps.deep tk d (Ps.leaf tk s).2).e≠0:=by
   unfold Ps.deep Ps.fail;rw[if_pos hz,if_pos hde];show (23:Int)≠0;decide
  have hdb:decide ((Ps.deep tk d (Ps.leaf tk s).2).e≠0)=true:=eM_ hds;rw[if_neg hds];rw[hdb] at HDP;clear hQ h hi hl hlf hde hun hw1 hd hf hk ht he h5 hz hds hdb;go_in;go_wp2_with fail;refine (HLF.o).mono ?_;rintro e W1 ⟨rfl,h1,g1⟩;have H1:=h2_ h1 (g1);clear h1 g1 c0;dsimp only;go_wp2_with fail;refine (HDP.o _ H1.a).mono ?_;rintro e W2 ⟨rfl,h2,g2⟩;have H2:=h2_ h2 (g2);clear h2 g2;dsimp only;go_wp2_with fail;go_ret;exact ⟨rfl,H2.a,H1.B.trans H2.B⟩
 ·have hds:Ps.deep tk d (Ps.leaf tk s).2=(Ps.leaf tk s).2:=by unfold Ps.deep;rw[if_neg hz]
  have hdb:decide ((Ps.leaf tk s).2.e≠0)=false:=eK_ (by simp[hde]);rw[hds] at HDP |-;rw[hdb] at HDP;rw[if_pos hde];have HZ:=hd_ hz;clear hQ h hi hl hlf hde hun hw1 hd hf hk ht he h5 hz hds hdb;go_in;go_wp2_with fail;refine (HLF.o).mono ?_;rintro e W1 ⟨rfl,h1,g1⟩;have H1:=h2_ h1 (g1);clear h1 g1 c0;dsimp only;go_wp2_with fail;refine (HDP.o _ H1.a).mono ?_;rintro e W2 ⟨rfl,h2,g2⟩;have H2:=h2_ h2 (g2);clear h2 g2;dsimp only;go_wp2_with fail;refine (HF.c HZ.o Q _ _ (HI.C.frt (H1.B.trans H2.B)) H2.a HF.d.inv).mono ?_;rintro e W3 ⟨rfl,h3,g3⟩;have H3:=h2_ h3 g3;clear h3 g3;dsimp only;go_wp2_with fail;have hal:Below W3.heap.size W3 (W3.alloc (.cells (intCells [(Ps.leaf tk s).1,(f (Ps.leaf tk s).2).1]).toArray 3)):=(eB_ _ _).alloc (rl_ _) _;refine (Xr (l:= [(Ps.leaf tk s).1,(f (Ps.leaf tk s).2).1]) (H3.a.past hal) (Pc.Qg (HF.d.then (HF.b HZ.o)).inv HL.o) (Xw W3 _ rfl) (fun k hk=> by rw[hk, <-Q5];omega) (by simp) (HI.C.frt (((H1.B.trans H2.B).trans H3.B).trans (FrT.of hal))) 11).mono ?_;rintro e W4 ⟨rfl,h4,g4⟩;have H4:=h2_ h4 (((H1.B.trans H2.B).trans H3.B).trans ((FrT.of hal).trans g4));clear h4 g4 hal;dsimp only;go_wp2_with fail;go_ret;exact ⟨rfl,H4.a,H4.B⟩
theorem Q3V (ht:Pc.Toks tk) (hl:tk.length<=1000000) {n:Int} {d:Nat} (hn0:0<=n) (hn1:n<=300) (hd:n+1+d=dp+1) {f:Ps.F} {g:Pr.G} (hf:d≠0->Pc.Sim tk f g) (hk:d≠0->Knows w0 p b tk dp 234 #[.pointer (some ⟨p,0,none⟩),.int .i64 (n+1)] f)
  {Q:Nat->Prop} {W:World} {s:Ps.St} (hQ:Up Q W) (h:PI Q w0 W p b tk dp s) (hi:Pc.Inv tk s) (he:s.e=0) (h5:(Ps.peek tk s.used).kind≠5):
  Calls prog 242 #[.pointer (some ⟨p,0,none⟩),.int .i64 n,.func (.func 234) #[.pointer (some ⟨p,0,none⟩)] #[]] W (Does Q w0 p b tk dp (Ps.unary tk d f s) W):=by
 have HI:=h3_ h hi hQ;have HL:=hd_ hl;have hlf:=(Pc.Og.nil hi).leaf ht he h5;have hde:=hlf.2;have c0:=h.c0;have HF:=h4_ hd hf hk hlf;have hun:Ps.unary tk d f s=if (Ps.deep tk d (Ps.leaf tk s).2).e=0 then Ps.node 11 [(Ps.leaf tk s).1,(f (Ps.deep tk d (Ps.leaf tk s).2)).1] (f (Ps.deep tk d (Ps.leaf tk s).2)).2 else (0,Ps.deep tk d (Ps.leaf tk s).2):=rfl;have hw1:=Pc.Qg hlf.1.inv hl;have HLF:=hd_ (QE h (Pc.Qg hi hl));rw[hun];have HDP:=hd_ (fun (V:World) hV=> Yk (Q:=Q) (W:=V) (p:=p) (b:=b) (w0:=w0) hV hw1 hd);by_cases hz:d=0
 ·have hds:(Ps.deep tk d (Ps.leaf tk s).2).e≠0:=by
   unfold Ps.deep Ps.fail;rw[if_pos hz,if_pos hde];show (23:Int)≠0;decide
  have hdb:decide ((Ps.deep tk d (Ps.leaf tk s).2).e≠0)=true:=eM_ hds;rw[if_neg hds];rw[hdb] at HDP;clear hQ h hi hl hlf hde hun hw1 hd hf hk ht he h5 hz hds hdb;go_in;go_wp2_with fail;refine (HLF.o).mono ?_;rintro e W1 ⟨rfl,h1,g1⟩;have H1:=h2_ h1 (g1);clear h1 g1 c0;dsimp only;go_wp2_with fail;refine (HDP.o _ H1.a).mono ?_;rintro e W2 ⟨rfl,h2,g2⟩;have H2:=h2_ h2 (g2);clear h2 g2;dsimp only;go_wp2_with fail;go_ret;exact ⟨rfl,H2.a,H1.B.trans H2.B⟩
 ·have hds:Ps.deep tk d (Ps.leaf tk s).2=(Ps.leaf tk s).2:=by unfold Ps.deep;rw[if_neg hz]
  have hdb:decide ((Ps.leaf tk s).2.e≠0)=false:=eK_ (by simp[hde]);rw[hds] at HDP |-;rw[hdb] at HDP;rw[if_pos hde];have HZ:=hd_ hz;clear hQ h hi hl hlf hde hun hw1 hd hf hk ht he h5 hz hds hdb;go_in;go_wp2_with fail;refine (HLF.o).mono ?_;rintro e W1 ⟨rfl,h1,g1⟩;have H1:=h2_ h1 (g1);clear h1 g1 c0;dsimp only;go_wp2_with fail;refine (HDP.o _ H1.a).mono ?_;rintro e W2 ⟨rfl,h2,g2⟩;have H2:=h2_ h2 (g2);clear h2 g2;dsimp only;go_wp2_with fail;refine (HF.c HZ.o Q _ _ (HI.C.frt (H1.B.trans H2.B)) H2.a HF.d.inv).mono ?_;rintro e W3 ⟨rfl,h3,g3⟩;have H3:=h2_ h3 g3;clear h3 g3;dsimp only;go_wp2_with fail;have hal:Below W3.heap.size W3 (W3.alloc (.cells (intCells [(Ps.leaf tk s).1,(f (Ps.leaf tk s).2).1]).toArray 3)):=(eB_ _ _).alloc (rl_ _) _;refine (Xr (l:= [(Ps.leaf tk s).1,(f (Ps.leaf tk s).2).1]) (H3.a.past hal) (Pc.Qg (HF.d.then (HF.b HZ.o)).inv HL.o) (Xw W3 _ rfl) (fun k hk=> by rw[hk, <-Q5];omega) (by simp) (HI.C.frt (((H1.B.trans H2.B).trans H3.B).trans (FrT.of hal))) 11).mono ?_;rintro e W4 ⟨rfl,h4,g4⟩;have H4:=h2_ h4 (((H1.B.trans H2.B).trans H3.B).trans ((FrT.of hal).trans g4));clear h4 g4 hal;dsimp only;go_wp2_with fail;go_ret;exact ⟨rfl,H4.a,H4.B⟩
theorem Lh (ht:Pc.Toks tk) (hl:tk.length<=1000000) {n:Int} {d:Nat} (hn0:0<=n) (hn1:n<=300) (hd:n+1+d=dp+1) {lo:Ps.Lv} {glo:Pr.Lv} (hs:Pc.SimV tk d lo glo) (hk:d≠0->Knows w0 p b tk dp 235 #[.pointer (some ⟨p,0,none⟩),.int .i64 (n+1)] lo.fa)
  (ha:Knows w0 p b tk dp 243 #[.pointer (some ⟨p,0,none⟩),.int .i64 n] (Ps.atom tk lo.ex)):
  Knows w0 p b tk dp 235 #[.pointer (some ⟨p,0,none⟩),.int .i64 n] (Ps.factor tk d lo):=by
 intro Q W s hQ h hi;have hok:=Qv h;have HU:=hd_ (fun (V:World) hq hV he h5=> Q3U (Q:=Q) (W:=V) (s:=s) ht hl hn0 hn1 hd (fun z=> (hs.rest z).2.2) hk hq hV hi he h5);have HA:=hd_ (fun (V:World) hq hV=> ha Q V s hq hV hi);have HQ:=hd_ hQ;have HNX:=hd_ (fun (V:World) (hV:PI Q w0 V p b tk dp s) {P v} hv hP=> QT (ts:= [[45]]) (P:=P) (v:=v) hV (Pc.Qg hi hl) hv hP (by simp));have HP:=hd_ h;unfold Ps.factor;by_cases he:s.e=0
 ·rw[eM_ he] at hok;have HOK:=hd_ hok;have hal:Below W.heap.size W (W.alloc (.cells (strCells [[45]]).toArray 9)):=(eB_ _ _).alloc (rl_ _) _;have hnx:=HNX.o _ (h.past hal) (QU W [[45]] rfl) (fun k hk=> by rw[hk, <-Q5];omega);by_cases hn:Ps.nextB tk [[45]] s.used=true
  ·rw[if_pos ⟨he,hn⟩];rw[hn] at hnx;have HN:=hd_ hnx;have HE:=h3_ he (Pc.Qu hn) hal;clear hQ h hi hl hs hk ha ht hd hok he hn hnx hal HNX;go_in;go_wp2_with fail;refine (HOK.o).mono ?_;rintro e W1 ⟨rfl,rfl⟩;dsimp only;go_wp2_with fail;refine HN.o.mono ?_;rintro e W2 ⟨rfl,hb2⟩;have H2:=hd_ (HE.C.trans (hb2.mono HE.C.size));clear hb2;dsimp only;go_wp2_with fail;refine (HU.o _ (HQ.o.size H2.o.size) (HP.o.past H2.o) HE.a HE.b).mono ?_;rintro e W3 ⟨rfl,h3,g3⟩;have H3:=h2_ h3 ((FrT.of H2.o).trans g3);clear h3 g3;dsimp only;go_wp2_with fail;go_ret;exact ⟨rfl,H3.a,H3.B⟩
  ·rw[if_neg (by simp[hn])];rw[Bool.not_eq_true] at hn;rw[hn] at hnx;have HN:=hd_ hnx;have HE:=hd_ hal;clear hQ h hi hl hs hk ha ht hd hok he hn hnx hal HNX HU;go_in;go_wp2_with fail;refine (HOK.o).mono ?_;rintro e W1 ⟨rfl,rfl⟩;dsimp only;go_wp2_with fail;refine HN.o.mono ?_;rintro e W2 ⟨rfl,hb2⟩;have H2:=hd_ (HE.o.trans (hb2.mono HE.o.size));clear hb2;dsimp only;go_wp2_with fail;refine (HA.o _ (HQ.o.size H2.o.size) (HP.o.past H2.o)).mono ?_;rintro e W3 ⟨rfl,h3,g3⟩;have H3:=h2_ h3 ((FrT.of H2.o).trans g3);clear h3 g3;dsimp only;go_wp2_with fail;go_ret;exact ⟨rfl,H3.a,H3.B⟩
 ·rw[eK_ he] at hok;have HOK:=hd_ hok;rw[if_neg (by simp[he])];clear hQ h hi hl hs hk ha ht hd hok he HNX HU;go_in;go_wp2_with fail;refine (HOK.o).mono ?_;rintro e W1 ⟨rfl,rfl⟩;dsimp only;go_wp2_with fail;refine (HA.o _ HQ.o HP.o).mono ?_;rintro e W3 ⟨rfl,h3,g3⟩;have H3:=h2_ h3 g3;clear h3 g3;dsimp only;go_wp2_with fail;go_ret;exact ⟨rfl,H3.a,H3.B⟩
theorem Gx (ht:Pc.Toks tk) (hl:tk.length<=1000000) {n:Int} {d:Nat} (hn0:0<=n) (hn1:n<=300) (hd:n+1+d=dp+1) {lo:Ps.Lv} {glo:Pr.Lv} (hs:Pc.SimV tk d lo glo) (hk:d≠0->Knows w0 p b tk dp 234 #[.pointer (some ⟨p,0,none⟩),.int .i64 (n+1)] lo.ne)
  (ha:Knows w0 p b tk dp 193 #[.pointer (some ⟨p,0,none⟩),.int .i64 2,.int .i64 n] (Ps.comparison tk d lo)):
  Knows w0 p b tk dp 234 #[.pointer (some ⟨p,0,none⟩),.int .i64 n] (Ps.negation tk d lo):=by
 intro Q W s hQ h hi;have hok:=Qv h;have HU:=hd_ (fun (V:World) hq hV he h5=> Q3V (Q:=Q) (W:=V) (s:=s) ht hl hn0 hn1 hd (fun z=> (hs.rest z).2.1) hk hq hV hi he h5);have HA:=hd_ (fun (V:World) hq hV=> ha Q V s hq hV hi);have HQ:=hd_ hQ;have HNX:=hd_ (fun (V:World) (hV:PI Q w0 V p b tk dp s) {P v} hv hP=> QT (ts:= [Ps.tNot]) (P:=P) (v:=v) hV (Pc.Qg hi hl) hv hP (by simp));have HP:=hd_ h;unfold Ps.negation;by_cases he:s.e=0
 ·rw[eM_ he] at hok;have HOK:=hd_ hok;have hal:Below W.heap.size W (W.alloc (.cells (strCells [Ps.tNot]).toArray 9)):=(eB_ _ _).alloc (rl_ _) _;have hnx:=HNX.o _ (h.past hal) (QU W [Ps.tNot] rfl) (fun k hk=> by rw[hk, <-Q5];omega);by_cases hn:Ps.nextB tk [Ps.tNot] s.used=true
  ·rw[if_pos ⟨he,hn⟩];rw[hn] at hnx;have HN:=hd_ hnx;have HE:=h3_ he (Pc.Qu hn) hal;clear hQ h hi hl hs hk ha ht hd hok he hn hnx hal HNX;go_in;go_wp2_with fail;refine (HOK.o).mono ?_;rintro e W1 ⟨rfl,rfl⟩;dsimp only;go_wp2_with fail;refine HN.o.mono ?_;rintro e W2 ⟨rfl,hb2⟩;have H2:=hd_ (HE.C.trans (hb2.mono HE.C.size));clear hb2;dsimp only;go_wp2_with fail;refine (HU.o _ (HQ.o.size H2.o.size) (HP.o.past H2.o) HE.a HE.b).mono ?_;rintro e W3 ⟨rfl,h3,g3⟩;have H3:=h2_ h3 ((FrT.of H2.o).trans g3);clear h3 g3;dsimp only;go_wp2_with fail;go_ret;exact ⟨rfl,H3.a,H3.B⟩
  ·rw[if_neg (by simp[hn])];rw[Bool.not_eq_true] at hn;rw[hn] at hnx;have HN:=hd_ hnx;have HE:=hd_ hal;clear hQ h hi hl hs hk ha ht hd hok he hn hnx hal HNX HU;go_in;go_wp2_with fail;refine (HOK.o).mono ?_;rintro e W1 ⟨rfl,rfl⟩;dsimp only;go_wp2_with fail;refine HN.o.mono ?_;rintro e W2 ⟨rfl,hb2⟩;have H2:=hd_ (HE.o.trans (hb2.mono HE.o.size));clear hb2;dsimp only;go_wp2_with fail;refine (HA.o _ (HQ.o.size H2.o.size) (HP.o.past H2.o)).mono ?_;rintro e W3 ⟨rfl,h3,g3⟩;have H3:=h2_ h3 ((FrT.of H2.o).trans g3);clear h3 g3;dsimp only;go_wp2_with fail;go_ret;exact ⟨rfl,H3.a,H3.B⟩
 ·rw[eK_ he] at hok;have HOK:=hd_ hok;rw[if_neg (by simp[he])];clear hQ h hi hl hs hk ha ht hd hok he HNX HU;go_in;go_wp2_with fail;refine (HOK.o).mono ?_;rintro e W1 ⟨rfl,rfl⟩;dsimp only;go_wp2_with fail;refine (HA.o _ HQ.o HP.o).mono ?_;rintro e W3 ⟨rfl,h3,g3⟩;have H3:=h2_ h3 g3;clear h3 g3;dsimp only;go_wp2_with fail;go_ret;exact ⟨rfl,H3.a,H3.B⟩
theorem DK (ht:Pc.Toks tk) (hl:tk.length<=1000000) {n:Int} {d:Nat} (hn0:0<=n) (hn1:n<=300) (hd:n+1+d=dp+1) {lo:Ps.Lv} {glo:Pr.Lv} (hs:Pc.SimV tk d lo glo) (hk:d≠0->Knows w0 p b tk dp 147 #[.pointer (some ⟨p,0,none⟩),.int .i64 (n+1)] lo.fo)
  (ha:Knows w0 p b tk dp 193 #[.pointer (some ⟨p,0,none⟩),.int .i64 0,.int .i64 n] (Ps.disjunction tk d lo)):
  Knows w0 p b tk dp 147 #[.pointer (some ⟨p,0,none⟩),.int .i64 n] (Ps.formula tk d lo):=by
 intro Q W s hQ h hi;have hsj:Pc.Sim tk (Ps.disjunction tk d lo) (Pr.or tk d glo):=Pc.Yq ht (Pc.Yq ht (Pc.Yr ht hs) Ps.sAnd) Ps.sOr;have hog:=(Pc.Og.nil hi).then hsj;have HA:=hd_ (ha Q W s hQ h hi);have HQ:=hd_ hQ;have HL:=h5_ ht hl hd hs hk;have hfo:Ps.formula tk d lo s=if (Ps.disjunction tk d lo s).2.e=0/\Ps.nextB tk [[61,62]] (Ps.disjunction tk d lo s).2.used=true then (if (Ps.deep tk d (Ps.leaf tk (Ps.disjunction tk d lo s).2).2).e=0 then Ps.node 10 [(Ps.disjunction tk d lo s).1,(Ps.leaf tk (Ps.disjunction tk d lo s).2).1,(lo.fo (Ps.deep tk d (Ps.leaf tk (Ps.disjunction tk d lo s).2).2)).1] (lo.fo (Ps.deep tk d (Ps.leaf tk (Ps.disjunction tk d lo s).2).2)).2 else (0,Ps.deep tk d (Ps.leaf tk (Ps.disjunction tk d lo s).2).2)) else Ps.disjunction tk d lo s:=rfl;rw[hfo];obtain ⟨r,hr⟩:∃ r,Ps.disjunction tk d lo s=r:=⟨_,rfl⟩
 obtain ⟨a,s1⟩:=r;rw[hr] at HA hog |-;simp only[List.nil_append] at hog;have HO:=hd_ hog;clear hQ h hi hl hs hk ha ht hd hsj hfo hr hog;dsimp only at HA HO |-;by_cases he:s1.e=0
 ·by_cases hn:Ps.nextB tk [[61,62]] s1.used=true
  ·rw[if_pos ⟨he,hn⟩];have hlf:=HO.o.leaf HL.a he (Pc.Qu hn);have hde:=hlf.2;have HE:=h3_ he hn hlf;have hw1:=Pc.Qg hlf.1.inv HL.b;have HDP:=hd_ (fun (V:World) hV=> Yk (Q:=Q) (W:=V) (p:=p) (b:=b) (w0:=w0) hV hw1 HL.c);clear he hn hlf hw1;by_cases hz:d=0
   ·have hds:(Ps.deep tk d (Ps.leaf tk s1).2).e≠0:=by
     unfold Ps.deep Ps.fail;rw[if_pos hz,if_pos hde];show (23:Int)≠0;decide
    have hdb:decide ((Ps.deep tk d (Ps.leaf tk s1).2).e≠0)=true:=eM_ hds;rw[if_neg hds];rw[hdb] at HDP;clear hde hz hds hdb;go_in;go_wp2_with fail;refine (HA.o).mono ?_;rintro e W1 ⟨rfl,h1,g1⟩;have H1:=h2_ h1 (g1);clear h1 g1;have hok:=Qv H1.a;rw[eM_ HE.a] at hok;have HOK:=hd_ hok;clear hok;dsimp only;go_wp2_with fail;refine (HOK.o).mono ?_;rintro e W2 ⟨rfl,rfl⟩;dsimp only;go_wp2_with fail;have hal:Below W1.heap.size W1 (W1.alloc (.cells (strCells [[61,62]]).toArray 9)):=(eB_ _ _).alloc (rl_ _) _;have hnx:=QT (ts:= [[61,62]]) (H1.a.past hal) (Pc.Qg HO.o.inv HL.b) (QU W1 [[61,62]] rfl) (fun k hk=> by rw[hk, <-Q5];omega) (by simp);rw[HE.b] at hnx;refine hnx.mono ?_;rintro e W3 ⟨rfl,hb3⟩;have H3:=hd_ (hal.trans (hb3.mono hal.size));clear hb3 hnx hal;have c0:=(H1.a.past H3.o).c0;dsimp only;go_wp2_with fail;refine (QE (H1.a.past H3.o) (Pc.Qg HO.o.inv HL.b)).mono ?_;rintro e W4 ⟨rfl,h4,g4⟩;have H4:=h2_ h4 (H1.B.trans ((FrT.of H3.o).trans g4));clear h4 g4 c0;dsimp only;go_wp2_with fail;refine (HDP.o _ H4.a).mono ?_;rintro e W5 ⟨rfl,h5,g5⟩;have H5:=h2_ h5 (g5);clear h5 g5;dsimp only;go_wp2_with fail;go_ret;exact ⟨rfl,H5.a,H4.B.trans H5.B⟩
   ·have hds:Ps.deep tk d (Ps.leaf tk s1).2=(Ps.leaf tk s1).2:=(by unfold Ps.deep;rw[if_neg hz]);have hdb:decide ((Ps.leaf tk s1).2.e≠0)=false:=eK_ (by simp[hde]);rw[hds] at HDP |-;rw[hdb] at HDP;rw[if_pos hde];have HZ:=hd_ hz;clear hde hz hds hdb;go_in;go_wp2_with fail;refine (HA.o).mono ?_;rintro e W1 ⟨rfl,h1,g1⟩;have H1:=h2_ h1 (g1);clear h1 g1;have hok:=Qv H1.a;rw[eM_ HE.a] at hok;have HOK:=hd_ hok;clear hok;dsimp only;go_wp2_with fail;refine (HOK.o).mono ?_;rintro e W2 ⟨rfl,rfl⟩;dsimp only;go_wp2_with fail;have hal:Below W1.heap.size W1 (W1.alloc (.cells (strCells [[61,62]]).toArray 9)):=(eB_ _ _).alloc (rl_ _) _;have hnx:=QT (ts:= [[61,62]]) (H1.a.past hal) (Pc.Qg HO.o.inv HL.b) (QU W1 [[61,62]] rfl) (fun k hk=> by rw[hk, <-Q5];omega) (by simp);rw[HE.b] at hnx;refine hnx.mono ?_;rintro e W3 ⟨rfl,hb3⟩;have H3:=hd_ (hal.trans (hb3.mono hal.size));clear hb3 hnx hal;have c0:=(H1.a.past H3.o).c0;dsimp only;go_wp2_with fail;refine (QE (H1.a.past H3.o) (Pc.Qg HO.o.inv HL.b)).mono ?_;rintro e W4 ⟨rfl,h4,g4⟩;have H4:=h2_ h4 (H1.B.trans ((FrT.of H3.o).trans g4));clear h4 g4 c0;dsimp only;go_wp2_with fail;refine (HDP.o _ H4.a).mono ?_;rintro e W5 ⟨rfl,h5,g5⟩;have H5:=h2_ h5 (g5);clear h5 g5;dsimp only;go_wp2_with fail;refine (HL.E HZ.o Q _ _ (HQ.o.frt (H4.B.trans H5.B)) H5.a HE.c.inv).mono ?_;rintro e W6 ⟨rfl,h6,g6⟩;have H6:=h2_ h6 (H4.B.trans (H5.B.trans g6));clear h6 g6;dsimp only;go_wp2_with fail;have hal:Below W6.heap.size W6 (W6.alloc (.cells (intCells [a,(Ps.leaf tk s1).1,(lo.fo (Ps.leaf tk s1).2).1]).toArray 3)):=(eB_ _ _).alloc (rl_ _) _;refine (Xr (l:= [a,(Ps.leaf tk s1).1,(lo.fo (Ps.leaf tk s1).2).1]) (H6.a.past hal) (Pc.Qg (HE.c.then (HL.d.rest HZ.o).1).inv HL.b) (Xw W6 _ rfl) (fun k hk=> by rw[hk, <-Q5];omega) (by simp) (HQ.o.frt (H6.B.trans (FrT.of hal))) 10).mono ?_;rintro e W7 ⟨rfl,h7,g7⟩;have H7:=h2_ h7 (H6.B.trans ((FrT.of hal).trans g7));clear h7 g7 hal;dsimp only;go_wp2_with fail;go_ret;exact ⟨rfl,H7.a,H7.B⟩
  ·rw[if_neg (by simp[hn])];rw[Bool.not_eq_true] at hn;have HE:=h3_ he hn hn;clear he hn;go_in;go_wp2_with fail;refine (HA.o).mono ?_;rintro e W1 ⟨rfl,h1,g1⟩;have H1:=h2_ h1 (g1);clear h1 g1;have hok:=Qv H1.a;rw[eM_ HE.a] at hok;have HOK:=hd_ hok;clear hok;dsimp only;go_wp2_with fail;refine (HOK.o).mono ?_;rintro e W2 ⟨rfl,rfl⟩;dsimp only;go_wp2_with fail;have hal:Below W1.heap.size W1 (W1.alloc (.cells (strCells [[61,62]]).toArray 9)):=(eB_ _ _).alloc (rl_ _) _;have hnx:=QT (ts:= [[61,62]]) (H1.a.past hal) (Pc.Qg HO.o.inv HL.b) (QU W1 [[61,62]] rfl) (fun k hk=> by rw[hk, <-Q5];omega) (by simp);rw[HE.b] at hnx;refine hnx.mono ?_;rintro e W3 ⟨rfl,hb3⟩;have H3:=hd_ (hal.trans (hb3.mono hal.size));clear hb3 hnx hal;dsimp only;go_wp2_with fail;go_ret;exact ⟨rfl,H1.a.past H3.o,H1.B.trans (FrT.of H3.o)⟩
 ·rw[if_neg (by simp[he])];have HE:=hd_ he;clear he;go_in;go_wp2_with fail;refine (HA.o).mono ?_;rintro e W1 ⟨rfl,h1,g1⟩;have H1:=h2_ h1 (g1);clear h1 g1;have hok:=Qv H1.a;rw[eK_ HE.o] at hok;have HOK:=hd_ hok;clear hok;dsimp only;go_wp2_with fail;refine (HOK.o).mono ?_;rintro e W2 ⟨rfl,rfl⟩;dsimp only;go_wp2_with fail;go_ret;exact ⟨rfl,H1.a,H1.B⟩
end
theorem Q06:(prog.info? 3).map (fun i=> (i.zero,i.size,i.bytes))=some (some (.int .i64 0),1,8):=by kernel_rfl
section
variable {w0:World} {p b:Nat} {tk:List Tr.Tk} {dp:Int}
def KnowsB (Box:World->Prop) (w0:World) (p b:Nat) (tk:List Tr.Tk) (dp:Int) (k:FuncId) (args:Array Value) (f:Ps.F):Prop:=
 ∀ (Q:Nat->Prop) (W:World) (s:Ps.St),Up Q W->PI Q w0 W p b tk dp s->Pc.Inv tk s->Box W->Calls prog k args W (Does Q w0 p b tk dp (f s) W)
def Lists (Q:Nat->Prop) (w0:World) (p b:Nat) (tk:List Tr.Tk) (dp:Int) (r:List Int × Ps.St) (W:World) (e:Ending) (W':World):Prop:=
 ∃ v,e= .returned v/\W'.ownsRow W.heap.size 3 1 v r.1.length (intCells r.1)/\PI (Off Q v) w0 W' p b tk dp r.2/\FrT PTs W W'
theorem Q2f {f:Ps.F} (he:s.e≠0) (m:Nat) (ks:List Int):Ps.listGo tk f m ks s=(ks,s):=by
 cases m with
 | zero=> unfold Ps.listGo;rw[Pc.Yw he]
 | succ m=> unfold Ps.listGo;rw[if_neg he]
theorem Q87 (w:World) (l:List Int) (hl:l.length<=1000):(w.alloc (.cells (intCells l).toArray 3)).ownsRow w.heap.size 3 1 (.slice (some ⟨w.heap.size,0,none⟩) l.length l.length) l.length (intCells l):=by
 refine ⟨by simp[intCells],Or.inr ⟨w.heap.size,l.length,(intCells l).toArray,rfl,rl_ _,eD_ _ _,rl_ _,by unfold maxLen;omega,by simp[intCells],by rw[Nat.mul_one];exact List.take_of_length_le (by simp[intCells])⟩⟩
def ListRel (Q:Nat->Prop) (w0 W:World) (p b:Nat) (tk:List Tr.Tk) (dp:Int) (f:Ps.F) (s:Ps.St) (k:Nat) (v5 v6:Value) (wr:World):Prop:=
 ∃ (ks:List Int) (a:Option Addr) (c j:Nat) (s1:Ps.St),v5= .slice a ks.length c/\v6= .int .i64 j/\1<=j/\j<=9/\k=9 - j/\ks.length<=2*j/\wr.ownsRow W.heap.size 3 1 (.slice a ks.length c) ks.length (intCells ks)/\
  PI (Off Q (.slice a ks.length c)) w0 wr p b tk dp s1/\Pc.Inv tk s1/\Ps.listGo tk f (9 - j) ks s1=Ps.list tk f s/\FrT PTs W wr
theorem DL (ht:Pc.Toks tk) (hl:tk.length<=1000000) {f:Ps.F} {g:Pr.G} (hf:Pc.Sim tk f g) {Box:World->Prop} (hbox:∀ V V',Box V->FrT PTs V V'->Box V') {bp bn:Nat}
  (hone:KnowsB Box w0 p b tk dp 256 #[.pointer (some ⟨bp,0,none⟩),.pointer (some ⟨bn,0,none⟩)] f):
  ∀ (Q:Nat->Prop) (W:World) (s:Ps.St),Up Q W->PI Q w0 W p b tk dp s->Pc.Inv tk s->Box W->
   Calls prog 255 #[.pointer (some ⟨p,0,none⟩),.func (.func 256) #[] #[.pointer (some ⟨bp,0,none⟩),.pointer (some ⟨bn,0,none⟩)]] W (Lists Q w0 p b tk dp (Ps.list tk f s) W):=by
 intro Q W s hQ h hi hB;have H:=h5_ ht hl hf hbox hone;have HI:=h4_ h hi hQ hB;have hal:Below W.heap.size W (W.alloc (.cells (strCells [[41]]).toArray 9)):=(eB_ _ _).alloc (rl_ _) _;have hnx:=QT (ts:= [[41]]) (h.past hal) (Pc.Qg hi hl) (QU W [[41]] rfl) (fun k hk=> by rw[hk, <-Q5];omega) (by simp);have hdef:Ps.list tk f s=if Ps.nextB tk [[41]] s.used=true then ([],s) else Ps.listGo tk f 8 [] s:=rfl;by_cases hn:Ps.nextB tk [[41]] s.used=true
 ·rw[if_pos hn] at hdef;rw[hdef];rw[hn] at hnx;have HN:=h2_ hnx hal;clear ht hl hf hbox hone hQ h hi hB hal hnx hdef hn;go_in;go_wp2_with fail;refine HN.a.mono ?_;rintro e W2 ⟨rfl,hb2⟩;have H2:=hd_ (HN.B.trans (hb2.mono HN.B.size));clear hb2;dsimp only;go_wp2_with fail;go_ret;exact ⟨_,rfl,World.ownsRow_nil _ _ _ _,(HI.a.past H2.o).imp fun k _ hq=> ⟨hq,by simp[Value.ownBlock]⟩,FrT.of H2.o⟩
 ·rw[if_neg hn] at hdef;rw[Bool.not_eq_true] at hn;rw[hn] at hnx;have HN:=h3_ hnx hal hdef;obtain ⟨i0,hii,hz0,hz1,hz2⟩:=Qw Q06;have Hi:=hd_ hii;have Hz0:=hd_ hz0;have Hz1:=hd_ hz1;have Hz2:=hd_ hz2;clear hii hz0 hz1 hz2;clear ht hl hf hbox hone hQ h hi hB hal hnx hdef hn;go_in;go_wp2_with fail;refine HN.a.mono ?_;rintro e W2 ⟨rfl,hb2⟩;have H2:=hd_ (HN.b.trans (hb2.mono HN.b.size));clear hb2;dsimp only;go_wp2_with fail;go_loopg [5,6] 8 (fun k v5 v6 wr=> ListRel Q w0 W p b tk dp f s k v5 v6 wr)
  case atStart=> exact ⟨[],none,0,1,s,rfl,rfl,rl_ _,by omega,rfl,by simp,World.ownsRow_nil _ _ _ _,(HI.a.past H2.o).imp fun k _ hq=> ⟨hq,by simp[Value.ownBlock]⟩,HI.b,HN.C.symm,FrT.of H2.o⟩
  case round=>
   obtain ⟨ks,a,c,j,s1,rfl,rfl,hj1,hj9,hk,hkl,hown,hp,hin,hgo,hfr⟩:=hrel;have hj1':(1:Int)<=(j:Int):=(by omega);have hj9':(j:Int)<=9:=(by omega);have hok:=Qv hp;have HR:=h7_ hk hkl hown hp hin hgo hfr;clear hk hkl hown hp hin hgo hfr;by_cases he:s1.e=0
   ·rw[eM_ he] at hok;have HOK:=hd_ hok;have HE:=hd_ he;clear hok he;by_cases hj:j=9
    ·subst hj;go_wp2_with fail;refine (HOK.o).mono ?_;rintro e W3 ⟨rfl,rfl⟩;dsimp only;go_wp2_with fail;refine (Xq HR.d (Pc.Qg HR.e H.b) 15).mono ?_;rintro e W4 ⟨rfl,h4,g4⟩;have H4:=h2_ h4 g4;clear h4 g4;dsimp only;go_wp2_with fail;go_ret;have hgo:=HR.f;have e1:Ps.listGo tk f (9 - 9) ks s1=(ks,Ps.fail tk 15 s1):=rfl;rw[e1] at hgo;rw[<-hgo];exact ⟨_,rfl,YP HR.c H4.B (by decide),H4.a,HR.G.trans H4.B⟩
    ·have hj8:(j:Int)<=8:=(by omega);have HJ:=hd_ hj;clear hj;go_wp2_with fail;refine (HOK.o).mono ?_;rintro e W3 ⟨rfl,rfl⟩;dsimp only;go_wp2_with fail;refine (H.E _ _ _ (Off.up (HI.c.frt HR.G) HR.c) HR.d HR.e (H.d _ _ HI.D HR.G)).mono ?_;rintro e W4 ⟨rfl,h4,g4⟩;have hi4:=((Pc.Og.nil HR.e).then H.c).inv;have ho4:=YP HR.c g4 (by decide);have H4:=h4_ h4 (HR.G.trans g4) hi4 ho4;clear h4 g4 hi4 ho4;obtain ⟨⟨x,s2⟩,hx⟩:∃ r,f s1=r:=⟨_,rfl⟩
     rw[hx] at H4 |-;have HX:=hd_ hx;clear hx;dsimp only at H4 |-;go_wp2_with (at_builtin;refine QN rfl _ _ 46 rfl W.heap.size 3 i0 (.int .i64 0) 1 8 underlying46 Hi.o Hz0.o Hz1.o Hz2.o rfl (by decide) _ ks.length (intCells ks) rfl (H4.D.alloc _) rfl (Xw W4 [x] rfl) (ints_one _) (by have:=HR.b;unfold maxLen;simp;omega) (by have:=HR.b;simp;omega) (eE_ H4.b.size (Nat.le_of_lt (by rw[<-Q5];omega))) ?_);intro a5 c5 W5 ho5 hg5 hat5;have hal:Below W4.heap.size W4 (W4.alloc (.cells (intCells [x]).toArray 3)):=(eB_ _ _).alloc (rl_ _) _;have hp5:=(H4.a.past hal).appended (H4.D.alloc _) HI.a.below.size hg5 (v3:= .slice a5 (ks.length+1) c5) (by rw[<-Q5];exact hat5);have hf5:FrT PTs W W5:=(H4.b.trans (FrT.of hal)).grown hg5 (fun k hk=> (H4.D.lt k hk).1);have hks:intCells ks++intCells [x]=intCells (ks++ [x]):=(by simp[intCells]);rw[hks] at ho5;have H5:=h3_ ho5 hp5 hf5;have hok5:=Qv hp5;clear ho5 hg5 hat5 hal hp5 hf5 hks;by_cases he2:s2.e=0
     ·rw[eM_ he2] at hok5;have HOK5:=hd_ hok5;have HE2:=hd_ he2;clear hok5 he2;have hal2:Below W5.heap.size W5 (W5.alloc (.cells (strCells [[44]]).toArray 9)):=(eB_ _ _).alloc (rl_ _) _;have hnx2:=QT (ts:= [[44]]) (H5.b.past hal2) (Pc.Qg H4.c H.b) (QU W5 [[44]] rfl) (fun k hk=> by rw[hk, <-Q5];omega) (by simp);by_cases hn2:Ps.nextB tk [[44]] s2.used=true
      ·rw[hn2] at hnx2;have HN2:=h3_ hnx2 hal2 hn2;clear hnx2 hal2 hn2;go_wp2_with fail;refine (HOK5.o).mono ?_;rintro e W6 ⟨rfl,rfl⟩;dsimp only;go_wp2_with fail;refine HN2.a.mono ?_;rintro e W7 ⟨rfl,hb7⟩;have H7:=hd_ (HN2.b.trans (hb7.mono HN2.b.size));have d0:=(H5.b.past H7.o).c0;clear hb7;dsimp only;go_wp2_with fail;refine (QE (H5.b.past H7.o) (Pc.Qg H4.c H.b)).mono ?_;rintro e W8 ⟨rfl,h8,g8⟩;have hi8:=((Pc.Og.nil H4.c).leaf H.a HE2.o (Pc.Qu HN2.C)).1.inv;have g58:=(FrT.of H7.o).trans g8;have H8:=h4_ h8 (H5.C.trans g58) hi8 (YP H5.a g58 (by decide));clear h8 g8 hi8 g58 d0;dsimp only;obtain ⟨⟨y,s3⟩,hy⟩:∃ r,Ps.leaf tk s2=r:=⟨_,rfl⟩
       rw[hy] at H8 |-;have HY:=hd_ hy;clear hy;dsimp only at H8 |-;go_wp2_with (at_builtin;refine QN rfl _ _ 46 rfl W.heap.size 3 i0 (.int .i64 0) 1 8 underlying46 Hi.o Hz0.o Hz1.o Hz2.o rfl (by decide) _ _ (intCells (ks++ [x])) rfl (H8.D.alloc _) rfl (Xw W8 [y] rfl) (ints_one _) (by have:=HR.b;unfold maxLen;simp;omega) (by have:=HR.b;simp;omega) (eE_ H8.b.size (Nat.le_of_lt (by rw[<-Q5];omega))) ?_);intro a9 c9 W9 ho9 hg9 hat9;have hal9:Below W8.heap.size W8 (W8.alloc (.cells (intCells [y]).toArray 3)):=(eB_ _ _).alloc (rl_ _) _;have hp9:=(H8.a.past hal9).appended (H8.D.alloc _) HI.a.below.size hg9 (v3:= .slice a9 (ks.length+1+1) c9) (by rw[<-Q5];exact hat9);have hf9:FrT PTs W W9:=(H8.b.trans (FrT.of hal9)).grown hg9 (fun k hk=> (H8.D.lt k hk).1);have hks:intCells (ks++ [x])++intCells [y]=intCells (ks++ [x,y]):=(by simp[intCells]);rw[hks] at ho9;have H9:=h3_ ho9 hp9 hf9;clear ho9 hg9 hat9 hal9 hp9 hf9 hks;go_wp2_with fail;go_roundg (9 - (j+1))
       case measure=> have:=HR.a;have:=HJ.o;omega
       case rel=>
        have hgo:=HR.f;have hj:=HJ.o;obtain ⟨m,hm⟩:∃ m,9 - j=m+1:=⟨8 - j,by omega⟩
        have e9:9 - (j+1)=m:=(by omega);rw[hm] at hgo;unfold Ps.listGo at hgo;rw[if_pos HE.o,HX.o] at hgo;simp only at hgo;rw[if_pos ⟨HE2.o,HN2.C⟩,HY.o] at hgo;have q1:(ks++ [x,y]).length=ks.length+1+1:=(by simp);refine ⟨ks++ [x,y],a9,c9,j+1,s3,by rw[q1],by go_num,by omega,by omega,rfl,by have:=HR.b;simp;omega,by rw[q1];exact H9.a,by rw[q1];exact H9.b,H8.c,by rw[e9];exact hgo,H9.C⟩
      ·rw[Bool.not_eq_true] at hn2;rw[hn2] at hnx2;have HN2:=h3_ hnx2 hal2 hn2;clear hnx2 hal2 hn2;go_wp2_with fail;refine (HOK5.o).mono ?_;rintro e W6 ⟨rfl,rfl⟩;dsimp only;go_wp2_with fail;refine HN2.a.mono ?_;rintro e W7 ⟨rfl,hb7⟩;have H7:=hd_ (HN2.b.trans (hb7.mono HN2.b.size));clear hb7;dsimp only;go_wp2_with fail;go_ret;have hgo:=HR.f;have hj:=HJ.o;obtain ⟨m,hm⟩:∃ m,9 - j=m+1:=⟨8 - j,by omega⟩
       rw[hm] at hgo;unfold Ps.listGo at hgo;rw[if_pos HE.o,HX.o] at hgo;simp only at hgo;rw[if_neg (by rw[HN2.C];simp)] at hgo;rw[<-hgo];have q1:(ks++ [x]).length=ks.length+1:=(by simp);exact ⟨_,rfl,by rw[q1];exact Qz H5.a H7.o,H5.b.past H7.o,H5.C.trans (FrT.of H7.o)⟩
     ·rw[eK_ he2] at hok5;have HOK5:=hd_ hok5;have HE2:=hd_ he2;clear hok5 he2;go_wp2_with fail;refine (HOK5.o).mono ?_;rintro e W6 ⟨rfl,rfl⟩;dsimp only;go_wp2_with fail;go_ret;have hgo:=HR.f;have hj:=HJ.o;obtain ⟨m,hm⟩:∃ m,9 - j=m+1:=⟨8 - j,by omega⟩
      rw[hm] at hgo;unfold Ps.listGo at hgo;rw[if_pos HE.o,HX.o] at hgo;simp only at hgo;rw[if_neg (by simp[HE2.o])] at hgo;rw[<-hgo];have q1:(ks++ [x]).length=ks.length+1:=(by simp);exact ⟨_,rfl,by rw[q1];exact H5.a,H5.b,H5.C⟩
   ·rw[eK_ he] at hok;have HOK:=hd_ hok;have HE:=hd_ he;clear hok he;go_wp2_with fail;refine (HOK.o).mono ?_;rintro e W3 ⟨rfl,rfl⟩;dsimp only;go_wp2_with fail;go_ret;have hgo:=HR.f;rw[Q2f HE.o] at hgo;rw[<-hgo];exact ⟨_,rfl,HR.c,HR.d,HR.G⟩
end
section
variable {w0:World} {p b:Nat} {tk:List Tr.Tk} {dp:Int}
def tokBox (t:Tr.Tk):Obj:= .cells #[.int .i64 t.kind,.string ⟨t.lead.toArray⟩,.string ⟨t.text.toArray⟩,.int .i64 t.pos] 197
theorem QD {Q:Nat->Prop} (h:PI Q w0 V p b tk dp s) (hi:Pc.Inv tk s) (hl:tk.length<=1000000) (ts:List (List UInt8)) (hts:ts.length<=1000) {y:Bool} (hy:Ps.nextB tk ts s.used=y):
  Calls prog 148 #[.pointer (some ⟨p,0,none⟩),.slice (some ⟨V.heap.size,0,none⟩) ts.length ts.length] (V.alloc (.cells (strCells ts).toArray 9)) fun e W'=> e= .returned (.bool y)/\Below V.heap.size V W':=by
 have hal:Below V.heap.size V (V.alloc (.cells (strCells ts).toArray 9)):=(eB_ _ _).alloc (rl_ _) _;have hnx:=QT (ts:=ts) (h.past hal) (Pc.Qg hi hl) (QU V ts rfl) (fun k hk=> by rw[hk, <-Q5];omega) hts;rw[hy] at hnx;refine hnx.mono ?_;rintro e W' ⟨rfl,hb⟩;exact ⟨rfl,hal.trans (hb.mono hal.size)⟩
theorem Yl {Q:Nat->Prop} (h:PI Q w0 V p b tk dp s) (hi:Pc.Inv tk s) (hl:tk.length<=1000000) (hQ:Up Q V) (l:List Int) (hn:l.length<=1000) (k:Int):
  Calls prog 115 #[.pointer (some ⟨p,0,none⟩),.int .i64 k,.slice (some ⟨V.heap.size,0,none⟩) l.length l.length] (V.alloc (.cells (intCells l).toArray 3)) fun e W'=> e= .returned (.int .i64 (Ps.node k l s).1)/\PI Q w0 W' p b tk dp (Ps.node k l s).2/\FrT PTs V W':=by
 have hal:Below V.heap.size V (V.alloc (.cells (intCells l).toArray 3)):=(eB_ _ _).alloc (rl_ _) _;refine (Xr (h.past hal) (Pc.Qg hi hl) (Xw V l rfl) (fun k hk=> by rw[hk, <-Q5];omega) (by omega) (hQ.size hal.size) k).mono ?_;rintro e W' ⟨rfl,h1,g1⟩;exact ⟨rfl,h1,(FrT.of hal).trans g1⟩
theorem Q2g (ht:Pc.Toks tk) (hl:tk.length<=1000000) {n:Int} (hn0:0<=n) (hn1:n<=300) {ex:Ps.F} {g:Pr.G} (hx:Pc.Sim tk ex g) (hex:Knows w0 p b tk dp 114 #[.pointer (some ⟨p,0,none⟩),.int .i64 (n+1)] ex)
  (hname:∀ (Q:Nat->Prop) (W:World) (s:Ps.St),Up Q W->PI Q w0 W p b tk dp s->Pc.Inv tk s->s.e=0->(Ps.peek tk s.used).kind=1->Calls prog 249 #[.pointer (some ⟨p,0,none⟩),.int .i64 n] W (Does Q w0 p b tk dp (Ps.name tk ex s) W)):
  Knows w0 p b tk dp 243 #[.pointer (some ⟨p,0,none⟩),.int .i64 n] (Ps.atom tk ex):=by
 intro Q W s hQ h hi;have hpk:=Ui h.anc (Pc.Qg hi hl).1 hl (Pc.Qg hi hl).2.2.1;obtain ⟨t,htk⟩:∃ t,Ps.peek tk s.used=t:=⟨_,rfl⟩
 rw[htk] at hpk;have HPK:=hd_ hpk;have c0:=h.c0;have H:=h5_ ht hl hx hex hname;have HP:=h4_ h hi hQ htk;have HLF:=hd_ (fun (V:World) hV=> QE (Q:=Q) (W:=V) (p:=p) (b:=b) (w0:=w0) (dp:=dp) (s:=s) hV (Pc.Qg hi hl));have HOGL:=hd_ (fun he hk=> (Pc.Og.nil hi).leaf ht he hk);unfold Ps.atom;rw[htk];obtain ⟨kd,ld,tx,ps⟩:=t;dsimp only at HPK |-;clear hpk htk h hi hQ ht hl hx hex hname;by_cases he:s.e=0
 ·rw[if_pos he];have HE:=hd_ he;have hed:decide (s.e=0)=true:=eM_ he;clear he;by_cases h3:kd=3
  ·subst h3;rw[if_pos rfl];go_in;go_wp2_with fail;refine HPK.o.mono ?_;rintro e W1 ⟨rfl,hb1⟩;have H1:=hd_ hb1;clear hb1 c0;dsimp only;go_wp2_with fail;have hok:=Qv (HP.a.past (H1.o.alloc H1.o.size (tokBox ⟨3,ld,tx,ps⟩)));rw[hed] at hok;have hbx:(W1.alloc (tokBox ⟨3,ld,tx,ps⟩)).heap[W1.heap.size]? =some (.cells #[.int .i64 3,.string ⟨ld.toArray⟩,.string ⟨tx.toArray⟩,.int .i64 ps] 197 (0,0)):=eD_ _ _;have HV:=h2_ (H1.o.alloc H1.o.size (tokBox ⟨3,ld,tx,ps⟩)) hbx;refine hok.mono ?_;rintro e V1 ⟨rfl,rfl⟩;have k0:=Q3 HV.B 0 rfl;have c2:=(HP.a.past HV.a).c2;have c0:=(HP.a.past HV.a).c0;change Hid (Below W.heap.size W (W1.alloc (tokBox ⟨3,ld,tx,ps⟩))/\_) at HV;clear hok hbx;generalize hV1:W1.alloc (tokBox ⟨3,ld,tx,ps⟩)=V at*;clear hV1;dsimp only;go_wp2_with fail;refine (HLF.o _ (HP.a.past HV.a)).mono ?_;rintro e W5 ⟨rfl,h5,g5⟩;have H5:=h2_ h5 ((FrT.of HV.a).trans g5);clear h5 g5 k0 c0 c2;dsimp only;go_wp2_with fail;refine (Yl H5.a (HOGL.o HE.o (by rw[HP.D];show (3:Int)≠5;decide)).1.inv H.b (HP.c.frt H5.B) [(Ps.leaf tk s).1] (by simp) 15).mono ?_;rintro e W6 ⟨rfl,h6,g6⟩;have H6:=h2_ h6 (H5.B.trans g6);clear h6 g6;dsimp only;go_wp2_with fail;go_ret;exact ⟨rfl,H6.a,H6.B⟩
  ·rw[if_neg h3];have k3:(kd==3)=false:=(by simpa using h3);clear h3;by_cases h2:Ps.nextB tk [Ps.tTrue,Ps.tFalse] s.used=true
   ·rw[if_pos h2];have HY2:=hd_ h2;clear h2;go_in;go_wp2_with fail;refine HPK.o.mono ?_;rintro e W1 ⟨rfl,hb1⟩;have H1:=hd_ hb1;clear hb1 c0;dsimp only;go_wp2_with fail;have hok:=Qv (HP.a.past (H1.o.alloc H1.o.size (tokBox ⟨kd,ld,tx,ps⟩)));rw[hed] at hok;have hbx:(W1.alloc (tokBox ⟨kd,ld,tx,ps⟩)).heap[W1.heap.size]? =some (.cells #[.int .i64 kd,.string ⟨ld.toArray⟩,.string ⟨tx.toArray⟩,.int .i64 ps] 197 (0,0)):=eD_ _ _;have HV:=h2_ (H1.o.alloc H1.o.size (tokBox ⟨kd,ld,tx,ps⟩)) hbx;refine hok.mono ?_;rintro e V1 ⟨rfl,rfl⟩;have k0:=Q3 HV.B 0 rfl;have c2:=(HP.a.past HV.a).c2;have c0:=(HP.a.past HV.a).c0;change Hid (Below W.heap.size W (W1.alloc (tokBox ⟨kd,ld,tx,ps⟩))/\_) at HV;clear hok hbx;generalize hV1:W1.alloc (tokBox ⟨kd,ld,tx,ps⟩)=V at*;clear hV1;dsimp only;go_wp2_with fail;refine (QD (HP.a.past HV.a) HP.b H.b [Ps.tTrue,Ps.tFalse] (by simp) HY2.o).mono ?_;rintro e V2 ⟨rfl,hb⟩;have HV2:=h2_ (HV.a.trans (hb.mono HV.a.size)) (Q7 HV.B hb);clear hb k0 c0 c2;have k0:=Q3 HV2.B 0 rfl;have c2:=(HP.a.past HV2.a).c2;have c0:=(HP.a.past HV2.a).c0;dsimp only;go_wp2_with fail;refine (HLF.o _ (HP.a.past HV2.a)).mono ?_;rintro e W5 ⟨rfl,h5,g5⟩;have H5:=h2_ h5 ((FrT.of HV2.a).trans g5);clear h5 g5 k0 c0 c2;dsimp only;go_wp2_with fail;refine (Yl H5.a (HOGL.o HE.o (Pc.Qu HY2.o)).1.inv H.b (HP.c.frt H5.B) [(Ps.leaf tk s).1] (by simp) 16).mono ?_;rintro e W6 ⟨rfl,h6,g6⟩;have H6:=h2_ h6 (H5.B.trans g6);clear h6 g6;dsimp only;go_wp2_with fail;go_ret;exact ⟨rfl,H6.a,H6.B⟩
   ·rw[if_neg h2];rw[Bool.not_eq_true] at h2;have HY2:=hd_ h2;clear h2;by_cases h4:(s.clause && Ps.nextB tk [Ps.tRes] s.used)=true
    ·rw[if_pos h4];have hcl:s.clause=true:=(by simp only[Bool.and_eq_true] at h4;exact h4.1);have HY4:=hd_ (show Ps.nextB tk [Ps.tRes] s.used=true by simp only[Bool.and_eq_true] at h4;exact h4.2);clear h4;go_in;go_wp2_with fail;refine HPK.o.mono ?_;rintro e W1 ⟨rfl,hb1⟩;have H1:=hd_ hb1;clear hb1 c0;dsimp only;go_wp2_with fail;have hok:=Qv (HP.a.past (H1.o.alloc H1.o.size (tokBox ⟨kd,ld,tx,ps⟩)));rw[hed] at hok;have hbx:(W1.alloc (tokBox ⟨kd,ld,tx,ps⟩)).heap[W1.heap.size]? =some (.cells #[.int .i64 kd,.string ⟨ld.toArray⟩,.string ⟨tx.toArray⟩,.int .i64 ps] 197 (0,0)):=eD_ _ _;have HV:=h2_ (H1.o.alloc H1.o.size (tokBox ⟨kd,ld,tx,ps⟩)) hbx;refine hok.mono ?_;rintro e V1 ⟨rfl,rfl⟩;have k0:=Q3 HV.B 0 rfl;have c2:=(HP.a.past HV.a).c2;have c0:=(HP.a.past HV.a).c0;change Hid (Below W.heap.size W (W1.alloc (tokBox ⟨kd,ld,tx,ps⟩))/\_) at HV;clear hok hbx;generalize hV1:W1.alloc (tokBox ⟨kd,ld,tx,ps⟩)=V at*;clear hV1;dsimp only;go_wp2_with fail;refine (QD (HP.a.past HV.a) HP.b H.b [Ps.tTrue,Ps.tFalse] (by simp) HY2.o).mono ?_;rintro e V2 ⟨rfl,hb⟩;have HV2:=h2_ (HV.a.trans (hb.mono HV.a.size)) (Q7 HV.B hb);clear hb k0 c0 c2;have k0:=Q3 HV2.B 0 rfl;have c2:=(HP.a.past HV2.a).c2;have c0:=(HP.a.past HV2.a).c0;rw[hcl] at c2;dsimp only;go_wp2_with fail;refine (QD (HP.a.past HV2.a) HP.b H.b [Ps.tRes] (by simp) HY4.o).mono ?_;rintro e V4 ⟨rfl,hb⟩;have HV4:=h2_ (HV2.a.trans (hb.mono HV2.a.size)) (Q7 HV2.B hb);clear hb k0 c0 c2;have k0:=Q3 HV4.B 0 rfl;have c2:=(HP.a.past HV4.a).c2;have c0:=(HP.a.past HV4.a).c0;dsimp only;go_wp2_with fail;refine (HLF.o _ (HP.a.past HV4.a)).mono ?_;rintro e W5 ⟨rfl,h5,g5⟩;have H5:=h2_ h5 ((FrT.of HV4.a).trans g5);clear h5 g5 k0 c0 c2;dsimp only;go_wp2_with fail;refine (Yl H5.a (HOGL.o HE.o (Pc.Qu HY4.o)).1.inv H.b (HP.c.frt H5.B) [(Ps.leaf tk s).1] (by simp) 17).mono ?_;rintro e W6 ⟨rfl,h6,g6⟩;have H6:=h2_ h6 (H5.B.trans g6);clear h6 g6;dsimp only;go_wp2_with fail;go_ret;exact ⟨rfl,H6.a,H6.B⟩
    ·rw[if_neg h4];cases hcl:s.clause
     ·clear h4;by_cases h6:Ps.nextB tk [[40]] s.used=true
      ·rw[if_pos h6];have HY6:=hd_ h6;clear h6;go_in;go_wp2_with fail;refine HPK.o.mono ?_;rintro e W1 ⟨rfl,hb1⟩;have H1:=hd_ hb1;clear hb1 c0;dsimp only;go_wp2_with fail;have hok:=Qv (HP.a.past (H1.o.alloc H1.o.size (tokBox ⟨kd,ld,tx,ps⟩)));rw[hed] at hok;have hbx:(W1.alloc (tokBox ⟨kd,ld,tx,ps⟩)).heap[W1.heap.size]? =some (.cells #[.int .i64 kd,.string ⟨ld.toArray⟩,.string ⟨tx.toArray⟩,.int .i64 ps] 197 (0,0)):=eD_ _ _;have HV:=h2_ (H1.o.alloc H1.o.size (tokBox ⟨kd,ld,tx,ps⟩)) hbx;refine hok.mono ?_;rintro e V1 ⟨rfl,rfl⟩;have k0:=Q3 HV.B 0 rfl;have c2:=(HP.a.past HV.a).c2;have c0:=(HP.a.past HV.a).c0;change Hid (Below W.heap.size W (W1.alloc (tokBox ⟨kd,ld,tx,ps⟩))/\_) at HV;clear hok hbx;generalize hV1:W1.alloc (tokBox ⟨kd,ld,tx,ps⟩)=V at*;clear hV1;dsimp only;go_wp2_with fail;refine (QD (HP.a.past HV.a) HP.b H.b [Ps.tTrue,Ps.tFalse] (by simp) HY2.o).mono ?_;rintro e V2 ⟨rfl,hb⟩;have HV2:=h2_ (HV.a.trans (hb.mono HV.a.size)) (Q7 HV.B hb);clear hb k0 c0 c2;have k0:=Q3 HV2.B 0 rfl;have c2:=(HP.a.past HV2.a).c2;have c0:=(HP.a.past HV2.a).c0;rw[hcl] at c2;dsimp only;go_wp2_with fail;refine (QD (HP.a.past HV2.a) HP.b H.b [[40]] (by simp) HY6.o).mono ?_;rintro e V6 ⟨rfl,hb⟩;have HV6:=h2_ (HV2.a.trans (hb.mono HV2.a.size)) (Q7 HV2.B hb);clear hb k0 c0 c2;have k0:=Q3 HV6.B 0 rfl;have c2:=(HP.a.past HV6.a).c2;have c0:=(HP.a.past HV6.a).c0;dsimp only;go_wp2_with fail;refine (HLF.o _ (HP.a.past HV6.a)).mono ?_;rintro e W5 ⟨rfl,h5,g5⟩;have H5:=h2_ h5 ((FrT.of HV6.a).trans g5);clear h5 g5 k0 c0 c2;dsimp only;go_wp2_with fail;have ho5:=(HOGL.o HE.o (Pc.Qu HY6.o)).1;refine (H.d Q _ _ (HP.c.frt H5.B) H5.a ho5.inv).mono ?_;rintro e W6 ⟨rfl,h6,g6⟩;have ho6:=ho5.then H.c;have H6:=h3_ h6 (H5.B.trans g6) ho6;clear h6 g6 ho5 ho6;dsimp only;go_wp2_with fail;have hal:Below W6.heap.size W6 (W6.alloc (.cells (strCells [[41]]).toArray 9)):=(eB_ _ _).alloc (rl_ _) _;refine (X6 (ts:= [[41]]) (H6.a.past hal) (Pc.Qg H6.C.inv H.b) (QU W6 [[41]] rfl) (fun k hk=> by rw[hk, <-Q5];omega) (by simp)).mono ?_;rintro e W7 ⟨rfl,h7,g7⟩;have H7:=h3_ h7 (H6.b.trans ((FrT.of hal).trans g7)) (H6.C.then (Pc.Xf H.a [41]));clear h7 g7 hal;dsimp only;go_wp2_with fail;refine (Yl H7.a H7.C.inv H.b (HP.c.frt H7.b) [(Ps.leaf tk s).1,(ex (Ps.leaf tk s).2).1,(Ps.must tk [[41]] (ex (Ps.leaf tk s).2).2).1] (by simp) 12).mono ?_;rintro e W8 ⟨rfl,h8,g8⟩;have H8:=h2_ h8 (H7.b.trans g8);clear h8 g8;dsimp only;go_wp2_with fail;go_ret;exact ⟨rfl,H8.a,H8.B⟩
      ·rw[if_neg h6];rw[Bool.not_eq_true] at h6;have HY6:=hd_ h6;clear h6;by_cases h1:kd=1
       ·subst h1;rw[if_pos rfl];go_in;go_wp2_with fail;refine HPK.o.mono ?_;rintro e W1 ⟨rfl,hb1⟩;have H1:=hd_ hb1;clear hb1 c0;dsimp only;go_wp2_with fail;have hok:=Qv (HP.a.past (H1.o.alloc H1.o.size (tokBox ⟨1,ld,tx,ps⟩)));rw[hed] at hok;have hbx:(W1.alloc (tokBox ⟨1,ld,tx,ps⟩)).heap[W1.heap.size]? =some (.cells #[.int .i64 1,.string ⟨ld.toArray⟩,.string ⟨tx.toArray⟩,.int .i64 ps] 197 (0,0)):=eD_ _ _;have HV:=h2_ (H1.o.alloc H1.o.size (tokBox ⟨1,ld,tx,ps⟩)) hbx;refine hok.mono ?_;rintro e V1 ⟨rfl,rfl⟩;have k0:=Q3 HV.B 0 rfl;have c2:=(HP.a.past HV.a).c2;have c0:=(HP.a.past HV.a).c0;change Hid (Below W.heap.size W (W1.alloc (tokBox ⟨1,ld,tx,ps⟩))/\_) at HV;clear hok hbx;generalize hV1:W1.alloc (tokBox ⟨1,ld,tx,ps⟩)=V at*;clear hV1;dsimp only;go_wp2_with fail;refine (QD (HP.a.past HV.a) HP.b H.b [Ps.tTrue,Ps.tFalse] (by simp) HY2.o).mono ?_;rintro e V2 ⟨rfl,hb⟩;have HV2:=h2_ (HV.a.trans (hb.mono HV.a.size)) (Q7 HV.B hb);clear hb k0 c0 c2;have k0:=Q3 HV2.B 0 rfl;have c2:=(HP.a.past HV2.a).c2;have c0:=(HP.a.past HV2.a).c0;rw[hcl] at c2;dsimp only;go_wp2_with fail;refine (QD (HP.a.past HV2.a) HP.b H.b [[40]] (by simp) HY6.o).mono ?_;rintro e V6 ⟨rfl,hb⟩;have HV6:=h2_ (HV2.a.trans (hb.mono HV2.a.size)) (Q7 HV2.B hb);clear hb k0 c0 c2;have k0:=Q3 HV6.B 0 rfl;have c2:=(HP.a.past HV6.a).c2;have c0:=(HP.a.past HV6.a).c0;dsimp only;go_wp2_with fail;refine (H.E Q _ _ (HP.c.size HV6.a.size) (HP.a.past HV6.a) HP.b HE.o (by rw[HP.D])).mono ?_;rintro e W7 ⟨rfl,h7,g7⟩;have H7:=h2_ h7 ((FrT.of HV6.a).trans g7);clear h7 g7;dsimp only;go_wp2_with fail;go_ret;exact ⟨rfl,H7.a,H7.B⟩
       ·rw[if_neg h1];have k1:(kd==1)=false:=(by simpa using h1);clear h1;go_in;go_wp2_with fail;refine HPK.o.mono ?_;rintro e W1 ⟨rfl,hb1⟩;have H1:=hd_ hb1;clear hb1 c0;dsimp only;go_wp2_with fail;have hok:=Qv (HP.a.past (H1.o.alloc H1.o.size (tokBox ⟨kd,ld,tx,ps⟩)));rw[hed] at hok;have hbx:(W1.alloc (tokBox ⟨kd,ld,tx,ps⟩)).heap[W1.heap.size]? =some (.cells #[.int .i64 kd,.string ⟨ld.toArray⟩,.string ⟨tx.toArray⟩,.int .i64 ps] 197 (0,0)):=eD_ _ _;have HV:=h2_ (H1.o.alloc H1.o.size (tokBox ⟨kd,ld,tx,ps⟩)) hbx;refine hok.mono ?_;rintro e V1 ⟨rfl,rfl⟩;have k0:=Q3 HV.B 0 rfl;have c2:=(HP.a.past HV.a).c2;have c0:=(HP.a.past HV.a).c0;change Hid (Below W.heap.size W (W1.alloc (tokBox ⟨kd,ld,tx,ps⟩))/\_) at HV;clear hok hbx;generalize hV1:W1.alloc (tokBox ⟨kd,ld,tx,ps⟩)=V at*;clear hV1;dsimp only;go_wp2_with fail;refine (QD (HP.a.past HV.a) HP.b H.b [Ps.tTrue,Ps.tFalse] (by simp) HY2.o).mono ?_;rintro e V2 ⟨rfl,hb⟩;have HV2:=h2_ (HV.a.trans (hb.mono HV.a.size)) (Q7 HV.B hb);clear hb k0 c0 c2;have k0:=Q3 HV2.B 0 rfl;have c2:=(HP.a.past HV2.a).c2;have c0:=(HP.a.past HV2.a).c0;rw[hcl] at c2;dsimp only;go_wp2_with fail;refine (QD (HP.a.past HV2.a) HP.b H.b [[40]] (by simp) HY6.o).mono ?_;rintro e V6 ⟨rfl,hb⟩;have HV6:=h2_ (HV2.a.trans (hb.mono HV2.a.size)) (Q7 HV2.B hb);clear hb k0 c0 c2;have k0:=Q3 HV6.B 0 rfl;have c2:=(HP.a.past HV6.a).c2;have c0:=(HP.a.past HV6.a).c0;dsimp only;go_wp2_with fail;refine (Xq (HP.a.past HV6.a) (Pc.Qg HP.b H.b) 22).mono ?_;rintro e W7 ⟨rfl,h7,g7⟩;have H7:=h2_ h7 ((FrT.of HV6.a).trans g7);clear h7 g7;dsimp only;go_wp2_with fail;go_ret;exact ⟨rfl,H7.a,H7.B⟩
     ·have HY4:=hd_ (show Ps.nextB tk [Ps.tRes] s.used=false by rw[hcl,Bool.true_and,Bool.not_eq_true] at h4;exact h4);clear h4;by_cases h6:Ps.nextB tk [[40]] s.used=true
      ·rw[if_pos h6];have HY6:=hd_ h6;clear h6;go_in;go_wp2_with fail;refine HPK.o.mono ?_;rintro e W1 ⟨rfl,hb1⟩;have H1:=hd_ hb1;clear hb1 c0;dsimp only;go_wp2_with fail;have hok:=Qv (HP.a.past (H1.o.alloc H1.o.size (tokBox ⟨kd,ld,tx,ps⟩)));rw[hed] at hok;have hbx:(W1.alloc (tokBox ⟨kd,ld,tx,ps⟩)).heap[W1.heap.size]? =some (.cells #[.int .i64 kd,.string ⟨ld.toArray⟩,.string ⟨tx.toArray⟩,.int .i64 ps] 197 (0,0)):=eD_ _ _;have HV:=h2_ (H1.o.alloc H1.o.size (tokBox ⟨kd,ld,tx,ps⟩)) hbx;refine hok.mono ?_;rintro e V1 ⟨rfl,rfl⟩;have k0:=Q3 HV.B 0 rfl;have c2:=(HP.a.past HV.a).c2;have c0:=(HP.a.past HV.a).c0;change Hid (Below W.heap.size W (W1.alloc (tokBox ⟨kd,ld,tx,ps⟩))/\_) at HV;clear hok hbx;generalize hV1:W1.alloc (tokBox ⟨kd,ld,tx,ps⟩)=V at*;clear hV1;dsimp only;go_wp2_with fail;refine (QD (HP.a.past HV.a) HP.b H.b [Ps.tTrue,Ps.tFalse] (by simp) HY2.o).mono ?_;rintro e V2 ⟨rfl,hb⟩;have HV2:=h2_ (HV.a.trans (hb.mono HV.a.size)) (Q7 HV.B hb);clear hb k0 c0 c2;have k0:=Q3 HV2.B 0 rfl;have c2:=(HP.a.past HV2.a).c2;have c0:=(HP.a.past HV2.a).c0;rw[hcl] at c2;dsimp only;go_wp2_with fail;refine (QD (HP.a.past HV2.a) HP.b H.b [Ps.tRes] (by simp) HY4.o).mono ?_;rintro e V4 ⟨rfl,hb⟩;have HV4:=h2_ (HV2.a.trans (hb.mono HV2.a.size)) (Q7 HV2.B hb);clear hb k0 c0 c2;have k0:=Q3 HV4.B 0 rfl;have c2:=(HP.a.past HV4.a).c2;have c0:=(HP.a.past HV4.a).c0;dsimp only;go_wp2_with fail;refine (QD (HP.a.past HV4.a) HP.b H.b [[40]] (by simp) HY6.o).mono ?_;rintro e V6 ⟨rfl,hb⟩;have HV6:=h2_ (HV4.a.trans (hb.mono HV4.a.size)) (Q7 HV4.B hb);clear hb k0 c0 c2;have k0:=Q3 HV6.B 0 rfl;have c2:=(HP.a.past HV6.a).c2;have c0:=(HP.a.past HV6.a).c0;dsimp only;go_wp2_with fail;refine (HLF.o _ (HP.a.past HV6.a)).mono ?_;rintro e W5 ⟨rfl,h5,g5⟩;have H5:=h2_ h5 ((FrT.of HV6.a).trans g5);clear h5 g5 k0 c0 c2;dsimp only;go_wp2_with fail;have ho5:=(HOGL.o HE.o (Pc.Qu HY6.o)).1;refine (H.d Q _ _ (HP.c.frt H5.B) H5.a ho5.inv).mono ?_;rintro e W6 ⟨rfl,h6,g6⟩;have ho6:=ho5.then H.c;have H6:=h3_ h6 (H5.B.trans g6) ho6;clear h6 g6 ho5 ho6;dsimp only;go_wp2_with fail;have hal:Below W6.heap.size W6 (W6.alloc (.cells (strCells [[41]]).toArray 9)):=(eB_ _ _).alloc (rl_ _) _;refine (X6 (ts:= [[41]]) (H6.a.past hal) (Pc.Qg H6.C.inv H.b) (QU W6 [[41]] rfl) (fun k hk=> by rw[hk, <-Q5];omega) (by simp)).mono ?_;rintro e W7 ⟨rfl,h7,g7⟩;have H7:=h3_ h7 (H6.b.trans ((FrT.of hal).trans g7)) (H6.C.then (Pc.Xf H.a [41]));clear h7 g7 hal;dsimp only;go_wp2_with fail;refine (Yl H7.a H7.C.inv H.b (HP.c.frt H7.b) [(Ps.leaf tk s).1,(ex (Ps.leaf tk s).2).1,(Ps.must tk [[41]] (ex (Ps.leaf tk s).2).2).1] (by simp) 12).mono ?_;rintro e W8 ⟨rfl,h8,g8⟩;have H8:=h2_ h8 (H7.b.trans g8);clear h8 g8;dsimp only;go_wp2_with fail;go_ret;exact ⟨rfl,H8.a,H8.B⟩
      ·rw[if_neg h6];rw[Bool.not_eq_true] at h6;have HY6:=hd_ h6;clear h6;by_cases h1:kd=1
       ·subst h1;rw[if_pos rfl];go_in;go_wp2_with fail;refine HPK.o.mono ?_;rintro e W1 ⟨rfl,hb1⟩;have H1:=hd_ hb1;clear hb1 c0;dsimp only;go_wp2_with fail;have hok:=Qv (HP.a.past (H1.o.alloc H1.o.size (tokBox ⟨1,ld,tx,ps⟩)));rw[hed] at hok;have hbx:(W1.alloc (tokBox ⟨1,ld,tx,ps⟩)).heap[W1.heap.size]? =some (.cells #[.int .i64 1,.string ⟨ld.toArray⟩,.string ⟨tx.toArray⟩,.int .i64 ps] 197 (0,0)):=eD_ _ _;have HV:=h2_ (H1.o.alloc H1.o.size (tokBox ⟨1,ld,tx,ps⟩)) hbx;refine hok.mono ?_;rintro e V1 ⟨rfl,rfl⟩;have k0:=Q3 HV.B 0 rfl;have c2:=(HP.a.past HV.a).c2;have c0:=(HP.a.past HV.a).c0;change Hid (Below W.heap.size W (W1.alloc (tokBox ⟨1,ld,tx,ps⟩))/\_) at HV;clear hok hbx;generalize hV1:W1.alloc (tokBox ⟨1,ld,tx,ps⟩)=V at*;clear hV1;dsimp only;go_wp2_with fail;refine (QD (HP.a.past HV.a) HP.b H.b [Ps.tTrue,Ps.tFalse] (by simp) HY2.o).mono ?_;rintro e V2 ⟨rfl,hb⟩;have HV2:=h2_ (HV.a.trans (hb.mono HV.a.size)) (Q7 HV.B hb);clear hb k0 c0 c2;have k0:=Q3 HV2.B 0 rfl;have c2:=(HP.a.past HV2.a).c2;have c0:=(HP.a.past HV2.a).c0;rw[hcl] at c2;dsimp only;go_wp2_with fail;refine (QD (HP.a.past HV2.a) HP.b H.b [Ps.tRes] (by simp) HY4.o).mono ?_;rintro e V4 ⟨rfl,hb⟩;have HV4:=h2_ (HV2.a.trans (hb.mono HV2.a.size)) (Q7 HV2.B hb);clear hb k0 c0 c2;have k0:=Q3 HV4.B 0 rfl;have c2:=(HP.a.past HV4.a).c2;have c0:=(HP.a.past HV4.a).c0;dsimp only;go_wp2_with fail;refine (QD (HP.a.past HV4.a) HP.b H.b [[40]] (by simp) HY6.o).mono ?_;rintro e V6 ⟨rfl,hb⟩;have HV6:=h2_ (HV4.a.trans (hb.mono HV4.a.size)) (Q7 HV4.B hb);clear hb k0 c0 c2;have k0:=Q3 HV6.B 0 rfl;have c2:=(HP.a.past HV6.a).c2;have c0:=(HP.a.past HV6.a).c0;dsimp only;go_wp2_with fail;refine (H.E Q _ _ (HP.c.size HV6.a.size) (HP.a.past HV6.a) HP.b HE.o (by rw[HP.D])).mono ?_;rintro e W7 ⟨rfl,h7,g7⟩;have H7:=h2_ h7 ((FrT.of HV6.a).trans g7);clear h7 g7;dsimp only;go_wp2_with fail;go_ret;exact ⟨rfl,H7.a,H7.B⟩
       ·rw[if_neg h1];have k1:(kd==1)=false:=(by simpa using h1);clear h1;go_in;go_wp2_with fail;refine HPK.o.mono ?_;rintro e W1 ⟨rfl,hb1⟩;have H1:=hd_ hb1;clear hb1 c0;dsimp only;go_wp2_with fail;have hok:=Qv (HP.a.past (H1.o.alloc H1.o.size (tokBox ⟨kd,ld,tx,ps⟩)));rw[hed] at hok;have hbx:(W1.alloc (tokBox ⟨kd,ld,tx,ps⟩)).heap[W1.heap.size]? =some (.cells #[.int .i64 kd,.string ⟨ld.toArray⟩,.string ⟨tx.toArray⟩,.int .i64 ps] 197 (0,0)):=eD_ _ _;have HV:=h2_ (H1.o.alloc H1.o.size (tokBox ⟨kd,ld,tx,ps⟩)) hbx;refine hok.mono ?_;rintro e V1 ⟨rfl,rfl⟩;have k0:=Q3 HV.B 0 rfl;have c2:=(HP.a.past HV.a).c2;have c0:=(HP.a.past HV.a).c0;change Hid (Below W.heap.size W (W1.alloc (tokBox ⟨kd,ld,tx,ps⟩))/\_) at HV;clear hok hbx;generalize hV1:W1.alloc (tokBox ⟨kd,ld,tx,ps⟩)=V at*;clear hV1;dsimp only;go_wp2_with fail;refine (QD (HP.a.past HV.a) HP.b H.b [Ps.tTrue,Ps.tFalse] (by simp) HY2.o).mono ?_;rintro e V2 ⟨rfl,hb⟩;have HV2:=h2_ (HV.a.trans (hb.mono HV.a.size)) (Q7 HV.B hb);clear hb k0 c0 c2;have k0:=Q3 HV2.B 0 rfl;have c2:=(HP.a.past HV2.a).c2;have c0:=(HP.a.past HV2.a).c0;rw[hcl] at c2;dsimp only;go_wp2_with fail;refine (QD (HP.a.past HV2.a) HP.b H.b [Ps.tRes] (by simp) HY4.o).mono ?_;rintro e V4 ⟨rfl,hb⟩;have HV4:=h2_ (HV2.a.trans (hb.mono HV2.a.size)) (Q7 HV2.B hb);clear hb k0 c0 c2;have k0:=Q3 HV4.B 0 rfl;have c2:=(HP.a.past HV4.a).c2;have c0:=(HP.a.past HV4.a).c0;dsimp only;go_wp2_with fail;refine (QD (HP.a.past HV4.a) HP.b H.b [[40]] (by simp) HY6.o).mono ?_;rintro e V6 ⟨rfl,hb⟩;have HV6:=h2_ (HV4.a.trans (hb.mono HV4.a.size)) (Q7 HV4.B hb);clear hb k0 c0 c2;have k0:=Q3 HV6.B 0 rfl;have c2:=(HP.a.past HV6.a).c2;have c0:=(HP.a.past HV6.a).c0;dsimp only;go_wp2_with fail;refine (Xq (HP.a.past HV6.a) (Pc.Qg HP.b H.b) 22).mono ?_;rintro e W7 ⟨rfl,h7,g7⟩;have H7:=h2_ h7 ((FrT.of HV6.a).trans g7);clear h7 g7;dsimp only;go_wp2_with fail;go_ret;exact ⟨rfl,H7.a,H7.B⟩
 ·rw[if_neg he];have hed:decide (s.e=0)=false:=eK_ he;go_in;go_wp2_with fail;refine HPK.o.mono ?_;rintro e W1 ⟨rfl,hb1⟩;have H1:=hd_ hb1;clear hb1 c0;dsimp only;go_wp2_with fail;have hok:=Qv (HP.a.past (H1.o.alloc H1.o.size (tokBox ⟨kd,ld,tx,ps⟩)));rw[hed] at hok;refine hok.mono ?_;rintro e V1 ⟨rfl,rfl⟩;have HV:=hd_ (H1.o.alloc H1.o.size (tokBox ⟨kd,ld,tx,ps⟩));clear hok;dsimp only;go_wp2_with fail;go_ret;exact ⟨rfl,HP.a.past HV.o,FrT.of HV.o⟩
end
section
variable {w0:World} {p b:Nat} {tk:List Tr.Tk} {dp:Int}
theorem G5 (hl:tk.length<=1000000) {n:Int} (hd:n=dp+1):Knows w0 p b tk dp 114 #[.pointer (some ⟨p,0,none⟩),.int .i64 n] (Ps.lv tk 0).ex:=by
 intro Q W s hQ h hi;have hdp:=Yk (d:=0) h (Pc.Qg hi hl) (n:=n) (by simpa using hd);have he:(Ps.deep tk 0 s).e≠0:=by
  unfold Ps.deep;rw[if_pos rfl];unfold Ps.fail;by_cases h0:s.e=0
  ·rw[if_pos h0];show (23:Int)≠0;decide
  ·rw[if_neg h0];exact h0
 rw[eM_ he] at hdp;have HD:=hd_ hdp;have e1:(Ps.lv tk 0).ex s=(0,Ps.deep tk 0 s):=rfl;rw[e1];clear h hi hQ hdp he e1 hl hd;go_in;go_wp2_with fail;refine HD.o.mono ?_;rintro e W1 ⟨rfl,h,g⟩;have H1:=h2_ h g;clear h g;dsimp only;go_wp2_with fail;go_ret;exact ⟨rfl,H1.a,H1.B⟩
theorem Ul (ht:Pc.Toks tk) (hl:tk.length<=1000000) {n:Int} {d:Nat} (hn0:0<=n) (hn1:n<=300) (hd:n+1+d=dp+1) {lo:Ps.Lv} {ex:Ps.F} (hlo:lo.ex=ex) {g:Pr.G} (hx:Pc.Sim tk ex g) (hex:Knows w0 p b tk dp 114 #[.pointer (some ⟨p,0,none⟩),.int .i64 (n+1)] ex)
  (hfo:Knows w0 p b tk dp 147 #[.pointer (some ⟨p,0,none⟩),.int .i64 n] (Ps.formula tk d lo)):
  Knows w0 p b tk dp 114 #[.pointer (some ⟨p,0,none⟩),.int .i64 n] (Ps.express tk d lo):=by
 intro Q W s hQ h hi;have hdp:=Yk (d:=d+1) h (Pc.Qg hi hl) (n:=n) (by omega);have hds:Ps.deep tk (d+1) s=s:=by unfold Ps.deep;rw[if_neg (by omega)]
 rw[hds] at hdp;have H:=h5_ ht hl hx hex hfo;have HP:=h3_ h hi hQ;unfold Ps.express;rw[hlo];by_cases he:s.e=0
 ·rw[if_pos he];rw[eK_ (by simp[he]:¬ s.e≠0)] at hdp;have HD:=hd_ hdp;have HE:=hd_ he;clear ht hl hx hex hfo h hi hQ hdp hds he hd hlo;cases hcl:s.clause
  ·rw[if_neg (by simp)];by_cases a:Ps.nextB tk [Ps.tLet] s.used=true
   ·rw[if_pos a];have HYa:=hd_ a;clear a;go_in;go_wp2_with fail;refine HD.o.mono ?_;rintro e V0 ⟨rfl,h,g⟩;have c2:=h.c2;rw[hcl] at c2;have H0:=h3_ h g (Pc.Og.nil HP.b);clear h g;dsimp only;go_wp2_with fail;refine (QD H0.a HP.b H.b [Ps.tLet] (by simp) HYa.o).mono ?_;rintro e W0 ⟨rfl,hb⟩;have hq:=H0.o;clear H0;have H0:=h3_ (hq.1.past hb) (hq.2.1.trans (FrT.of hb)) hq.2.2;clear hb hq;have c0:=H0.a.c0;dsimp only;go_wp2_with fail;refine (QE H0.a (Pc.Qg H0.C.inv H.b)).mono ?_;rintro e W1 ⟨rfl,h,g⟩;have H1:=h3_ h (H0.b.trans g) ((H0.C.leaf H.a HE.o (Pc.Qu HYa.o)).1);clear h g;obtain ⟨⟨x1,s1⟩,hx⟩:∃ r,Ps.leaf tk s=r:=⟨_,rfl⟩
    rw[hx] at H1 |-;have HX1:=hd_ hx;clear hx;dsimp only at H1 |-;go_wp2_with fail;refine (ZZ H1.a (Pc.Qg H1.C.inv H.b) 1).mono ?_;rintro e W2 ⟨rfl,h,g⟩;have H2:=h3_ h (H1.b.trans g) (H1.C.then (Pc.Uk H.a (k:=1) (by decide)));clear h g;obtain ⟨⟨x2,s2⟩,hx⟩:∃ r,Ps.kind tk 1 s1=r:=⟨_,rfl⟩
    rw[hx] at H2 |-;have HX2:=hd_ hx;clear hx;dsimp only at H2 |-;go_wp2_with fail;have hal:Below W2.heap.size W2 (W2.alloc (.cells (strCells [[61]]).toArray 9)):=(eB_ _ _).alloc (rl_ _) _;refine (X6 (ts:= [[61]]) (H2.a.past hal) (Pc.Qg H2.C.inv H.b) (QU W2 [[61]] rfl) (fun k hk=> by rw[hk, <-Q5];omega) (by simp)).mono ?_;rintro e W3 ⟨rfl,h,g⟩;have H3:=h3_ h (H2.b.trans ((FrT.of hal).trans g)) (H2.C.then (Pc.Xf H.a [61]));clear h g hal;obtain ⟨⟨x3,s3⟩,hx⟩:∃ r,Ps.must tk [[61]] s2=r:=⟨_,rfl⟩
    rw[hx] at H3 |-;have HX3:=hd_ hx;clear hx;dsimp only at H3 |-;go_wp2_with fail;refine (H.d Q _ _ (HP.C.frt H3.b) H3.a H3.C.inv).mono ?_;rintro e W4 ⟨rfl,h,g⟩;have H4:=h3_ h (H3.b.trans g) (H3.C.then H.c);clear h g;obtain ⟨⟨x4,s4⟩,hx⟩:∃ r,ex s3=r:=⟨_,rfl⟩
    rw[hx] at H4 |-;have HX4:=hd_ hx;clear hx;dsimp only at H4 |-;go_wp2_with fail;have hal:Below W4.heap.size W4 (W4.alloc (.cells (strCells [Ps.tIn]).toArray 9)):=(eB_ _ _).alloc (rl_ _) _;refine (X6 (ts:= [Ps.tIn]) (H4.a.past hal) (Pc.Qg H4.C.inv H.b) (QU W4 [Ps.tIn] rfl) (fun k hk=> by rw[hk, <-Q5];omega) (by simp)).mono ?_;rintro e W5 ⟨rfl,h,g⟩;have H5:=h3_ h (H4.b.trans ((FrT.of hal).trans g)) (H4.C.then (Pc.Xf H.a Ps.tIn));clear h g hal;obtain ⟨⟨x5,s5⟩,hx⟩:∃ r,Ps.must tk [Ps.tIn] s4=r:=⟨_,rfl⟩
    rw[hx] at H5 |-;have HX5:=hd_ hx;clear hx;dsimp only at H5 |-;go_wp2_with fail;refine (H.d Q _ _ (HP.C.frt H5.b) H5.a H5.C.inv).mono ?_;rintro e W6 ⟨rfl,h,g⟩;have H6:=h3_ h (H5.b.trans g) (H5.C.then H.c);clear h g;obtain ⟨⟨x6,s6⟩,hx⟩:∃ r,ex s5=r:=⟨_,rfl⟩
    rw[hx] at H6 |-;have HX6:=hd_ hx;clear hx;dsimp only at H6 |-;go_wp2_with fail;refine (Yl H6.a H6.C.inv H.b (HP.C.frt H6.b) [x1,x2,x3,x4,x5,x6] (by simp) 7).mono ?_;rintro e WN ⟨rfl,h,g⟩;have HN:=h2_ h (H6.b.trans g);clear h g;dsimp only;go_wp2_with fail;go_ret;have e1:Ps.exLet tk ex s=Ps.node 7 [x1,x2,x3,x4,x5,x6] s6:=by
     simp only[Ps.exLet,HX1.o,HX2.o,HX3.o,HX4.o,HX5.o,HX6.o]
    rw[e1];exact ⟨rfl,HN.a,HN.B⟩
   ·rw[if_neg a];rw[Bool.not_eq_true] at a;have HYa:=hd_ a;clear a;by_cases c:Ps.nextB tk [Ps.tIf] s.used=true
    ·rw[if_pos c];have HYc:=hd_ c;clear c;go_in;go_wp2_with fail;refine HD.o.mono ?_;rintro e V0 ⟨rfl,h,g⟩;have c2:=h.c2;rw[hcl] at c2;have H0:=h3_ h g (Pc.Og.nil HP.b);clear h g;dsimp only;go_wp2_with fail;refine (QD H0.a HP.b H.b [Ps.tLet] (by simp) HYa.o).mono ?_;rintro e V1 ⟨rfl,hb⟩;have hq:=H0.o;clear H0;have H0:=h3_ (hq.1.past hb) (hq.2.1.trans (FrT.of hb)) hq.2.2;clear hb hq
     skip
     dsimp only;go_wp2_with fail;refine (QD H0.a HP.b H.b [Ps.tIf] (by simp) HYc.o).mono ?_;rintro e W0 ⟨rfl,hb⟩;have hq:=H0.o;clear H0;have H0:=h3_ (hq.1.past hb) (hq.2.1.trans (FrT.of hb)) hq.2.2;clear hb hq;have c0:=H0.a.c0;dsimp only;go_wp2_with fail;refine (QE H0.a (Pc.Qg H0.C.inv H.b)).mono ?_;rintro e W1 ⟨rfl,h,g⟩;have H1:=h3_ h (H0.b.trans g) ((H0.C.leaf H.a HE.o (Pc.Qu HYc.o)).1);clear h g;obtain ⟨⟨x1,s1⟩,hx⟩:∃ r,Ps.leaf tk s=r:=⟨_,rfl⟩
     rw[hx] at H1 |-;have HX1:=hd_ hx;clear hx;dsimp only at H1 |-;go_wp2_with fail;refine (H.d Q _ _ (HP.C.frt H1.b) H1.a H1.C.inv).mono ?_;rintro e W2 ⟨rfl,h,g⟩;have H2:=h3_ h (H1.b.trans g) (H1.C.then H.c);clear h g;obtain ⟨⟨x2,s2⟩,hx⟩:∃ r,ex s1=r:=⟨_,rfl⟩
     rw[hx] at H2 |-;have HX2:=hd_ hx;clear hx;dsimp only at H2 |-;go_wp2_with fail;have hal:Below W2.heap.size W2 (W2.alloc (.cells (strCells [Ps.tThen]).toArray 9)):=(eB_ _ _).alloc (rl_ _) _;refine (X6 (ts:= [Ps.tThen]) (H2.a.past hal) (Pc.Qg H2.C.inv H.b) (QU W2 [Ps.tThen] rfl) (fun k hk=> by rw[hk, <-Q5];omega) (by simp)).mono ?_;rintro e W3 ⟨rfl,h,g⟩;have H3:=h3_ h (H2.b.trans ((FrT.of hal).trans g)) (H2.C.then (Pc.Xf H.a Ps.tThen));clear h g hal;obtain ⟨⟨x3,s3⟩,hx⟩:∃ r,Ps.must tk [Ps.tThen] s2=r:=⟨_,rfl⟩
     rw[hx] at H3 |-;have HX3:=hd_ hx;clear hx;dsimp only at H3 |-;go_wp2_with fail;refine (H.d Q _ _ (HP.C.frt H3.b) H3.a H3.C.inv).mono ?_;rintro e W4 ⟨rfl,h,g⟩;have H4:=h3_ h (H3.b.trans g) (H3.C.then H.c);clear h g;obtain ⟨⟨x4,s4⟩,hx⟩:∃ r,ex s3=r:=⟨_,rfl⟩
     rw[hx] at H4 |-;have HX4:=hd_ hx;clear hx;dsimp only at H4 |-;go_wp2_with fail;have hal:Below W4.heap.size W4 (W4.alloc (.cells (strCells [Ps.tElse]).toArray 9)):=(eB_ _ _).alloc (rl_ _) _;refine (X6 (ts:= [Ps.tElse]) (H4.a.past hal) (Pc.Qg H4.C.inv H.b) (QU W4 [Ps.tElse] rfl) (fun k hk=> by rw[hk, <-Q5];omega) (by simp)).mono ?_;rintro e W5 ⟨rfl,h,g⟩;have H5:=h3_ h (H4.b.trans ((FrT.of hal).trans g)) (H4.C.then (Pc.Xf H.a Ps.tElse));clear h g hal;obtain ⟨⟨x5,s5⟩,hx⟩:∃ r,Ps.must tk [Ps.tElse] s4=r:=⟨_,rfl⟩
     rw[hx] at H5 |-;have HX5:=hd_ hx;clear hx;dsimp only at H5 |-;go_wp2_with fail;refine (H.d Q _ _ (HP.C.frt H5.b) H5.a H5.C.inv).mono ?_;rintro e W6 ⟨rfl,h,g⟩;have H6:=h3_ h (H5.b.trans g) (H5.C.then H.c);clear h g;obtain ⟨⟨x6,s6⟩,hx⟩:∃ r,ex s5=r:=⟨_,rfl⟩
     rw[hx] at H6 |-;have HX6:=hd_ hx;clear hx;dsimp only at H6 |-;go_wp2_with fail;refine (Yl H6.a H6.C.inv H.b (HP.C.frt H6.b) [x1,x2,x3,x4,x5,x6] (by simp) 8).mono ?_;rintro e WN ⟨rfl,h,g⟩;have HN:=h2_ h (H6.b.trans g);clear h g;dsimp only;go_wp2_with fail;go_ret;have e1:Ps.exIf tk ex s=Ps.node 8 [x1,x2,x3,x4,x5,x6] s6:=by
      simp only[Ps.exIf,HX1.o,HX2.o,HX3.o,HX4.o,HX5.o,HX6.o]
     rw[e1];exact ⟨rfl,HN.a,HN.B⟩
    ·rw[if_neg c];rw[Bool.not_eq_true] at c;have HYc:=hd_ c;clear c;by_cases d:Ps.nextB tk [Ps.tAssert] s.used=true
     ·rw[if_pos d];have HYd:=hd_ d;clear d;go_in;go_wp2_with fail;refine HD.o.mono ?_;rintro e V0 ⟨rfl,h,g⟩;have c2:=h.c2;rw[hcl] at c2;have H0:=h3_ h g (Pc.Og.nil HP.b);clear h g;dsimp only;go_wp2_with fail;refine (QD H0.a HP.b H.b [Ps.tLet] (by simp) HYa.o).mono ?_;rintro e V1 ⟨rfl,hb⟩;have hq:=H0.o;clear H0;have H0:=h3_ (hq.1.past hb) (hq.2.1.trans (FrT.of hb)) hq.2.2;clear hb hq
      skip
      dsimp only;go_wp2_with fail;refine (QD H0.a HP.b H.b [Ps.tIf] (by simp) HYc.o).mono ?_;rintro e V2 ⟨rfl,hb⟩;have hq:=H0.o;clear H0;have H0:=h3_ (hq.1.past hb) (hq.2.1.trans (FrT.of hb)) hq.2.2;clear hb hq
      skip
      dsimp only;go_wp2_with fail;refine (QD H0.a HP.b H.b [Ps.tAssert] (by simp) HYd.o).mono ?_;rintro e W0 ⟨rfl,hb⟩;have hq:=H0.o;clear H0;have H0:=h3_ (hq.1.past hb) (hq.2.1.trans (FrT.of hb)) hq.2.2;clear hb hq;have c0:=H0.a.c0;dsimp only;go_wp2_with fail;refine (QE H0.a (Pc.Qg H0.C.inv H.b)).mono ?_;rintro e W1 ⟨rfl,h,g⟩;have H1:=h3_ h (H0.b.trans g) ((H0.C.leaf H.a HE.o (Pc.Qu HYd.o)).1);clear h g;obtain ⟨⟨x1,s1⟩,hx⟩:∃ r,Ps.leaf tk s=r:=⟨_,rfl⟩
      rw[hx] at H1 |-;have HX1:=hd_ hx;clear hx;dsimp only at H1 |-;go_wp2_with fail;refine (H.d Q _ _ (HP.C.frt H1.b) H1.a H1.C.inv).mono ?_;rintro e W2 ⟨rfl,h,g⟩;have H2:=h3_ h (H1.b.trans g) (H1.C.then H.c);clear h g;obtain ⟨⟨x2,s2⟩,hx⟩:∃ r,ex s1=r:=⟨_,rfl⟩
      rw[hx] at H2 |-;have HX2:=hd_ hx;clear hx;dsimp only at H2 |-;go_wp2_with fail;have hal:Below W2.heap.size W2 (W2.alloc (.cells (strCells [Ps.tIn]).toArray 9)):=(eB_ _ _).alloc (rl_ _) _;refine (X6 (ts:= [Ps.tIn]) (H2.a.past hal) (Pc.Qg H2.C.inv H.b) (QU W2 [Ps.tIn] rfl) (fun k hk=> by rw[hk, <-Q5];omega) (by simp)).mono ?_;rintro e W3 ⟨rfl,h,g⟩;have H3:=h3_ h (H2.b.trans ((FrT.of hal).trans g)) (H2.C.then (Pc.Xf H.a Ps.tIn));clear h g hal;obtain ⟨⟨x3,s3⟩,hx⟩:∃ r,Ps.must tk [Ps.tIn] s2=r:=⟨_,rfl⟩
      rw[hx] at H3 |-;have HX3:=hd_ hx;clear hx;dsimp only at H3 |-;go_wp2_with fail;refine (H.d Q _ _ (HP.C.frt H3.b) H3.a H3.C.inv).mono ?_;rintro e W4 ⟨rfl,h,g⟩;have H4:=h3_ h (H3.b.trans g) (H3.C.then H.c);clear h g;obtain ⟨⟨x4,s4⟩,hx⟩:∃ r,ex s3=r:=⟨_,rfl⟩
      rw[hx] at H4 |-;have HX4:=hd_ hx;clear hx;dsimp only at H4 |-;go_wp2_with fail;refine (Yl H4.a H4.C.inv H.b (HP.C.frt H4.b) [x1,x2,x3,x4] (by simp) 9).mono ?_;rintro e WN ⟨rfl,h,g⟩;have HN:=h2_ h (H4.b.trans g);clear h g;dsimp only;go_wp2_with fail;go_ret;have e1:Ps.exAssert tk ex s=Ps.node 9 [x1,x2,x3,x4] s4:=by
       simp only[Ps.exAssert,HX1.o,HX2.o,HX3.o,HX4.o]
      rw[e1];exact ⟨rfl,HN.a,HN.B⟩
     ·rw[if_neg d];rw[Bool.not_eq_true] at d;have HYd:=hd_ d;clear d;go_in;go_wp2_with fail;refine HD.o.mono ?_;rintro e V0 ⟨rfl,h,g⟩;have c2:=h.c2;rw[hcl] at c2;have H0:=h3_ h g (Pc.Og.nil HP.b);clear h g;dsimp only;go_wp2_with fail;refine (QD H0.a HP.b H.b [Ps.tLet] (by simp) HYa.o).mono ?_;rintro e V1 ⟨rfl,hb⟩;have hq:=H0.o;clear H0;have H0:=h3_ (hq.1.past hb) (hq.2.1.trans (FrT.of hb)) hq.2.2;clear hb hq
      skip
      dsimp only;go_wp2_with fail;refine (QD H0.a HP.b H.b [Ps.tIf] (by simp) HYc.o).mono ?_;rintro e V2 ⟨rfl,hb⟩;have hq:=H0.o;clear H0;have H0:=h3_ (hq.1.past hb) (hq.2.1.trans (FrT.of hb)) hq.2.2;clear hb hq
      skip
      dsimp only;go_wp2_with fail;refine (QD H0.a HP.b H.b [Ps.tAssert] (by simp) HYd.o).mono ?_;rintro e V3 ⟨rfl,hb⟩;have hq:=H0.o;clear H0;have H0:=h3_ (hq.1.past hb) (hq.2.1.trans (FrT.of hb)) hq.2.2;clear hb hq
      skip
      dsimp only;go_wp2_with fail;refine (H.E Q _ _ (HP.C.frt H0.b) H0.a HP.b).mono ?_;rintro e WN ⟨rfl,h,g⟩;have HN:=h2_ h (H0.b.trans g);clear h g;dsimp only;go_wp2_with fail;go_ret;exact ⟨rfl,HN.a,HN.B⟩
  ·rw[if_pos rfl];go_in;go_wp2_with fail;refine HD.o.mono ?_;rintro e V0 ⟨rfl,h,g⟩;have c2:=h.c2;rw[hcl] at c2;have H0:=h3_ h g (Pc.Og.nil HP.b);clear h g;dsimp only;go_wp2_with fail;refine (H.E Q _ _ (HP.C.frt H0.b) H0.a HP.b).mono ?_;rintro e WN ⟨rfl,h,g⟩;have HN:=h2_ h (H0.b.trans g);clear h g;dsimp only;go_wp2_with fail;go_ret;exact ⟨rfl,HN.a,HN.B⟩
 ·rw[if_neg he];rw[eM_ he] at hdp;have HD:=hd_ hdp;clear ht hl hx hex hfo h hi hQ hdp hds he hd hlo;go_in;go_wp2_with fail;refine HD.o.mono ?_;rintro e W1 ⟨rfl,h,g⟩;have H1:=h2_ h g;clear h g;dsimp only;go_wp2_with fail;go_ret;exact ⟨rfl,H1.a,H1.B⟩
end
section
variable {w0:World} {p b:Nat} {tk:List Tr.Tk} {dp:Int} {Q:Nat->Prop}
structure KidsI (Q:Nat->Prop) (w0 W:World) (p b:Nat) (tk:List Tr.Tk) (dp:Int) (s:Ps.St) (V:World) (v:Value) (l:List Int):Prop where
 row:V.ownsRow W.heap.size 3 1 v l.length (intCells l)
 pi:PI (Off Q v) w0 V p b tk dp s
 fr:FrT PTs W V
theorem KidsI.up {W V:World} {s:Ps.St} {v:Value} {l:List Int} (h:KidsI Q w0 W p b tk dp s V v l) (hQ:Up Q W):Up (Off Q v) V:=Off.up (hQ.frt h.fr) h.row
theorem KidsI.step {s':Ps.St} (h:KidsI Q w0 W p b tk dp s V v l) (hp:PI (Off Q v) w0 V' p b tk dp s') (hf:FrT PTs V V'):KidsI Q w0 W p b tk dp s' V' v l:=
 ⟨YP h.row hf (by decide),hp,h.fr.trans hf⟩
theorem KidsI.past {W V V':World} {s:Ps.St} {v:Value} {l:List Int} (h:KidsI Q w0 W p b tk dp s V v l) (hb:Below V.heap.size V V'):KidsI Q w0 W p b tk dp s V' v l:=
 h.step (h.pi.past hb) (FrT.of hb)
theorem KidsI.append {v':Value} {n:Nat} (h:KidsI Q w0 W p b tk dp s V v l) (hw:w0.heap.size<=W.heap.size) (ho:V'.ownsRow W.heap.size 3 1 v' n (intCells l++intCells m)) (hn:n=l.length+m.length)
  (hg:V.grownBy V' v.ownBlock) (hat:∀ k,v'.ownBlock=some k->v.ownBlock=some k\/k=V.heap.size):KidsI Q w0 W p b tk dp s V' v' (l++m):=by
 refine ⟨?_,h.pi.appended h.row hw hg hat,h.fr.grown hg fun k hk=> (h.row.lt k hk).1⟩;have e:intCells (l++m)=intCells l++intCells m:=by simp[intCells]
 rw[e,eC_, <-hn];exact ho
theorem Um (h:PI Q w0 V p b tk dp s) (hf:FrT PTs W V) (l:List Int) (hl:l.length<=1000):
  KidsI Q w0 W p b tk dp s (V.alloc (.cells (intCells l).toArray 3)) (.slice (some ⟨V.heap.size,0,none⟩) l.length l.length) l:=by
 have hal:Below V.heap.size V (V.alloc (.cells (intCells l).toArray 3)):=(eB_ _ _).alloc (rl_ _) _;exact ⟨Ge (Q87 V l hl) hf.size,(h.imp fun k hk hq=> ⟨hq,by simp only[Value.ownBlock,ne_eq,Option.some.injEq];omega⟩).past hal,hf.trans (FrT.of hal)⟩
theorem KidsI.node {W V:World} {s:Ps.St} {v:Value} {l:List Int} (h:KidsI Q w0 W p b tk dp s V v l) (hQ:Up Q W) (hi:Pc.Inv tk s) (hl:tk.length<=1000000) (hn:l.length<=1000000) (k:Int):
  Calls prog 115 #[.pointer (some ⟨p,0,none⟩),.int .i64 k,v] V fun e W'=> e= .returned (.int .i64 (Ps.node k l s).1)/\PI Q w0 W' p b tk dp (Ps.node k l s).2/\FrT PTs W W':=by
 refine (Xr h.pi (Pc.Qg hi hl) (RdS.own h.row) (fun k hk=> hk.2.2) hn (h.up hQ) k).mono ?_;rintro e W' ⟨rfl,h1,g1⟩;exact ⟨rfl,h1.imp fun k _ hq=> hq.1,h.fr.trans g1⟩
theorem Zg (h:PI Q w0 V p b tk dp s) (hi:Pc.Inv tk s) (hl:tk.length<=1000000) (ts:List (List UInt8)) (hts:ts.length<=1000) {y:Bool} (hy:Ps.nextB tk ts s.used=y) {r:Nat} (hr:r=V.heap.size):
  Calls prog 148 #[.pointer (some ⟨p,0,none⟩),.slice (some ⟨r,0,none⟩) ts.length ts.length] (V.alloc (.cells (strCells ts).toArray 9)) fun e W'=> e= .returned (.bool y)/\Below V.heap.size V W':=by
 subst hr;exact QD h hi hl ts hts hy
def Boxes (p:Nat) (n:Int) (bp bn:Nat) (V:World):Prop:=V.heap[bp]? =some (.cells #[.pointer (some ⟨p,0,none⟩)] 151 (0,0))/\V.heap[bn]? =some (.cells #[.int .i64 n] 3 (0,0))
theorem Qn {p:Nat} {bp bn:Nat}:∀ V V',Boxes p n bp bn V->FrT PTs V V'->Boxes p n bp bn V':=fun _ _ h hf=> ⟨hf.cells h.1 (by decide),hf.cells h.2 (by decide)⟩
theorem Un (hn0:0<=n) (hn1:n<=300) {bp bn:Nat} {ex:Ps.F} (hex:Knows w0 p b tk dp 114 #[.pointer (some ⟨p,0,none⟩),.int .i64 (n+1)] ex):
  KnowsB (Boxes p n bp bn) w0 p b tk dp 256 #[.pointer (some ⟨bp,0,none⟩),.pointer (some ⟨bn,0,none⟩)] ex:=by
 intro Q W s hQ h hi hB;have b0:=Q3 hB.1 0 rfl;have b1:=Q3 hB.2 0 rfl;have HC:=hd_ (hex Q W s hQ h hi);clear h hi hQ hB hex;go_in;go_wp2_with fail;refine HC.o.mono ?_;rintro e W1 ⟨rfl,h1,g1⟩;have H1:=h2_ h1 g1;clear h1 g1;dsimp only;go_wp2_with fail;go_ret;exact ⟨rfl,H1.a,H1.B⟩
end
section
variable {w0:World} {p b:Nat} {tk:List Tr.Tk} {dp:Int} {Q:Nat->Prop}
theorem Q2h (hK:KidsI Q w0 W p b tk dp s V v l) (hw:w0.heap.size<=W.heap.size) (hb:Below V.heap.size V V') {R:Nat->Prop} {xv:Value} {m:List Int} (hx:RdS V' R 1 xv m.length (intCells m)) (hn:l.length+m.length<=100000) (ty:TypeId):
  ∃ v' w',(Builtin.append_ #[46,46] ty #[v,xv]).run prog V'= .ok v' w'/\KidsI Q w0 W p b tk dp s w' v' (l++m):=by
 have hk:=hK.past hb;obtain ⟨i0,hii,hz0,hz1,hz2⟩:=Qw Q06;obtain ⟨a2,cap,w',hr,h2,h3,h4⟩:=YE (P:=prog) V' 46 ty W.heap.size 3 i0 (.int .i64 0) 1 8 underlying46 hii hz0 hz1 hz2 rfl (by decide) v l.length (intCells l) hk.row hx (ints_one _) (by unfold maxLen;omega) (by omega) hk.fr.size;exact ⟨_,w',hr,hk.append hw h2 rfl h3 h4⟩
theorem GJ {rest:List Oper} {K:Exit->Act->World->Prop} (hgd:o.guard=none) (sx xx:Operand)
  (ho:o.op= .call {callee:= .builtin .append,args:= #[sx,xx],argTypes:= #[46,46]})
  {W V V':World} {s:Ps.St} {v:Value} {l:List Int} (hK:KidsI Q w0 W p b tk dp s V v l) (hw:w0.heap.size<=W.heap.size) (hs:a.eval sx=v) (hb:Below V.heap.size V V') {R:Nat->Prop} {xv:Value} (m:List Int) (hx:RdS V' R 1 xv m.length (intCells m)) (hxv:a.eval xx=xv) (hn:l.length+m.length<=100000)
  (h:∀ v' w',KidsI Q w0 W p b tk dp s w' v' (l++m)->wpList prog ops K rest (a.put o.dst v') w'):
  wpList prog ops K (o::rest) a V':=by
 refine wpList_plain hgd fun K2 hK2=> ?_;obtain ⟨v',w',hr,h2⟩:=Q2h hK hw hb hx hn o.type;unfold Oper.wp execOp;simp only[ho,resolve,invoke,builtin,Sem.run_bind,Sem.run_pure,Result.andThen_ok,List.map_toArray,List.map_cons,List.map_nil,hs,hxv,hr];exact hK2 _ _ (h v' w' h2)
theorem G6 {K:Act->World->Prop} {K2:Exit->Act->World->Prop} {E:Prop} (hgd:o.guard=none) (sx xx:Operand)
  (ho:o.op= .call {callee:= .builtin .append,args:= #[sx,xx],argTypes:= #[46,46]})
  {W V V':World} {s:Ps.St} {v:Value} {l:List Int} (hK:KidsI Q w0 W p b tk dp s V v l) (hw:w0.heap.size<=W.heap.size) (hs:a.eval sx=v) (hb:Below V.heap.size V V') {R:Nat->Prop} {xv:Value} (m:List Int) (hx:RdS V' R 1 xv m.length (intCells m)) (hxv:a.eval xx=xv) (hn:l.length+m.length<=100000)
  (h:∀ v' w',KidsI Q w0 W p b tk dp s w' v' (l++m)->K (a.put o.dst v') w'):
  if Region.wanted o (yielded ops a.tmps)=true then Oper.wp prog o a V' K K2 else E:=by
 have hwt:Region.wanted o (yielded ops a.tmps)=true:=by simp[Region.wanted,hgd]
 rw[if_pos hwt];obtain ⟨v',w',hr,h2⟩:=Q2h hK hw hb hx hn o.type;unfold Oper.wp execOp;simp only[ho,resolve,invoke,builtin,Sem.run_bind,Sem.run_pure,Result.andThen_ok,List.map_toArray,List.map_cons,List.map_nil,hs,hxv,hr];exact h v' w' h2
theorem XU (V:World) (o:Obj):Below V.heap.size V (V.alloc o):=(eB_ _ _).alloc (rl_ _) _
theorem Q2i {base:Nat} (h:V.ownsRow base 3 1 v m.length (intCells m)):RdS V (fun k=> v.ownBlock=some k/\base<=k/\k < V.heap.size) 1 v m.length (intCells m):=RdS.own h
end
theorem DM {tk:List Tr.Tk} {f:Ps.F}:∀ (k:Nat) (ks:List Int) (s:Ps.St),(Ps.listGo tk f k ks s).1.length<=ks.length+2*k+1
 | 0,ks,s=> by unfold Ps.listGo;simp
 | k+1,ks,s=> by
  unfold Ps.listGo;split
  ·split
   ·have:=DM (tk:=tk) (f:=f) k (ks++ [(f s).1,(Ps.leaf tk (f s).2).1]) (Ps.leaf tk (f s).2).2;simp only[eC_,eL_,eU_] at this;omega
   ·simp only[eC_,eL_,eU_];omega
  ·show ks.length<=_;omega
theorem Q2j {tk:List Tr.Tk} {f:Ps.F} (s:Ps.St):(Ps.list tk f s).1.length<=17:=by
 unfold Ps.list;split
 ·simp
 ·have:=DM (tk:=tk) (f:=f) 8 [] s;simpa using this
theorem Pc.sim_listS {tk:List Tr.Tk} (ht:Pc.Toks tk) {f:Ps.F} {g:Pr.G} (hf:Pc.Sim tk f g):Pc.SimL tk (Ps.list tk f) (fun r=> if r.e=0/\Pr.is tk [41] r=false then Pr.args tk g r else ([],r)):=by
 refine ⟨fun s r he hi hr=> ?_,fun s he=> by rw[Pc.Q02 he],fun r he=> by rw[if_neg (by simp[he])]⟩;have o:=Pc.Q2b ht hf (Pc.Out.nil hi hr);simp only[List.nil_append] at o;exact o
theorem Pc.inv_must {tk:List Tr.Tk} (ht:Pc.Toks tk) (ts:List (List UInt8)) {s:Ps.St} (hi:Pc.Inv tk s):Pc.Inv tk (Ps.must tk ts s).2:=by
 unfold Ps.must;split
 ·rename_i h;exact ((Pc.Og.nil hi).leaf ht h.1 (Pc.Qu h.2)).1.inv
 ·show Pc.Inv tk (Ps.fail tk 22 s);unfold Ps.fail;split
  ·exact hi
  ·exact hi
section
variable {w0:World} {p b:Nat} {tk:List Tr.Tk} {dp:Int} {Q:Nat->Prop}
theorem Q2k (ht:Pc.Toks tk) (hl:tk.length<=1000000) {n:Int} (hn0:0<=n) (hn1:n<=300) {ex:Ps.F} {g:Pr.G} (hx:Pc.Sim tk ex g) (hex:Knows w0 p b tk dp 114 #[.pointer (some ⟨p,0,none⟩),.int .i64 (n+1)] ex)
  {W:World} {s:Ps.St} (hQ:Up Q W) (h:PI Q w0 W p b tk dp s) (hi:Pc.Inv tk s) (he:s.e=0) (hk:(Ps.peek tk s.used).kind=1):
  Calls prog 249 #[.pointer (some ⟨p,0,none⟩),.int .i64 n] W (Does Q w0 p b tk dp (Ps.name tk ex s) W):=by
 have hlf:=(Pc.Og.nil hi).leaf ht he (by omega);have hV0:Below W.heap.size W ((W.alloc (.cells #[.pointer (some ⟨p,0,none⟩)] 151)).alloc (.cells #[.int .i64 n] 3)):=((eB_ _ _).alloc (rl_ _) _).alloc (by rw[<-Q5];omega) _;have hB0:Boxes p n W.heap.size (W.heap.size+1) ((W.alloc (.cells #[.pointer (some ⟨p,0,none⟩)] 151)).alloc (.cells #[.int .i64 n] 3)):=by
  refine ⟨?_,?_⟩
  ·rw[eJ_ _ _ _ (by rw[<-Q5];omega)];exact eD_ _ _
  ·have:=eD_ (W.alloc (.cells #[.pointer (some ⟨p,0,none⟩)] 151)) (.cells #[.int .i64 n] 3);rw[<-Q5] at this;exact this
 have c0:=(h.past hV0).c0;obtain ⟨V0,hV0e⟩:∃ V0,(W.alloc (.cells #[.pointer (some ⟨p,0,none⟩)] 151)).alloc (.cells #[.int .i64 n] 3)=V0:=⟨_,rfl⟩
 have HE0:=hd_ hV0e;have b0:=Q3 hB0.1 0 rfl;rw[hV0e] at hV0 hB0;clear hV0e;have H:=h4_ ht hl hx hex;have HP:=h5_ h hi (hQ.size hV0.size) hV0 hB0;have HL:=hd_ hlf;clear ht hl hx hex h hi hQ hV0 hB0 hlf he hk;obtain ⟨⟨x1,s1⟩,hx1⟩:∃ r,Ps.leaf tk s=r:=⟨_,rfl⟩
 have hnm:Ps.name tk ex s=if (s1.clause || !Ps.nextB tk [[46], [40]] s1.used)=true then Ps.node 14 [x1] s1 else Ps.call tk ex (Ps.callee tk s1 x1).1 (Ps.callee tk s1 x1).2:=by
  unfold Ps.name;simp only[hx1]
 rw[hnm];rw[hx1] at HL;have HX1:=hd_ hx1;clear hnm hx1;dsimp only at HL;cases hcl:s1.clause
 ·rw[Bool.false_or];have HB:=h2_ (HP.a.below.trans (HP.d.mono HP.a.below.size)).size HP.c;by_cases hn:Ps.nextB tk [[46], [40]] s1.used=true
  ·rw[if_neg (by rw[hn];simp)];have HYn:=hd_ hn;clear hn;by_cases hd:Ps.nextB tk [[46]] s1.used=true
   ·have HYd:=hd_ hd;clear hd;obtain ⟨⟨x4,s4⟩,hx4⟩:∃ r,Ps.leaf tk s1=r:=⟨_,rfl⟩
    have hi4:=((Pc.Og.nil HL.a.inv).leaf H.a HL.B (Pc.Qu HYd.o)).1.inv;rw[hx4] at hi4;obtain ⟨⟨x5,s5⟩,hx5⟩:∃ r,Ps.kind tk 1 s4=r:=⟨_,rfl⟩
    have hi5:=(Pc.Uk H.a (k:=1) (by decide)).keep hi4;rw[hx5] at hi5;have HX4:=hd_ hx4;have HX5:=hd_ hx5;have HI4:=hd_ hi4;have HI5:=hd_ hi5;have hce:Ps.callee tk s1 x1=([x1]++ [x4,x5],s5):=(by unfold Ps.callee;rw[if_pos HYd.o,hx4];simp only[hx5];rfl);rw[hce];clear hx4 hx5 hi4 hi5 hce;go_in;go_wp2_with fail;rw[HE0.o];refine (QE (HP.a.past HP.d) (Pc.Qg HP.b H.b)).mono ?_;rintro e W1 ⟨rfl,h,g⟩;rw[HX1.o] at h |-;have hB1:=Qn _ _ HP.E g;have H1:=h2_ (Um h g [x1] (by simp)) (Qn _ _ hB1 (FrT.of ((eB_ _ _).alloc (rl_ _) (.cells (intCells [x1]).toArray 3))));have b0:(W1.alloc (.cells #[.int .i64 x1] 3)).cell? ⟨W.heap.size,0,none⟩=some (.pointer (some ⟨p,0,none⟩)):=Q3 H1.b 0 rfl;have c2:(W1.alloc (.cells #[.int .i64 x1] 3)).cell? ⟨p,2,none⟩=some (.bool s1.clause):=H1.a.pi.c2;rw[hcl] at c2;clear h g hB1 c0;dsimp only;go_wp2_with fail;refine (Zg H1.a.pi HL.a.inv H.b [[46], [40]] (by simp) HYn.o (Q5 _ _)).mono ?_;rintro e V2 ⟨rfl,hb⟩;have K2:=h2_ (H1.a.past hb) (Qn _ _ H1.B (FrT.of hb));clear hb b0 c2;have b0:=Q3 K2.b 0 rfl;have c0:=K2.a.pi.c0;dsimp only;go_wp2_with fail;refine (Zg K2.a.pi HL.a.inv H.b [[46]] (by simp) HYd.o rfl).mono ?_;rintro e V3 ⟨rfl,hb⟩;have KD:=h2_ (K2.a.past hb) (Qn _ _ K2.B (FrT.of hb));clear hb b0 c0;have b0:=Q3 KD.b 0 rfl;have c0:=KD.a.pi.c0;dsimp only;go_wp2_with fail;have K3:=h2_ KD.a HL.a.inv;have HA3:=hd_ ((eB_ V3.heap.size V3).drew);go_region_held3 (fun w'=> w'.cell? ⟨W.heap.size,0,none⟩=some (.pointer (some ⟨p,0,none⟩))/\w'.cell? ⟨p,0,none⟩=some (.pointer (some ⟨b,0,none⟩))) (first | exact ⟨b0,c0⟩ | exact ⟨b4,c4⟩ | exact ⟨b5,c5⟩ | exact ⟨b6,c6⟩ | go_keep)
     (first
      | (go_at_call 149;refine (QE (K3.a.pi.past HA3.o) (Pc.Qg K3.B H.b)).mono ?_;rintro e WW4 ⟨rfl,h,g⟩;rw[HX4.o] at h |-;have KK4:=hd_ (K3.a.step h ((FrT.of HA3.o).trans g));have b4:=Q3 (Qn _ _ HP.E KK4.o.fr).1 0 rfl;have c4:=KK4.o.pi.c0;clear h g)
      | (go_at_call 116;refine (ZZ KK4.o.pi (Pc.Qg HI4.o H.b) 1).mono ?_;rintro e WW5 ⟨rfl,h,g⟩;rw[HX5.o] at h |-;have KK5:=hd_ (KK4.o.step h g);have b5:=Q3 (Qn _ _ HP.E KK5.o.fr).1 0 rfl;have c5:=KK5.o.pi.c0;clear h g)
      | (refine G6 rfl (.tmp 28) (.tmp 36) rfl KK5.o HB.a (by simp[Act.eval]) (XU _ _) [x4,x5] (Xw WW5 [x4,x5] rfl) (by simp[Act.eval]) (by simp) ?_;intro v6 WW6 hk6;have KK6:=hd_ hk6;have b6:=Q3 (Qn _ _ HP.E hk6.fr).1 0 rfl;have c6:=hk6.pi.c0;clear hk6))
    have K6:=h2_ KK6.o HI5.o;clear b0 c0 b4 c4 b5 c5;have b0:=b6;have c0:=c6;clear b6 c6;go_wp2_with fail;have hal:Below WW6.heap.size WW6 (WW6.alloc (.cells (strCells [[40]]).toArray 9)):=(eB_ _ _).alloc (rl_ _) _;refine (X6 (ts:= [[40]]) (K6.a.pi.past hal) (Pc.Qg K6.B H.b) (QU WW6 [[40]] rfl) (fun k hk=> by rw[hk, <-Q5];omega) (by simp)).mono ?_;rintro e W7 ⟨rfl,h,g⟩;have K7:=h2_ (K6.a.step h ((FrT.of hal).trans g)) (Pc.inv_must H.a [[40]] K6.B);clear h g hal;obtain ⟨⟨x7,s7⟩,hx⟩:∃ r,Ps.must tk [[40]] s5=r:=⟨_,rfl⟩
    rw[hx] at K7 |-;have HX7:=hd_ hx;clear hx;dsimp only at K7 |-;clear b0 c0;go_wp2_with (at_builtin;refine GJ rfl _ _ rfl K7.a HB.a rfl (XU _ _) [x7] (Xw W7 [x7] rfl) rfl (by have:=HB.a;simp only[eC_,eL_,eU_] at this |-;omega) ?_);intro v8 W8 hk;have K8:=h2_ hk K7.B;clear hk;have b0:=Q3 (Qn _ _ HP.E K8.a.fr).1 0 rfl;have c0:=K8.a.pi.c0;go_wp2_with fail;refine (DL H.a H.b H.c Qn (Un hn0 hn1 H.D) _ _ _ (K8.a.up HP.c) K8.a.pi K8.B (Qn _ _ HP.E K8.a.fr)).mono ?_;rintro e W9 ⟨v9,rfl,ho6,hp6,g6⟩;have hll:=Q2j (tk:=tk) (f:=ex) s7;have hin:=(Pc.sim_listS H.a H.c).keep K8.B;obtain ⟨⟨l9,s9⟩,hx6⟩:∃ r,Ps.list tk ex s7=r:=⟨_,rfl⟩
    rw[hx6] at ho6 hp6 hll hin;dsimp only at ho6 hp6 hll hin |-;have K9:=h2_ (K8.a.step (hp6.imp fun k _ hq=> hq.1) g6) hin;have HO9:=h2_ ho6 hll;have HX9:=hd_ hx6;clear ho6 hp6 g6 hll hx6 hin b0 c0;go_wp2_with (at_builtin;refine GJ rfl _ _ rfl K9.a HB.a rfl (eB_ _ _) l9 (Q2i HO9.a) rfl (by have:=HO9.B;simp only[eC_,eL_,eU_];omega) ?_);intro v10 W10 hk;have K10:=h2_ hk K9.B;clear hk;have b0:=Q3 (Qn _ _ HP.E K10.a.fr).1 0 rfl;go_wp2_with fail;obtain ⟨⟨x8,s8⟩,hx8⟩:∃ r,Ps.must tk [[41]] s9=r:=⟨_,rfl⟩
    have HX8:=hd_ hx8;have hi8:=Pc.inv_must H.a [[41]] K10.B;rw[hx8] at hi8;have HI8:=hd_ hi8;have HA8:=hd_ (((eB_ W10.heap.size W10).drew).alloc (rl_ _) (.cells (strCells [[41]]).toArray 9));clear hx8 hi8;go_region_held3 (fun w'=> w'.cell? ⟨W.heap.size,0,none⟩=some (.pointer (some ⟨p,0,none⟩))) (first | exact b0 | exact b8 | exact b9 | exact b10 | go_keep)
     (first
      | (go_at_call 150;refine (X6 (ts:= [[41]]) (K10.a.pi.past HA8.o) (Pc.Qg K10.B H.b) (QU W10.drew [[41]] rfl) (fun k hk=> by rw[hk, <-Q5];exact Nat.lt_succ_self _) (by simp)).mono ?_;rintro e WW8 ⟨rfl,h,g⟩;rw[HX8.o] at h |-;have KK8:=hd_ (K10.a.step h ((FrT.of HA8.o).trans g));have b8:=Q3 (Qn _ _ HP.E KK8.o.fr).1 0 rfl;clear h g)
      | (refine G6 rfl (.tmp 50) (.tmp 54) rfl KK8.o HB.a (by simp[Act.eval]) (XU _ _) [x8] (Xw WW8 [x8] rfl) (by simp[Act.eval]) (by have:=HO9.B;simp only[eC_,eL_,eU_];omega) ?_;intro v9 WW9 hk9;have KK9:=hd_ hk9;have b9:=Q3 (Qn _ _ HP.E hk9.fr).1 0 rfl;clear hk9)
      | (go_at_call 115;refine (KK9.o.node HP.c HI8.o H.b (by have:=HO9.B;simp only[eC_,eL_,eU_];omega) 13).mono ?_;rintro e WW10 ⟨rfl,h,g⟩;have K10:=h2_ h g;have b10:=Q3 (Qn _ _ HP.E g).1 0 rfl;clear h g))
    go_wp2_with fail;go_ret;have e1:Ps.call tk ex [x1,x4,x5] s5=Ps.node 13 (((([x1]++ [x4,x5])++ [x7])++l9)++ [x8]) s8:=by
     simp only[Ps.call,HX7.o,HX9.o,HX8.o];try rfl
    rw[e1];exact ⟨rfl,K10.a,(FrT.of HP.d).trans K10.B⟩
   ·have hce:Ps.callee tk s1 x1=([x1],s1):=(by unfold Ps.callee;rw[if_neg hd]);rw[hce];rw[Bool.not_eq_true] at hd;have HYd:=hd_ hd;clear hd hce;go_in;go_wp2_with fail;rw[HE0.o];refine (QE (HP.a.past HP.d) (Pc.Qg HP.b H.b)).mono ?_;rintro e W1 ⟨rfl,h,g⟩;rw[HX1.o] at h |-;have hB1:=Qn _ _ HP.E g;have H1:=h2_ (Um h g [x1] (by simp)) (Qn _ _ hB1 (FrT.of ((eB_ _ _).alloc (rl_ _) (.cells (intCells [x1]).toArray 3))));have b0:(W1.alloc (.cells #[.int .i64 x1] 3)).cell? ⟨W.heap.size,0,none⟩=some (.pointer (some ⟨p,0,none⟩)):=Q3 H1.b 0 rfl;have c2:(W1.alloc (.cells #[.int .i64 x1] 3)).cell? ⟨p,2,none⟩=some (.bool s1.clause):=H1.a.pi.c2;rw[hcl] at c2;clear h g hB1 c0;dsimp only;go_wp2_with fail;refine (Zg H1.a.pi HL.a.inv H.b [[46], [40]] (by simp) HYn.o (Q5 _ _)).mono ?_;rintro e V2 ⟨rfl,hb⟩;have K2:=h2_ (H1.a.past hb) (Qn _ _ H1.B (FrT.of hb));clear hb b0 c2;have b0:=Q3 K2.b 0 rfl;have c0:=K2.a.pi.c0;dsimp only;go_wp2_with fail;refine (Zg K2.a.pi HL.a.inv H.b [[46]] (by simp) HYd.o rfl).mono ?_;rintro e V3 ⟨rfl,hb⟩;have KD:=h2_ (K2.a.past hb) (Qn _ _ K2.B (FrT.of hb));clear hb b0 c0;have b0:=Q3 KD.b 0 rfl;have c0:=KD.a.pi.c0;dsimp only;go_wp2_with fail;have K3:=h2_ KD.a HL.a.inv;have hal:Below V3.heap.size V3 (V3.alloc (.cells (strCells [[40]]).toArray 9)):=(eB_ _ _).alloc (rl_ _) _;refine (X6 (ts:= [[40]]) (K3.a.pi.past hal) (Pc.Qg K3.B H.b) (QU V3 [[40]] rfl) (fun k hk=> by rw[hk, <-Q5];omega) (by simp)).mono ?_;rintro e W4 ⟨rfl,h,g⟩;have K4:=h2_ (K3.a.step h ((FrT.of hal).trans g)) (Pc.inv_must H.a [[40]] K3.B);clear h g hal;obtain ⟨⟨x4,s4⟩,hx⟩:∃ r,Ps.must tk [[40]] s1=r:=⟨_,rfl⟩
    rw[hx] at K4 |-;have HX4:=hd_ hx;clear hx;dsimp only at K4 |-;clear b0 c0;go_wp2_with (at_builtin;refine GJ rfl _ _ rfl K4.a HB.a rfl (XU _ _) [x4] (Xw W4 [x4] rfl) rfl (by have:=HB.a;simp only[eC_,eL_,eU_] at this |-;omega) ?_);intro v5 W5 hk;have K5:=h2_ hk K4.B;clear hk;have b0:=Q3 (Qn _ _ HP.E K5.a.fr).1 0 rfl;have c0:=K5.a.pi.c0;go_wp2_with fail;refine (DL H.a H.b H.c Qn (Un hn0 hn1 H.D) _ _ _ (K5.a.up HP.c) K5.a.pi K5.B (Qn _ _ HP.E K5.a.fr)).mono ?_;rintro e W6 ⟨v6,rfl,ho6,hp6,g6⟩;have hll:=Q2j (tk:=tk) (f:=ex) s4;have hin:=(Pc.sim_listS H.a H.c).keep K5.B;obtain ⟨⟨l6,s6⟩,hx6⟩:∃ r,Ps.list tk ex s4=r:=⟨_,rfl⟩
    rw[hx6] at ho6 hp6 hll hin;dsimp only at ho6 hp6 hll hin |-;have K6:=h2_ (K5.a.step (hp6.imp fun k _ hq=> hq.1) g6) hin;have HO6:=h2_ ho6 hll;have HX6:=hd_ hx6;clear ho6 hp6 g6 hll hx6 hin b0 c0;go_wp2_with (at_builtin;refine GJ rfl _ _ rfl K6.a HB.a rfl (eB_ _ _) l6 (Q2i HO6.a) rfl (by have:=HO6.B;simp only[eC_,eL_,eU_];omega) ?_);intro v7 W7 hk;have K7:=h2_ hk K6.B;clear hk;have b0:=Q3 (Qn _ _ HP.E K7.a.fr).1 0 rfl;go_wp2_with fail;obtain ⟨⟨x8,s8⟩,hx8⟩:∃ r,Ps.must tk [[41]] s6=r:=⟨_,rfl⟩
    have HX8:=hd_ hx8;have hi8:=Pc.inv_must H.a [[41]] K7.B;rw[hx8] at hi8;have HI8:=hd_ hi8;have HA8:=hd_ (((eB_ W7.heap.size W7).drew).alloc (rl_ _) (.cells (strCells [[41]]).toArray 9));clear hx8 hi8;go_region_held3 (fun w'=> w'.cell? ⟨W.heap.size,0,none⟩=some (.pointer (some ⟨p,0,none⟩))) (first | exact b0 | exact b8 | exact b9 | exact b10 | go_keep)
     (first
      | (go_at_call 150;refine (X6 (ts:= [[41]]) (K7.a.pi.past HA8.o) (Pc.Qg K7.B H.b) (QU W7.drew [[41]] rfl) (fun k hk=> by rw[hk, <-Q5];exact Nat.lt_succ_self _) (by simp)).mono ?_;rintro e WW8 ⟨rfl,h,g⟩;rw[HX8.o] at h |-;have KK8:=hd_ (K7.a.step h ((FrT.of HA8.o).trans g));have b8:=Q3 (Qn _ _ HP.E KK8.o.fr).1 0 rfl;clear h g)
      | (refine G6 rfl (.tmp 50) (.tmp 54) rfl KK8.o HB.a (by simp[Act.eval]) (XU _ _) [x8] (Xw WW8 [x8] rfl) (by simp[Act.eval]) (by have:=HO6.B;simp only[eC_,eL_,eU_];omega) ?_;intro v9 WW9 hk9;have KK9:=hd_ hk9;have b9:=Q3 (Qn _ _ HP.E hk9.fr).1 0 rfl;clear hk9)
      | (go_at_call 115;refine (KK9.o.node HP.c HI8.o H.b (by have:=HO6.B;simp only[eC_,eL_,eU_];omega) 13).mono ?_;rintro e WW10 ⟨rfl,h,g⟩;have K10:=h2_ h g;have b10:=Q3 (Qn _ _ HP.E g).1 0 rfl;clear h g))
    go_wp2_with fail;go_ret;have e1:Ps.call tk ex [x1] s1=Ps.node 13 ((([x1]++ [x4])++l6)++ [x8]) s8:=by
     simp only[Ps.call,HX4.o,HX6.o,HX8.o];try rfl
    rw[e1];exact ⟨rfl,K10.a,(FrT.of HP.d).trans K10.B⟩
  ·rw[if_pos (by simpa using hn)];rw[Bool.not_eq_true] at hn;have HYn:=hd_ hn;clear hn;go_in;go_wp2_with fail;rw[HE0.o];refine (QE (HP.a.past HP.d) (Pc.Qg HP.b H.b)).mono ?_;rintro e W1 ⟨rfl,h,g⟩;rw[HX1.o] at h |-;have hB1:=Qn _ _ HP.E g;have H1:=h2_ (Um h g [x1] (by simp)) (Qn _ _ hB1 (FrT.of ((eB_ _ _).alloc (rl_ _) (.cells (intCells [x1]).toArray 3))));have b0:(W1.alloc (.cells #[.int .i64 x1] 3)).cell? ⟨W.heap.size,0,none⟩=some (.pointer (some ⟨p,0,none⟩)):=Q3 H1.b 0 rfl;have c2:(W1.alloc (.cells #[.int .i64 x1] 3)).cell? ⟨p,2,none⟩=some (.bool s1.clause):=H1.a.pi.c2;rw[hcl] at c2;clear h g hB1 c0;dsimp only;go_wp2_with fail;refine (Zg H1.a.pi HL.a.inv H.b [[46], [40]] (by simp) HYn.o (Q5 _ _)).mono ?_;rintro e V2 ⟨rfl,hb⟩;have K2:=h2_ (H1.a.past hb) (Qn _ _ H1.B (FrT.of hb));clear hb b0 c2;have b0:=Q3 K2.b 0 rfl;have c0:=K2.a.pi.c0;dsimp only;go_wp2_with fail;refine (K2.a.node HP.c HL.a.inv H.b (by simp) 14).mono ?_;rintro e WN ⟨rfl,h,g⟩;have HN:=h2_ h g;clear h g;dsimp only;go_wp2_with fail;go_ret;exact ⟨rfl,HN.a,(FrT.of HP.d).trans HN.B⟩
 ·rw[Bool.true_or,if_pos rfl];go_in;go_wp2_with fail;rw[HE0.o];refine (QE (HP.a.past HP.d) (Pc.Qg HP.b H.b)).mono ?_;rintro e W1 ⟨rfl,h,g⟩;rw[HX1.o] at h |-;have hB1:=Qn _ _ HP.E g;have H1:=h2_ (Um h g [x1] (by simp)) (Qn _ _ hB1 (FrT.of ((eB_ _ _).alloc (rl_ _) (.cells (intCells [x1]).toArray 3))));have b0:(W1.alloc (.cells #[.int .i64 x1] 3)).cell? ⟨W.heap.size,0,none⟩=some (.pointer (some ⟨p,0,none⟩)):=Q3 H1.b 0 rfl;have c2:(W1.alloc (.cells #[.int .i64 x1] 3)).cell? ⟨p,2,none⟩=some (.bool s1.clause):=H1.a.pi.c2;rw[hcl] at c2;clear h g hB1 c0;dsimp only;go_wp2_with fail;refine (H1.a.node HP.c HL.a.inv H.b (by simp) 14).mono ?_;rintro e W2 ⟨rfl,h,g⟩;have H2:=h2_ h g;clear h g b0 c2;dsimp only;go_wp2_with fail;go_ret;exact ⟨rfl,H2.a,(FrT.of HP.d).trans H2.B⟩
end
end Go.Proofs.YtiecccakcenobaaGreatDoor
