/- A part of the proof. -/
import Derived.Test.YtiecccakcenobaaGreatDoorTdvM4
import Derived.Deep.RegionWith
set_option linter.all false
set_option maxRecDepth 100000
set_option maxHeartbeats 64000000
namespace Go.Proofs.YtiecccakcenobaaGreatDoor
open Tryz
open Go.RowKit
variable {a:Act} {cs cur tmps:Array Value} {b:Bool} {x y z:Int} {zs:List Int} {all:List Oper} {ts:List TypeId} {ns ss xs ys:List Value} {B N V c g i id j m n o1 o2 r:Nat} {o:Oper} {R:Prop} {l:Tp.L} {t u:Tp.T} {p s v vf vn vt vu vx:Value} {W w w' w0 w1:World}
def FrRel (w:World) (N:Nat) (k:Nat) (v0 v4:Value) (wr:World):Prop:=
 ∃ (a:Option Addr) (cc m:Nat) (done:List Nat),v0= .int .i64 m/\v4= .slice a done.length cc/\k=m/\m<=9223372036854775807/\done.length<=19/\Zp.Dig 10 done/\
  wr.ownsRow (w.heap.size+1) 3 1 (.slice a done.length cc) done.length (natCells done)/\Zp.val 10 done+10 ^ done.length*m=N/\wr.heap[w.heap.size]? =some (.cells #[.int .i64 0,.slice none 0 0] 48 (0,0))/\Below (w.heap.size+1) (w.alloc (.cells #[.int .i64 0,.slice none 0 0] 48)) wr
theorem Q1P {k:Nat} (h:V+10 ^ k*m=N) (hm:0 < m) (hN:N<=9223372036854775807):k<=18:=by
 rcases eS_ 18 k with h1 | h1
 ·have h2:10 ^ 19<=10 ^ k:=Nat.pow_le_pow_right (by decide) h1;have h3:10 ^ k*1<=10 ^ k*m:=Nat.mul_le_mul_left _ hm;have h4:(10:Nat) ^ 19=10000000000000000000:=by decide
  omega
 ·exact h1
theorem LS {P:Nat} (h:V+P*m=N):V+P*(m % 10)+P*10*(m / 10)=N:=by
 rw[<-h,Nat.mul_assoc,Nat.add_assoc, <-Nat.mul_add,Nat.mod_add_div]
theorem YU (n:Int) (h1: -9223372036854775807<=n) (h2:n<=9223372036854775807) (w:World):
  Calls prog 36 #[.int .i64 n] w fun e w'=> ∃ v',e= .returned v'/\Zn w' v' n/\Below w.heap.size w w':=by
 obtain ⟨N,hN⟩:∃ N:Nat,n.natAbs=N:=⟨_,rfl⟩
 have hNb:N<=9223372036854775807:=by omega
 have HN:=h2_ hN hNb;by_cases hn:n < 0
 ·have hd:decide (n < 0)=true:=eM_ hn;have hv: -n=(N:Int):=by omega
  have HS:Hid (n=(-1)*(N:Int)):=hd_ (by omega);clear hn hN;go_in;go_wp2_with fail;go_loopg [0,4] N (fun k v0 v4 wr=> FrRel w N k v0 v4 wr)
  case atStart=> exact ⟨none,0,N, [],rfl,rfl,rfl,HN.B,by simp,Zp.Dig.nil,World.ownsRow_nil _ _ _ _,by simp[Zp.val],eD_ _ _,eB_ _ _⟩
  case round=>
   obtain ⟨a,cc,m,done,rfl,rfl,hk,hm,hl,hdd,hown,hval,hg,hb⟩:=hrel;have HR:=h6_ hk hdd hown hval hg hb;have hl':(done.length:Int)<=19:=(by omega);rcases Nat.eq_zero_or_pos m with h0 | h0
   ·subst h0;have hv1:Zp.val 10 done=N:=(by simpa using hval);have hdg:=U5 hown;have HV:=h6_ hdg hg hdd hv1 (eE_ hl (by decide:19<=1073741824)) (((eB_ w.heap.size w).alloc (rl_ _) _).trans (hb.mono (Nat.le_succ _)));clear hk hdd hown hval hg hb hl hdg hv1;go_wp2_with fail;refine (X4 HV.a HV.e HV.c (-1) n (by rw[HV.d];exact HS.o) (by omega)).mono ?_;rintro e w2 ⟨v2,rfl,hr,hb⟩;have HT2:=h3_ ((hb.block _ (Q4 HV.b)).trans HV.b) hr (HV.F.trans (hb.mono HV.F.size));clear hr hb;dsimp only;go_wp2_with (refine XO rfl _ _ rfl rfl HT2.a rfl rfl HT2.b (by omega) HT2.C ?_;rintro W cs - rfl hg hs hn hb -;have HT:=h4_ hg hs hn hb;clear hg hs hn hb);exact eG_ (YF rfl rfl HT.a HT.b) rfl ⟨_,rfl,HT.c,HT.D⟩
   ·have hlen:=Q1P hval h0 HN.B;have hsz:w.heap.size+1<=wr.heap.size:=(by have:=hb.size;rw[<-Q5] at this;exact this);have hm':(m:Int)<=9223372036854775807:=(by omega);have hm0:(0:Int) < (m:Int):=(by omega);have HSZ:=hd_ hsz;clear hk hdd hown hval hg hb hsz;go_wp2_with (first
     | (refine app1 rfl _ _ XN rfl rfl HR.c (rl_ _) HSZ.o HR.F _ rfl rfl rfl (by omega) ?_;rintro a2 c2 w2 ho2 hb2 hg2;have HA:=h3_ ho2 hb2 hg2;clear ho2 hb2 hg2))
    go_roundg (m / 10)
    case measure=> have:=HR.a;omega
    case rel=>
     obtain ⟨q1,q2,q3,q4,q5,q6⟩:=HR.o;refine ⟨a2,c2,m / 10,done++ [m % 10],UW (by omega),by simp,rfl,by omega,by simp;omega,Xl q2 (Nat.mod_lt _ (by decide)),?_,?_,?_,HA.b⟩
     ·have h5:=XM (q:=m % 10) HA.a (by omega);simpa using h5
     ·rw[XB,eC_,Nat.pow_add];exact LS q4
     ·exact (HA.b.block _ (Nat.lt_succ_self _)).trans (eD_ _ _)
 ·have hd:decide (n < 0)=false:=eK_ hn;have hv:n=(N:Int):=by omega
  have HS:Hid (n=1*(N:Int)):=hd_ (by omega);subst hv;clear hn hN;go_in;go_wp2_with fail;go_loopg [0,4] N (fun k v0 v4 wr=> FrRel w N k v0 v4 wr)
  case atStart=> exact ⟨none,0,N, [],rfl,rfl,rfl,HN.B,by simp,Zp.Dig.nil,World.ownsRow_nil _ _ _ _,by simp[Zp.val],eD_ _ _,eB_ _ _⟩
  case round=>
   obtain ⟨a,cc,m,done,rfl,rfl,hk,hm,hl,hdd,hown,hval,hg,hb⟩:=hrel;have HR:=h6_ hk hdd hown hval hg hb;have hl':(done.length:Int)<=19:=(by omega);rcases Nat.eq_zero_or_pos m with h0 | h0
   ·subst h0;have hv1:Zp.val 10 done=N:=(by simpa using hval);have hdg:=U5 hown;have HV:=h6_ hdg hg hdd hv1 (eE_ hl (by decide:19<=1073741824)) (((eB_ w.heap.size w).alloc (rl_ _) _).trans (hb.mono (Nat.le_succ _)));clear hk hdd hown hval hg hb hl hdg hv1;go_wp2_with fail;refine (X4 HV.a HV.e HV.c 1 (N:Int) (by rw[HV.d];exact HS.o) (by omega)).mono ?_;rintro e w2 ⟨v2,rfl,hr,hb⟩;have HT2:=h3_ ((hb.block _ (Q4 HV.b)).trans HV.b) hr (HV.F.trans (hb.mono HV.F.size));clear hr hb;dsimp only;go_wp2_with (refine XO rfl _ _ rfl rfl HT2.a rfl rfl HT2.b (by omega) HT2.C ?_;rintro W cs - rfl hg hs hn hb -;have HT:=h4_ hg hs hn hb;clear hg hs hn hb);exact eG_ (YF rfl rfl HT.a HT.b) rfl ⟨_,rfl,HT.c,HT.D⟩
   ·have hlen:=Q1P hval h0 HN.B;have hsz:w.heap.size+1<=wr.heap.size:=(by have:=hb.size;rw[<-Q5] at this;exact this);have hm':(m:Int)<=9223372036854775807:=(by omega);have hm0:(0:Int) < (m:Int):=(by omega);have HSZ:=hd_ hsz;clear hk hdd hown hval hg hb hsz;go_wp2_with (first
     | (refine app1 rfl _ _ XN rfl rfl HR.c (rl_ _) HSZ.o HR.F _ rfl rfl rfl (by omega) ?_;rintro a2 c2 w2 ho2 hb2 hg2;have HA:=h3_ ho2 hb2 hg2;clear ho2 hb2 hg2))
    go_roundg (m / 10)
    case measure=> have:=HR.a;omega
    case rel=>
     obtain ⟨q1,q2,q3,q4,q5,q6⟩:=HR.o;refine ⟨a2,c2,m / 10,done++ [m % 10],UW (by omega),by simp,rfl,by omega,by simp;omega,Xl q2 (Nat.mod_lt _ (by decide)),?_,?_,?_,HA.b⟩
     ·have h5:=XM (q:=m % 10) HA.a (by omega);simpa using h5
     ·rw[XB,eC_,Nat.pow_add];exact LS q4
     ·exact (HA.b.block _ (Nat.lt_succ_self _)).trans (eD_ _ _)
def dbyte (d:Nat):UInt8:=(48+d).toUInt8
theorem LT {d:Nat} (h:d < 10):(dbyte d).toNat=48+d:=Zp.Q1B h
theorem LU (b:UInt8) (W:World):(convert 106 9 (.slice (some ⟨W.heap.size,0,none⟩) 1 1)).run prog (W.alloc (.cells #[.int .u8 (b.toNat:Int)] 5))= .ok (.string ⟨[b].toArray⟩) (W.alloc (.cells #[.int .u8 (b.toNat:Int)] 5)):=by
 rw[run_convert_bytes_string (P:=prog) _ 106 9 5 (some ⟨W.heap.size,0,none⟩) 1 1 underlying106 underlying5 underlying9];have hl:=run_loadCells_list (P:=prog) (W.alloc (.cells #[.int .u8 (b.toNat:Int)] 5)) ⟨W.heap.size,0,none⟩ [.int .u8 (b.toNat:Int)] (fun j u hj=> by
  rw[Addr.add_mid,Nat.zero_add];refine Q3 (eD_ _ _) j ?_;simpa using hj)
 rw[run_bytesToString (P:=prog) _ ⟨W.heap.size,0,none⟩ 1 1 [(b.toNat:Int)] hl];simp only[List.foldl_cons,List.foldl_nil,Int.toNat_natCast];rw[UInt8.ofNat_toNat];rfl
def TxRel (w:World) (A:Array Value) (pre:List UInt8) (l:List Nat) (k:Nat) (v3 v4:Value) (wr:World):Prop:=
 ∃ (j:Nat) (i:Int),v3= .string ⟨(pre++((l.drop j).reverse.map dbyte)).toArray⟩/\v4= .int .i64 i/\i=(j:Int) - 1/\k=j/\j<=l.length/\wr.heap[w.heap.size]? =some (.cells A 48 (0,0))/\Below w.heap.size w wr
theorem Q5n (hz:z≠0):Zp.text z=(if z < 0 then [45] else [])++((dg z).reverse.map dbyte):=by
 have h0:z.natAbs≠0:=by omega
 unfold Zp.text Zp.dec;rw[if_neg h0];by_cases h:z < 0
 ·rw[if_pos h,if_pos h];rfl
 ·rw[if_neg h,if_neg h];rfl
theorem Q0L (h:Zn w v z) (hl:(dg z).length<=1000000000):Calls prog 30 #[v] w fun e w'=> e= .returned (.string ⟨(Zp.text z).toArray⟩)/\Below w.heap.size w w':=by
 obtain ⟨a,c,rfl,hr⟩:=h.form;rcases X2 z with hz | hz
 ·obtain ⟨rfl,hs⟩:=hz;rw[hs];clear h hr hs;go_in;go_wp2_with fail;go_ret;exact ⟨rfl,(eB_ _ _).alloc (rl_ _) _⟩
 ·have hz0:z≠0:=by omega
  rw[Q5n hz0];have HT:=h2_ hr (Yo z);obtain ⟨l,hle⟩:∃ l,dg z=l:=⟨_,rfl⟩
  rw[hle] at HT hl |-;have hl':(l.length:Int)<=1000000000:=by omega
  clear h hr hz0 hle;rcases hz with ⟨hz,hs⟩ | ⟨hz,hs⟩
  ·rw[hs,if_neg (by omega)];clear hz hs;go_in;go_wp2_with fail;go_loopg [3,4] l.length (fun k v3 v4 wr=> TxRel w #[.int .i64 1,.slice a l.length c] [] l k v3 v4 wr)
   case atStart=> exact ⟨l.length,_,by rw[List.drop_length];rfl,rfl,rfl,rfl,rl_ _,eD_ _ _,(eB_ _ _).alloc (rl_ _) _⟩
   case round=>
    obtain ⟨j,i,rfl,rfl,hi,hk,hj,hg,hb⟩:=hrel;have a1:=Q3 hg 1 rfl;have HR:=h3_ hk hg hb;clear hk hg hb;cases j with
    | zero=>
     obtain rfl:i=-1:=(by omega);clear hi;go_wp2_with fail;go_ret;exact ⟨by rw[List.drop_zero];rfl,HR.C⟩
    | succ m=>
     obtain rfl:i=(m:Int):=(by omega);have hmx:(m:Int) < (l.length:Int):=(by omega);obtain ⟨d,hd1,hd2,hd3⟩:=QI HT.B m (by omega);obtain ⟨b1,o1,ex,hcx⟩:=(HT.a.below HR.C).cell (i:=m) (by omega);rw[hd1] at hcx;have hbv:=LT hd3;obtain ⟨bt,hbt⟩:∃ b,dbyte d=b:=⟨_,rfl⟩
     rw[hbt] at hbv;have hcv:48+(d:Int)=((bt.toNat:Nat):Int):=(by omega);have hconv:∀ W:World,(convert 106 9 (.slice (some ⟨W.heap.size,0,none⟩) 1 1)).run prog (W.alloc (.cells #[.int .u8 (48+(d:Int))] 5))= .ok (.string ⟨[bt].toArray⟩) (W.alloc (.cells #[.int .u8 (48+(d:Int))] 5)):=fun W=> (by rw[hcv];exact LU bt W);clear hcv;have hd9:(d:Int)<=9:=(by omega);have HD:=h2_ hd2 hbt;have HLL:Hid (([]++((l.drop (m+1)).reverse.map dbyte)).length+1<=9000000000000000000):=hd_ (by simp;omega);obtain ⟨pr,hpr⟩:∃ p:List UInt8,([]:List UInt8)++((l.drop (m+1)).reverse.map dbyte)=p:=⟨_,rfl⟩
     rw[hpr] at HLL |-;have HP:=hd_ hpr;clear hd1 hd2 hd3 hbv hbt hi hpr;obtain rfl:=ex;go_wp2_with (refine JK (l:=pr) (m:= [bt]) rfl _ _ _ _ rfl rfl rfl HLL.o ?_);go_roundg m
     case measure=> have:=HR.a;omega
     case rel=>
      refine ⟨m,_,?_,rfl,rfl,rfl,by omega,?_,HR.C.alloc HR.C.size _⟩
      ·rw[X7 HD.a,List.reverse_cons,List.map_append, <-eQ_,HP.o];rw[<-HD.B];rfl
      ·rw[eJ_ _ _ _ (Q4 HR.b)];exact HR.b
  ·rw[hs,if_pos hz];clear hz hs;go_in;go_wp2_with fail;go_loopg [3,4] l.length (fun k v3 v4 wr=> TxRel w #[.int .i64 (-1),.slice a l.length c] [45] l k v3 v4 wr)
   case atStart=> exact ⟨l.length,_,by rw[List.drop_length];rfl,rfl,rfl,rfl,rl_ _,eD_ _ _,(eB_ _ _).alloc (rl_ _) _⟩
   case round=>
    obtain ⟨j,i,rfl,rfl,hi,hk,hj,hg,hb⟩:=hrel;have a1:=Q3 hg 1 rfl;have HR:=h3_ hk hg hb;clear hk hg hb;cases j with
    | zero=>
     obtain rfl:i=-1:=(by omega);clear hi;go_wp2_with fail;go_ret;exact ⟨by rw[List.drop_zero];rfl,HR.C⟩
    | succ m=>
     obtain rfl:i=(m:Int):=(by omega);have hmx:(m:Int) < (l.length:Int):=(by omega);obtain ⟨d,hd1,hd2,hd3⟩:=QI HT.B m (by omega);obtain ⟨b1,o1,ex,hcx⟩:=(HT.a.below HR.C).cell (i:=m) (by omega);rw[hd1] at hcx;have hbv:=LT hd3;obtain ⟨bt,hbt⟩:∃ b,dbyte d=b:=⟨_,rfl⟩
     rw[hbt] at hbv;have hcv:48+(d:Int)=((bt.toNat:Nat):Int):=(by omega);have hconv:∀ W:World,(convert 106 9 (.slice (some ⟨W.heap.size,0,none⟩) 1 1)).run prog (W.alloc (.cells #[.int .u8 (48+(d:Int))] 5))= .ok (.string ⟨[bt].toArray⟩) (W.alloc (.cells #[.int .u8 (48+(d:Int))] 5)):=fun W=> (by rw[hcv];exact LU bt W);clear hcv;have hd9:(d:Int)<=9:=(by omega);have HD:=h2_ hd2 hbt;have HLL:Hid (([45]++((l.drop (m+1)).reverse.map dbyte)).length+1<=9000000000000000000):=hd_ (by simp;omega);obtain ⟨pr,hpr⟩:∃ p:List UInt8, [45]++((l.drop (m+1)).reverse.map dbyte)=p:=⟨_,rfl⟩
     rw[hpr] at HLL |-;have HP:=hd_ hpr;clear hd1 hd2 hd3 hbv hbt hi hpr;obtain rfl:=ex;go_wp2_with (refine JK (l:=pr) (m:= [bt]) rfl _ _ _ _ rfl rfl rfl HLL.o ?_);go_roundg m
     case measure=> have:=HR.a;omega
     case rel=>
      refine ⟨m,_,?_,rfl,rfl,rfl,by omega,?_,HR.C.alloc HR.C.size _⟩
      ·rw[X7 HD.a,List.reverse_cons,List.map_append, <-eQ_,HP.o];rw[<-HD.B];rfl
      ·rw[eJ_ _ _ _ (Q4 HR.b)];exact HR.b
open Go.RowKit Go.Sort
def back (l:List UInt8):List Nat:=l.reverse.map fun c=> c.toNat - 48
theorem back_len (l:List UInt8):(back l).length=l.length:=by simp[back]
def nmCells (l:Tp.L):List Value:=l.map fun p=> Value.string ⟨p.1.toArray⟩
def zCells (q:(Tp.Nm × Int) × Value):List Value:= [.int .i64 (sgn q.1.2),q.2]
theorem Q3C (q:(Tp.Nm × Int) × Value):(zCells q).length=2:=rfl
def fcCells (l:Tp.L) (ss:List Value):List Value:=(l.zip ss).flatMap zCells
structure FWords (w:World) (l:Tp.L) (ss:List Value):Prop where
 len:ss.length=l.length
 rd:∀ (i:Nat) (p:Tp.Nm × Int) (s:Value),l[i]? =some p->ss[i]? =some s->RdD w s (dg p.2)
theorem FWords.keep (h:FWords w l ss) (hk:∀ s ws,RdD w s ws->RdD w' s ws):FWords w' l ss:=⟨h.len,fun i p s h1 h2=> hk _ _ (h.rd i p s h1 h2)⟩
theorem FWords.nil (w:World):FWords w [] []:=⟨rfl,fun i p s h1 _=> by simp at h1⟩
theorem FWords.snoc (h:FWords w l ss) (p:Tp.Nm × Int) {s:Value} (hs:RdD w s (dg p.2)):FWords w (l++ [p]) (ss++ [s]):=by
 have hl:=h.len;refine ⟨by simp[hl],fun i q u h1 h2=> ?_⟩;rcases eS_ i l.length with hi | hi
 ·rw[eT_ hi] at h1;rw[eT_ (by omega)] at h2;exact h.rd i q u h1 h2
 ·rw[eO_ hi] at h1;rw[eO_ (by omega),hl] at h2;cases hd:i - l.length with
  | zero=>
   rw[hd] at h1 h2;simp only[eZ_,Option.some.injEq] at h1 h2;subst h1 h2;exact hs
  | succ d=> rw[hd] at h1;simp at h1
theorem Q80 (l:Tp.L) (p:Tp.Nm × Int):nmCells (l++ [p])=nmCells l++ [.string ⟨p.1.toArray⟩]:=by simp[nmCells]
theorem Q8N {p:Tp.Nm × Int} (h:l[i]? =some p):(nmCells l)[i]? =some (.string ⟨p.1.toArray⟩):=by simp[nmCells,h]
theorem Q81 (h:ss.length=l.length) (p:Tp.Nm × Int) (s:Value):fcCells (l++ [p]) (ss++ [s])=fcCells l ss++ [.int .i64 (sgn p.2),s]:=by
 rw[fcCells,List.zip_append h.symm,List.flatMap_append];rfl
def Tz (w:World) (v:Value) (t:Tp.T):Prop:=
 ∃ vn vf sd ss,v= .agg #[vn,vf,.int .i64 (sgn t.rest),sd]/\RdD w sd (dg t.rest)/\FWords w t.l ss/\RdB 9 w 1 vn t.l.length (nmCells t.l)/\RdB 48 w 2 vf t.l.length (fcCells t.l ss)
theorem Tz.below {w w':World} {v:Value} {t:Tp.T} (h:Tz w v t) (hb:Below w.heap.size w w'):Tz w' v t:=by
 obtain ⟨vn,vf,sd,ss,h1,h2,h3,h4,h5⟩:=h;exact ⟨vn,vf,sd,ss,h1,h2.below hb,h3.keep fun _ _ h=> h.below hb,h4.below hb,h5.below hb⟩
def TzO (base:Nat) (w:World) (vn vf:Value) (l:Tp.L):Prop:=
 ∃ ss,FWords w l ss/\w.ownsRow base 9 1 vn l.length (nmCells l)/\w.ownsRow base 48 2 vf l.length (fcCells l ss)
theorem TzO.nil (base:Nat) (w:World):TzO base w (.slice none 0 0) (.slice none 0 0) []:=⟨[],FWords.nil w,World.ownsRow_nil _ _ _ _,World.ownsRow_nil _ _ _ _⟩
theorem TzO.past {base:Nat} (h:TzO base w vn vf l) (hb:Below w.heap.size w w'):TzO base w' vn vf l:=by
 obtain ⟨ss,h1,h2,h3⟩:=h;exact ⟨ss,h1.keep fun _ _ h=> h.below hb,Qk h2 fun k hk=> hb.block k (h2.lt k hk).2,Qk h3 fun k hk=> hb.block k (h3.lt k hk).2⟩
theorem TzO.read {base:Nat} {sd:Value} (h:TzO base w vn vf t.l) (hs:RdD w sd (dg t.rest)):Tz w (.agg #[vn,vf,.int .i64 (sgn t.rest),sd]) t:=by
 obtain ⟨ss,h1,h2,h3⟩:=h;exact ⟨vn,vf,sd,ss,rfl,hs,h1,RdB.own h2,RdB.own h3⟩
theorem TzO.form {base:Nat} (h:TzO base w vn vf l):∃ a c a2 c2,vn= .slice a l.length c/\vf= .slice a2 l.length c2:=by
 obtain ⟨ss,_,h2,h3⟩:=h;obtain ⟨a,c,e⟩:=Qj h2;obtain ⟨a2,c2,e2⟩:=Qj h3;exact ⟨a,c,a2,c2,e,e2⟩
theorem MapR.frt {ts:List TypeId} {w w':World} {m:Nat} {l:Tp.L} (h:MapR w m l) (hf:FrT ts w w') (h1:174∉ts) (h2:112∉ts) (h3:126∉ts):MapR w' m l:=by
 obtain ⟨v,a,ss,b,c⟩:=h;exact ⟨v,hf.cells a h3,ss,b.keep fun _ _ h=> RdB.frt h hf h1,RdB.frt c hf h2⟩
theorem Zv (w:World):Calls prog 20 #[] w fun e w'=> e= .returned (.pointer (some ⟨w.heap.size,0,none⟩))/\MapO w.heap.size (fun k=> w.heap.size<=k) w' w.heap.size []/\Below w.heap.size w w'/\w.heap.size < w'.heap.size:=by
 go_in;go_wp2_with fail;go_ret;exact ⟨rfl,MapO.nil (eD_ _ _) (rl_ _) _,(eB_ _ _).alloc (rl_ _) _,by rw[<-Q5];omega⟩
theorem JO (h:MapR w m l) (hr:Tp.Rise l) (hl:l.length<=1073741824) (k:Tp.Nm):
  Calls prog 59 #[.pointer (some ⟨m,0,none⟩),.string ⟨k.toArray⟩] w (Found l k w):=by
 obtain ⟨v,h1,h2⟩:=h;obtain ⟨a,c,rfl,hc⟩:=h2.form;have c0:=Q3 h1 0 rfl;have HH:=h3_ h2 hr hl;clear h1 h2 hr hl hc;go_in;go_wp2_with fail;refine (Lf HH.a HH.b HH.C k).mono ?_;rintro e w1 ⟨i,rfl,hat,hb⟩;have HB:=h2_ hat hb;clear hat hb;dsimp only;go_wp2_with fail;go_ret2;exact ⟨i,rfl,HB.a,HB.B⟩
theorem Q3D {k:Tp.Nm} (hr:Tp.Rise l) (h:Tp.At l k i) (hh:Tp.has l k=true):∃ p,l[i]? =some p/\p.1=k:=by
 rw[h.has hr] at hh;exact of_decide_eq_true hh
theorem YV {ops:Array Oper} {rest:List Oper} {Q:Exit->Act->World->Prop} (hgd:o.guard=none) (x v:Operand) (ho:o.op= .store 27 x v)
  {g:Nat} {zs:Array Value} (hx:a.eval x= .pointer (some ⟨g,0,none⟩)) (hg:w1.heap[g]? =some (.cells zs 27 (0,0))) (hz:zs.size=2) {val:Value} {z:Int} (hv:a.eval v=val) (hn:Num w1 val z)
  {B:Nat} {w0:World} (hB:B<=g) (hb:Below B w0 w1)
  (h:∀ W cs,W.heap[g]? =some (.cells cs 27 (0,0))->cs.size=2->Num W (.agg cs) z->Below B w0 W->FrT [27] w1 W->wpList prog ops Q rest (a.put o.dst undef) W):
  wpList prog ops Q (o::rest) a w1:=
 QB hgd x v ho hx hg hz hv hn hB hb fun W cs _ h2 h3 h4 h5 h6 h7=> h W cs h3 h4 (h2 ▸ h5) h6 h7
def GetOut (w:World) (b:Bool) (z:Int) (e:Ending) (w':World):Prop:=∃ v',e= .returned (.tuple #[v',.bool b])/\Num w' v' z/\Below w.heap.size w w'
theorem Q5o (h:MapR w m l) (hr:Tp.Rise l) (hl:l.length<=1073741824) (k:Tp.Nm):
  Calls prog 24 #[.pointer (some ⟨m,0,none⟩),.string ⟨k.toArray⟩] w (GetOut w (Tp.has l k) (Tp.look l k)):=by
 have HH:=h3_ h hr hl;clear h hr hl;go_in;go_wp2_with fail;obtain ⟨V,hV⟩:∃ V,w.alloc (.cells #[.bool false,.slice none 0 0] 27)=V:=⟨_,rfl⟩
 have hbx:=box1 w #[.bool false,.slice none 0 0] 27;rw[hV] at hbx |-;have HV:=hd_ hbx;clear hbx hV;refine (JO (HH.a.below HV.B) HH.b HH.C k).mono ?_;rintro e w1 ⟨i,rfl,hat,hb⟩;have hgr:=(hb.block _ (Q4 HV.a)).trans HV.a;have hbw:=HV.B.trans (hb.mono HV.B.size);have HB:=h3_ hat hbw hgr;clear hat hb;dsimp only;cases hhas:Tp.has l k with
 | true=>
  obtain ⟨p,hp,hpk⟩:=Q3D HH.b HB.a hhas;obtain ⟨v,m1,m2⟩:=HH.a.below HB.b;obtain ⟨a,c,rfl,hc⟩:=m2.form;have c0:=Q3 m1 0 rfl;obtain ⟨b,off,s,ea,q0,q1,q2,hs⟩:=m2.at hp;obtain rfl:=ea;obtain ⟨aw,cw,rfl,_⟩:=hs.form;have hil:(i:Int) < (l.length:Int):=by have:=(List.getElem?_eq_some_iff.1 hp).1;omega
  have hlook:=(HB.a.hit hp hpk).1;obtain ⟨ng,hng⟩:∃ b,decide (p.2 < 0)=b:=⟨_,rfl⟩
  have hnum:Num w1 (.agg #[.bool ng,.slice aw (wd p.2).length cw]) p.2:=⟨_,by rw[hng],hs⟩
  rw[hng] at q1;have HS:=h5_ hgr hnum hbw hlook hhas;clear m1 m2 hc hp hpk hs hlook hng hnum hgr hbw hhas;go_wp2_with (refine YV rfl _ _ rfl rfl HS.a rfl rfl HS.b (rl_ _) HS.c ?_;rintro W cs hg hs hn hb -;have HT:=h4_ hg hs hn hb;clear hg hs hn hb);refine eG_ (Y4 rfl rfl HT.a HT.b rfl) rfl ?_;exact ⟨_,by rw[HS.E];rfl,by rw[HS.d];exact HT.c,HT.D⟩
 | false=>
  have hlook:=(HB.a.miss HH.b hhas).1;have hb2:Below w.heap.size w (w1.alloc (.cells #[.bool false,.slice none 0 0] 27)):=hbw.alloc hbw.size _;have hg2:(w1.alloc (.cells #[.bool false,.slice none 0 0] 27)).heap[w.heap.size]? =some (.cells #[.bool false,.slice none 0 0] 27 (0,0)):=(eJ_ _ _ _ (Q4 hgr)).trans hgr;have HS:=h5_ hg2 (Num.zero (w1.alloc (.cells #[.bool false,.slice none 0 0] 27))) hb2 hlook hhas;clear hgr hbw hlook hb2 hg2 hhas;go_wp2_with (refine YV rfl _ _ rfl rfl HS.a rfl rfl HS.b (rl_ _) HS.c ?_;rintro W cs hg hs hn hb -;have HT:=h4_ hg hs hn hb;clear hg hs hn hb);refine eG_ (Y4 rfl rfl HT.a HT.b rfl) rfl ?_;exact ⟨_,by rw[HS.E];rfl,by rw[HS.d];exact HT.c,HT.D⟩
def PrOwn (w:World) (l:Tp.L) (e:Ending) (w':World):Prop:=∃ v ss,e= .returned v/\PWords w' l ss/\w'.ownsRow w.heap.size 112 3 v l.length (prCells l ss)/\Below w.heap.size w w'
theorem Ug (h:MapR w m l) (hl:l.length<=1073741824):Calls prog 90 #[.pointer (some ⟨m,0,none⟩)] w (PrOwn w l):=by
 obtain ⟨v,h1,ss,h2,h3⟩:=h;have c0:=Q3 h1 0 rfl;obtain ⟨a,c,rfl⟩:=RdS.form h3;have HH:=h3_ h2 h3 hl;clear h1 h2 h3 hl;go_in;go_wp2_with fail;refine (Q6K HH.b HH.C HH.a.one).mono ?_;rintro e w1 ⟨v1,rfl,ho,hb⟩;have HB:=h2_ ho hb;clear ho hb;dsimp only;go_wp2_with fail;go_ret;exact ⟨_,ss,rfl,HH.a.keep fun _ _ h=> h.below HB.B,HB.a,HB.B⟩
theorem Q3E (h:MapR w m l) (hl:l.length<=1073741824):Calls prog 93 #[.pointer (some ⟨m,0,none⟩)] w fun e w'=> ∃ m',e= .returned (.pointer (some ⟨m',0,none⟩))/\MapO w.heap.size (fun k=> w.heap.size<=k) w' m' l/\Below w.heap.size w w':=by
 have HH:=h2_ h hl;clear h hl;go_in;go_wp2_with fail;refine (Ug HH.a HH.B).mono ?_;rintro e w1 ⟨v,ss,rfl,hw,ho,hb⟩;obtain ⟨a,c,rfl⟩:=Qj ho;have HB:=h3_ hw ho hb;clear hw ho hb;dsimp only;go_wp2_with fail;go_ret;have hal:Below w1.heap.size w1 (w1.alloc (.cells #[.slice a l.length c] 126)):=(eB_ _ _).alloc (rl_ _) _;exact ⟨_,rfl,⟨HB.C.size,_,ss,eD_ _ _,HB.a.keep fun _ _ h=> h.below hal,Qk HB.b fun k hk=> hal.block k (HB.b.lt k hk).2,fun k hk=> (HB.b.lt k hk).1⟩,HB.C.alloc HB.C.size _⟩
theorem QH (w:World) (g:Nat) (vs:Array Value):(w.setRow g vs).heap.size=w.heap.size:=by simp[World.setRow]
theorem Q82 (ht:cur.toList.take (n*3)=xs++ys) (hxl:xs.length=i*3) (hyl:ys.length=(n - i)*3) (hl:ns.length=3) (hin:i < n):
  (layAt (layAt cur ((i+1)*3) ys) (i*3) ns).toList.take ((n+1)*3)=xs++ns++ys:=by
 have hx:cur.toList.take (i*3)=xs:=by
  have h:=congrArg (List.take (i*3)) ht;rw[List.take_take,Nat.min_eq_left (by omega)] at h;rw[h];exact List.take_left' hxl
 have hlen:(i+1)*3<=cur.toList.length:=by
  have h:=congrArg List.length ht;rw[eN_,eC_,hxl,hyl] at h;omega
 have e1:(layAt cur ((i+1)*3) ys).toList.take (i*3)=xs:=by
  unfold layAt;rw[eQ_,List.take_append_of_le_length (by rw[eN_];omega),List.take_take,Nat.min_eq_left (by omega),hx]
 have e2:(layAt cur ((i+1)*3) ys).toList.drop (i*3+ns.length)=ys++cur.toList.drop ((i+1)*3+ys.length):=by
  unfold layAt;rw[eQ_];exact List.drop_left' (by rw[eN_,hl];omega)
 show (List.take (i*3) (layAt cur ((i+1)*3) ys).toList++ns++List.drop (i*3+ns.length) (layAt cur ((i+1)*3) ys).toList).take ((n+1)*3)=_;rw[e1,e2, <-eQ_];exact List.take_left' (by rw[eC_,eC_,hxl,hyl,hl];omega)
theorem Q1Q {base:Nat} (hin:i < n) (hcur:w.heap[g]? =some (.cells cur 112 (0,0))) (hbg:base<=g) (hnc:n+1<=c) (hcm:c<=maxLen) (hcs:cur.size=c*3) (ht:cur.toList.take (n*3)=xs++ys) (hxl:xs.length=i*3) (hyl:ys.length=(n - i)*3) (hn:n<=1000000)
  (h1y:∀ u∈ys,u.oneCell'=true) (hg:w.heap[r]? =some (.cells ns.toArray 112 (0,0))) (hrg:r≠g) (hl:ns.length=3) (h1:∀ u∈ns,u.oneCell'=true):
  Calls prog 60 #[.slice (some ⟨g,0,none⟩) n c,.int .i64 (i:Int),.slice (some ⟨r,0,none⟩) 1 1] w (InsOut base w (some g) (n+1) (xs++ns++ys)):=by
 have hni:(n:Int)<=1000000:=by omega
 have hii:(i:Int) < (n:Int):=by omega
 have hci:(n:Int)+1<=(c:Int):=by omega
 have hcx:(c:Int)<=9223372036854775807:=by unfold maxLen at hcm;omega
 have hc0:(c=i)=False:=eq_false (by omega);have hin0:((i:Int)==(n:Int))=false:=beq_false_of_ne (by omega);have hnc0:decide ((c:Int) < (n:Int)+1)=false:=eK_ (by omega);have HH:=h12_ hcur hg hcs ht hxl hyl h1y hl h1 hrg hbg hcm;have hsz:(prog.info? 112).map (·.size)=some 3:=by
  have h:=Jf;cases hq:prog.info? 112 with
  | none=> rw[hq] at h;cases h
  | some q=> rw[hq] at h;simp at h |-;exact h.2.1
 have hc1:∀ (W:World) (ty:TypeId),W.heap=w.heap->(Builtin.copy_ #[109,109] ty #[.slice (some ⟨g,(i+1)*3,none⟩) (n - i) (c - (i+1)),.slice (some ⟨g,i*3,none⟩) (n+1 - i) (c - i)]).run prog W= .ok (goInt (Nat.min (n+1 - i) (n - i))) (W.setRow g (layAt cur ((i+1)*3) ys)):=fun W ty hW=> by
  refine Je W 109 109 ty 112 3 g ((i+1)*3) (n - i) (c - (i+1)) ⟨g,i*3,none⟩ (n+1 - i) (c - i) cur 112 ys underlying109 hsz (by rw[hW];exact HH.a) ?_ ?_ ?_ HH.g
  ·rw[HH.f];congr 1;exact (Nat.min_eq_right (by omega)).symm
  ·intro j u hj;rw[Addr.add_mid];refine Q3 (by rw[hW];exact HH.a) (i*3+j) ?_;have hj2:=(List.getElem?_eq_some_iff.1 hj).1;have h2:(xs++ys)[i*3+j]? =some u:=(by rw[eO_ (by rw[HH.e];omega),HH.e,Nat.add_sub_cancel_left];exact hj);rw[<-HH.d,List.getElem?_take] at h2;split at h2
   ·simpa using h2
   ·cases h2
  ·rw[HH.f,HH.c];omega
 have hw1:IntKind.i64.wrap ((i:Int)+1)=(i:Int)+1:=by rw[IntKind.wrap_i64];omega
 have htn:((i:Int)+1).toNat=i+1:=by omega
 have hle0:(0:Int)<=(i:Int)+1:=by omega
 have hle2:(i:Int)<=(n:Int)+1:=by omega
 have hle1:(i:Int)+1<=(n:Int)+1:=by omega
 have hc2:(c=i+1)=False:=eq_false (by omega);have hov:=Q0G hg hcur hrg (by omega) 1 1 ((i+1)*3) (n - i) (c - (i+1));have HOV:=hd_ hov;clear hcur hg hcs ht hxl hyl h1y hl h1 hrg hbg hcm hin;go_in;go_wp2_with (simp only[hov]);clear hov;have hcw:=hc1 w.drew 3 rfl;clear hc1;go_region;obtain ⟨W1,hW1⟩:∃ W,w.drew.setRow g (layAt cur ((i+1)*3) ys)=W:=⟨_,rfl⟩
 have hs1:(layAt cur ((i+1)*3) ys).size=c*3:=by rw[Ya (by rw[HH.f,HH.c];omega)];exact HH.c
 have hg1:W1.heap[g]? =some (.cells (layAt cur ((i+1)*3) ys) 112 (0,0)):=by rw[<-hW1];exact Qb (w:=w.drew) HH.a
 have hr1:W1.heap[r]? =some (.cells ns.toArray 112 (0,0)):=by rw[<-hW1,Q8 HH.j];exact HH.b
 have hcw2:=Je (P:=prog) W1 109 109 3 112 3 g (i*3) (n+1 - i) (c - i) ⟨r,0,none⟩ 1 1 _ 112 ns underlying109 hsz hg1 (by rw[HH.h];rw[show Nat.min 1 (n+1 - i)=1 from Nat.min_eq_left (by omega)]) (fun j v hj=> by rw[Addr.add_mid,Nat.zero_add];exact Q3 hr1 j (by simpa using hj)) (by rw[hs1,HH.h];omega) HH.i;rw[hW1];have H1:=h3_ hg1 hs1 hW1;clear hg1 hr1 hs1 hW1 hcw hsz;go_wp2_with fail;go_ret;obtain ⟨p1,p2,p3,p4,p5,p6,p7,p8,p9,p10,p11,p12⟩:=HH.o;refine ⟨_,rfl,⟨by rw[eC_,eC_,p5,p6,p8];omega,Or.inr ⟨g,c,_,rfl,p11,Qb H1.a,hnc,p12,?_,?_⟩⟩,?_⟩
 ·rw[Ya (by rw[H1.b,p8];omega)];exact H1.b
 ·exact Q82 p4 p5 p6 p8 (by omega)
 ·rw[<-H1.C];refine ⟨⟨rfl,rfl,rfl,by rw[QH,QH];exact rl_ _,fun k hk hne=> by
   rw[Q8 (fun e=> hne (by rw[e])),Q8 (fun e=> hne (by rw[e]))];rfl⟩,fun k hk=> Or.inl hk⟩
theorem Gw {P:Program} {ops:Array Oper} {rest:List Oper} {Q:Exit->Act->World->Prop} (hgd:o.guard=none) (d:Operand) (t:TypeId)
  (ho:o.op= .call {callee:= .builtin .clear,args:= #[d],argTypes:= #[t]}) (v:Value) (hd:a.eval d=v) {v':Value} {w':World}
  (hr:(Builtin.clear_ #[t] o.type #[v]).run P w= .ok v' w') (h:wpList P ops Q rest (a.put o.dst v') w'):wpList P ops Q (o::rest) a w:=by
 refine wpList_plain hgd fun K hK=> ?_;unfold Oper.wp execOp;simp only[ho,resolve,invoke,builtin,Sem.run_bind,Sem.run_pure,Result.andThen_ok,List.map_toArray,List.map_cons,List.map_nil,hd,hr];exact hK _ _ h
theorem Q83 (w:World):(zeroValue 112).run prog w= .ok (.agg #[.string ⟨#[]⟩,.bool false,.slice none 0 0]) w:=by kernel_rfl
def zeroPr:List Value:= [.string ⟨#[]⟩,.bool false,.slice none 0 0]
theorem LV:(Builtin.zeroCells (Value.agg #[.string ⟨#[]⟩,.bool false,.slice none 0 0]).cells 1).toList=zeroPr:=by kernel_rfl
theorem Q84 {zs:List Value} (ht:cur.toList.take (n*3)=xs) (hxl:xs.length=n*3) (hin:i < n) (hnc:n<=c) (hcs:cur.size=c*3):
  (layAt (layAt cur (i*3) (xs.drop ((i+1)*3))) ((n - 1)*3) zs).toList.take ((n - 1)*3)=xs.take (i*3)++xs.drop ((i+1)*3):=by
 have hx:cur.toList.take (i*3)=xs.take (i*3):=by rw[<-ht,List.take_take,Nat.min_eq_left (by omega)]
 have hl:(xs.take (i*3)).length=i*3:=by rw[eN_,hxl,Nat.min_eq_left (by omega)]
 have hd:(xs.drop ((i+1)*3)).length=(n - (i+1))*3:=by rw[List.length_drop,hxl];omega
 have e1:(layAt cur (i*3) (xs.drop ((i+1)*3))).toList.take ((n - 1)*3)=xs.take (i*3)++xs.drop ((i+1)*3):=by
  unfold layAt;rw[hx];exact List.take_left' (by rw[eC_,hl,hd];omega)
 show (List.take ((n - 1)*3) (layAt cur (i*3) (xs.drop ((i+1)*3))).toList++zs++List.drop ((n - 1)*3+zs.length) (layAt cur (i*3) (xs.drop ((i+1)*3))).toList).take ((n - 1)*3)=_;rw[e1,eQ_];exact List.take_left' (by rw[eC_,hl,hd];omega)
theorem Q0M {base:Nat} (hin:i < n) (hcur:w.heap[g]? =some (.cells cur 112 (0,0))) (hbg:base<=g) (hnc:n<=c) (hcm:c<=maxLen) (hcs:cur.size=c*3) (ht:cur.toList.take (n*3)=xs) (hn:n<=1000000) (h1:∀ u∈xs,u.oneCell'=true):
  Calls prog 133 #[.slice (some ⟨g,0,none⟩) n c,.int .i64 (i:Int),.int .i64 ((i:Int)+1)] w (InsOut base w (some g) (n - 1) (xs.take (i*3)++xs.drop ((i+1)*3))):=by
 have hxl:xs.length=n*3:=by rw[<-ht,eN_,Array.length_toList,hcs,Nat.min_eq_left (by omega)]
 have hni:(n:Int)<=1000000:=by omega
 have hii:(i:Int)+1<=(n:Int):=by omega
 have hci:(n:Int)<=(c:Int):=by omega
 have hcx:(c:Int)<=9223372036854775807:=by unfold maxLen at hcm;omega
 have hc0:(n=i)=False:=eq_false (by omega);have htn:((i:Int)+1).toNat=i+1:=by omega
 have hle0:(0:Int)<=(i:Int)+1:=by omega
 have hne:((i:Int)==(i:Int)+1)=false:=beq_false_of_ne (by omega);obtain ⟨ys,hys⟩:∃ ys,xs.drop ((i+1)*3)=ys:=⟨_,rfl⟩
 have hyl:ys.length=(n - (i+1))*3:=by rw[<-hys,List.length_drop,hxl];omega
 have h1y:∀ u∈ys,u.oneCell'=true:=fun u hu=> h1 u (List.mem_of_mem_drop (by rw[hys];exact hu));obtain ⟨i0,hi0,hz0,hz1,hz2⟩:=Qw Jf;obtain ⟨A,hA,hnews⟩:∃ A:Addr,(if c=i+1 then some (⟨g,0,none⟩:Addr) else some ⟨g,(i+1)*3,none⟩)=some A/\(∀ j u,ys[j]? =some u->w.drew.cell? (A.add j)=some u):=by
  by_cases h:c=i+1
  ·refine ⟨⟨g,0,none⟩,by simp[h],fun j u hu=> ?_⟩;have:ys= []:=List.eq_nil_of_length_eq_zero (by rw[hyl];omega);rw[this] at hu;simp at hu
  ·refine ⟨⟨g,(i+1)*3,none⟩,by simp[h],fun j u hu=> ?_⟩;rw[Addr.add_mid];refine Q3 (w:=w.drew) hcur _ ?_;rw[<-hys,List.getElem?_drop, <-ht,List.getElem?_take] at hu;split at hu
   ·simpa using hu
   ·cases hu
 have s3:∀ j,j < ys.length->(w.drew.cell? ⟨g,0+i*3+j,none⟩).isSome=true/\w.drew.frozen? ⟨g,0+i*3+j,none⟩=false:=by
  intro j hj;rw[hyl] at hj;refine ⟨?_,Q6 (w:=w.drew) hcur _⟩;have hlt:0+i*3+j < cur.size:=by omega
  rw[Q3 (w:=w.drew) hcur (0+i*3+j) (Array.getElem?_eq_getElem hlt)];rfl
 have hset:w.drew.setCells g (i*3) ys=w.drew.setRow g (layAt cur (i*3) ys):=U9 ys (i*3) cur w.drew hcur (by rw[hyl,hcs];omega);have hg1:(w.drew.setRow g (layAt cur (i*3) ys)).heap[g]? =some (.cells (layAt cur (i*3) ys) 112 (0,0)):=Qb (w:=w.drew) hcur;have hs1:(layAt cur (i*3) ys).size=c*3:=by rw[Ya (by rw[hyl,hcs];omega)];exact hcs
 obtain ⟨W1,hW1⟩:∃ W1,w.drew.setRow g (layAt cur (i*3) ys)=W1:=⟨_,rfl⟩
 rw[hW1] at hset hg1;have hcl:=Q3v (P:=prog) W1 109 0 112 _ g ((n - 1)*3) 1 (c - (n - 1)) _ 112 underlying109 (Q83 W1) hg1 (by decide) (by rw[hs1,size_zeroCells];show (n - 1)*3+1*3<=_;omega) (by rw[LV];decide);rw[LV] at hcl;have HN:=h4_ hyl hnews h1y s3;have HI:=h2_ hi0 hz1;have HF:=h12_ hin hcur hbg hnc hcm hcs ht hxl hys hg1 hs1 hW1;have HS:=hd_ hset;have HCL:=hd_ hcl;have hlen:i+(n - (i+1))=n - 1:=by omega
 have hln:((n - 1:Nat):Int)<=(n:Int):=by omega
 have hlc:(c=n - 1)=False:=eq_false (by omega);have hnn:n - (n - 1)=1:=by omega
 have hic:(i:Int)<=(c:Int):=by omega
 clear hcur hbg hnc hcm hcs ht h1 hxl hyl hys h1y hi0 hz0 hz1 hz2 hnews s3 hset hg1 hs1 hcl hW1 hin hn;go_in;go_wp2_with fail;go_region_law (refine step_append_room rfl (.tmp 22) (.tmp 25) 109 rfl 112 i0 3 underlying109 HI.a HI.B g 0 i c (by simp[Act.eval,Act.put]) A (n - (i+1)) (c - (i+1)) ys (by simp[Act.eval,Act.put]) HN.a HN.b HN.c (by omega) HN.D ?_);rw[HS.o];go_wp2_with (refine Gw rfl (.tmp 31) 109 rfl (.slice (some ⟨g,(n - 1)*3,none⟩) 1 (c - (n - 1))) rfl HCL.o ?_);go_ret;obtain ⟨p1,p2,p3,p4,p5,p6,p7,p8,p9,p10,p11,p12⟩:=HF.o;refine ⟨_,rfl,⟨by rw[eC_,eN_,List.length_drop,p8];omega,Or.inr ⟨g,c,_,rfl,p3,Qb p10,by omega,p5,?_,?_⟩⟩,⟨?_,fun k hk=> Or.inl hk⟩⟩
 ·rw[Ya (by rw[p11];show (n - 1)*3+3<=_;omega)];exact p11
 ·rw[<-p9];exact Q84 p7 p8 p1 p4 p6
 ·rw[<-p12];exact ⟨rfl,rfl,rfl,by rw[QH,QH];exact rl_ _,fun k hk hne=> by
   rw[Q8 (fun e=> hne (by rw[e])),Q8 (fun e=> hne (by rw[e]))];rfl⟩
theorem FrM.grown {Q:Nat->Prop} {base size:Nat} (ho:w.ownsRow base 112 size v n xs) (hQ:∀ k,v.ownBlock=some k->Q k) (hg:w.grownBy w' v.ownBlock):FrM Q m w w':=
 ⟨hg.os,hg.tape,hg.output,hg.size,fun k hk _ hn=> hg.block k hk fun e=> hn ⟨hQ k e.symm,Qm ho e.symm⟩⟩
theorem FrM.set {Q:Nat->Prop} (w:World) (cs:Array Value):FrM Q m w (w.setRow m cs):=
 ⟨rfl,rfl,rfl,by rw[QH];exact rl_ _,fun k _ hm _=> Q8 hm⟩
theorem Q1R (h:ss.length=l.length) (i:Nat):prCells (l.eraseIdx i) (ss.eraseIdx i)=(prCells l ss).take (i*3)++(prCells l ss).drop ((i+1)*3):=by
 rw[List.eraseIdx_eq_take_drop_succ,List.eraseIdx_eq_take_drop_succ,Xz (by rw[eN_,eN_,h]),Zt h,Zu h]
def MapDid (base:Nat) (Q:Nat->Prop) (w:World) (m:Nat) (b:Bool) (l:Tp.L) (e:Ending) (w':World):Prop:=e= .returned (.bool b)/\MapO base Q w' m l/\FrM Q m w w'
theorem Ds {base:Nat} {Q:Nat->Prop} {w2:World} {v0:Value} (hm:w2.heap[m]? =some (.cells #[v0] 126 (0,0))) (hbm:base<=m) (hw:PWords w2 l ss) (ho:w2.ownsRow base 112 3 v l.length (prCells l ss)) (hQ:∀ k,v.ownBlock=some k->Q k) (hf:FrM Q m w w2):
  MapO base Q (w2.setCell ⟨m,0,none⟩ v) m l/\FrM Q m w (w2.setCell ⟨m,0,none⟩ v):=by
 rw[setCell_eq_setRow w2 m 0 #[v0] _ (0,0) v hm];have hfr:FrM Q m w2 (w2.setRow m (#[v0].setIfInBounds 0 v)):=FrM.set w2 _;refine ⟨⟨hbm,v,ss,Qb hm,hw.keep fun _ _ h=> hfr.rdu hm h,Qk ho fun k hk=> ?_,hQ⟩,hf.trans hfr⟩;refine Q8 fun e=> ?_;obtain ⟨cur,hc⟩:=Qm ho hk;rw[e,hm] at hc;injection hc with hc;injection hc with _ h2 _;exact absurd h2 (by decide)
theorem Q3F {base:Nat} {Q:Nat->Prop} (h:MapO base Q w m l) (hU:Up Q w) (hr:Tp.Rise l) (hl:l.length<=1000000) (k:Tp.Nm):
  Calls prog 94 #[.pointer (some ⟨m,0,none⟩),.string ⟨k.toArray⟩] w (MapDid base Q w m (Tp.has l k) (Tp.del l k)):=by
 have HH:=h4_ h hU hr hl;clear h hU hr hl;go_in;go_wp2_with fail;refine (JO HH.a.read HH.c (by have:=HH.D;omega) k).mono ?_;rintro e w1 ⟨i,rfl,hat,hb⟩;have HB:=h2_ hat hb;clear hat hb;dsimp only;cases hhas:Tp.has l k with
 | false=>
  have hdel:=(HB.a.miss HH.c hhas).2.2;have HX:=hd_ hhas;clear hhas;go_wp2_with fail;go_ret;exact ⟨by rw[HX.o];rfl,by rw[hdel];exact HH.a.past HB.B,FrM.of HB.B⟩
 | true=>
  obtain ⟨p,hp,hpk⟩:=Q3D HH.c HB.a hhas;obtain ⟨hbm,v,ss,m1,hw,ho,hQ⟩:=HH.a.past HB.B;have hil:=(List.getElem?_eq_some_iff.1 hp).1;have hdel:=(HB.a.hit hp hpk).2.2;obtain ⟨_,⟨_,e⟩ | ⟨g,cap,cur,rfl,hbg,hcur,hnc,hcm,hcs,ht⟩⟩:=id ho
  ·omega
  have c0:=Q3 m1 0 rfl;have hii:(i:Int) < 1000000:=by have:=HH.D;omega
  have HC:=h7_ hil hcur hbg hnc hcm hcs ht;have HO:=h6_ hbm m1 hw ho hQ hdel;have HX:=hd_ hhas;clear hp hpk hbm m1 hw ho hQ hil hdel hbg hcur hnc hcm hcs ht hhas;go_wp2_with fail;refine (Q0M HC.a HC.b HC.c HC.d HC.e HC.f HC.G HH.D HO.c.one).mono ?_;rintro e w2 ⟨v2,rfl,ho2,hg2,hat2⟩;obtain ⟨a2,c2,rfl⟩:=Qj ho2;have hgm:some m≠some g:=fun e=> by
   injection e with e;have h1:=HO.b;rw[e,HC.b] at h1;injection h1 with h1;injection h1 with _ h2 _;exact absurd h2 (by decide)
  have hm2:=(hg2.block m (Q4 HO.b) hgm).trans HO.b;have hf2:FrM Q m w1 w2:=FrM.grown HO.d HO.e hg2;have h0:=Q3 hm2 0 rfl;have hz:=Q6 hm2 0;have HD:=h4_ ho2 hat2 hm2 hf2;clear ho2 hg2 hat2 hm2 hf2 hgm c0;dsimp only;go_wp2_with fail;go_ret;have hlen:(l.eraseIdx i).length=l.length - 1:=by rw[List.length_eraseIdx,if_pos HC.a]
  have hfw:FrM Q m w w1:=FrM.of HB.B;obtain ⟨r1,r2⟩:=Ds (w:=w) (l:=l.eraseIdx i) (ss:=ss.eraseIdx i) HD.c HO.a ((HO.c.del i).keep fun _ _ h=> HD.D.rdu HO.b h) (by rw[Q1R HO.c.len,hlen];exact HD.a) (fun k hk=> (HD.b k hk).elim (fun e=> HO.e k e) fun e=> HH.b k (eE_ HB.B.size e)) (hfw.trans HD.D);exact ⟨by rw[HX.o];rfl,by rw[HO.F];exact r1,r2⟩
theorem UX {P:Program} {ops:Array Oper} {rest:List Oper} {Q:Exit->Act->World->Prop} (hgd:o.guard=none) (d s:Operand) (t t':TypeId)
  (ho:o.op= .call {callee:= .builtin .append,args:= #[d,s],argTypes:= #[t,t']}) (v u:Value) (hd:a.eval d=v) (hs:a.eval s=u) {v':Value} {w':World}
  (hr:(Builtin.append_ #[t,t'] o.type #[v,u]).run P w= .ok v' w') (h:wpList P ops Q rest (a.put o.dst v') w'):wpList P ops Q (o::rest) a w:=by
 refine wpList_plain hgd fun K hK=> ?_;unfold Oper.wp execOp;simp only[ho,resolve,invoke,builtin,Sem.run_bind,Sem.run_pure,Result.andThen_ok,List.map_toArray,List.map_cons,List.map_nil,hd,hs,hr];exact hK _ _ h
theorem Q6S (hx:cur.toList.take (i*3)=xs) (hxl:xs.length=i*3) (hyl:ys.length=(n - i)*3) (hl:ns.length=3) (hin:i < n):
  (layAt (layAt cur (i*3) ns) ((i+1)*3) ys).toList.take ((n+1)*3)=xs++ns++ys:=by
 have e1:(layAt cur (i*3) ns).toList.take ((i+1)*3)=xs++ns:=by
  unfold layAt;rw[hx];exact List.take_left' (by rw[eC_,hxl,hl];omega)
 show (List.take ((i+1)*3) (layAt cur (i*3) ns).toList++ys++List.drop ((i+1)*3+ys.length) (layAt cur (i*3) ns).toList).take ((n+1)*3)=_;rw[e1];exact List.take_left' (by rw[eC_,eC_,hxl,hyl,hl];omega)
theorem Q1S (hcur:w.heap[g]? =some (.cells cur 112 (0,0))) (hx:cur.toList.take (i*3)=xs) (hxl:xs.length=i*3) (hin:i < n) (hn:n<=1000000) (ty:TypeId):
  ∃ C W cur2,(Builtin.append_ #[109,3] ty #[.slice (some ⟨g,0,none⟩) i n,.int .i64 ((n:Int)+1 - (i:Int))]).run prog w= .ok (.slice (some ⟨w.heap.size,0,none⟩) (n+1) C) W/\
   W.heap[w.heap.size]? =some (.cells cur2 112 (0,0))/\cur2.size=C*3/\cur2.toList.take (i*3)=xs/\n+1<=C/\C<=maxLen/\Below w.heap.size w W:=by
 obtain ⟨i0,hi0,hz0,hz1,hz2⟩:=Qw Jf;have hold:(Builtin.firstCells i0.size i (.slice (some ⟨g,0,none⟩) i n)).run prog w.drew= .ok xs.toArray w.drew:=by
  rw[hz1];refine run_firstCells_some w.drew 3 i ⟨g,0,none⟩ i n xs hxl fun j v hj=> ?_;rw[Addr.add_mid,Nat.zero_add];refine Q3 (w:=w.drew) hcur j ?_;have hj2:=(List.getElem?_eq_some_iff.1 hj).1;rw[<-hx,List.getElem?_take] at hj;split at hj
  ·simpa using hj
  ·cases hj
 have hap:=Lib.run_append_grow_zeros (P:=prog) w 109 3 ty 112 i0 _ .i64 .i64 underlying109 underlying3 hi0 hz0 (some ⟨g,0,none⟩) i n xs hold (n+1 - i) (by omega) (by rw[hz1];decide) (by omega) (by omega) (by rw[hz2];omega) (by rw[hz2];exact growslice_fits (by omega) (by omega));rw[show ((n+1 - i:Nat):Int)=(n:Int)+1 - (i:Int) by omega,show i+(n+1 - i)=n+1 by omega] at hap;have hC:=grownCap_ge w (n+1) n 112;have hM:=grownCap_le_maxLen w (n+1) n 112 (by unfold maxLen;omega);refine ⟨_,_,_,hap,eD_ _ _,?_,?_,hC,hM,(eB_ _ _).drew.alloc (rl_ _) _⟩
 ·simp only[Array.size_append,size_zeroCells,List.size_toArray,hxl];show i*3+(n+1 - i)*3+(_ - (n+1))*3=_;omega
 ·rw[Array.append_assoc,Array.toList_append];exact List.take_left' hxl
theorem Q1T {base:Nat} (hin:i < n) (hcur:w.heap[g]? =some (.cells cur 112 (0,0))) (hbw:base<=w.heap.size) (hcs:cur.size=n*3) (ht:cur.toList.take (n*3)=xs++ys) (hxl:xs.length=i*3) (hyl:ys.length=(n - i)*3) (hn:n<=1000000)
  (h1y:∀ u∈ys,u.oneCell'=true) (hg:w.heap[r]? =some (.cells ns.toArray 112 (0,0))) (hl:ns.length=3) (h1:∀ u∈ns,u.oneCell'=true):
  Calls prog 60 #[.slice (some ⟨g,0,none⟩) n n,.int .i64 (i:Int),.slice (some ⟨r,0,none⟩) 1 1] w (InsOut base w (some g) (n+1) (xs++ns++ys)):=by
 have hni:(n:Int)<=1000000:=by omega
 have hii:(i:Int) < (n:Int):=by omega
 have hc0:(n=i)=False:=eq_false (by omega);have hin0:((i:Int)==(n:Int))=false:=beq_false_of_ne (by omega);have hnc0:decide ((n:Int) < (n:Int)+1)=true:=eM_ (by omega);have hx:cur.toList.take (i*3)=xs:=by
  have h:=congrArg (List.take (i*3)) ht;rw[List.take_take,Nat.min_eq_left (by omega)] at h;rw[h];exact List.take_left' hxl
 have hsz:(prog.info? 112).map (·.size)=some 3:=by
  have h:=Jf;cases hq:prog.info? 112 with
  | none=> rw[hq] at h;cases h
  | some q=> rw[hq] at h;simp at h |-;exact h.2.1
 obtain ⟨C,W,cur2,hap,hg2,hcs2,hx2,hC,hM,hbW⟩:=Q1S hcur hx hxl hin hn 109;obtain ⟨G,hG⟩:∃ G,w.heap.size=G:=⟨_,rfl⟩
 rw[hG] at hap hg2;have hrG:r≠G:=by have:=Q4 hg;omega
 have hgG:g≠G:=by have:=Q4 hcur;omega
 have hWr:W.heap[r]? =some (.cells ns.toArray 112 (0,0)):=(hbW.block _ (Q4 hg)).trans hg;have hWg:W.heap[g]? =some (.cells cur 112 (0,0)):=(hbW.block _ (Q4 hcur)).trans hcur;have hc1:=Je (P:=prog) W 109 109 3 112 3 G (i*3) (n+1 - i) (C - i) ⟨r,0,none⟩ 1 1 cur2 112 ns underlying109 hsz hg2 (by rw[hl,show Nat.min 1 (n+1 - i)=1 from Nat.min_eq_left (by omega)]) (fun j v hj=> by rw[Addr.add_mid,Nat.zero_add];exact Q3 hWr j (by simpa using hj)) (by rw[hcs2,hl];omega) h1;obtain ⟨W1,hW1⟩:∃ W1,W.setRow G (layAt cur2 (i*3) ns)=W1:=⟨_,rfl⟩
 rw[hW1] at hc1;have hs1:(layAt cur2 (i*3) ns).size=C*3:=by rw[Ya (by rw[hl,hcs2];omega)];exact hcs2
 have hg1:W1.heap[G]? =some (.cells (layAt cur2 (i*3) ns) 112 (0,0)):=by rw[<-hW1];exact Qb hg2
 have hg3:W1.heap[g]? =some (.cells cur 112 (0,0)):=by rw[<-hW1,Q8 hgG];exact hWg
 have hcw:=Je (P:=prog) W1.drew 109 109 3 112 3 G ((i+1)*3) (n - i) (C - (i+1)) ⟨g,i*3,none⟩ (n - i) (n - i) _ 112 ys underlying109 hsz hg1 (by rw[hyl];congr 1;exact (Nat.min_eq_left (by omega)).symm) (fun j u hj=> by
   rw[Addr.add_mid];refine Q3 (w:=W1.drew) hg3 (i*3+j) ?_;have hj2:=(List.getElem?_eq_some_iff.1 hj).1;have h2:(xs++ys)[i*3+j]? =some u:=(by rw[eO_ (by rw[hxl];omega),hxl,Nat.add_sub_cancel_left];exact hj);rw[<-ht,List.getElem?_take] at h2;split at h2
   ·simpa using h2
   ·cases h2) (by rw[hs1,hyl];omega) h1y
 have hw1:IntKind.i64.wrap ((i:Int)+1)=(i:Int)+1:=by rw[IntKind.wrap_i64];omega
 have hw2:IntKind.i64.wrap ((n:Int)+1)=(n:Int)+1:=by rw[IntKind.wrap_i64];omega
 have hw3:IntKind.i64.wrap ((n:Int)+1 - (i:Int))=(n:Int)+1 - (i:Int):=by rw[IntKind.wrap_i64];omega
 have htn:((i:Int)+1).toNat=i+1:=by omega
 have hle0:(0:Int)<=(i:Int)+1:=by omega
 have hle1:(i:Int)+1<=(n:Int)+1:=by omega
 have hle2:(i:Int)<=(n:Int)+1:=by omega
 have hcC:(n:Int)+1<=(C:Int):=by omega
 have hC1:(C=i+1)=False:=eq_false (by omega);have hC2:(C=i)=False:=eq_false (by omega);have HH:=hd_ (an_ hcs2 (an_ hx2 (n14_ hC hM hxl hyl hl hin hbw hg2 hs1 hg1 hW1 hbW hG hg)));have HAP:=hd_ hap;have HC1:=hd_ hc1;clear hap hc1 hcur hbw hcs ht hxl hyl h1y hl h1 hin hx hsz hg2 hcs2 hx2 hC hM hbW hrG hgG hWr hWg hs1 hg1 hg3 hg hG hW1;go_in;go_wp2_with (first
  | refine UX rfl (.tmp 34) (.tmp 39) 109 3 rfl (.slice (some ⟨g,0,none⟩) i n) (.int .i64 ((n:Int)+1 - (i:Int))) rfl rfl HAP.o ?_
  | refine Di rfl (.tmp 43) (.tmp 44) 109 109 rfl (.slice (some ⟨G,i*3,none⟩) (n+1 - i) (C - i)) (.slice (some ⟨r,0,none⟩) 1 1) rfl rfl HC1.o ?_)
 simp only[Act.put,Array.set!_eq_setIfInBounds,List.setIfInBounds_toArray,List.set_cons_succ,List.set_cons_zero];have hinn:i<=n:=by omega
 go_region;go_wp2_with fail;go_ret;obtain ⟨p1,p2,p3,p4,p5,p6,p7,p8,p9,p10,p11,p12,p13,p14,p15,p16⟩:=HH.o;refine ⟨_,rfl,⟨by rw[eC_,eC_,p5,p6,p7];omega,Or.inr ⟨G,C,_,rfl,by omega,Qb (w:=W1.drew) p12,p3,p4,?_,?_⟩⟩,⟨?_,fun k hk=> Or.inr (by injection hk with hk;rw[<-hk, <-p15];exact rl_ _)⟩⟩
 ·rw[Ya (by rw[p11,p6];omega)];exact p11
 ·exact Q6S p2 p5 p6 p7 p8
 ·rw[<-p13];have hsz:w.heap.size<=W.heap.size:=p14.size;refine ⟨p14.os,p14.tape,p14.output,?_,fun k hk _=> ?_⟩
  ·rw[QH];show w.heap.size<=(W.setRow G _).heap.size;rw[QH];exact hsz
  ·rw[Q8 (by omega)];show (W.setRow G _).heap[k]? =_;rw[Q8 (by omega)];exact p14.block k hk
theorem Q0N {base:Nat} (hown:w.ownsRow base 112 3 v n (xs++ys)) (hxl:xs.length=i*3) (hyl:ys.length=(n - i)*3) (hin:i<=n) (hb:base<=w.heap.size) (hn:n<=1000000)
  (h1y:∀ u∈ys,u.oneCell'=true) (hg:w.heap[r]? =some (.cells ns.toArray 112 (0,0))) (hr:v.ownBlock≠some r) (hl:ns.length=3) (h1:∀ u∈ns,u.oneCell'=true):
  Calls prog 60 #[v,.int .i64 (i:Int),.slice (some ⟨r,0,none⟩) 1 1] w (InsOut base w v.ownBlock (n+1) (xs++ns++ys)):=by
 rcases eS_ i n with hi | hi
 ·obtain ⟨_,⟨_,e⟩ | ⟨g,cap,cur,rfl,hbg,hcur,hnc,hcm,hcs,ht⟩⟩:=hown
  ·omega
  ·have hrg:r≠g:=fun e=> hr (by rw[e];rfl);rcases eS_ n cap with hc | hc
   ·exact Q1Q hi hcur hbg (by omega) hcm hcs ht hxl hyl hn h1y hg hrg hl h1
   ·obtain rfl:n=cap:=(by omega);exact Q1T hi hcur hb hcs ht hxl hyl hn h1y hg hl h1
 ·obtain rfl:i=n:=by omega
  have:ys= []:=List.eq_nil_of_length_eq_zero (by rw[hyl,Nat.sub_self]);subst this;rw[List.append_nil] at hown |-;exact Q3w hown hb hn hg hl h1
theorem Gl {q:Tp.Nm × Int} {s:Value}:∀ {l:Tp.L} {ss:List Value} {i:Nat} {p:Tp.Nm × Int},ss.length=l.length->l[i]? =some p->p.1=q.1->prCells (l.set i q) (ss.set i s)=((prCells l ss).set (i*3+1) (.bool (decide (q.2 < 0)))).set (i*3+2) s
 | [],_,_,_,_,h,_=> by simp at h
 | _::_, [],_,_,h,_,_=> by simp at h
 | x::l,y::ss,0,p,hl,h,e=> by
  simp only[eZ_,Option.some.injEq] at h;subst h;simp only[List.set_cons_zero,Y3,pairCells,List.cons_append,List.nil_append,Nat.zero_mul,Nat.zero_add,List.set_cons_succ,e]
 | x::l,y::ss,i+1,p,hl,h,e=> by
  have ih:=Gl (q:=q) (s:=s) (l:=l) (ss:=ss) (i:=i) (p:=p) (by simpa using hl) (by simpa using h) e;rw[show (i+1)*3+1=(i*3+1)+1+1+1 by omega,show (i+1)*3+2=(i*3+2)+1+1+1 by omega];simp only[List.set_cons_succ,Y3,pairCells,List.cons_append,List.nil_append,ih]
theorem Q0O {base cap:Nat} {x y:Value} {T:TypeId} (hbg:base<=g) (hcur:w.heap[g]? =some (.cells cur T (0,0))) (hnc:n<=cap) (hcm:cap<=maxLen) (hcs:cur.size=cap*3) (ht:cur.toList.take (n*3)=xs) (hxl:xs.length=n*3):
  (w.setCell ⟨g,o1,none⟩ x).setCell ⟨g,o2,none⟩ y=w.setRow g ((cur.setIfInBounds o1 x).setIfInBounds o2 y)/\
  (w.setRow g ((cur.setIfInBounds o1 x).setIfInBounds o2 y)).ownsRow base T 3 (.slice (some ⟨g,0,none⟩) n cap) n ((xs.set o1 x).set o2 y):=by
 refine ⟨?_,by rw[List.length_set,List.length_set,hxl],Or.inr ⟨g,cap,_,rfl,hbg,Qb hcur,hnc,hcm,by simpa using hcs,?_⟩⟩
 ·rw[setCell_eq_setRow w g o1 cur _ (0,0) x hcur,setCell_eq_setRow _ g o2 _ _ (0,0) y (Qb hcur),setRow_setRow]
 ·rw[Array.toList_setIfInBounds,Array.toList_setIfInBounds,List.take_set,List.take_set,ht]
theorem FrM.setRow {Q:Nat->Prop} {m:Nat} {w:World} {g:Nat} {cur:Array Value} (hcur:w.heap[g]? =some (.cells cur 112 (0,0))) (hQ:Q g) (cs:Array Value):FrM Q m w (w.setRow g cs):=
 ⟨rfl,rfl,rfl,by rw[QH];exact rl_ _,fun k _ _ hn=> Q8 fun e=> hn (by rw[e];exact ⟨hQ,_,hcur⟩)⟩
theorem Jj {base:Nat} {Q:Nat->Prop} (h:MapO base Q w m l) (hU:Up Q w) (hr:Tp.Rise l) (hl:l.length<=999999) (hbw:base<=w.heap.size) (k:Tp.Nm) {vz:Value} {z:Int} (hz:Num w vz z):
  Calls prog 21 #[.pointer (some ⟨m,0,none⟩),.string ⟨k.toArray⟩,vz] w (MapDid base Q w m (!Tp.has l k) (Tp.ins l k z)):=by
 obtain ⟨az,cz,rfl,hzr⟩:=hz.form;obtain ⟨nz,hnz⟩:∃ b,decide (z < 0)=b:=⟨_,rfl⟩
 rw[hnz];have HH:=h7_ h hU hr hl hbw hzr hnz;clear h hU hr hl hz hzr hnz hbw;go_in;go_wp2_with fail;obtain ⟨V,hV⟩:∃ V,w.alloc (.cells #[.bool nz,.slice az (wd z).length cz] 27)=V:=⟨_,rfl⟩
 have hbx:=box1 w #[.bool nz,.slice az (wd z).length cz] 27;rw[hV] at hbx |-;have HV:=hd_ hbx;clear hbx hV;refine (JO (HH.a.read.below HV.B) HH.c (by have:=HH.d;omega) k).mono ?_;rintro e w1 ⟨i,rfl,hat,hb⟩;have hbx1:=(hb.block _ (Q4 HV.a)).trans HV.a;have hbw1:=HV.B.trans (hb.mono HV.B.size);have HB:=h3_ hat hbw1 hbx1;have b0:=Q3 hbx1 0 rfl;have b1:=Q3 hbx1 1 rfl;obtain ⟨hbm,v,ss,m1,hw,ho,hQ⟩:=HH.a.past hbw1;have c0:=Q3 m1 0 rfl;have HO:=h5_ hbm m1 hw ho hQ;clear hat hb hbx1 hbw1 hbm m1 hw ho hQ;dsimp only;cases hhas:Tp.has l k with
 | true=>
  obtain ⟨p,hp,hpk⟩:=Q3D HH.c HB.a hhas;have hil:=(List.getElem?_eq_some_iff.1 hp).1;have hins:=(HB.a.hit hp hpk).2.1 z;obtain ⟨hxl,⟨_,e⟩ | ⟨g,cap,cur,rfl,hbg,hcur,hnc,hcm,hcs,ht⟩⟩:=id HO.d
  ·omega
  have hii:(i:Int) < (l.length:Int):=by omega
  have q1:∃ u,w1.cell? ⟨g,i*3+1,none⟩=some u:=⟨_,Q3 hcur _ (Array.getElem?_eq_getElem (show i*3+1 < cur.size by omega))⟩
  have q2:∃ u,w1.cell? ⟨g,i*3+2,none⟩=some u:=⟨_,Q3 hcur _ (Array.getElem?_eq_getElem (show i*3+2 < cur.size by omega))⟩
  obtain ⟨u1,q1⟩:=q1;obtain ⟨u2,q2⟩:=q2;have f1:=Q6 hcur (i*3+1);have f2:=Q6 hcur (i*3+2);have HC:=h10_ hp hpk hbg hcur hnc hcm hcs ht hxl hins;have HX:=hd_ hhas;clear hp hpk hbg hcur hnc hcm hcs ht hhas hxl hins hil;go_wp2_with fail;go_region;go_wp2_with fail;go_ret;obtain ⟨p1,p2,p3,p4,p5,p6,p7,p8,p9,p10⟩:=HC.o;obtain ⟨y1,y2⟩:=Q0O (o1:=i*3+1) (o2:=i*3+2) (x:= .bool nz) (y:= .slice az (wd z).length cz) p3 p4 p5 p6 p7 p8 p9;have hfr:FrM Q m w1 (w1.setRow g ((cur.setIfInBounds (i*3+1) (.bool nz)).setIfInBounds (i*3+2) (.slice az (wd z).length cz))):=FrM.setRow p4 (HO.E g rfl) _;have hfw:FrM Q m w w1:=FrM.of HB.b;have hcell:(w1.setRow g ((cur.setIfInBounds (i*3+1) (.bool nz)).setIfInBounds (i*3+2) (.slice az (wd z).length cz))).heap[m]? =_:=(Q8 fun e=> by
   have h1:=HO.b;rw[e,p4] at h1;injection h1 with h1;injection h1 with _ h2 _;exact absurd h2 (by decide)).trans HO.b
  have hwz:RdU w1 (.slice az (wd z).length cz) (wd z):=HH.f.below HB.b;have hpw:=(HO.c.set i (k,z) hwz).keep fun _ _ h=> hfr.rdu HO.b h;have e1:prCells (l.set i (k,z)) (ss.set i (.slice az (wd z).length cz))=((prCells l ss).set (i*3+1) (.bool nz)).set (i*3+2) (.slice az (wd z).length cz):=by
   rw[Gl HO.c.len p1 p2,HH.G]
  show MapDid base Q w m _ _ _ ((w1.setCell ⟨g,i*3+1,none⟩ _).setCell ⟨g,i*3+2,none⟩ _).drew;rw[y1];refine ⟨by rw[HX.o];rfl,?_,⟨hfr.os.trans hfw.os,hfr.tape.trans hfw.tape,hfr.output.trans hfw.output,eE_ hfw.size hfr.size,(hfw.trans hfr).block⟩⟩;rw[p10];refine ⟨HO.a,_,_,hcell,⟨hpw.len,hpw.rd⟩,?_,HO.E⟩;rw[List.length_set,e1];exact y2
 | false=>
  have hmiss:=HB.a.miss HH.c hhas;have HM:=h2_ hmiss HB.a.le;obtain ⟨a,c,rfl⟩:=Qj HO.d;have c1:w1.cell? ⟨m,0,none⟩=some (.slice a l.length c):=c0;have b2:w1.cell? ⟨w.heap.size,0,none⟩=some (.bool nz):=b0;have b3:w1.cell? ⟨w.heap.size,1,none⟩=some (.slice az (wd z).length cz):=b1;clear c0 b0 b1;have HX:=hd_ hhas;clear hhas hmiss;go_wp2_with fail;have c2:(w1.alloc (.cells #[.string ⟨k.toArray⟩,.bool nz,.slice az (wd z).length cz] 112)).cell? ⟨m,0,none⟩=some (.slice a l.length c):=Q3 ((eJ_ _ _ _ (Q4 HO.b)).trans HO.b) 0 rfl;have hgm:some m≠some w1.heap.size:=fun e=> by
   injection e with e;have:=Q4 HO.b;omega
  have hbl:Below w1.heap.size w1 (w1.alloc (.cells #[.string ⟨k.toArray⟩,.bool nz,.slice az (wd z).length cz] 112)).drew:=((eB_ _ _).alloc (rl_ _) _).drew;have hnew:(w1.alloc (.cells #[.string ⟨k.toArray⟩,.bool nz,.slice az (wd z).length cz] 112)).drew.heap[w1.heap.size]? =some (.cells [.string ⟨k.toArray⟩,.bool nz,.slice az (wd z).length cz].toArray 112 (0,0)):=eD_ _ _;obtain ⟨U,hU⟩:∃ U,(w1.alloc (.cells #[.string ⟨k.toArray⟩,.bool nz,.slice az (wd z).length cz] 112)).drew=U:=⟨_,rfl⟩
  rw[hU] at hbl hnew;have ho1:=Qk (w':=U) HO.d fun k hk=> hbl.block k (HO.d.lt k hk).2;have hl3:=HO.c.len;have e0:prCells l ss=prCells (l.take i) (ss.take i)++prCells (l.drop i) (ss.drop i):=by
   rw[<-Zt hl3, <-Zu hl3,eW_]
  have ho2:=ho1;rw[e0] at ho2;have hx1:(prCells (l.take i) (ss.take i)).length=i*3:=by rw[<-Zt hl3,eN_,XT hl3];have:=HM.B;omega
  have hy1:(prCells (l.drop i) (ss.drop i)).length=(l.length - i)*3:=by rw[<-Zu hl3,List.length_drop,XT hl3];omega
  have hbU:base<=U.heap.size:=eE_ HH.e (eE_ HB.b.size hbl.size);have hone:∀ u∈prCells (l.drop i) (ss.drop i),u.oneCell'=true:=fun u hu=> HO.c.one u (by rw[e0];exact List.mem_append_right _ hu);have hr1:(Value.slice a l.length c).ownBlock≠some w1.heap.size:=fun e=> by
   have:=(HO.d.lt _ e).2;omega
  have hcall:=Q0N (ns:= [.string ⟨k.toArray⟩,.bool nz,.slice az (wd z).length cz]) ho2 hx1 hy1 HM.B hbU (by have:=HH.d;omega) hone hnew hr1 rfl (by simp[Value.oneCell']);have HCALL:=hd_ hcall;have HU:=h5_ hbl ho1 e0 hU hgm;clear hgm hbl hnew hU ho1 hl3 e0 ho2 hx1 hy1 hbU hone hr1 hcall;go_region_with (go_at_call 60;rw[HU.d];refine HCALL.o.mono ?_;rintro e w2 ⟨v2,rfl,ho2,hg2,hat2⟩;obtain ⟨a2,c2,rfl⟩:=Qj ho2;have hm1:=(HU.a.block m (Q4 HO.b)).trans HO.b;have hm2:=(hg2.block m (Q4 hm1) (fun e=> by obtain ⟨cur,hc⟩:=Qm HU.b e.symm;rw[hm1] at hc;injection hc with hc;injection hc with _ h2 _;exact absurd h2 (by decide))).trans hm1;have h0:=Q3 hm2 0 rfl;have hz:=Q6 hm2 0;have HD:=h4_ ho2 hg2 hat2 hm2;clear ho2 hg2 hat2 hm1 hm2)
  all_goals (
   go_wp2_with fail;go_ret;have hf1:FrM Q m w w1:=FrM.of HB.b;have hf2:FrM Q m w1 U:=FrM.of HU.a;have hf3:FrM Q m U w2:=FrM.grown HU.b HO.E HD.b;have hf:FrM Q m w w2:=(hf1.trans hf2).trans hf3;have hlen:(l.take i++(k,z)::l.drop i).length=l.length+1:=(by rw[eC_,eL_,eN_,List.length_drop];have:=HM.B;omega);have hwz:RdU w1 (.slice az (wd z).length cz) (wd z):=HH.f.below HB.b;have hmU:=(HU.a.block m (Q4 HO.b)).trans HO.b;have hl3:=HO.c.len;have hpc:prCells (l.take i++(k,z)::l.drop i) (ss.take i++(.slice az (wd z).length cz)::ss.drop i)=prCells (l.take i) (ss.take i)++ [.string ⟨k.toArray⟩,.bool nz,.slice az (wd z).length cz]++prCells (l.drop i) (ss.drop i):=by
    rw[Xz (by rw[eN_,eN_,hl3]),Y3,pairCells,HH.G,eQ_]
   obtain ⟨r1,r2⟩:=Ds (w:=w) (l:=l.take i++(k,z)::l.drop i) (ss:=ss.take i++(.slice az (wd z).length cz)::ss.drop i) HD.D HO.a ((HO.c.ins i HM.B (k,z) hwz).keep fun _ _ h=> hf3.rdu hmU (h.below HU.a)) (by rw[hlen,hpc];exact HD.a) (fun q hq=> (HD.c q hq).elim (fun e=> HO.E q e) fun e=> HH.b q (eE_ HB.b.size (eE_ HU.a.size e))) hf;exact ⟨by rw[HX.o];rfl,by rw[HM.a.2.1 z];exact r1,r2⟩)
theorem TmP.frt {ts:List TypeId} {w w':World} {p:Value} {l:Tp.L} (h:TmP w p l) (hf:FrT ts w w') (h1:174∉ts) (h2:112∉ts) (h3:126∉ts):TmP w' p l:=h.imp id fun ⟨m,a,b⟩=> ⟨m,a,b.frt hf h1 h2 h3⟩
theorem Tm.frt {ts:List TypeId} {w w':World} {v:Value} {t:Tp.T} (h:Tm w v t) (hf:FrT ts w w') (h1:174∉ts) (h2:112∉ts) (h3:126∉ts):Tm w' v t:=by
 obtain ⟨s,p,a,b,c⟩:=h;exact ⟨s,p,a,RdB.frt b hf h1,c.frt hf h1 h2 h3⟩
theorem TmP.one (h:TmP w p l):p.oneCell'=true:=by
 rcases h with ⟨rfl,_⟩ | ⟨m,rfl,_⟩ <;> rfl
theorem Tm.cells (h:Tm w v t):∃ cs,v= .agg cs/\cs.size=3/\∀ u∈cs.toList,u.oneCell'=true:=by
 obtain ⟨a,c,p,rfl,_,hp,_⟩:=h.form;refine ⟨_,rfl,rfl,fun u hu=> ?_⟩;simp only[List.mem_cons,List.mem_nil_iff,or_false] at hu;rcases hu with rfl | rfl | rfl
 ·rfl
 ·rfl
 ·exact hp.one
theorem Qy:(prog.info? 38).map (·.size)=some 3:=by kernel_rfl
theorem QC {ops:Array Oper} {rest:List Oper} {Q:Exit->Act->World->Prop} (hgd:o.guard=none) (x v:Operand) (ho:o.op= .store 38 x v)
  {g:Nat} {zs:Array Value} (hx:a.eval x= .pointer (some ⟨g,0,none⟩)) (hg:w1.heap[g]? =some (.cells zs 38 (0,0))) (hz:zs.size=3) {val:Value} {t:Tp.T} (hv:a.eval v=val) (hn:Tm w1 val t)
  {B:Nat} {w0:World} (hB:B<=g) (hb:Below B w0 w1)
  (h:∀ W cs,W=w1.setRow g cs->val= .agg cs->W.heap[g]? =some (.cells cs 38 (0,0))->cs.size=3->Tm W (.agg cs) t->Below B w0 W->wpList prog ops Q rest (a.put o.dst undef) W):
  wpList prog ops Q (o::rest) a w1:=by
 obtain ⟨cs,rfl,hs,h1⟩:=hn.cells;refine Qc hgd _ x v ho _ g zs cs hx hg hv (by rw[hz,hs]) (by rw[hs];exact Qy) h1 ?_;exact h _ cs rfl rfl (Qb hg) hs (hn.frt (Qe hg) (by decide) (by decide) (by decide)) (Q9 hb hB cs)
theorem UY {fn:Func} {p:Tmp} (h:fn.results= #[.cell p 38]) (hp:tmps.getD p undef= .pointer (some ⟨g,0,none⟩)) (hg:w.heap[g]? =some (.cells cs 38 (0,0))) (hs:cs.size=3):
  (results fn tmps).run prog w= .ok (.agg cs) w:=
 eY_ h _ _ g _ _ _ _ hp hg underlying38 rfl (by rw[hs];exact Qy)
def TmOut (w:World) (t:Tp.T) (e:Ending) (w':World):Prop:=∃ v,e= .returned v/\Tm w' v t/\Below w.heap.size w w'
theorem Xg (h:Num w v z):Calls prog 52 #[v] w (TmOut w ⟨[],z⟩):=by
 obtain ⟨a,c,rfl,hr⟩:=h.form;obtain ⟨nz,hnz⟩:∃ b,decide (z < 0)=b:=⟨_,rfl⟩
 rw[hnz] at h |-;have HH:=hd_ h;clear h hr hnz;go_in;go_wp2_with fail;have hbx:=box2 w #[.bool nz,.slice a (wd z).length c] 27 #[.bool nz,.slice a (wd z).length c,.pointer none] 38;refine eG_ (UY rfl rfl hbx.2.1 rfl) rfl ?_;exact ⟨_,rfl,Tm.of (t:=⟨[],z⟩) (HH.o.below hbx.2.2) (Or.inl ⟨rfl,rfl⟩),hbx.2.2⟩
theorem JP (w:World) (s:Tp.Nm):Calls prog 19 #[.string ⟨s.toArray⟩] w (TmOut w (Tp.name s)):=by
 go_in;go_wp2_with fail;obtain ⟨V,hV⟩:∃ V,w.alloc (.cells #[.bool false,.slice none 0 0,.pointer none] 38)=V:=⟨_,rfl⟩
 have hbx:=box1 w #[.bool false,.slice none 0 0,.pointer none] 38;rw[hV] at hbx |-;have HV:=hd_ hbx;clear hbx hV;refine (Zv V).mono ?_;rintro e w1 ⟨rfl,hm,hb,hlt⟩;have H1:=h3_ hm hb hlt;clear hm hb hlt;dsimp only;go_wp2_with fail;refine (QM 1 (by decide) (by decide) w1).mono ?_;rintro e w2 ⟨v2,rfl,hn,hb⟩;have H2:=h2_ hn hb;clear hn hb;dsimp only;go_wp2_with fail;refine (Jj (H1.a.past H2.B) (fun k hk=> eE_ (eE_ H1.b.size H2.B.size) hk) Tp.Rise.nil (by decide) (eE_ H1.b.size H2.B.size) s H2.a).mono ?_;rintro e w3 ⟨rfl,hm,hf⟩;have hbv:Below V.heap.size V w2:=H1.b.trans (H2.B.mono H1.b.size);have hb3:Below V.heap.size V w3:=hbv.trans (hf.below (rl_ _) (fun k hk=> hk) hbv.size);have hg3:=(hb3.block _ (Q4 HV.a)).trans HV.a;have hbw:Below w.heap.size w w3:=HV.B.trans (hb3.mono HV.B.size);have ht:Tm w3 (.agg #[.bool false,.slice none 0 0,.pointer (some ⟨V.heap.size,0,none⟩)]) (Tp.name s):=Tm.of (Num.zero w3) (Or.inr ⟨_,rfl,hm.read⟩);have H3:=h3_ hg3 hbw ht;clear hm hf hbv hb3 hg3 hbw ht;dsimp only;go_wp2_with (refine QC rfl _ _ rfl rfl H3.a rfl rfl H3.C (rl_ _) H3.b ?_;rintro W cs - hcs hg hs hn hb;have HT:=h4_ hg hs hn hb;clear hg hs hn hb hcs);exact eG_ (UY rfl rfl HT.a HT.b) rfl ⟨_,rfl,HT.c,HT.D⟩
theorem Zw {base base':Nat} {e:TypeId} {size:Nat} (h:w.ownsRow base e size v n xs) (hb:base'<=base):w.ownsRow base' e size v n xs:=by
 obtain ⟨h1,h2 | ⟨g,cap,cur,h3,h4,h5⟩⟩:=h
 ·exact ⟨h1,Or.inl h2⟩
 ·exact ⟨h1,Or.inr ⟨g,cap,cur,h3,eE_ hb h4,h5⟩⟩
theorem XC (h:Tm w v t) (hl:t.l.length<=1073741824):Calls prog 47 #[v] w (PrOwn w t.l):=by
 obtain ⟨a,c,p,rfl,hr,hp,hp2⟩:=h.form;obtain ⟨nz,hnz⟩:∃ b,decide (t.rest < 0)=b:=⟨_,rfl⟩
 rw[hnz];clear h hr hnz;rcases hp with ⟨rfl,he⟩ | ⟨m,rfl,hm⟩
 ·rw[he];clear hp2 hl he;go_in;go_wp2_with fail;go_ret;exact ⟨_, [],rfl,PWords.nil _,World.ownsRow_nil _ _ _ _,(eB_ _ _).alloc (rl_ _) _⟩
 ·have HH:=h2_ hm hl;clear hp2 hm hl;go_in;go_wp2_with fail;have hbx:=box1 w #[.bool nz,.slice a (wd t.rest).length c,.pointer (some ⟨m,0,none⟩)] 38;refine (Ug (HH.a.below hbx.2) HH.B).mono ?_;rintro e w1 ⟨v1,ss,rfl,hw,ho,hb⟩;have H1:=h4_ hw ho hb hbx.2;clear hw ho hb hbx;dsimp only;go_wp2_with fail;go_ret;exact ⟨_,ss,rfl,H1.a,Zw H1.b H1.D.size,H1.D.trans (H1.c.mono H1.D.size)⟩
def nzCells (q:Int × Value):List Value:= [.bool (decide (q.1 < 0)),q.2]
theorem Q1U (q:Int × Value):(nzCells q).length=2:=rfl
def RdNs2 (w:World) (v:Value) (zs:List Int):Prop:=∃ ss:List Value,ss.length=zs.length/\(∀ (i:Nat) (z:Int) (s:Value),zs[i]? =some z->ss[i]? =some s->RdU w s (wd z))/\RdB 27 w 2 v zs.length ((zs.zip ss).flatMap nzCells)
theorem RdNs2.below {w w':World} {v:Value} {zs:List Int} (h:RdNs2 w v zs) (hb:Below w.heap.size w w'):RdNs2 w' v zs:=by
 obtain ⟨ss,h1,h2,h3⟩:=h;exact ⟨ss,h1,fun i z s a b=> (h2 i z s a b).below hb,h3.below hb⟩
theorem RdNs2.form (h:RdNs2 w v zs):∃ a c,v= .slice a zs.length c/\zs.length<=c:=by
 obtain ⟨ss,_,_,_,a,c,e,hc,_⟩:=h;exact ⟨a,c,e,hc⟩
theorem RdNs2.at {a:Option Addr} (h:RdNs2 w (.slice a n c) zs) {i:Nat} {z:Int} (hz:zs[i]? =some z):
  ∃ b off aw cw,a=some ⟨b,off,none⟩/\w.cell? ⟨b,off+i*2,none⟩=some (.bool (decide (z < 0)))/\w.cell? ⟨b,off+i*2+1,none⟩=some (.slice aw (wd z).length cw)/\Num w (.agg #[.bool (decide (z < 0)),.slice aw (wd z).length cw]) z:=by
 obtain ⟨ss,h1,h2,_,a2,c2,e,hc,h3⟩:=h;injection e with e1 e2 e3;subst e1 e2 e3;have hi:=(List.getElem?_eq_some_iff.1 hz).1;obtain ⟨s,hs⟩:∃ s,ss[i]? =some s:=⟨_,eA_ (by rw[h1];exact hi)⟩
 have hr:=h2 i z s hz hs;obtain ⟨aw,cw,rfl,_⟩:=hr.form;rcases h3 with ⟨_,h3⟩ | ⟨b,off,rfl,_,h3⟩
 ·omega
 ·have h4:=QV Q1U h3 (show (zs.zip ss)[i]? =some (z,.slice aw (wd z).length cw) from by rw[List.getElem?_zip_eq_some];exact ⟨hz,hs⟩);exact ⟨b,off,aw,cw,rfl,h4 0 _ rfl,h4 1 _ rfl,_,rfl,hr⟩
theorem Q6T (h:w.heap[g]? =some (.cells #[.bool b,s] 27 (0,0))) (hn:Num w (.agg #[.bool b,s]) z) {c:Nat} (hc:1<=c):RdNs2 w (.slice (some ⟨g,0,none⟩) 1 c) [z]:=by
 obtain ⟨s2,e,hs⟩:=hn;injection e with e;have e1:b=decide (z < 0)/\s=s2:=by simpa using e
 obtain ⟨rfl,rfl⟩:=e1;refine ⟨[s],rfl,fun i z' s' h1 h2=> ?_,?_⟩
 ·cases i with
  | zero=>
   obtain rfl:z=z':=(by simpa using h1);obtain rfl:s=s':=(by simpa using h2);exact hs
  | succ i=> simp at h1
 ·refine ⟨rfl,_,c,rfl,hc,Or.inr ⟨g,0,rfl,Or.inr ⟨_,h⟩,fun j u hj=> ?_⟩⟩;rw[Nat.zero_add];refine Q3 h j ?_;simpa [nzCells] using hj
theorem Q6U (l:List Nat):∀ u∈u32Cells l,u.oneCell'=true:=by
 intro u hu;obtain ⟨d,_,rfl⟩:=List.mem_map.1 hu;rfl
theorem YW {l:List Nat} (h:RdU w v l) (hl:l.length<=1073741824):Calls prog 100 #[v] w fun e w'=> ∃ v',e= .returned v'/\RdU w' v' l/\Below w.heap.size w w':=
 (Q5h h hl (Q6U l)).mono fun e w' ⟨v',h1,h2,h3⟩=> ⟨v',h1,GG h2,h3⟩
def AdRel (w:World) (x:Int) (zs:List Int) (g:Nat) (k:Nat) (v16:Value) (wr:World):Prop:=
 ∃ (i:Nat) (cs:Array Value) (acc:Int),v16= .int .i64 i/\k=zs.length - i/\i<=zs.length/\wr.heap[g]? =some (.cells cs 27 (0,0))/\Num wr (.agg cs) acc/\acc+(zs.drop i).sum=x+zs.sum/\wr.heap[w.heap.size+1]? =some (.cells #[.bool false,.slice none 0 0] 27 (0,0))/\Below w.heap.size w wr
theorem Q3G {vs:Value} (hx:Num w vx x) (hs:RdNs2 w vs zs) (hl:zs.length<=1000000) (B:Nat) (hB:B<=1073741820) (hlx:(wd x).length<=B) (hb:∀ z∈zs,(wd z).length<=B) (hsum:∀ k,k<=zs.length->(wd (x+(zs.take k).sum)).length<=B):
  Calls prog 63 #[vx,vs] w fun e w'=> ∃ v',e= .returned v'/\Num w' v' (x+zs.sum)/\Below w.heap.size w w':=by
 obtain ⟨ax,cx,rfl,hrx⟩:=hx.form;obtain ⟨av,cv,rfl,hcv⟩:=hs.form;have HH:=h6_ hrx hs hb hsum hlx hx;obtain ⟨nx,hnx⟩:∃ b,decide (x < 0)=b:=⟨_,rfl⟩
 rw[hnx] at HH |-;have hl':(zs.length:Int)<=1000000:=by omega
 clear hx hs hlx hb hsum hrx hnx;go_in;go_wp2_with fail;obtain ⟨V,hV⟩:∃ V,(w.alloc (.cells #[.bool nx,.slice ax (wd x).length cx] 27)).alloc (.cells #[.bool false,.slice none 0 0] 27)=V:=⟨_,rfl⟩
 have hbx:=box2 w #[.bool nx,.slice ax (wd x).length cx] 27 #[.bool false,.slice none 0 0] 27;rw[hV] at hbx |-;have hsz:V.heap.size=w.heap.size+2:=by rw[<-hV, <-Q5, <-Q5]
 have HV:=hd_ hbx;have a0:=Q3 hbx.1 0 rfl;have a1:=Q3 hbx.1 1 rfl;have hA:V.drew.heap[w.heap.size]? =some (.cells #[.bool nx,.slice ax (wd x).length cx] 27 (0,0))/\V.drew.heap[w.heap.size+1]? =some (.cells #[.bool false,.slice none 0 0] 27 (0,0))/\Below w.heap.size w V.drew:=⟨hbx.1,hbx.2.1,hbx.2.2.drew⟩
 have hB3:(V.alloc (.cells #[.bool false,.slice none 0 0] 27)).drew.heap[w.heap.size]? =some (.cells #[.bool nx,.slice ax (wd x).length cx] 27 (0,0))/\(V.alloc (.cells #[.bool false,.slice none 0 0] 27)).drew.heap[w.heap.size+1]? =some (.cells #[.bool false,.slice none 0 0] 27 (0,0))/\Below w.heap.size w (V.alloc (.cells #[.bool false,.slice none 0 0] 27)).drew:=
  ⟨(eJ_ _ _ _ (Q4 hbx.1)).trans hbx.1,(eJ_ _ _ _ (Q4 hbx.2.1)).trans hbx.2.1,(hbx.2.2.alloc (by omega) _).drew⟩
 have hC3:(V.alloc (.cells #[.bool false,.slice none 0 0] 27)).drew.heap[V.heap.size]? =some (.cells #[.bool false,.slice none 0 0] 27 (0,0)):=eD_ _ _;have HA:=hd_ hA;have HB:=hd_ hB3;have HC:=hd_ hC3;have j0:(V.alloc (.cells #[.bool false,.slice none 0 0] 27)).cell? ⟨w.heap.size,0,none⟩=some (.bool nx):=Q3 hB3.1 0 rfl;have j1:(V.alloc (.cells #[.bool false,.slice none 0 0] 27)).cell? ⟨w.heap.size,1,none⟩=some (.slice ax (wd x).length cx):=Q3 hB3.1 1 rfl;have hne:w.heap.size≠V.heap.size:=by omega
 have HSZ:=hd_ hsz;clear hbx hV hsz hA hB3 hC3;go_region_held3 (fun w'=> w'.cell? ⟨w.heap.size,0,none⟩=some (.bool nx)/\w'.cell? ⟨w.heap.size,1,none⟩=some (.slice ax (wd x).length cx)) (first | exact ⟨a0,a1⟩ | exact ⟨j0,j1⟩ | exact ⟨e0,e1⟩ | exact ⟨Qr e0 hne,Qr e1 hne⟩ | go_keep)
  ((first
   | (go_at_call 100;refine (YW (HH.a.below HA.C) (by have:=HH.e;omega)).mono ?_;rintro e w2 ⟨v2,rfl,hr2,hb2⟩;have e0:=Q3 ((hb2.block _ (Q4 HA.a)).trans HA.a) 0 rfl;have e1:=Q3 ((hb2.block _ (Q4 HA.a)).trans HA.a) 1 rfl;obtain ⟨a2,c2,rfl,_⟩:=hr2.form;have H2:=h2_ hr2 hb2;clear hr2 hb2)
   | (go_at_call 100;refine (YW (HH.a.below HB.C) (by have:=HH.e;omega)).mono ?_;rintro e w2 ⟨v2,rfl,hr2,hb2⟩;have e0:=Q3 ((hb2.block _ (Q4 HB.a)).trans HB.a) 0 rfl;have e1:=Q3 ((hb2.block _ (Q4 HB.a)).trans HB.a) 1 rfl;have r0:=Q3 ((hb2.block _ (Q4 HC.o)).trans HC.o) 0 rfl;have r1:=Q3 ((hb2.block _ (Q4 HC.o)).trans HC.o) 1 rfl;have z0:=Q6 ((hb2.block _ (Q4 HC.o)).trans HC.o) 0;have z1:=Q6 ((hb2.block _ (Q4 HC.o)).trans HC.o) 1;obtain ⟨a2,c2,rfl,_⟩:=hr2.form;have H2:=h2_ hr2 hb2;clear hr2 hb2)))
 ·rename_i hh;clear hh;have hw2:Below w.heap.size w w2:=HA.C.trans (H2.B.mono HA.C.size);have hszz:w.heap.size+2<=w2.heap.size:=by have h1:=H2.B.size;have h2:V.drew.heap.size=V.heap.size:=rfl;have:=HSZ.o;omega
  have hgl:=eD_ w2 (.cells #[.bool nx,.slice a2 (wd x).length c2] 27);have hnum:Num (w2.alloc (.cells #[.bool nx,.slice a2 (wd x).length c2] 27)) (.agg #[.bool nx,.slice a2 (wd x).length c2]) x:=by
   obtain ⟨s,e,_⟩:=HH.F;injection e with e;have e1:nx=decide (x < 0):=(by have:=congrArg (fun a=> a[0]?) e;simpa using this);exact ⟨_,by rw[e1],H2.a.below ((eB_ _ _).alloc (rl_ _) _)⟩
  have hzr:(w2.alloc (.cells #[.bool nx,.slice a2 (wd x).length c2] 27)).heap[w.heap.size+1]? =some (.cells #[.bool false,.slice none 0 0] 27 (0,0)):=(eJ_ _ _ _ (by omega)).trans ((H2.B.block _ (Q4 HA.b)).trans HA.b);obtain ⟨W,hW⟩:∃ W,w2.alloc (.cells #[.bool nx,.slice a2 (wd x).length c2] 27)=W:=⟨_,rfl⟩
  have hbw:Below w.heap.size w W:=by rw[<-hW];exact hw2.alloc (by omega) _
  rw[hW] at hgl hnum hzr |-;obtain ⟨g,hg⟩:∃ g,w2.heap.size=g:=⟨_,rfl⟩
  rw[hg] at hgl hszz |-;have HW:=h5_ hgl hnum hzr hbw hszz;have HGE:=hd_ hszz;clear hw2 hszz hgl hnum hzr hW hbw hg;clear a0 a1 e0 e1 j0 j1 hne;go_wp2_with fail;go_loopg [16] zs.length (fun k v16 wr=> AdRel w x zs g k v16 wr)
  case atStart=> exact ⟨0,_,x,rfl,rfl,eV_ _,HW.a,HW.b,by simp,HW.c,HW.d⟩
  case round=>
   obtain ⟨i,cs,acc,rfl,hk,hi,hg,hn,hsm,hz,hb⟩:=hrel;obtain ⟨aw,cw,ecs,hnr⟩:=hn.form;obtain rfl:cs= #[.bool (decide (acc < 0)),.slice aw (wd acc).length cw]:=(by injection ecs);have hacc:acc=x+(zs.take i).sum:=by
    have h1:(zs.take i).sum+(zs.drop i).sum=zs.sum:=(by rw[<-List.sum_append,eW_]);omega
   have hlacc:(wd acc).length<=B:=(by rw[hacc];exact HH.d i hi);obtain ⟨na,hna⟩:∃ b,decide (acc < 0)=b:=⟨_,rfl⟩
   rw[hna] at hg hn;have HR:=h7_ hk hg hn hsm hz hb hlacc;have g0:=Q3 hg 0 rfl;have g1:=Q3 hg 1 rfl;have gl:=Qd g0;have r0:=Q3 hz 0 rfl;have r1:=Q3 hz 1 rfl;clear hk hg hn hsm hz hb ecs hnr hacc hlacc hna;by_cases hlt:i < zs.length
   ·have hlt':(i:Int) < (zs.length:Int):=(by omega);obtain ⟨z,hz⟩:∃ z,zs[i]? =some z:=⟨_,eA_ hlt⟩
    obtain ⟨bv,ov,az,cz,ev,q0,q1,hnz⟩:=(HH.b.below HR.f).at hz;have hlz:(wd z).length<=B:=HH.c z (eP_ hz);obtain ⟨nz,hnz2⟩:∃ b,decide (z < 0)=b:=⟨_,rfl⟩
    rw[hnz2] at q0 hnz;have HZ:=h3_ hz hnz hlz;obtain rfl:=ev;clear hz hnz hlz hnz2 r0 r1;go_wp2_with fail;have hba:Below wr.heap.size wr (wr.alloc (.cells #[.bool nz,.slice az (wd z).length cz] 27)):=(eB_ _ _).alloc (rl_ _) _;refine (Zs (HR.c.below hba) (HZ.b.below hba) (by have:=HR.G;omega) (by have:=HZ.C;omega)).mono ?_;rintro e w3 ⟨v3,rfl,hr3,hb3⟩;have hb4:=hba.trans (hb3.mono hba.size);have hgg:=(hb4.block _ (Q4 HR.b)).trans HR.b;have hzz:=(hb4.block _ (Q4 HR.e)).trans HR.e;have HT:=h4_ hgg hr3 (HR.f.trans (hb4.mono HR.f.size)) hzz;clear hba hr3 hb3 hb4 hgg hzz g0 g1 gl q0 q1;dsimp only;go_wp2_with (refine QB rfl _ _ rfl rfl HT.a rfl rfl HT.b (show w.heap.size<=g by have:=HGE.o;omega) HT.c ?_;rintro W3 cs3 hW3 rfl hg3 hs3 hn3 hb3 -;have HT3:=h5_ hg3 hs3 hn3 hb3 hW3;clear hg3 hs3 hn3 hb3 hW3);go_roundg (zs.length - (i+1))
    case measure=> have:=HR.a;omega
    case rel=>
     refine ⟨i+1,cs3,acc+z,by go_num,rfl,by omega,HT3.a,HT3.c,?_,?_,HT3.d⟩
     ·rw[<-HR.d,List.drop_eq_getElem_cons hlt,List.sum_cons,(List.getElem?_eq_some_iff.1 HZ.a).2];omega
     ·rw[HT3.E,Q8 (by have:=HGE.o;omega)];exact HT.D
   ·obtain rfl:zs.length=i:=(by omega);go_wp2_with (refine QB rfl _ _ rfl rfl HR.e rfl rfl HR.c (show w.heap.size<=w.heap.size+1 by omega) HR.f ?_;rintro W3 cs3 hW3 hcs3 hg3 hs3 hn3 hb3 -;have HT3:=h5_ hg3 hs3 hn3 hb3 hcs3;clear hg3 hs3 hn3 hb3 hW3 hcs3);have hfin:acc=x+zs.sum:=by
     have h1:=HR.d;rw[List.drop_length,List.sum_nil] at h1;omega
    rw[<-hfin];refine eG_ (Y2 rfl rfl HT3.a HT3.b) rfl ⟨_,rfl,?_,HT3.d⟩;rw[<-HT3.E];exact HT3.c
 ·rename_i hh;clear hh;have hw2:Below w.heap.size w w2:=HB.C.trans (H2.B.mono HB.C.size);have hgl0:=(H2.B.block _ (Q4 HC.o)).trans HC.o;have hszz:w.heap.size+2<=V.heap.size:=by have:=HSZ.o;omega
  rw[YD hgl0 rfl];have hgl:=Qb (vs:= #[.bool nx,.slice a2 (wd x).length c2]) hgl0;have hnum:Num (w2.setRow V.heap.size #[.bool nx,.slice a2 (wd x).length c2]) (.agg #[.bool nx,.slice a2 (wd x).length c2]) x:=by
   obtain ⟨s,e,_⟩:=HH.F;injection e with e;have e1:nx=decide (x < 0):=(by have:=congrArg (fun a=> a[0]?) e;simpa using this);exact ⟨_,by rw[e1],RdB.frt H2.a (Qe hgl0) (by decide)⟩
  have hzr:(w2.setRow V.heap.size #[.bool nx,.slice a2 (wd x).length c2]).heap[w.heap.size+1]? =some (.cells #[.bool false,.slice none 0 0] 27 (0,0)):=(Q8 (by omega)).trans ((H2.B.block _ (Q4 HB.b)).trans HB.b);obtain ⟨W,hW⟩:∃ W,w2.setRow V.heap.size #[.bool nx,.slice a2 (wd x).length c2]=W:=⟨_,rfl⟩
  have hbw:Below w.heap.size w W:=by rw[<-hW];exact Q9 hw2 (by omega) _
  rw[hW] at hgl hnum hzr |-;clear r0 r1 z0 z1;obtain ⟨g,hg⟩:∃ g,V.heap.size=g:=⟨_,rfl⟩
  rw[hg] at hgl hszz |-;have HW:=h5_ hgl hnum hzr hbw hszz;have HGE:=hd_ hszz;clear hw2 hszz hgl hgl0 hnum hzr hW hbw hg;clear a0 a1 e0 e1 j0 j1 hne;go_wp2_with fail;go_loopg [16] zs.length (fun k v16 wr=> AdRel w x zs g k v16 wr)
  case atStart=> exact ⟨0,_,x,rfl,rfl,eV_ _,HW.a,HW.b,by simp,HW.c,HW.d⟩
  case round=>
   obtain ⟨i,cs,acc,rfl,hk,hi,hg,hn,hsm,hz,hb⟩:=hrel;obtain ⟨aw,cw,ecs,hnr⟩:=hn.form;obtain rfl:cs= #[.bool (decide (acc < 0)),.slice aw (wd acc).length cw]:=(by injection ecs);have hacc:acc=x+(zs.take i).sum:=by
    have h1:(zs.take i).sum+(zs.drop i).sum=zs.sum:=(by rw[<-List.sum_append,eW_]);omega
   have hlacc:(wd acc).length<=B:=(by rw[hacc];exact HH.d i hi);obtain ⟨na,hna⟩:∃ b,decide (acc < 0)=b:=⟨_,rfl⟩
   rw[hna] at hg hn;have HR:=h7_ hk hg hn hsm hz hb hlacc;have g0:=Q3 hg 0 rfl;have g1:=Q3 hg 1 rfl;have gl:=Qd g0;have r0:=Q3 hz 0 rfl;have r1:=Q3 hz 1 rfl;clear hk hg hn hsm hz hb ecs hnr hacc hlacc hna;by_cases hlt:i < zs.length
   ·have hlt':(i:Int) < (zs.length:Int):=(by omega);obtain ⟨z,hz⟩:∃ z,zs[i]? =some z:=⟨_,eA_ hlt⟩
    obtain ⟨bv,ov,az,cz,ev,q0,q1,hnz⟩:=(HH.b.below HR.f).at hz;have hlz:(wd z).length<=B:=HH.c z (eP_ hz);obtain ⟨nz,hnz2⟩:∃ b,decide (z < 0)=b:=⟨_,rfl⟩
    rw[hnz2] at q0 hnz;have HZ:=h3_ hz hnz hlz;obtain rfl:=ev;clear hz hnz hlz hnz2 r0 r1;go_wp2_with fail;have hba:Below wr.heap.size wr (wr.alloc (.cells #[.bool nz,.slice az (wd z).length cz] 27)):=(eB_ _ _).alloc (rl_ _) _;refine (Zs (HR.c.below hba) (HZ.b.below hba) (by have:=HR.G;omega) (by have:=HZ.C;omega)).mono ?_;rintro e w3 ⟨v3,rfl,hr3,hb3⟩;have hb4:=hba.trans (hb3.mono hba.size);have hgg:=(hb4.block _ (Q4 HR.b)).trans HR.b;have hzz:=(hb4.block _ (Q4 HR.e)).trans HR.e;have HT:=h4_ hgg hr3 (HR.f.trans (hb4.mono HR.f.size)) hzz;clear hba hr3 hb3 hb4 hgg hzz g0 g1 gl q0 q1;dsimp only;go_wp2_with (refine QB rfl _ _ rfl rfl HT.a rfl rfl HT.b (show w.heap.size<=g by have:=HGE.o;omega) HT.c ?_;rintro W3 cs3 hW3 rfl hg3 hs3 hn3 hb3 -;have HT3:=h5_ hg3 hs3 hn3 hb3 hW3;clear hg3 hs3 hn3 hb3 hW3);go_roundg (zs.length - (i+1))
    case measure=> have:=HR.a;omega
    case rel=>
     refine ⟨i+1,cs3,acc+z,by go_num,rfl,by omega,HT3.a,HT3.c,?_,?_,HT3.d⟩
     ·rw[<-HR.d,List.drop_eq_getElem_cons hlt,List.sum_cons,(List.getElem?_eq_some_iff.1 HZ.a).2];omega
     ·rw[HT3.E,Q8 (by have:=HGE.o;omega)];exact HT.D
   ·obtain rfl:zs.length=i:=(by omega);go_wp2_with (refine QB rfl _ _ rfl rfl HR.e rfl rfl HR.c (show w.heap.size<=w.heap.size+1 by omega) HR.f ?_;rintro W3 cs3 hW3 hcs3 hg3 hs3 hn3 hb3 -;have HT3:=h5_ hg3 hs3 hn3 hb3 hcs3;clear hg3 hs3 hn3 hb3 hW3 hcs3);have hfin:acc=x+zs.sum:=by
     have h1:=HR.d;rw[List.drop_length,List.sum_nil] at h1;omega
    rw[<-hfin];refine eG_ (Y2 rfl rfl HT3.a HT3.b) rfl ⟨_,rfl,?_,HT3.d⟩;rw[<-HT3.E];exact HT3.c
theorem QJ (h:Below B w W/\R):Below B w W:=h.1
theorem YG (h:Below B w W/\R) (hB:B<=w.heap.size) (o:Obj):Below B w (W.alloc o):=h.1.alloc (eE_ hB h.1.size) o
theorem Xa {W':World} (hb:Below W.heap.size W W') (h:Below B w W/\R) (hB:B<=w.heap.size):Below B w W':=h.1.trans (hb.mono (eE_ hB h.1.size))
theorem Dt (h:Below B w W) {g:Nat} (hg:B<=g) (x y:Value):Below B w ((W.setCell ⟨g,0,none⟩ x).setCell ⟨g,1,none⟩ y):=(h.setCell (p:=⟨g,0,none⟩) hg x).setCell (p:=⟨g,1,none⟩) hg y
theorem Zx (h:Below B w W) {g:Nat} (hg:B<=g) (x y z:Value):Below B w (((W.setCell ⟨g,0,none⟩ x).setCell ⟨g,1,none⟩ y).setCell ⟨g,2,none⟩ z):=(Dt h hg x y).setCell (p:=⟨g,2,none⟩) hg z
theorem Z2 (w:World) (o:Obj):w.heap.size < (w.alloc o).heap.size:=by rw[<-Q5];omega
theorem Qt (w:World) (o:Obj):Below w.heap.size w (w.alloc o):=(eB_ _ _).alloc (rl_ _) _
theorem Y5 (w:World) (o o2:Obj):Below w.heap.size w ((w.alloc o).alloc o2):=(Qt w o).alloc (Nat.le_of_lt (Z2 w o)) _
theorem box4 (w:World) (A:Array Value) (TA:TypeId) (B:Array Value) (TB:TypeId) (C:Array Value) (TC:TypeId) (D:Array Value) (TD:TypeId):
  ((((w.alloc (.cells A TA)).alloc (.cells B TB)).alloc (.cells C TC)).alloc (.cells D TD)).heap[w.heap.size]? =some (.cells A TA (0,0))/\((((w.alloc (.cells A TA)).alloc (.cells B TB)).alloc (.cells C TC)).alloc (.cells D TD)).heap[w.heap.size+1]? =some (.cells B TB (0,0))/\
  ((((w.alloc (.cells A TA)).alloc (.cells B TB)).alloc (.cells C TC)).alloc (.cells D TD)).heap[w.heap.size+1+1]? =some (.cells C TC (0,0))/\((((w.alloc (.cells A TA)).alloc (.cells B TB)).alloc (.cells C TC)).alloc (.cells D TD)).heap[w.heap.size+1+1+1]? =some (.cells D TD (0,0))/\
  Below w.heap.size w ((((w.alloc (.cells A TA)).alloc (.cells B TB)).alloc (.cells C TC)).alloc (.cells D TD))/\((((w.alloc (.cells A TA)).alloc (.cells B TB)).alloc (.cells C TC)).alloc (.cells D TD)).heap.size=w.heap.size+4:=by
 obtain ⟨h1,h2,h3,h4⟩:=box3 w A TA B TB C TC;have hs:(((w.alloc (.cells A TA)).alloc (.cells B TB)).alloc (.cells C TC)).heap.size=w.heap.size+3:=by rw[<-Q5, <-Q5, <-Q5]
 exact ⟨by rw[eJ_ _ _ _ (by omega)];exact h1,by rw[eJ_ _ _ _ (by omega)];exact h2,by rw[eJ_ _ _ _ (by omega)];exact h3,XE _ _ _ hs.symm,h4.alloc (by omega) _,by rw[<-Q5,hs]⟩
theorem Gm {vy:Value} (hx:Num w vx x) (hy:Num w vy y) {K:Nat} (bx:Bd K x) (by_:Bd K y) (hK:K<=1000000):Calls prog 64 #[vx,vy] w fun e w'=> ∃ v',e= .returned v'/\Num w' v' (x*y)/\Below w.heap.size w w':=
 Q3x hx hy (by have:=bx.len;omega) (by have:=by_.len;omega)
theorem YX (hx:Num w vx x) (hr:w.heap[r]? =some (.cells #[.bool b,s] 27 (0,0))) (hy:Num w (.agg #[.bool b,s]) y) {K:Nat} (bx:Bd K x) (by_:Bd K y) (hK:K<=1000000):
  Calls prog 63 #[vx,.slice (some ⟨r,0,none⟩) 1 1] w fun e w'=> ∃ v',e= .returned v'/\Num w' v' (x+y)/\Below w.heap.size w w':=by
 refine (Q3G hx (Q6T hr hy (rl_ _)) (by simp) (K+1) (by omega) (by have:=bx.len;omega) (fun z hz=> ?_) (fun k hk=> ?_)).mono fun e w' ⟨v',h1,h2,h3⟩=> ⟨v',h1,by simpa using h2,h3⟩
 ·rw[List.mem_singleton.1 hz];have:=by_.len;omega
 ·rcases Nat.eq_zero_or_pos k with rfl | hk0
  ·have e:x+(([y]:List Int).take 0).sum=x:=(by simp);rw[e];have:=bx.len;omega
  ·have e:x+(([y]:List Int).take k).sum=x+y:=by
    rw[List.take_of_length_le (show ([y]:List Int).length<=k from hk0)];simp
   rw[e];have:=(Bd.add bx by_ (rl_ _)).len;omega
def NumAt (B:Nat) (w0:World) (z:Int) (g:Nat) (W:World):Prop:=∃ b s,W.heap[g]? =some (.cells #[.bool b,s] 27 (0,0))/\Num W (.agg #[.bool b,s]) z/\Below B w0 W/\B<=g
theorem Q5p (hn:Num W (.agg #[.bool b,s]) z) (hb:Below B w0 W) (hB:B<=w0.heap.size):NumAt B w0 z W.heap.size (W.alloc (.cells #[.bool b,s] 27)):=
 ⟨b,s,eD_ _ _,hn.below (Qt _ _),hb.alloc (eE_ hB hb.size) _,eE_ hB hb.size⟩
theorem UZ (hn:Num W (.agg #[.bool b,s]) z) (hb:Below B w0 W) {g:Nat} {cs:Array Value} (hg:W.heap[g]? =some (.cells cs 27 (0,0))) (hs:cs.size=2) (hB:B<=g):NumAt B w0 z g ((W.setCell ⟨g,0,none⟩ (.bool b)).setCell ⟨g,1,none⟩ s):=by
 obtain ⟨a,c,e,_⟩:=hn.form;have he:b=decide (z < 0)/\s= .slice a (wd z).length c:=by
  injection e with e;simpa using e
 obtain ⟨rfl,rfl⟩:=he;obtain ⟨y1,y2,y3⟩:=YR hn hg hs hb hB;exact ⟨_,_,y1,y2,y3,hB⟩
theorem Q1V {T:TypeId} (h:w.heap[g]? =some (.cells cs T (0,0))) (hs:cs.size=3) (x y z:Value):
  ((w.setCell ⟨g,0,none⟩ x).setCell ⟨g,1,none⟩ y).setCell ⟨g,2,none⟩ z=w.setRow g #[x,y,z]:=by
 rw[setCell_eq_setRow w g 0 cs _ (0,0) x h,setCell_eq_setRow _ g 1 _ _ (0,0) y (Qb h),setRow_setRow,setCell_eq_setRow _ g 2 _ _ (0,0) z (Qb h),setRow_setRow];obtain ⟨l⟩:=cs
 match l,hs with
 | [_,_,_],_=> rfl
theorem Q3H {w3:World} (ht:Tm w3 (.agg #[.bool b,s,p]) t) (hg:w3.heap[g]? =some (.cells cs 38 (0,0))) (hs:cs.size=3) (hb:Below B w w3) (hB:B<=g):
  (((w3.setCell ⟨g,0,none⟩ (.bool b)).setCell ⟨g,1,none⟩ s).setCell ⟨g,2,none⟩ p).heap[g]? =some (.cells #[.bool b,s,p] 38 (0,0))/\
  Tm (((w3.setCell ⟨g,0,none⟩ (.bool b)).setCell ⟨g,1,none⟩ s).setCell ⟨g,2,none⟩ p) (.agg #[.bool b,s,p]) t/\Below B w (((w3.setCell ⟨g,0,none⟩ (.bool b)).setCell ⟨g,1,none⟩ s).setCell ⟨g,2,none⟩ p):=by
 rw[Q1V hg hs];exact ⟨Qb hg,ht.frt (Qe hg) (by decide) (by decide) (by decide),Q9 hb hB _⟩
theorem MapO.mono {B B':Nat} {Q:Nat->Prop} {w:World} {m:Nat} {l:Tp.L} (h:MapO B Q w m l) (hB:B'<=B):MapO B' Q w m l:=by
 obtain ⟨h0,v,ss,h1,h2,h3,h4⟩:=h;exact ⟨eE_ hB h0,v,ss,h1,h2,Zw h3 hB,h4⟩
def OffB (B:Nat) (pv:Value) (k:Nat):Prop:=B<=k/\pv.ownBlock≠some k
def AddRel (B:Nat) (pv:Value) (wp:World) (m:Nat) (l u:Tp.L) (n:Int) (k:Nat) (v23:Value) (wr:World):Prop:=
 ∃ i:Nat,v23= .int .i64 (i:Int)/\k=u.length - i/\i<=u.length/\MapO B (OffB B pv) wr m (Tp.addL n l (u.take i))/\FrM (OffB B pv) m wp wr
theorem LW {u:Tp.L} {n:Int} {p:Tp.Nm × Int} (hp:u[i]? =some p):Tp.addL n l (u.take (i+1))=Tp.setz (Tp.addL n l (u.take i)) p.1 (Tp.look (Tp.addL n l (u.take i)) p.1+p.2*n):=by
 rw[List.take_add_one,hp];show Tp.addL n l (u.take i++ [p])=_;rw[Tp.addL,List.foldl_append];rfl
theorem Q3I {pv:Value} {wp wr:World} {u:Tp.L} {base:Nat} (hw:PWords wp u ss) (ho:wp.ownsRow base 112 3 pv u.length (prCells u ss)) {mc:Array Value} (hm:wp.heap[m]? =some (.cells mc 126 (0,0))) (hf:FrM (OffB B pv) m wp wr):RdP wr pv u:=
 ⟨ss,hw.keep fun _ _ h=> hf.rdu hm h,RdB.own (Qk ho fun k hk=> hf.block k (ho.lt k hk).2 (fun e=> by
  obtain ⟨cur,hc⟩:=Qm ho hk;rw[e,hm] at hc;injection hc with hc;injection hc with _ h2 _;exact absurd h2 (by decide)) fun q=> q.1.2 hk)⟩
theorem JQ {n:Int} (ht:Tm w vt t) (hu:Tm w vu u) (hn:Num w vn n) (ot:Tp.Ok t.l) (ou:Tp.Rise u.l) {K:Nat} (st:Sm K t) (su:Sm K u) (sn:Bd K n) (hK:K<=100000):
  Calls prog 55 #[vt,vu,vn] w (TmOut w (Tp.add t u n)):=by
 obtain ⟨at_,ct,pt,rfl,hrt,hpt,_⟩:=ht.form;obtain ⟨au,cu,pu,rfl,hru,hpu,_⟩:=hu.form;obtain ⟨an,cn,rfl,hrn⟩:=hn.form;obtain ⟨nt,hnt⟩:∃ b,decide (t.rest < 0)=b:=⟨_,rfl⟩
 obtain ⟨nu,hnu⟩:∃ b,decide (u.rest < 0)=b:=⟨_,rfl⟩
 obtain ⟨nn,hnn⟩:∃ b,decide (n < 0)=b:=⟨_,rfl⟩
 rw[hnt] at ht |-;rw[hnu] at hu |-;rw[hnn] at hn |-;have hul:(u.l.length:Int)<=100000:=by have:=su.len;omega
 have HH:=h9_ ht hu hn ot ou st su sn hK;have hone:=hpu.one;clear ht hu hn ot ou st su sn hrt hru hrn hpu hnt hnu hnn;rcases hpt with ⟨rfl,he⟩ | ⟨m0,rfl,hm0⟩
 case' inl=>
  have HE:=hd_ he;clear he;go_in;go_wp2_with fail;obtain ⟨V,hV⟩:∃ V,(((w.alloc (.cells #[.bool nt,.slice at_ (wd t.rest).length ct,.pointer none] 38)).alloc (.cells #[.bool nu,.slice au (wd u.rest).length cu,pu] 38)).alloc (.cells #[.bool nn,.slice an (wd n).length cn] 27)).alloc (.cells #[.bool false,.slice none 0 0,.pointer none] 38)=V:=⟨_,rfl⟩
  have hbx:=box4 w #[.bool nt,.slice at_ (wd t.rest).length ct,.pointer none] 38 #[.bool nu,.slice au (wd u.rest).length cu,pu] 38 #[.bool nn,.slice an (wd n).length cn] 27 #[.bool false,.slice none 0 0,.pointer none] 38;rw[hV] at hbx |-;obtain ⟨BV,hBV⟩:∃ BV,V.heap.size=BV:=⟨_,rfl⟩
  rw[hBV] at hbx;have HV:=h2_ hbx hBV;have z0:=Q3 hbx.1 0 rfl;have z1:=Q3 hbx.1 1 rfl;have z2:=Q3 hbx.1 2 rfl;clear hbx hV;refine (Zv V).mono ?_;rintro e w1 ⟨rfl,hm,hb,hlt⟩;rw[hBV] at hm hb hlt |-;have z0:=Q3 ((hb.block _ (show _ < BV by have:=HV.a.2.2.2.2.2;omega)).trans HV.a.1) 0 rfl;have z1:=Q3 ((hb.block _ (show _ < BV by have:=HV.a.2.2.2.2.2;omega)).trans HV.a.1) 1 rfl;have z2:=Q3 ((hb.block _ (show _ < BV by have:=HV.a.2.2.2.2.2;omega)).trans HV.a.1) 2 rfl;have y0:=Q3 ((hb.block _ (show _ < BV by have:=HV.a.2.2.2.2.2;omega)).trans HV.a.2.1) 0 rfl;have y1:=Q3 ((hb.block _ (show _ < BV by have:=HV.a.2.2.2.2.2;omega)).trans HV.a.2.1) 1 rfl;have y2:=Q3 ((hb.block _ (show _ < BV by have:=HV.a.2.2.2.2.2;omega)).trans HV.a.2.1) 2 rfl;have H1:=h2_ hm hb;clear hm hb hlt hBV;dsimp only;go_wp2_with fail;have hX:MapO BV (fun k=> BV<=k) w1 BV t.l/\Below BV V w1:=⟨by rw[HE.o];exact H1.a,H1.B⟩
  obtain ⟨X,hX0⟩:∃ X,w1=X:=⟨_,rfl⟩
  rw[hX0] at hX |-;obtain ⟨m,hm0⟩:∃ m,BV=m:=⟨_,rfl⟩
  have hX:MapO BV (fun k=> BV<=k) X m t.l/\Below BV V X:=hm0 ▸ hX;have hM:m=BV:=hm0.symm;rw[hm0];have HX:=hd_ hX;clear hX hM hX0 hm0;have hwX:Below w.heap.size w X:=HV.a.2.2.2.2.1.trans (HX.B.mono (show w.heap.size<=BV by have:=HV.a.2.2.2.2.2;omega));refine (XC (HH.b.below hwX) (by omega)).mono ?_;rintro e wp ⟨pv,ss,rfl,hw,ho,hb⟩;obtain ⟨ap,cp,rfl⟩:=Qj ho;have hszX:BV<=X.heap.size:=by have h1:=HX.B.size;have h2:=HV.B;omega
  have hm:=(HX.a.imp (R:=OffB BV (.slice ap u.l.length cp)) (fun k hk hq=> ⟨hq,fun e=> by have:=(ho.lt k e).1;omega⟩)).past hb;have hup:∀ W:World,wp.heap.size<=W.heap.size->Up (OffB BV (.slice ap u.l.length cp)) W:=fun W hW k hk=> ⟨by have:=hb.size;omega,fun e=> by have:=(ho.lt k e).2;omega⟩;have hbV:Below BV V wp:=HX.B.trans (hb.mono hszX);obtain ⟨mv,hmc⟩:=hm.cell;have HP:=h8_ hm hw ho hup hbV hmc hszX hb;clear hm hw ho hup hbV hmc hszX hb hwX y0 y1 y2 z0 z1 z2;dsimp only;go_wp2_with fail;go_loopg [23] u.l.length (fun gk v23 wr=> AddRel BV (.slice ap u.l.length cp) wp m t.l u.l n gk v23 wr)
  case atStart=> exact ⟨0,rfl,rfl,eV_ _,HP.a,FrM.refl _ _ _⟩
 case' inr=>
  have HE:=hd_ hm0;clear hm0;go_in;go_wp2_with fail;obtain ⟨V,hV⟩:∃ V,(((w.alloc (.cells #[.bool nt,.slice at_ (wd t.rest).length ct,.pointer (some ⟨m0,0,none⟩)] 38)).alloc (.cells #[.bool nu,.slice au (wd u.rest).length cu,pu] 38)).alloc (.cells #[.bool nn,.slice an (wd n).length cn] 27)).alloc (.cells #[.bool false,.slice none 0 0,.pointer none] 38)=V:=⟨_,rfl⟩
  have hbx:=box4 w #[.bool nt,.slice at_ (wd t.rest).length ct,.pointer (some ⟨m0,0,none⟩)] 38 #[.bool nu,.slice au (wd u.rest).length cu,pu] 38 #[.bool nn,.slice an (wd n).length cn] 27 #[.bool false,.slice none 0 0,.pointer none] 38;rw[hV] at hbx |-;obtain ⟨BV,hBV⟩:∃ BV,V.heap.size=BV:=⟨_,rfl⟩
  rw[hBV] at hbx;have HV:=h2_ hbx hBV;have z0:=Q3 hbx.1 0 rfl;have z1:=Q3 hbx.1 1 rfl;have z2:=Q3 hbx.1 2 rfl;clear hbx hV;refine (Zv V).mono ?_;rintro e w1 ⟨rfl,hm,hb,hlt⟩;rw[hBV] at hm hb hlt |-;have z0:=Q3 ((hb.block _ (show _ < BV by have:=HV.a.2.2.2.2.2;omega)).trans HV.a.1) 0 rfl;have z1:=Q3 ((hb.block _ (show _ < BV by have:=HV.a.2.2.2.2.2;omega)).trans HV.a.1) 1 rfl;have z2:=Q3 ((hb.block _ (show _ < BV by have:=HV.a.2.2.2.2.2;omega)).trans HV.a.1) 2 rfl;have y0:=Q3 ((hb.block _ (show _ < BV by have:=HV.a.2.2.2.2.2;omega)).trans HV.a.2.1) 0 rfl;have y1:=Q3 ((hb.block _ (show _ < BV by have:=HV.a.2.2.2.2.2;omega)).trans HV.a.2.1) 1 rfl;have y2:=Q3 ((hb.block _ (show _ < BV by have:=HV.a.2.2.2.2.2;omega)).trans HV.a.2.1) 2 rfl;have H1:=h2_ hm hb;clear hm hb hlt hBV;dsimp only;go_wp2_with fail;refine (Q3E ((HE.o.below (HV.a.2.2.2.2.1.trans (H1.B.mono (show w.heap.size<=BV by have:=HV.a.2.2.2.2.2;omega))))) (by have:=HH.f.len;have:=HH.I;omega)).mono ?_;rintro e X ⟨m,rfl,hm,hb⟩;have hsz:BV<=w1.heap.size:=by have h1:=H1.B.size;have h2:=HV.B;omega
  have hX:MapO BV (fun k=> BV<=k) X m t.l/\Below BV V X:=⟨(hm.mono hsz).imp fun k _ hk=> eE_ hsz hk,H1.B.trans (hb.mono hsz)⟩
  clear y0 y1 y2;have y0:=Q3 ((hX.2.block _ (show _ < BV by have:=HV.a.2.2.2.2.2;omega)).trans HV.a.2.1) 0 rfl;have y1:=Q3 ((hX.2.block _ (show _ < BV by have:=HV.a.2.2.2.2.2;omega)).trans HV.a.2.1) 1 rfl;have y2:=Q3 ((hX.2.block _ (show _ < BV by have:=HV.a.2.2.2.2.2;omega)).trans HV.a.2.1) 2 rfl;have HX:=hd_ hX;clear hX hm hb hsz z0 z1 z2;dsimp only;go_wp2_with fail;have hwX:Below w.heap.size w X:=HV.a.2.2.2.2.1.trans (HX.B.mono (show w.heap.size<=BV by have:=HV.a.2.2.2.2.2;omega));refine (XC (HH.b.below hwX) (by omega)).mono ?_;rintro e wp ⟨pv,ss,rfl,hw,ho,hb⟩;obtain ⟨ap,cp,rfl⟩:=Qj ho;have hszX:BV<=X.heap.size:=by have h1:=HX.B.size;have h2:=HV.B;omega
  have hm:=(HX.a.imp (R:=OffB BV (.slice ap u.l.length cp)) (fun k hk hq=> ⟨hq,fun e=> by have:=(ho.lt k e).1;omega⟩)).past hb;have hup:∀ W:World,wp.heap.size<=W.heap.size->Up (OffB BV (.slice ap u.l.length cp)) W:=fun W hW k hk=> ⟨by have:=hb.size;omega,fun e=> by have:=(ho.lt k e).2;omega⟩;have hbV:Below BV V wp:=HX.B.trans (hb.mono hszX);obtain ⟨mv,hmc⟩:=hm.cell;have HP:=h8_ hm hw ho hup hbV hmc hszX hb;clear hm hw ho hup hbV hmc hszX hb hwX y0 y1 y2;dsimp only;go_wp2_with fail;go_loopg [23] u.l.length (fun gk v23 wr=> AddRel BV (.slice ap u.l.length cp) wp m t.l u.l n gk v23 wr)
  case atStart=> exact ⟨0,rfl,rfl,eV_ _,HP.a,FrM.refl _ _ _⟩
 case inl | inr=>
  obtain ⟨i,rfl,hk,hi,hm,hf⟩:=hrel;have hmB:BV<=m:=HX.a.1;have hbr:Below BV wp wr:=hf.below hmB (fun k hk=> hk.1) (eE_ HP.g HP.H.size);have hbVr:Below BV V wr:=HP.e.trans hbr;have hn3:=(hbVr.block _ (show w.heap.size+1+1 < BV by have:=HV.a.2.2.2.2.2;omega)).trans HV.a.2.2.1;have hwr:Below w.heap.size w wr:=HV.a.2.2.2.2.1.trans (hbVr.mono (show w.heap.size<=BV by have:=HV.a.2.2.2.2.2;omega));have hrow:=Q3I HP.b HP.c HP.f hf;have HR:=h6_ hk hm hf hbVr hn3 hwr;clear hk hm hf hbr hbVr hn3 hwr hmB;by_cases hlt:i < u.l.length
  ·have hlt':(i:Int) < (u.l.length:Int):=(by omega);obtain ⟨p,hp⟩:∃ p,u.l[i]? =some p:=⟨_,eA_ hlt⟩
   obtain ⟨b,off,s,ea,c0,c1,c2,hs⟩:=hrow.at hp;obtain rfl:=ea;obtain ⟨aw,cw,rfl,_⟩:=hs.form;obtain ⟨np,hnp⟩:∃ b,decide (p.2 < 0)=b:=⟨_,rfl⟩
   have hnum:Num wr (.agg #[.bool np,.slice aw (wd p.2).length cw]) p.2:=⟨_,by rw[hnp],hs⟩
   rw[hnp] at c1;have HQ:=h2_ hp hnum;clear hp hs hrow hnp hnum hlt;go_wp2_with fail;obtain ⟨W3,hW3⟩:∃ W,wr.alloc (.cells #[.string ⟨p.1.toArray⟩,.bool np,.slice aw (wd p.2).length cw] 112)=W:=⟨_,rfl⟩
   have hbx:=box1 wr #[.string ⟨p.1.toArray⟩,.bool np,.slice aw (wd p.2).length cw] 112;rw[hW3] at hbx |-;have H3:=hd_ hbx;clear hbx hW3 c0 c1 c2;refine (Q5o (HR.b.read.below H3.B) (Tp.Zj n _ HH.d).rise (by have h1:=Ua n (u.l.take i) t.l;have h2:=HH.f.len;have h3:=HH.I;rw[eN_] at h1;omega) p.1).mono ?_;rintro e w4 ⟨v4,rfl,hn4,hb4⟩;obtain ⟨a4,c4,rfl,_⟩:=hn4.form;obtain ⟨x,hx⟩:∃ x,Tp.look (Tp.addL n t.l (u.l.take i)) p.1=x:=⟨_,rfl⟩
   rw[hx] at hn4 |-;obtain ⟨n4,hn4b⟩:∃ b,decide (x < 0)=b:=⟨_,rfl⟩
   rw[hn4b] at hn4 |-;have H4:=h3_ hn4 hb4 hx;clear hn4 hb4 hx hn4b;dsimp only;go_wp2_with fail;obtain ⟨W5,hW5⟩:∃ W,w4.alloc (.cells #[.bool n4,.slice a4 (wd x).length c4] 27)=W:=⟨_,rfl⟩
   have hbx:=box1 w4 #[.bool n4,.slice a4 (wd x).length c4] 27;rw[hW5] at hbx |-;have hb35:Below W3.heap.size W3 W5:=H4.b.trans (hbx.2.mono H4.b.size);have hbr5:Below wr.heap.size wr W5:=H3.B.trans (hb35.mono H3.B.size);have h9:=(hb35.block _ (Q4 H3.a)).trans H3.a;have hn5:=(hbr5.block _ (Q4 HR.e)).trans HR.e;have h10:=hbx.1;have mkS:∀ W:World,Below (W5.heap.size) W5 W->Below (W5.heap.size) W5 W/\W.cell? ⟨w4.heap.size,0,none⟩=some (.bool n4)/\W.cell? ⟨w4.heap.size,1,none⟩=some (.slice a4 (wd x).length c4)/\W.cell? ⟨wr.heap.size,1,none⟩=some (.bool np)/\W.cell? ⟨wr.heap.size,2,none⟩=some (.slice aw (wd p.2).length cw)/\W.cell? ⟨w.heap.size+1+1,0,none⟩=some (.bool nn)/\W.cell? ⟨w.heap.size+1+1,1,none⟩=some (.slice an (wd n).length cn):=fun W hb=> ⟨hb,Q3 ((hb.block _ (Q4 h10)).trans h10) 0 rfl,Q3 ((hb.block _ (Q4 h10)).trans h10) 1 rfl,Q3 ((hb.block _ (Q4 h9)).trans h9) 1 rfl,Q3 ((hb.block _ (Q4 h9)).trans h9) 2 rfl,Q3 ((hb.block _ (Q4 hn5)).trans hn5) 0 rfl,Q3 ((hb.block _ (Q4 hn5)).trans hn5) 1 rfl⟩;have nx:=H4.a.below hbx.2;have np5:=HQ.B.below hbr5;have nn5:=HH.c.below (HR.F.trans (hbr5.mono HR.F.size));have hacc:=Sm.addL HH.f.l HH.d (u:=u.l.take i) (fun q hq=> HH.g.l q (List.mem_of_mem_take hq)) (List.Pairwise.sublist (List.take_sublist i _) HH.e) HH.h;have bx:Bd (K+K+K+1) x:=(by rw[<-H4.C];exact Sm.look hacc p.1);have bp:Bd K p.2:=HH.g.l p (eP_ HQ.a);obtain ⟨y,hy⟩:∃ y,p.2*n=y:=⟨_,rfl⟩
   have by_:Bd (K+K+K+1) y:=(by rw[<-hy];exact Bd.mul bp HH.h (by omega));have hK1:K+K+K+1<=1000000:=(by have:=HH.I;omega);have H5:=h10_ nx np5 nn5 bx bp by_ hK1 hy hbr5 h9;have HS:=hd_ mkS;clear hbx hW5 hb35 hbr5 h9 hn5 h10 nx np5 nn5 hacc bx bp hy by_ hK1 mkS;go_region_held3 (fun w'=> Below (W5.heap.size) W5 w'/\w'.cell? ⟨w4.heap.size,0,none⟩=some (.bool n4)/\w'.cell? ⟨w4.heap.size,1,none⟩=some (.slice a4 (wd x).length c4)/\w'.cell? ⟨wr.heap.size,1,none⟩=some (.bool np)/\w'.cell? ⟨wr.heap.size,2,none⟩=some (.slice aw (wd p.2).length cw)/\w'.cell? ⟨w.heap.size+1+1,0,none⟩=some (.bool nn)/\w'.cell? ⟨w.heap.size+1+1,1,none⟩=some (.slice an (wd n).length cn)) (first | exact HS.o _ ((eB_ _ _).drew) | exact HS.o _ (YG (by assumption) (rl_ _) _) | exact HS.o _ hb7 | exact HS.o _ hb9 | exact HS.o _ (hb9.alloc (eE_ (rl_ _) hb9.size) _) | exact HS.o _ (Dt (QJ (by assumption)) (by first | exact rl_ _ | exact hb7.size | exact Nat.le_succ_of_le hb7.size) _ _)) ((first | (go_at_call 64;refine eH_ (Gm (H5.b.below (QJ (by assumption))) (H5.c.below (QJ (by assumption))) H5.e HH.h (by have:=H5.g;omega)) ?_;rintro e w6 ⟨v6,rfl,hr6,hb6⟩;have hb7:Below (W5.heap.size) W5 w6:=Xa hb6 (by assumption) (rl_ _);rw[H5.h] at hr6;obtain ⟨a6,c6,rfl,_⟩:=hr6.form;obtain ⟨n6,hn6⟩:∃ b,decide (y < 0)=b:=⟨_,rfl⟩;rw[hn6] at hr6 |-;clear hn6;(first | (have hz6:=(hb6.block _ (Q4 (eD_ W5 (.cells #[.bool false,.slice none 0 0] 27)))).trans (eD_ W5 (.cells #[.bool false,.slice none 0 0] 27))) | skip);have H6:=hd_ hr6;clear hr6 hb6) | (go_at_call 63;refine eH_ (YX (H5.a.below (QJ (by assumption))) (XE _ _ _ rfl) (H6.o.below (Qt _ _)) H5.d H5.f H5.g) ?_;rintro e w7 ⟨v7,rfl,hr8,hb8⟩;have hb9:Below (W5.heap.size) W5 w7:=Xa hb8 (by assumption) (rl_ _);obtain ⟨a7,c7,rfl,_⟩:=hr8.form;obtain ⟨n7,hn7⟩:∃ b,decide (x+y < 0)=b:=⟨_,rfl⟩;rw[hn7] at hr8 |-;clear hn7;(first | (have hz8:w7.heap[W5.heap.size]? =some (.cells #[.bool false,.slice none 0 0] 27 (0,0)):=(hb8.block _ (Q4 ((eJ_ _ _ _ (Q4 hz6)).trans hz6))).trans ((eJ_ _ _ _ (Q4 hz6)).trans hz6);have r0:=Q3 hz8 0 rfl;have r1:=Q3 hz8 1 rfl;have z0:=Q6 hz8 0;have z1:=Q6 hz8 1) | (have hz8:w7.heap[w6.heap.size]? =some (.cells #[.bool false,.slice none 0 0] 27 (0,0)):=(hb8.block _ (Q4 ((eJ_ _ _ _ (Z2 w6 (.cells #[.bool false,.slice none 0 0] 27))).trans (eD_ w6 (.cells #[.bool false,.slice none 0 0] 27))))).trans ((eJ_ _ _ _ (Z2 w6 (.cells #[.bool false,.slice none 0 0] 27))).trans (eD_ w6 (.cells #[.bool false,.slice none 0 0] 27)));have r0:=Q3 hz8 0 rfl;have r1:=Q3 hz8 1 rfl;have z0:=Q6 hz8 0;have z1:=Q6 hz8 1) | (have hz8:w7.heap[w6.heap.size+1]? =some (.cells #[.bool false,.slice none 0 0] 27 (0,0)):=(by rw[Q5 w6 (.cells #[.bool n6,.slice a6 (wd y).length c6] 27)];exact (hb8.block _ (Q4 (eD_ (w6.alloc (.cells #[.bool n6,.slice a6 (wd y).length c6] 27)) (.cells #[.bool false,.slice none 0 0] 27)))).trans (eD_ (w6.alloc (.cells #[.bool n6,.slice a6 (wd y).length c6] 27)) (.cells #[.bool false,.slice none 0 0] 27)));have r0:=Q3 hz8 0 rfl;have r1:=Q3 hz8 1 rfl;have z0:=Q6 hz8 0;have z1:=Q6 hz8 1) | skip);have H8:=hd_ hr8;clear hr8 hb8) | (go_at_call 63;refine eH_ (YX (H5.a.below (QJ (by assumption))) (XE _ _ _ (Q5 _ _)) (H6.o.below (Y5 _ _ _)) H5.d H5.f H5.g) ?_;rintro e w7 ⟨v7,rfl,hr8,hb8⟩;have hb9:Below (W5.heap.size) W5 w7:=Xa hb8 (by assumption) (rl_ _);obtain ⟨a7,c7,rfl,_⟩:=hr8.form;obtain ⟨n7,hn7⟩:∃ b,decide (x+y < 0)=b:=⟨_,rfl⟩;rw[hn7] at hr8 |-;clear hn7;(first | (have hz8:w7.heap[W5.heap.size]? =some (.cells #[.bool false,.slice none 0 0] 27 (0,0)):=(hb8.block _ (Q4 ((eJ_ _ _ _ (Q4 hz6)).trans hz6))).trans ((eJ_ _ _ _ (Q4 hz6)).trans hz6);have r0:=Q3 hz8 0 rfl;have r1:=Q3 hz8 1 rfl;have z0:=Q6 hz8 0;have z1:=Q6 hz8 1) | (have hz8:w7.heap[w6.heap.size]? =some (.cells #[.bool false,.slice none 0 0] 27 (0,0)):=(hb8.block _ (Q4 ((eJ_ _ _ _ (Z2 w6 (.cells #[.bool false,.slice none 0 0] 27))).trans (eD_ w6 (.cells #[.bool false,.slice none 0 0] 27))))).trans ((eJ_ _ _ _ (Z2 w6 (.cells #[.bool false,.slice none 0 0] 27))).trans (eD_ w6 (.cells #[.bool false,.slice none 0 0] 27)));have r0:=Q3 hz8 0 rfl;have r1:=Q3 hz8 1 rfl;have z0:=Q6 hz8 0;have z1:=Q6 hz8 1) | (have hz8:w7.heap[w6.heap.size+1]? =some (.cells #[.bool false,.slice none 0 0] 27 (0,0)):=(by rw[Q5 w6 (.cells #[.bool n6,.slice a6 (wd y).length c6] 27)];exact (hb8.block _ (Q4 (eD_ (w6.alloc (.cells #[.bool n6,.slice a6 (wd y).length c6] 27)) (.cells #[.bool false,.slice none 0 0] 27)))).trans (eD_ (w6.alloc (.cells #[.bool n6,.slice a6 (wd y).length c6] 27)) (.cells #[.bool false,.slice none 0 0] 27)));have r0:=Q3 hz8 0 rfl;have r1:=Q3 hz8 1 rfl;have z0:=Q6 hz8 0;have z1:=Q6 hz8 1) | skip);have H8:=hd_ hr8;clear hr8 hb8) | (go_at_call 63;refine eH_ (YX (H5.a.below (QJ (by assumption))) ((eJ_ _ _ _ (Z2 _ _)).trans (eD_ _ _)) (H6.o.below (Y5 _ _ _)) H5.d H5.f H5.g) ?_;rintro e w7 ⟨v7,rfl,hr8,hb8⟩;have hb9:Below (W5.heap.size) W5 w7:=Xa hb8 (by assumption) (rl_ _);obtain ⟨a7,c7,rfl,_⟩:=hr8.form;obtain ⟨n7,hn7⟩:∃ b,decide (x+y < 0)=b:=⟨_,rfl⟩;rw[hn7] at hr8 |-;clear hn7;(first | (have hz8:w7.heap[W5.heap.size]? =some (.cells #[.bool false,.slice none 0 0] 27 (0,0)):=(hb8.block _ (Q4 ((eJ_ _ _ _ (Q4 hz6)).trans hz6))).trans ((eJ_ _ _ _ (Q4 hz6)).trans hz6);have r0:=Q3 hz8 0 rfl;have r1:=Q3 hz8 1 rfl;have z0:=Q6 hz8 0;have z1:=Q6 hz8 1) | (have hz8:w7.heap[w6.heap.size]? =some (.cells #[.bool false,.slice none 0 0] 27 (0,0)):=(hb8.block _ (Q4 ((eJ_ _ _ _ (Z2 w6 (.cells #[.bool false,.slice none 0 0] 27))).trans (eD_ w6 (.cells #[.bool false,.slice none 0 0] 27))))).trans ((eJ_ _ _ _ (Z2 w6 (.cells #[.bool false,.slice none 0 0] 27))).trans (eD_ w6 (.cells #[.bool false,.slice none 0 0] 27)));have r0:=Q3 hz8 0 rfl;have r1:=Q3 hz8 1 rfl;have z0:=Q6 hz8 0;have z1:=Q6 hz8 1) | (have hz8:w7.heap[w6.heap.size+1]? =some (.cells #[.bool false,.slice none 0 0] 27 (0,0)):=(by rw[Q5 w6 (.cells #[.bool n6,.slice a6 (wd y).length c6] 27)];exact (hb8.block _ (Q4 (eD_ (w6.alloc (.cells #[.bool n6,.slice a6 (wd y).length c6] 27)) (.cells #[.bool false,.slice none 0 0] 27)))).trans (eD_ (w6.alloc (.cells #[.bool n6,.slice a6 (wd y).length c6] 27)) (.cells #[.bool false,.slice none 0 0] 27)));have r0:=Q3 hz8 0 rfl;have r1:=Q3 hz8 1 rfl;have z0:=Q6 hz8 0;have z1:=Q6 hz8 1) | skip);have H8:=hd_ hr8;clear hr8 hb8)))
   all_goals (
    first
     | (obtain ⟨W8,hW8⟩:∃ W,w7.alloc (.cells #[.bool n7,.slice a7 (wd (x+y)).length c7] 27)=W:=⟨_,rfl⟩;have hfin:NumAt W5.heap.size W5 (x+y) (w7.heap.size) (w7.alloc (.cells #[.bool n7,.slice a7 (wd (x+y)).length c7] 27)):=Q5p H8.o hb9 (rl_ _);rw[hW8] at hfin |-;clear hW8;obtain ⟨b8,s8,hg,hn,hb8,-⟩:=hfin;have hkey:=(hb8.block _ (Q4 H5.J)).trans H5.J;have hfr:Below wr.heap.size wr W8:=H5.i.trans (hb8.mono H5.i.size);clear hb8;obtain ⟨g8,hg8⟩:∃ g,w7.heap.size=g:=⟨_,rfl⟩;rw[hg8] at hg |-;clear hg8)
     | (obtain ⟨W8,hW8⟩:∃ W,(w7.setCell ⟨w6.heap.size+1,0,none⟩ (.bool n7)).setCell ⟨w6.heap.size+1,1,none⟩ (.slice a7 (wd (x+y)).length c7)=W:=⟨_,rfl⟩;have hfin:NumAt W5.heap.size W5 (x+y) (w6.heap.size+1) ((w7.setCell ⟨w6.heap.size+1,0,none⟩ (.bool n7)).setCell ⟨w6.heap.size+1,1,none⟩ (.slice a7 (wd (x+y)).length c7)):=UZ H8.o hb9 hz8 rfl (Nat.le_succ_of_le hb7.size);rw[hW8] at hfin |-;clear hW8;obtain ⟨b8,s8,hg,hn,hb8,-⟩:=hfin;have hkey:=(hb8.block _ (Q4 H5.J)).trans H5.J;have hfr:Below wr.heap.size wr W8:=H5.i.trans (hb8.mono H5.i.size);clear hb8;obtain ⟨g8,hg8⟩:∃ g,w6.heap.size+1=g:=⟨_,rfl⟩;rw[hg8] at hg |-;clear hg8)
     | (obtain ⟨W8,hW8⟩:∃ W,(w7.setCell ⟨w6.heap.size,0,none⟩ (.bool n7)).setCell ⟨w6.heap.size,1,none⟩ (.slice a7 (wd (x+y)).length c7)=W:=⟨_,rfl⟩;have hfin:NumAt W5.heap.size W5 (x+y) (w6.heap.size) ((w7.setCell ⟨w6.heap.size,0,none⟩ (.bool n7)).setCell ⟨w6.heap.size,1,none⟩ (.slice a7 (wd (x+y)).length c7)):=UZ H8.o hb9 hz8 rfl hb7.size;rw[hW8] at hfin |-;clear hW8;obtain ⟨b8,s8,hg,hn,hb8,-⟩:=hfin;have hkey:=(hb8.block _ (Q4 H5.J)).trans H5.J;have hfr:Below wr.heap.size wr W8:=H5.i.trans (hb8.mono H5.i.size);clear hb8;obtain ⟨g8,hg8⟩:∃ g,w6.heap.size=g:=⟨_,rfl⟩;rw[hg8] at hg |-;clear hg8)
     | (obtain ⟨W8,hW8⟩:∃ W,(w7.setCell ⟨W5.heap.size,0,none⟩ (.bool n7)).setCell ⟨W5.heap.size,1,none⟩ (.slice a7 (wd (x+y)).length c7)=W:=⟨_,rfl⟩;have hfin:NumAt W5.heap.size W5 (x+y) (W5.heap.size) ((w7.setCell ⟨W5.heap.size,0,none⟩ (.bool n7)).setCell ⟨W5.heap.size,1,none⟩ (.slice a7 (wd (x+y)).length c7)):=UZ H8.o hb9 hz8 rfl (rl_ _);rw[hW8] at hfin |-;clear hW8;obtain ⟨b8,s8,hg,hn,hb8,-⟩:=hfin;have hkey:=(hb8.block _ (Q4 H5.J)).trans H5.J;have hfr:Below wr.heap.size wr W8:=H5.i.trans (hb8.mono H5.i.size);clear hb8;obtain ⟨g8,hg8⟩:∃ g,W5.heap.size=g:=⟨_,rfl⟩;rw[hg8] at hg |-;clear hg8)
    rename_i hh;clear hh;have e0:=Q3 hg 0 rfl;have e1:=Q3 hg 1 rfl;have H9:=h4_ hg hn hkey hfr;clear hg hn hkey hfr hb7 hb9;(try clear r0 r1 z0 z1 hz8);(try clear hz6);go_wp2_with fail;refine (Xb H9.b).mono ?_;rintro e w9 ⟨rfl,hb⟩;clear e0 e1;have hfr9:=H9.D.trans (hb.mono H9.D.size);have hg9:=(hb.block _ (Q4 H9.a)).trans H9.a;have hk9:=(hb.block _ (Q4 H9.c)).trans H9.c;have hn9:=H9.b.below hb;have e0:=Q3 hg9 0 rfl;have e1:=Q3 hg9 1 rfl;have k0:=Q3 hk9 0 rfl;have hm9:=HR.b.past hfr9;have hf9:=HR.c.trans (FrM.of hfr9);have hacl:(Tp.addL n t.l (u.l.take i)).length<=999999:=(by have h1:=Ua n (u.l.take i) t.l;have h2:=HH.f.len;have h3:=HH.I;rw[eN_] at h1;omega);have hup9:=HP.d w9 hf9.size;have hBV9:BV<=w9.heap.size:=eE_ HP.g (eE_ HP.H.size hf9.size);have H10:=h6_ hn9 hm9 hf9 hacl hup9 hBV9;clear hfr9 hg9 hk9 hn9 hm9 hf9 hacl hup9 hBV9 hb;dsimp only;by_cases hz:x+y=0
    ·have hsg:(sgn (x+y)==0)=true:=(by rw[YC.2 hz];rfl);have HZ:=hd_ hz;clear hz;go_wp2_with fail;refine (Q3F H10.b H10.e (Tp.Zj n _ HH.d).rise (by have:=H10.d;omega) p.1).mono ?_;rintro e w10 ⟨rfl,hm10,hf10⟩;have H11:=h2_ hm10 hf10;clear hm10 hf10 e0 e1 k0 hsg;dsimp only;go_wp2_with fail;go_roundg (u.l.length - (i+1))
     case measure=> have:=HR.a;omega
     case rel=> exact ⟨i+1,by go_num,rfl,by omega,by rw[LW HQ.a,H4.C,H5.h,Tp.setz,if_pos HZ.o];exact H11.a,H10.c.trans H11.B⟩
    ·have hsg:(sgn (x+y)==0)=false:=beq_false_of_ne fun e=> hz (YC.1 e);have HZ:=hd_ hz;clear hz;go_wp2_with fail;refine (Jj H10.b H10.e (Tp.Zj n _ HH.d).rise H10.d H10.F p.1 H10.a).mono ?_;rintro e w10 ⟨rfl,hm10,hf10⟩;have H11:=h2_ hm10 hf10;clear hm10 hf10 e0 e1 k0 hsg;dsimp only;go_wp2_with fail;go_roundg (u.l.length - (i+1))
     case measure=> have:=HR.a;omega
     case rel=> exact ⟨i+1,by go_num,rfl,by omega,by rw[LW HQ.a,H4.C,H5.h,Tp.setz,if_neg HZ.o];exact H11.a,H10.c.trans H11.B⟩)
  ·obtain rfl:u.l.length=i:=(by omega);have hA:=(HR.d.block _ (show w.heap.size < BV by have:=HV.a.2.2.2.2.2;omega)).trans HV.a.1;have hB:=(HR.d.block _ (show w.heap.size+1 < BV by have:=HV.a.2.2.2.2.2;omega)).trans HV.a.2.1;have hC:=(HR.d.block _ (show w.heap.size+1+1 < BV by have:=HV.a.2.2.2.2.2;omega)).trans HV.a.2.2.1;have hD:=(HR.d.block _ (show w.heap.size+1+1+1 < BV by have:=HV.a.2.2.2.2.2;omega)).trans HV.a.2.2.2.1;have hBB:w.heap.size+1+1+1<=wr.heap.size:=(by have h1:=HR.d.size;have h2:=HV.B;have h3:=HV.a.2.2.2.2.2;omega);have mkS:∀ W:World,Below (w.heap.size+1+1+1) wr W->Below (w.heap.size+1+1+1) wr W/\W.cell? ⟨w.heap.size,0,none⟩=some (.bool nt)/\W.cell? ⟨w.heap.size,1,none⟩=some (.slice at_ (wd t.rest).length ct)/\W.cell? ⟨w.heap.size+1,0,none⟩=some (.bool nu)/\W.cell? ⟨w.heap.size+1,1,none⟩=some (.slice au (wd u.rest).length cu)/\W.cell? ⟨w.heap.size+1+1,0,none⟩=some (.bool nn)/\W.cell? ⟨w.heap.size+1+1,1,none⟩=some (.slice an (wd n).length cn):=fun W hb=> ⟨hb,Q3 ((hb.block _ (by omega)).trans hA) 0 rfl,Q3 ((hb.block _ (by omega)).trans hA) 1 rfl,Q3 ((hb.block _ (by omega)).trans hB) 0 rfl,Q3 ((hb.block _ (by omega)).trans hB) 1 rfl,Q3 ((hb.block _ (by omega)).trans hC) 0 rfl,Q3 ((hb.block _ (by omega)).trans hC) 1 rfl⟩;have nt5:=HH.a.num.below HR.F;have nu5:=HH.b.num.below HR.F;have nn5:=HH.c.below HR.F;obtain ⟨y,hy⟩:∃ y,u.rest*n=y:=⟨_,rfl⟩
   have bx:Bd (K+K+K+1) t.rest:=HH.f.rest.mono (by omega);have by_:Bd (K+K+K+1) y:=(by rw[<-hy];exact Bd.mul HH.g.rest HH.h (by omega));have hK1:K+K+K+1<=1000000:=(by have:=HH.I;omega);have H5:=h10_ nt5 nu5 nn5 bx HH.g.rest by_ hK1 hy hBB hD;have HS:=hd_ mkS;clear hA hB hC hD hBB mkS nt5 nu5 nn5 hy bx by_ hK1;go_wp2_with fail;go_region_held3 (fun w'=> Below (w.heap.size+1+1+1) wr w'/\w'.cell? ⟨w.heap.size,0,none⟩=some (.bool nt)/\w'.cell? ⟨w.heap.size,1,none⟩=some (.slice at_ (wd t.rest).length ct)/\w'.cell? ⟨w.heap.size+1,0,none⟩=some (.bool nu)/\w'.cell? ⟨w.heap.size+1,1,none⟩=some (.slice au (wd u.rest).length cu)/\w'.cell? ⟨w.heap.size+1+1,0,none⟩=some (.bool nn)/\w'.cell? ⟨w.heap.size+1+1,1,none⟩=some (.slice an (wd n).length cn)) (first | exact HS.o _ ((eB_ _ _).drew) | exact HS.o _ (YG (by assumption) H5.i _) | exact HS.o _ hb7 | exact HS.o _ hb9 | exact HS.o _ (hb9.alloc (eE_ H5.i hb9.size) _) | exact HS.o _ (Zx (QJ (by assumption)) (rl_ _) _ _ _)) ((first | (go_at_call 64;refine eH_ (Gm (H5.b.below (Qf (B:=wr.heap.size) wr 1)) (H5.c.below (Qf (B:=wr.heap.size) wr 1)) H5.e HH.h (by have:=H5.g;omega)) ?_;rintro e w6 ⟨v6,rfl,hr6,hb6⟩;have hb7:Below (w.heap.size+1+1+1) wr w6:=Xa hb6 (by assumption) H5.i;rw[H5.h] at hr6;obtain ⟨a6,c6,rfl,_⟩:=hr6.form;obtain ⟨n6,hn6⟩:∃ b,decide (y < 0)=b:=⟨_,rfl⟩;rw[hn6] at hr6 |-;clear hn6;have hs7:Below wr.heap.size wr w6:=(Qf (B:=wr.heap.size) wr 1).trans hb6;have H6:=hd_ hr6;clear hr6 hb6) | (go_at_call 63;refine eH_ (YX (H5.a.below (hs7.alloc hs7.size _)) (XE _ _ _ rfl) (H6.o.below (Qt _ _)) H5.d H5.f H5.g) ?_;rintro e w7 ⟨v7,rfl,hr8,hb8⟩;have hb9:Below (w.heap.size+1+1+1) wr w7:=Xa hb8 (by assumption) H5.i;obtain ⟨a7,c7,rfl,_⟩:=hr8.form;obtain ⟨n7,hn7⟩:∃ b,decide (t.rest+y < 0)=b:=⟨_,rfl⟩;rw[hn7] at hr8 |-;clear hn7;have hs9:Below wr.heap.size wr w7:=(hs7.alloc hs7.size _).trans (hb8.mono (eE_ hs7.size (Nat.le_of_lt (Z2 _ _))));have hz8:=(hs9.block _ (Q4 H5.J)).trans H5.J;have r0:=Q3 hz8 0 rfl;have r1:=Q3 hz8 1 rfl;have r2:=Q3 hz8 2 rfl;have z0:=Q6 hz8 0;have z1:=Q6 hz8 1;have z2:=Q6 hz8 2;have H8:=hd_ hr8;clear hr8 hb8)));rename_i hh;clear hh;have htm:Tm w7 (.agg #[.bool n7,.slice a7 (wd (t.rest+y)).length c7,.pointer (some ⟨m,0,none⟩)]) (Tp.add t u n):=Tm.of (by show Num w7 _ (t.rest+u.rest*n);rw[H5.h];exact H8.o) (Or.inr ⟨m,rfl,by have h1:=HR.b.read.below hs9;rw[List.take_length] at h1;exact h1⟩);have hbw:Below w.heap.size w w7:=HR.F.trans (hs9.mono HR.F.size);obtain ⟨y1,y2,y3⟩:=Q3H htm hz8 rfl hbw (show w.heap.size<=w.heap.size+1+1+1 by omega);have HF:=h3_ y1 y2 y3;clear y1 y2 y3 htm hbw hs7 hs9 hz8 r0 r1 r2 z0 z1 z2 hb7 hb9;go_wp2_with fail;refine eG_ (UY rfl rfl HF.a rfl) rfl ?_;exact ⟨_,rfl,HF.b,HF.C⟩
theorem Ql (h:Tm w v t):∃ b a c o,v= .agg #[.bool b,.slice a (wd t.rest).length c,.pointer o]/\Tm w (.agg #[.bool b,.slice a (wd t.rest).length c,.pointer o]) t:=by
 obtain ⟨a,c,p,rfl,_,_,rfl | ⟨m,rfl⟩⟩:=h.form
 ·exact ⟨_,a,c,_,rfl,h⟩
 ·exact ⟨_,a,c,_,rfl,h⟩
theorem Yi {n:Int} (ht:Tm w vt t) (hn:Num w vn n) (ot:Tp.Rise t.l) {K:Nat} (st:Sm K t) (sn:Bd K n) (hK:K<=100000):
  Calls prog 37 #[vt,vn] w (TmOut w (Tp.add Tp.zero t n)):=by
 obtain ⟨bt,at_,ct,pt,rfl,ht⟩:=Ql ht;obtain ⟨an,cn,rfl,_⟩:=hn.form;obtain ⟨nn,hnn⟩:∃ b,decide (n < 0)=b:=⟨_,rfl⟩
 rw[hnn] at hn |-;have HH:=h6_ ht hn ot st sn hK;clear ht hn ot st sn hK hnn;go_in;go_wp2_with fail;obtain ⟨V,hV⟩:∃ V,((w.alloc (.cells #[.bool bt,.slice at_ (wd t.rest).length ct,.pointer pt] 38)).alloc (.cells #[.bool nn,.slice an (wd n).length cn] 27)).alloc (.cells #[.bool false,.slice none 0 0,.pointer none] 38)=V:=⟨_,rfl⟩
 have hbx:=box3 w #[.bool bt,.slice at_ (wd t.rest).length ct,.pointer pt] 38 #[.bool nn,.slice an (wd n).length cn] 27 #[.bool false,.slice none 0 0,.pointer none] 38;rw[hV] at hbx |-;have HV:=hd_ hbx;clear hbx hV;refine (JQ (Tm.zero V) (HH.a.below HV.D) (HH.b.below HV.D) Tp.Ok.nil HH.c (Sm.zero.mono (eV_ _)) HH.d HH.e HH.F).mono ?_;rintro e w1 ⟨v1,rfl,hr,hb⟩;have H1:=h3_ ((hb.block _ (Q4 HV.c)).trans HV.c) hr (HV.D.trans (hb.mono HV.D.size));clear hr hb;dsimp only;go_wp2_with (refine QC rfl _ _ rfl rfl H1.a rfl rfl H1.b (show w.heap.size<=w.heap.size+2 by omega) H1.C ?_;rintro W cs - hcs hg hs hn hb;have HT:=h4_ hg hs hn hb;clear hg hs hn hb hcs);refine eG_ (UY rfl rfl HT.a HT.b) rfl ?_;exact ⟨_,rfl,HT.c,HT.D⟩
theorem Q1W (ht:Tm w vt t) (hu:Tm w vu u) (ot:Tp.Ok t.l) (ou:Tp.Rise u.l) {K:Nat} (st:Sm K t) (su:Sm K u) (h1:1<=K) (hK:K<=100000):
  Calls prog 87 #[vt,vu] w (TmOut w (Tp.add t u (-1))):=by
 obtain ⟨bt,at_,ct,pt,rfl,ht⟩:=Ql ht;obtain ⟨bu,au,cu,pu,rfl,hu⟩:=Ql hu;have HH:=h8_ ht hu ot ou st su h1 hK;clear ht hu ot ou st su h1 hK;go_in;go_wp2_with fail;obtain ⟨V,hV⟩:∃ V,((w.alloc (.cells #[.bool bt,.slice at_ (wd t.rest).length ct,.pointer pt] 38)).alloc (.cells #[.bool bu,.slice au (wd u.rest).length cu,.pointer pu] 38)).alloc (.cells #[.bool false,.slice none 0 0,.pointer none] 38)=V:=⟨_,rfl⟩
 have hbx:=box3 w #[.bool bt,.slice at_ (wd t.rest).length ct,.pointer pt] 38 #[.bool bu,.slice au (wd u.rest).length cu,.pointer pu] 38 #[.bool false,.slice none 0 0,.pointer none] 38;rw[hV] at hbx |-;have hsz:w.heap.size+3<=V.heap.size:=by rw[<-hV, <-Q5, <-Q5, <-Q5];omega
 have hA:=hbx.1;have hB:=hbx.2.1;have mkS:∀ W:World,Below (w.heap.size+2) V W->Below (w.heap.size+2) V W/\W.cell? ⟨w.heap.size,0,none⟩=some (.bool bt)/\W.cell? ⟨w.heap.size,1,none⟩=some (.slice at_ (wd t.rest).length ct)/\W.cell? ⟨w.heap.size,2,none⟩=some (.pointer pt)/\W.cell? ⟨w.heap.size+1,0,none⟩=some (.bool bu)/\W.cell? ⟨w.heap.size+1,1,none⟩=some (.slice au (wd u.rest).length cu)/\W.cell? ⟨w.heap.size+1,2,none⟩=some (.pointer pu):=
  fun W hb=> ⟨hb,Q3 ((hb.block _ (by omega)).trans hA) 0 rfl,Q3 ((hb.block _ (by omega)).trans hA) 1 rfl,Q3 ((hb.block _ (by omega)).trans hA) 2 rfl,Q3 ((hb.block _ (by omega)).trans hB) 0 rfl,Q3 ((hb.block _ (by omega)).trans hB) 1 rfl,Q3 ((hb.block _ (by omega)).trans hB) 2 rfl⟩
 have HV:=h2_ hbx hsz;have HS:=hd_ mkS;clear hbx hV hsz hA hB mkS;go_region_held3 (fun w'=> Below (w.heap.size+2) V w'/\w'.cell? ⟨w.heap.size,0,none⟩=some (.bool bt)/\w'.cell? ⟨w.heap.size,1,none⟩=some (.slice at_ (wd t.rest).length ct)/\w'.cell? ⟨w.heap.size,2,none⟩=some (.pointer pt)/\w'.cell? ⟨w.heap.size+1,0,none⟩=some (.bool bu)/\w'.cell? ⟨w.heap.size+1,1,none⟩=some (.slice au (wd u.rest).length cu)/\w'.cell? ⟨w.heap.size+1,2,none⟩=some (.pointer pu))
  (first | exact HS.o _ ((eB_ _ _).drew) | exact HS.o _ hb7 | exact HS.o _ hb9 | exact HS.o _ (Zx (QJ (by assumption)) (rl_ _) _ _ _))
  ((first
   | (go_at_call 22;refine eH_ (QM (-1) (by decide) (by decide) _) ?_;rintro e w6 ⟨v6,rfl,hr6,hb6⟩;have hs7:Below V.heap.size V w6:=(Qf (B:=V.heap.size) V 1).trans hb6;have hb7:Below (w.heap.size+2) V w6:=hs7.mono (by have:=HV.B;omega);have H6:=hd_ hr6;clear hr6 hb6)
   | (go_at_call 55;refine eH_ (JQ ((HH.a.below HV.a.2.2.2).below hs7) ((HH.b.below HV.a.2.2.2).below hs7) H6.o HH.c HH.d HH.e HH.f (Bd.mono (show Bd 1 (-1) by unfold Bd;decide) HH.g) HH.H) ?_;rintro e w7 ⟨v7,rfl,hr8,hb8⟩;have hs9:Below V.heap.size V w7:=hs7.trans (hb8.mono hs7.size);have hb9:Below (w.heap.size+2) V w7:=hs9.mono (by have:=HV.B;omega);obtain ⟨b7,a7,c7,p7,rfl,hr8⟩:=Ql hr8;have hz8:=(hs9.block _ (Q4 HV.a.2.2.1)).trans HV.a.2.2.1;have r0:=Q3 hz8 0 rfl;have r1:=Q3 hz8 1 rfl;have r2:=Q3 hz8 2 rfl;have z0:=Q6 hz8 0;have z1:=Q6 hz8 1;have z2:=Q6 hz8 2;have H8:=hd_ hr8;clear hr8 hb8)))
 rename_i hh;clear hh;obtain ⟨y1,y2,y3⟩:=Q3H H8.o hz8 rfl (HV.a.2.2.2.trans (hs9.mono HV.a.2.2.2.size)) (show w.heap.size<=w.heap.size+2 by omega);have HF:=h3_ y1 y2 y3;clear y1 y2 y3 hs7 hs9 hz8 r0 r1 r2 z0 z1 z2 hb7 hb9;go_wp2_with fail;refine eG_ (UY rfl rfl HF.a rfl) rfl ?_;exact ⟨_,rfl,HF.b,HF.C⟩
def PeelQ (P:Program) (st:Oper) (Q:Exit->Act->World->Prop):Exit->Act->World->Prop
 | .normal,a,w=> st.wp P a w (fun a' w'=> Q .normal a' w') Q
 | e,a,w=> Q e a w
theorem LX {P:Program} {st:Oper} {next:Act->World->Prop} {Q:Exit->Act->World->Prop} {r:Result Next} (h:o.upon P a next (PeelQ P st Q) r):o.upon P a next Q r:=by
 cases r with
 | ok n w'=>
  cases n <;> simp only[Oper.upon] at h |- <;>
   first
    | exact h
    | exact eH_ h (fun e w'' he=> by cases e <;> exact he)
 | halt x w'=> cases x <;> simp only[Oper.upon] at h |- <;> exact h
def peelable (ops:Array Oper) (st:Oper):Bool:=
 (List.range ops.size).all (fun i=> ((ops[i]?).map fun o=> o.after.all (fun e=> decide (e.on < i)) && (match o.guard with | none=> true | some (j,_)=> decide (j < ops.size))).getD true) &&
 ((List.range ops.size).all fun j=> st.after.any fun e=> e.on==j && Region.binds .any e) && st.after.all (fun e=> decide (e.on < ops.size)) && st.guard.isNone
section
variable {P:Program} {ops:Array Oper} {st:Oper} {Q:Exit->Act->World->Prop} {S:World->Prop}
theorem Uh (h:peelable ops st=true) {i:Nat} {o:Oper} (ho:ops[i]? =some o):(∀ e∈o.after,e.on < i)/\∀ j b,o.guard=some (j,b)->j < ops.size:=by
 unfold peelable at h;simp only[Bool.and_eq_true] at h;have hi:i < ops.size:=by
  rcases eS_ i ops.size with h | h
  ·exact h
  ·rw[Array.getElem?_eq_none h] at ho;cases ho
 have h1:=List.all_eq_true.1 h.1.1.1 i (List.mem_range.2 hi);rw[ho] at h1;simp only[Option.map_some,Option.getD_some,Bool.and_eq_true] at h1;refine ⟨fun e he=> of_decide_eq_true (Array.all_eq_true_iff_forall_mem.1 h1.1 e he),fun j b hg=> ?_⟩;have h2:=h1.2;rw[hg] at h2;exact of_decide_eq_true h2
theorem Du (h:peelable ops st=true):(∀ j,j < ops.size->∃ e∈st.after,e.on=j/\Region.binds .any e=true)/\(∀ e∈st.after,e.on < ops.size)/\st.guard=none:=by
 unfold peelable at h;simp only[Bool.and_eq_true] at h;refine ⟨fun j hj=> ?_,fun e he=> of_decide_eq_true (Array.all_eq_true_iff_forall_mem.1 h.1.2 e he),Option.isNone_iff_eq_none.1 h.2⟩;have h1:=List.all_eq_true.1 h.1.1.2 j (List.mem_range.2 hj);obtain ⟨k,hk,h2⟩:=Array.any_eq_true.1 h1;rw[Bool.and_eq_true] at h2;exact ⟨_,Array.getElem_mem hk,by simpa using h2.1,h2.2⟩
theorem Xt {l:Array Bool} (h:j < l.size) (d:Bool):(l.push false).getD j d=l.getD j d:=by
 simp[Array.getD,Array.getElem_push,h,Nat.lt_succ_of_lt h]
theorem Zy (h:j < ops.size):(ops.push st)[j]? =ops[j]? :=by
 rw[Array.getElem?_push,if_neg (by omega)]
theorem Dv (hp:peelable ops st=true) {l:Array Bool} (hl:l.size=ops.size) {j:Nat} (hj:j∈Region.ready .any (ops.push st) (l.push false)):(j < ops.size/\j∈Region.ready .any ops l)\/(j=ops.size/\∀ k,k < ops.size->l.getD k false=true):=by
 rw[mem_ready] at hj;obtain ⟨h0,o,ho,hall⟩:=hj;rcases Nat.lt_trichotomy j ops.size with hlt | rfl | hgt
 ·refine Or.inl ⟨hlt,?_⟩;rw[Zy hlt] at ho;rw[mem_ready];refine ⟨by rw[Xt (by omega)] at h0;exact h0,o,ho,fun e he hb=> ?_⟩;have h1:=hall e he hb;rw[Xt (by have:=(Uh hp ho).1 e he;omega)] at h1;exact h1
 ·refine Or.inr ⟨rfl,fun k hk=> ?_⟩;rw[Array.getElem?_push,if_pos rfl] at ho;injection ho with ho;subst ho;obtain ⟨e,he,rfl,hb⟩:=(Du hp).1 k hk;have h1:=hall e he hb;rw[Xt (by omega)] at h1;exact h1
 ·rw[Array.getElem?_eq_none (by rw[Array.size_push];omega)] at ho;cases ho
theorem Q85 (hp:peelable ops st=true) {l:Array Bool} (hl:l.size=ops.size) {j:Nat} (hj:j∈Region.ready .any ops l):j∈Region.ready .any (ops.push st) (l.push false):=by
 rw[mem_ready] at hj |-;obtain ⟨h0,o,ho,hall⟩:=hj;have hlt:j < ops.size:=by
  rcases eS_ j ops.size with h | h
  ·exact h
  ·rw[Array.getElem?_eq_none h] at ho;cases ho
 refine ⟨by rw[Xt (by omega)];exact h0,o,by rw[Zy hlt];exact ho,fun e he hb=> ?_⟩;rw[Xt (by have:=(Uh hp ho).1 e he;omega)];exact hall e he hb
theorem Q6V (hp:peelable ops st=true) {l:Array Bool} (hl:l.size=ops.size) (hr:Region.ready .any ops l= []):∀ k,k < ops.size->l.getD k false=true:=by
 intro k
 induction k using Nat.strongRecOn with
 | _ k ih=>
  intro hk;cases hb:l.getD k false with
  | true=> rfl
  | false=>
   exfalso;obtain ⟨o,ho⟩:∃ o,ops[k]? =some o:=⟨_,Array.getElem?_eq_getElem hk⟩
   have:k∈Region.ready .any ops l:=by
    rw[mem_ready];refine ⟨?_,o,ho,fun e he _=> ?_⟩
    ·have hk2:k < l.size:=(by omega);simp[Array.getD,hk2] at hb |-;exact hb
    ·have:=(Uh hp ho).1 e he;exact ih e.on this (by omega)
   rw[hr] at this;cases this
theorem LY (hp:peelable ops st=true) {l:Array Bool} (hl:l.size=ops.size) (ha:∀ k,k < ops.size->l.getD k false=true):Region.ready .any ops l= []/\ops.size∈Region.ready .any (ops.push st) (l.push false)/\Region.ready .any (ops.push st) ((l.push false).setIfInBounds ops.size true)= []:=by
 have hno:∀ k,k < ops.size->l.getD k true=true:=fun k hk=> by
  have h:=ha k hk;have hk2:k < l.size:=by omega
  simp[Array.getD,hk2] at h |-;exact h
 refine ⟨?_,?_,?_⟩
 ·refine List.eq_nil_iff_forall_not_mem.2 fun j hj=> ?_;obtain ⟨h0,o,ho,_⟩:=mem_ready.1 hj;rcases eS_ j ops.size with h | h
  ·rw[hno j h] at h0;cases h0
  ·rw[Array.getElem?_eq_none h] at ho;cases ho
 ·rw[mem_ready];refine ⟨by rw[<-hl];simp[Array.getD],st,by rw[Array.getElem?_push,if_pos rfl],fun e he _=> ?_⟩;have h1:=(Du hp).2.1 e he;rw[Xt (by omega)];exact ha _ h1
 ·refine List.eq_nil_iff_forall_not_mem.2 fun j hj=> ?_;obtain ⟨h0,o,ho,_⟩:=mem_ready.1 hj;rcases Nat.lt_trichotomy j ops.size with h | rfl | h
  ·rw[getD_set_ne true (by omega),Xt (by omega),hno j h] at h0;cases h0
  ·simp[Array.getD,hl] at h0
  ·rw[Array.getElem?_eq_none (by rw[Array.size_push];omega)] at ho;cases ho
theorem Q0P (h:j < ops.size):yielded (ops.push st) tmps j=yielded ops tmps j:=by
 unfold yielded;rw[Zy h]
theorem Q5q (hp:peelable ops st=true) {i:Nat} (hi:i < ops.size) {K K':Act->World->Prop} {a:Act} {w:World} (hK:∀ a w,K a w->K' a w) (h:wpOp P ops (PeelQ P st Q) i K a w):wpOp P (ops.push st) Q i K' a w:=by
 obtain ⟨o,ho⟩:∃ o,ops[i]? =some o:=⟨_,Array.getElem?_eq_getElem hi⟩
 unfold wpOp at h |-;rw[Zy hi];rw[ho] at h |-;dsimp only at h |-;have hw:Region.wanted o (yielded (ops.push st) a.tmps)=Region.wanted o (yielded ops a.tmps):=by
  unfold Region.wanted;cases hg:o.guard with
  | none=> rfl
  | some jb=>
   obtain ⟨j,b⟩:=jb;dsimp only;rw[Q0P ((Uh hp ho).2 j b hg)]
 rw[hw];split
 ·rename_i hx;rw[if_pos hx] at h;rcases h with h | ⟨h1,h2⟩
  ·exact Or.inl (Oper.wp_mono hK (LX h))
  ·exact Or.inr ⟨h1,h2⟩
 ·rename_i hx;rw[if_neg hx] at h;exact hK _ _ h
theorem Q1X {big:Array Oper} {listed:Array Bool} (hr:Region.ready .any big listed= []) (h:Q .normal a w):∀ fuel,wpAny P .any big Q fuel listed a w
 | 0=> ⟨hr,h⟩
 | _+1=> ⟨fun _=> h,by rw[hr];simp⟩
theorem LZ (hp:peelable ops st=true) {l:Array Bool} (hl:l.size=ops.size) (hr:Region.ready .any ops l= []) {a:Act} {w:World} (h:PeelQ P st Q .normal a w) (fuel:Nat):wpAny P .any (ops.push st) Q (fuel+1) (l.push false) a w:=by
 have ha:=Q6V hp hl hr;obtain ⟨_,h2,h3⟩:=LY hp hl ha;refine ⟨fun e=> (by rw[e] at h2;cases h2),fun i hi=> ?_⟩;rcases Dv hp hl hi with ⟨_,h4⟩ | ⟨rfl,_⟩
 ·rw[hr] at h4;cases h4
 ·unfold wpOp;rw[Array.getElem?_push,if_pos rfl];dsimp only;rw[if_pos (by unfold Region.wanted;rw[(Du hp).2.2])];exact Or.inl (Oper.wp_mono (fun a' w' h'=> Q1X h3 h' fuel) h)
theorem Q6W {l:Array Bool} (h:i < l.size):(l.push false).setIfInBounds i true=(l.setIfInBounds i true).push false:=by
 refine Array.ext_getElem? fun j=> ?_;by_cases hj:i=j
 ·subst hj;rw[Array.getElem?_push,if_neg (by simp;omega)];simp[h,Nat.lt_succ_of_lt h]
 ·rw[Array.getElem?_setIfInBounds_ne hj,Array.getElem?_push,Array.getElem?_push,Array.getElem?_setIfInBounds_ne hj,Array.size_setIfInBounds]
theorem Dw (hp:peelable ops st=true):∀ (fuel:Nat) (l:Array Bool) (a:Act) (w:World),l.size=ops.size->wpAny P .any ops (PeelQ P st Q) fuel l a w->wpAny P .any (ops.push st) Q (fuel+1) (l.push false) a w
 | 0,l,a,w,hl,h=> LZ hp hl h.1 h.2 0
 | fuel+1,l,a,w,hl,h=> by
  by_cases hr:Region.ready .any ops l= []
  ·exact LZ hp hl hr (h.1 hr) _
  ·refine ⟨fun e=> ?_,fun i hi=> ?_⟩
   ·obtain ⟨j,hj⟩:=List.exists_mem_of_ne_nil _ hr;have:=Q85 (st:=st) hp hl hj;rw[e] at this;cases this
   ·rcases Dv hp hl hi with ⟨h3,h4⟩ | ⟨rfl,ha⟩
    ·refine Q5q hp h3 (fun a' w' h'=> ?_) (h.2 i h4);rw[Q6W (by omega)];exact Dw hp fuel _ a' w' (by simpa using hl) h'
    ·exact absurd (LY hp hl ha).1 hr
theorem Dx (hp:peelable ops st=true) (fuel:Nat) (l:Array Bool) (a:Act) (w:World) (hl:l.size=ops.size) (h:wpAnyH P .any ops (PeelQ P st Q) S fuel l a w):wpAny P .any (ops.push st) Q (fuel+1) (l.push false) a w:=
 Dw hp fuel l a w hl (wpAny_of_held fuel l a w h)
end
theorem Dy {P:Program} {Q:Exit->Act->World->Prop} {S:World->Prop} (ops:List Oper) (st:Oper) {a:Act} {w:World} (he:all=ops++ [st]) (hm:P.follows .mixedOrders=true) (hp:peelable ops.toArray st=true) (hS:S w.drew)
  (h:S w.drew->wpAnyH P .any ops.toArray (PeelQ P st Q) S ops.length (Array.replicate ops.length false) a w.drew):(Code.region id all.toArray true).wp P Q a w:=by
 subst he;have e1:(ops++ [st]).toArray=ops.toArray.push st:=by simp
 refine wp_region_any hm ?_;rw[e1,Array.size_push];have e2:Array.replicate (ops.toArray.size+1) false=(Array.replicate ops.toArray.size false).push false:=by
  rw[Array.replicate_succ]
 rw[e2];exact Dx hp _ _ a _ (by simp) (h hS)
theorem XP {P:Program} {Q:Exit->Act->World->Prop} {S:World->Prop} (hne:all≠ []) {a:Act} {w:World} (hm:P.follows .mixedOrders=true) (hp:peelable all.dropLast.toArray (all.getLast hne)=true) (hS:S w.drew)
  (h:S w.drew->wpAnyH P .any all.dropLast.toArray (PeelQ P (all.getLast hne) Q) S all.dropLast.length (Array.replicate all.dropLast.length false) a w.drew):(Code.region id all.toArray true).wp P Q a w:=
 Dy all.dropLast (all.getLast hne) (List.dropLast_concat_getLast hne).symm hm hp hS h
theorem Xu {P:Program} {Q:Exit->Act->World->Prop} {S:World->Prop} (hne:all≠ []) (hne2:all.dropLast≠ []) {a:Act} {w:World} (hm:P.follows .mixedOrders=true) (hp:peelable all.dropLast.toArray (all.getLast hne)=true) (hp2:peelable all.dropLast.dropLast.toArray (all.dropLast.getLast hne2)=true) (hS:S w.drew)
  (h:S w.drew->wpAnyH P .any all.dropLast.dropLast.toArray (PeelQ P (all.dropLast.getLast hne2) (PeelQ P (all.getLast hne) Q)) S all.dropLast.dropLast.length (Array.replicate all.dropLast.dropLast.length false) a w.drew):(Code.region id all.toArray true).wp P Q a w:=by
 have e0:∀ (l:List Oper) (st:Oper),(l++ [st]).toArray=l.toArray.push st:=fun l st=> by simp
 have e1:all.dropLast++ [all.getLast hne]=all:=List.dropLast_concat_getLast hne;have e2:all.dropLast.dropLast++ [all.dropLast.getLast hne2]=all.dropLast:=List.dropLast_concat_getLast hne2;refine wp_region_any hm ?_;have h1:=Dx hp2 _ _ a _ (by simp) (h hS);rw[<-e0,e2] at h1;have e3:(Array.replicate all.dropLast.dropLast.length false).push false=Array.replicate all.dropLast.length false:=by
  rw[<-Array.replicate_succ];congr 1
  conv=> rhs;rw[<-e2]
  simp
 have e4:all.dropLast.dropLast.length+1=all.dropLast.length:=by have h:=congrArg List.length e2;rw[eC_] at h;exact h
 rw[e3,e4] at h1;have h2:=Dw hp _ _ a _ (by simp) h1;rw[<-e0,e1] at h2;have e5:(Array.replicate all.dropLast.length false).push false=Array.replicate all.length false:=by
  rw[<-Array.replicate_succ];congr 1
  conv=> rhs;rw[<-e1]
  simp
 have e6:all.dropLast.length+1=all.length:=by have h:=congrArg List.length e1;rw[eC_] at h;exact h
 rw[e5,e6] at h2;have e7:all.toArray.size=all.length:=by simp
 rw[e7];exact h2
def TplRel (w:World) (t u:Tp.T) (k:Nat) (v9:Value) (wr:World):Prop:=
 ∃ (i:Nat) (cs:Array Value) (acc:Tp.T),v9= .int .i64 (i:Int)/\k=1 - i/\i<=1/\acc=(if i=0 then t else Tp.add t u 1)/\wr.heap[w.heap.size]? =some (.cells cs 38 (0,0))/\Tm wr (.agg cs) acc/\
  wr.heap[w.heap.size+1]? =some (.cells #[.bool false,.slice none 0 0,.pointer none] 38 (0,0))/\Below w.heap.size w wr
theorem Q1Y {x0 x1 x2 x3 x4 x5 o0 o3 o4 o5:Nat} {u0 u1 u2 u3 u4 u5:Value} (h0:w.cell? ⟨x0,o0,none⟩=some u0) (h1:w.cell? ⟨x1,o1,none⟩=some u1) (h2:w.cell? ⟨x2,o2,none⟩=some u2) (h3:w.cell? ⟨x3,o3,none⟩=some u3) (h4:w.cell? ⟨x4,o4,none⟩=some u4) (h5:w.cell? ⟨x5,o5,none⟩=some u5):Hid (∀ W,Below w.heap.size w W->Below w.heap.size w W/\W.cell? ⟨x0,o0,none⟩=some u0/\W.cell? ⟨x1,o1,none⟩=some u1/\W.cell? ⟨x2,o2,none⟩=some u2/\W.cell? ⟨x3,o3,none⟩=some u3/\W.cell? ⟨x4,o4,none⟩=some u4/\W.cell? ⟨x5,o5,none⟩=some u5):=hd_ fun W b=> ⟨b,(b.cell (Qd h0)).trans h0,(b.cell (Qd h1)).trans h1,(b.cell (Qd h2)).trans h2,(b.cell (Qd h3)).trans h3,(b.cell (Qd h4)).trans h4,(b.cell (Qd h5)).trans h5⟩
theorem rp_ {P:Program} {Q:Exit->Act->World->Prop} {S Pr:World->Prop} (hne:all≠ []:=by simp) (hm:P.follows .mixedOrders=true:=by kernel_rfl) (hp:peelable all.dropLast.toArray (all.getLast hne)=true:=by kernel_rfl) (s:Hid (∀ W,Pr W->S W)) (p:Pr w.drew) (h:S w.drew->wpAnyH P .any all.dropLast.toArray (PeelQ P (all.getLast hne) Q) S all.dropLast.length (Array.replicate all.dropLast.length false) a w.drew):(Code.region id all.toArray true).wp P Q a w:=XP hne hm hp (s.out _ p) h
theorem Dz {bu:Bool} {su:Value} {pu:Option Addr} (ht:Tm w vt t) (hr:w.heap[r]? =some (.cells #[.bool bu,su,.pointer pu] 38 (0,0))) (hu:Tm w (.agg #[.bool bu,su,.pointer pu]) u) (ot:Tp.Ok t.l) (ou:Tp.Rise u.l) {K:Nat} (st:Sm K t) (sm:Sm K u) (h1:1<=K) (hK:K<=100000):
  Calls prog 53 #[vt,.slice (some ⟨r,0,none⟩) 1 1] w (TmOut w (Tp.add t u 1)):=by
 obtain ⟨bt,at_,ct,pt,rfl,ht⟩:=Ql ht;obtain ⟨au,cu,_,eu,_⟩:=hu.form;have eu2:su= .slice au (wd u.rest).length cu:=by
  injection eu with eu;have e1:=congrArg (fun x:Array Value=> x[1]?) eu;simpa using e1
 subst eu2;have HH:=h9_ ht hu ot ou st sm h1 hK hr;clear ht hu ot ou st sm h1 hK hr eu;go_in;go_wp2_with fail;obtain ⟨V,hV⟩:∃ V,(w.alloc (.cells #[.bool bt,.slice at_ (wd t.rest).length ct,.pointer pt] 38)).alloc (.cells #[.bool false,.slice none 0 0,.pointer none] 38)=V:=⟨_,rfl⟩
 have hbx:=box2 w #[.bool bt,.slice at_ (wd t.rest).length ct,.pointer pt] 38 #[.bool false,.slice none 0 0,.pointer none] 38;rw[hV] at hbx |-;have HV:=hd_ hbx;clear hbx hV;go_wp2_with fail;go_loopg [9] 1 (fun k v9 wr=> TplRel w t u k v9 wr)
 case atStart=> exact ⟨0,_,t,rfl,rfl,by omega,by simp,HV.a,HH.a.below HV.C,HV.b,HV.C⟩
 case round=>
  obtain ⟨i,cs,acc,rfl,hk,hi,hacc,hg,ha,hz,hb⟩:=hrel;obtain ⟨ba,aa,ca,pa,ecs,ha⟩:=Ql ha;obtain rfl:cs= #[.bool ba,.slice aa (wd acc.rest).length ca,.pointer pa]:=by injection ecs
  have hru:=(hb.block _ (Q4 HH.I)).trans HH.I;have HR:=h6_ hk hacc hg ha hz hb;have g0:=Q3 hg 0 rfl;have g1:=Q3 hg 1 rfl;have g2:=Q3 hg 2 rfl;have q0:=Q3 hru 0 rfl;have q1:=Q3 hru 1 rfl;have q2:=Q3 hru 2 rfl;clear hk hacc hg ha hz hb hru ecs;by_cases hlt:i < 1
  ·obtain rfl:i=0:=(by omega);clear hi hlt;go_wp2_with fail;obtain ⟨W5,hW5⟩:∃ W,wr.alloc (.cells #[.bool bu,.slice au (wd u.rest).length cu,.pointer pu] 38)=W:=⟨_,rfl⟩
   have hbx:=box1 wr #[.bool bu,.slice au (wd u.rest).length cu,.pointer pu] 38;rw[hW5] at hbx |-;have hA:=(hbx.2.block _ (Q4 HR.c)).trans HR.c;have hB:=hbx.1;have hw5:=HR.F.trans (hbx.2.mono HR.F.size);have hz5:=(hbx.2.block _ (Q4 HR.e)).trans HR.e;have H5:=h5_ hA hB hw5 hz5 hbx.2;clear hbx hW5 hA hB hw5 hz5 g0 g1 g2 q0 q1 q2;have HS:=Q1Y (Q3 H5.a 0 rfl) (Q3 H5.a 1 rfl) (Q3 H5.a 2 rfl) (Q3 H5.b 0 rfl) (Q3 H5.b 1 rfl) (Q3 H5.b 2 rfl);refine rp_ (s:=HS) (p:=((eB_ _ _).drew)) (h:=fun hHeld=> ?_);simp only[lA_];refine tk_ 0 rfl ?_;refine tk_ 1 rfl ?_;(try simp only[Act.put,gP_]);refine rd_ 2 rfl (fun KK hKK=> ?_);simp only[gA_];go_simp;refine (QM 1 (by decide) (by decide) _).mono ?_;rintro e w6 ⟨v6,rfl,hr6,hb6⟩;have hs6:Below W5.heap.size W5 w6:=(Qf (B:=W5.heap.size) W5 1).trans hb6;have H6:=hd_ hr6;clear hr6 hb6;dsimp only;refine hKK.out _ _ (HS.o _ hs6) (fun hHeld=> ?_);clear hKK KK;(try simp only[Act.put,sA_]);refine rd_ 3 rfl (fun KK hKK=> ?_);simp only[gA_];go_simp;refine (JQ ((HR.d.below H5.E).below hs6) ((HH.b.below H5.c).below hs6) H6.o (by rw[HR.b];exact HH.c) HH.d (K:=K) (by rw[HR.b];exact HH.e) HH.f (Bd.mono (show Bd 1 1 by unfold Bd;decide) HH.g) HH.h).mono ?_;rintro e w7 ⟨v7,rfl,hr7,hb7⟩;have hs7:Below W5.heap.size W5 w7:=hs6.trans (hb7.mono hs6.size);obtain ⟨b7,a7,c7,p7,rfl,hr7⟩:=Ql hr7;have hz8:=(hs7.block _ (Q4 H5.a)).trans H5.a;have r0:=Q3 hz8 0 rfl;have r1:=Q3 hz8 1 rfl;have r2:=Q3 hz8 2 rfl;have z0:=Q6 hz8 0;have z1:=Q6 hz8 1;have z2:=Q6 hz8 2;have H7:=hd_ hr7;clear hr7 hb7;dsimp only;refine hKK.out _ _ (HS.o _ hs7) (fun hHeld=> ?_);clear hKK KK;(try simp only[Act.put,sA_]);refine wpAnyH_done (by kernel_rfl) ?_ _;unfold PeelQ;dsimp only;go_simp;obtain ⟨y1,y2,y3⟩:=Q3H H7.o hz8 rfl (H5.c.trans (hs7.mono H5.c.size)) (Nat.le_refl w.heap.size);have hz9:(((w7.setCell ⟨w.heap.size,0,none⟩ (.bool b7)).setCell ⟨w.heap.size,1,none⟩ (.slice a7 (wd (Tp.add acc u 1).rest).length c7)).setCell ⟨w.heap.size,2,none⟩ (.pointer p7)).heap[w.heap.size+1]? =some (.cells #[.bool false,.slice none 0 0,.pointer none] 38 (0,0)):=by
    rw[Q1V hz8 rfl,Q8 (by omega)];exact (hs7.block _ (Q4 H5.d)).trans H5.d
   have HF:=h4_ y1 y2 y3 hz9;clear y1 y2 y3 hz9 hs6 hs7 hz8 r0 r1 r2 z0 z1 z2;go_wp2_with fail;go_roundg 0
   case measure=> have:=HR.a;omega
   case rel=> exact ⟨1,_,_,by go_num,rfl,by omega,by have h:acc=t:=(by simpa using HR.b);rw[h];simp,HF.a,HF.b,HF.D,HF.c⟩
  ·obtain rfl:i=1:=(by omega);go_wp2_with (refine QC rfl _ _ rfl rfl HR.e rfl rfl HR.d (show w.heap.size<=w.heap.size+1 by omega) HR.F ?_;rintro W cs - hcs hg hs hn hb;have HT:=h4_ hg hs hn hb;clear hg hs hn hb hcs);refine eG_ (UY rfl rfl HT.a HT.b) rfl ?_;have hacc:acc=Tp.add t u 1:=(by simpa using HR.b);exact ⟨_,rfl,by rw[<-hacc];exact HT.c,HT.D⟩
end Go.Proofs.YtiecccakcenobaaGreatDoor
