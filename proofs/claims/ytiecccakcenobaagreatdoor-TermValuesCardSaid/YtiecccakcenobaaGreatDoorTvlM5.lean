/- A part of the proof. -/
import Derived.Test.YtiecccakcenobaaGreatDoorTvlM4
import Derived.Deep.RegionWith
set_option linter.all false
set_option maxRecDepth 100000
set_option maxHeartbeats 64000000
namespace Go.Proofs.YtiecccakcenobaaGreatDoor
open Tryz
open Go.RowKit
variable {a:Act} {ops:Array Oper} {cs cur tmps:Array Value} {b:Bool} {x y z:Int} {zs:List Int} {ts:List TypeId} {ns ss xs ys:List Value} {B N V c g i m n r:Nat} {Q:Nat→Prop} {o:Oper} {P:Program} {R:Prop} {l:Tp.L} {t:Tp.T} {p s v vf vn vx:Value} {W w w' w0 w1:World}
def FrRel (w:World) (N:Nat) (k:Nat) (v0 v4:Value) (wr:World):Prop:=
 ∃ (a:Option Addr) (cc m:Nat) (done:List Nat),v0= .int .i64 m∧v4= .slice a done.length cc∧k=m∧m≤9223372036854775807∧done.length≤19∧Zp.Dig 10 done∧
  wr.ownsRow (w.heap.size+1) 3 1 (.slice a done.length cc) done.length (natCells done)∧Zp.val 10 done+10 ^ done.length*m=N∧wr.heap[w.heap.size]? =some (.cells #[.int .i64 0,.slice none 0 0] 48 (0,0))∧Below (w.heap.size+1) (w.alloc (.cells #[.int .i64 0,.slice none 0 0] 48)) wr
theorem Q1G {k:Nat} (h:V+10 ^ k*m=N) (hm:0 < m) (hN:N≤9223372036854775807):k≤18:=by
 rcases eS_ 18 k with h1 | h1
 ·have h2:10 ^ 19≤10 ^ k:=Nat.pow_le_pow_right (by decide) h1;have h3:10 ^ k*1≤10 ^ k*m:=Nat.mul_le_mul_left _ hm;have h4:(10:Nat) ^ 19=10000000000000000000:=by decide
  omega
 ·exact h1
theorem LG {P:Nat} (h:V+P*m=N):V+P*(m % 10)+P*10*(m / 10)=N:=by
 rw[←h,Nat.mul_assoc,Nat.add_assoc, ←Nat.mul_add,Nat.mod_add_div]
theorem Gc (n:Int) (h1: -9223372036854775807≤n) (h2:n≤9223372036854775807) (w:World):
  Calls prog 36 #[.int .i64 n] w fun e w'=> ∃ v',e= .returned v'∧Zn w' v' n∧Below w.heap.size w w':=by
 obtain ⟨N,hN⟩:∃ N:Nat,n.natAbs=N:=⟨_,rfl⟩
 have hNb:N≤9223372036854775807:=by omega
 have HN:=h2_ hN hNb;by_cases hn:n < 0
 ·have hd:decide (n < 0)=true:=eM_ hn;have hv: -n=(N:Int):=by omega
  have HS:Hid (n=(-1)*(N:Int)):=hd_ (by omega);clear hn hN;go_in;go_wp2_with fail;go_loopg [0,4] N (fun k v0 v4 wr=> FrRel w N k v0 v4 wr)
  case atStart=> exact ⟨none,0,N, [],rfl,rfl,rfl,HN.B,by simp,Zp.Dig.nil,World.ownsRow_nil _ _ _ _,by simp[Zp.val],eD_ _ _,eB_ _ _⟩
  case round=>
   obtain ⟨a,cc,m,done,rfl,rfl,hk,hm,hl,hdd,hown,hval,hg,hb⟩:=hrel;have HR:=h6_ hk hdd hown hval hg hb;have hl':(done.length:Int)≤19:=(by omega);rcases Nat.eq_zero_or_pos m with h0 | h0
   ·subst h0;have hv1:Zp.val 10 done=N:=(by simpa using hval);have hdg:=Zi hown;have HV:=h6_ hdg hg hdd hv1 (eE_ hl (by decide:19≤1073741824)) (((eB_ w.heap.size w).alloc (rl_ _) _).trans (hb.mono (Nat.le_succ _)));clear hk hdd hown hval hg hb hl hdg hv1;go_wp2_with fail;refine (X4 HV.a HV.e HV.c (-1) n (by rw[HV.d];exact HS.o) (by omega)).mono ?_;rintro e w2 ⟨v2,rfl,hr,hb⟩;have HT2:=h3_ ((hb.block _ (Q4 HV.b)).trans HV.b) hr (HV.F.trans (hb.mono HV.F.size));clear hr hb;dsimp only;go_wp2_with (refine X3 rfl _ _ rfl rfl HT2.a rfl rfl HT2.b (by omega) HT2.C ?_;rintro W cs - rfl hg hs hn hb -;have HT:=h4_ hg hs hn hb;clear hg hs hn hb);exact eG_ (Yy rfl rfl HT.a HT.b) rfl ⟨_,rfl,HT.c,HT.D⟩
   ·have hlen:=Q1G hval h0 HN.B;have hsz:w.heap.size+1≤wr.heap.size:=(by have:=hb.size;rw[←Q5] at this;exact this);have hm':(m:Int)≤9223372036854775807:=(by omega);have hm0:(0:Int) < (m:Int):=(by omega);have HSZ:=hd_ hsz;clear hk hdd hown hval hg hb hsz;go_wp2_with (first
     | (refine app1 rfl _ _ Xp rfl rfl HR.c (rl_ _) HSZ.o HR.F _ rfl rfl rfl (by omega) ?_;rintro a2 c2 w2 ho2 hb2 hg2;have HA:=h3_ ho2 hb2 hg2;clear ho2 hb2 hg2))
    go_roundg (m / 10)
    case measure=> have:=HR.a;omega
    case rel=>
     obtain ⟨q1,q2,q3,q4,q5,q6⟩:=HR.o;refine ⟨a2,c2,m / 10,done++ [m % 10],UP (by omega),by simp,rfl,by omega,by simp;omega,Xh q2 (Nat.mod_lt _ (by decide)),?_,?_,?_,HA.b⟩
     ·have h5:=Xj (q:=m % 10) HA.a (by omega);simpa using h5
     ·rw[XB,eC_,Nat.pow_add];exact LG q4
     ·exact (HA.b.block _ (Nat.lt_succ_self _)).trans (eD_ _ _)
 ·have hd:decide (n < 0)=false:=eK_ hn;have hv:n=(N:Int):=by omega
  have HS:Hid (n=1*(N:Int)):=hd_ (by omega);subst hv;clear hn hN;go_in;go_wp2_with fail;go_loopg [0,4] N (fun k v0 v4 wr=> FrRel w N k v0 v4 wr)
  case atStart=> exact ⟨none,0,N, [],rfl,rfl,rfl,HN.B,by simp,Zp.Dig.nil,World.ownsRow_nil _ _ _ _,by simp[Zp.val],eD_ _ _,eB_ _ _⟩
  case round=>
   obtain ⟨a,cc,m,done,rfl,rfl,hk,hm,hl,hdd,hown,hval,hg,hb⟩:=hrel;have HR:=h6_ hk hdd hown hval hg hb;have hl':(done.length:Int)≤19:=(by omega);rcases Nat.eq_zero_or_pos m with h0 | h0
   ·subst h0;have hv1:Zp.val 10 done=N:=(by simpa using hval);have hdg:=Zi hown;have HV:=h6_ hdg hg hdd hv1 (eE_ hl (by decide:19≤1073741824)) (((eB_ w.heap.size w).alloc (rl_ _) _).trans (hb.mono (Nat.le_succ _)));clear hk hdd hown hval hg hb hl hdg hv1;go_wp2_with fail;refine (X4 HV.a HV.e HV.c 1 (N:Int) (by rw[HV.d];exact HS.o) (by omega)).mono ?_;rintro e w2 ⟨v2,rfl,hr,hb⟩;have HT2:=h3_ ((hb.block _ (Q4 HV.b)).trans HV.b) hr (HV.F.trans (hb.mono HV.F.size));clear hr hb;dsimp only;go_wp2_with (refine X3 rfl _ _ rfl rfl HT2.a rfl rfl HT2.b (by omega) HT2.C ?_;rintro W cs - rfl hg hs hn hb -;have HT:=h4_ hg hs hn hb;clear hg hs hn hb);exact eG_ (Yy rfl rfl HT.a HT.b) rfl ⟨_,rfl,HT.c,HT.D⟩
   ·have hlen:=Q1G hval h0 HN.B;have hsz:w.heap.size+1≤wr.heap.size:=(by have:=hb.size;rw[←Q5] at this;exact this);have hm':(m:Int)≤9223372036854775807:=(by omega);have hm0:(0:Int) < (m:Int):=(by omega);have HSZ:=hd_ hsz;clear hk hdd hown hval hg hb hsz;go_wp2_with (first
     | (refine app1 rfl _ _ Xp rfl rfl HR.c (rl_ _) HSZ.o HR.F _ rfl rfl rfl (by omega) ?_;rintro a2 c2 w2 ho2 hb2 hg2;have HA:=h3_ ho2 hb2 hg2;clear ho2 hb2 hg2))
    go_roundg (m / 10)
    case measure=> have:=HR.a;omega
    case rel=>
     obtain ⟨q1,q2,q3,q4,q5,q6⟩:=HR.o;refine ⟨a2,c2,m / 10,done++ [m % 10],UP (by omega),by simp,rfl,by omega,by simp;omega,Xh q2 (Nat.mod_lt _ (by decide)),?_,?_,?_,HA.b⟩
     ·have h5:=Xj (q:=m % 10) HA.a (by omega);simpa using h5
     ·rw[XB,eC_,Nat.pow_add];exact LG q4
     ·exact (HA.b.block _ (Nat.lt_succ_self _)).trans (eD_ _ _)
def dbyte (d:Nat):UInt8:=(48+d).toUInt8
theorem LH {d:Nat} (h:d < 10):(dbyte d).toNat=48+d:=Zp.Q1s h
theorem LI (b:UInt8) (W:World):(convert 106 9 (.slice (some ⟨W.heap.size,0,none⟩) 1 1)).run prog (W.alloc (.cells #[.int .u8 (b.toNat:Int)] 5))= .ok (.string ⟨[b].toArray⟩) (W.alloc (.cells #[.int .u8 (b.toNat:Int)] 5)):=by
 rw[run_convert_bytes_string (P:=prog) _ 106 9 5 (some ⟨W.heap.size,0,none⟩) 1 1 underlying106 underlying5 underlying9];have hl:=run_loadCells_list (P:=prog) (W.alloc (.cells #[.int .u8 (b.toNat:Int)] 5)) ⟨W.heap.size,0,none⟩ [.int .u8 (b.toNat:Int)] (fun j u hj=> by
  rw[Addr.add_mid,Nat.zero_add];refine Q3 (eD_ _ _) j ?_;simpa using hj)
 rw[run_bytesToString (P:=prog) _ ⟨W.heap.size,0,none⟩ 1 1 [(b.toNat:Int)] hl];simp only[List.foldl_cons,List.foldl_nil,Int.toNat_natCast];rw[UInt8.ofNat_toNat];rfl
def TxRel (w:World) (A:Array Value) (pre:List UInt8) (l:List Nat) (k:Nat) (v3 v4:Value) (wr:World):Prop:=
 ∃ (j:Nat) (i:Int),v3= .string ⟨(pre++((l.drop j).reverse.map dbyte)).toArray⟩∧v4= .int .i64 i∧i=(j:Int) - 1∧k=j∧j≤l.length∧wr.heap[w.heap.size]? =some (.cells A 48 (0,0))∧Below w.heap.size w wr
theorem Q4H (hz:z≠0):Zp.text z=(if z < 0 then [45] else [])++((dg z).reverse.map dbyte):=by
 have h0:z.natAbs≠0:=by omega
 unfold Zp.text Zp.dec;rw[if_neg h0];by_cases h:z < 0
 ·rw[if_pos h,if_pos h];rfl
 ·rw[if_neg h,if_neg h];rfl
theorem Q0z (h:Zn w v z) (hl:(dg z).length≤1000000000):Calls prog 30 #[v] w fun e w'=> e= .returned (.string ⟨(Zp.text z).toArray⟩)∧Below w.heap.size w w':=by
 obtain ⟨a,c,rfl,hr⟩:=h.form;rcases XQ z with hz | hz
 ·obtain ⟨rfl,hs⟩:=hz;rw[hs];clear h hr hs;go_in;go_wp2_with fail;go_ret;exact ⟨rfl,(eB_ _ _).alloc (rl_ _) _⟩
 ·have hz0:z≠0:=by omega
  rw[Q4H hz0];have HT:=h2_ hr (Zj z);obtain ⟨l,hle⟩:∃ l,dg z=l:=⟨_,rfl⟩
  rw[hle] at HT hl ⊢;have hl':(l.length:Int)≤1000000000:=by omega
  clear h hr hz0 hle;rcases hz with ⟨hz,hs⟩ | ⟨hz,hs⟩
  ·rw[hs,if_neg (by omega)];clear hz hs;go_in;go_wp2_with fail;go_loopg [3,4] l.length (fun k v3 v4 wr=> TxRel w #[.int .i64 1,.slice a l.length c] [] l k v3 v4 wr)
   case atStart=> exact ⟨l.length,_,by rw[List.drop_length];rfl,rfl,rfl,rfl,rl_ _,eD_ _ _,(eB_ _ _).alloc (rl_ _) _⟩
   case round=>
    obtain ⟨j,i,rfl,rfl,hi,hk,hj,hg,hb⟩:=hrel;have a1:=Q3 hg 1 rfl;have HR:=h3_ hk hg hb;clear hk hg hb;cases j with
    | zero=>
     obtain rfl:i=-1:=(by omega);clear hi;go_wp2_with fail;go_ret;exact ⟨by rw[List.drop_zero];rfl,HR.C⟩
    | succ m=>
     obtain rfl:i=(m:Int):=(by omega);have hmx:(m:Int) < (l.length:Int):=(by omega);obtain ⟨d,hd1,hd2,hd3⟩:=X8 HT.B m (by omega);obtain ⟨b1,o1,ex,hcx⟩:=(HT.a.below HR.C).cell (i:=m) (by omega);rw[hd1] at hcx;have hbv:=LH hd3;obtain ⟨bt,hbt⟩:∃ b,dbyte d=b:=⟨_,rfl⟩
     rw[hbt] at hbv;have hcv:48+(d:Int)=((bt.toNat:Nat):Int):=(by omega);have hconv:∀ W:World,(convert 106 9 (.slice (some ⟨W.heap.size,0,none⟩) 1 1)).run prog (W.alloc (.cells #[.int .u8 (48+(d:Int))] 5))= .ok (.string ⟨[bt].toArray⟩) (W.alloc (.cells #[.int .u8 (48+(d:Int))] 5)):=fun W=> (by rw[hcv];exact LI bt W);clear hcv;have hd9:(d:Int)≤9:=(by omega);have HD:=h2_ hd2 hbt;have HLL:Hid (([]++((l.drop (m+1)).reverse.map dbyte)).length+1≤9000000000000000000):=hd_ (by simp;omega);obtain ⟨pr,hpr⟩:∃ p:List UInt8,([]:List UInt8)++((l.drop (m+1)).reverse.map dbyte)=p:=⟨_,rfl⟩
     rw[hpr] at HLL ⊢;have HP:=hd_ hpr;clear hd1 hd2 hd3 hbv hbt hi hpr;obtain rfl:=ex;go_wp2_with (refine Jw (l:=pr) (m:= [bt]) rfl _ _ _ _ rfl rfl rfl HLL.o ?_);go_roundg m
     case measure=> have:=HR.a;omega
     case rel=>
      refine ⟨m,_,?_,rfl,rfl,rfl,by omega,?_,HR.C.alloc HR.C.size _⟩
      ·rw[Y5 HD.a,List.reverse_cons,List.map_append, ←eQ_,HP.o];rw[←HD.B];rfl
      ·rw[eJ_ _ _ _ (Q4 HR.b)];exact HR.b
  ·rw[hs,if_pos hz];clear hz hs;go_in;go_wp2_with fail;go_loopg [3,4] l.length (fun k v3 v4 wr=> TxRel w #[.int .i64 (-1),.slice a l.length c] [45] l k v3 v4 wr)
   case atStart=> exact ⟨l.length,_,by rw[List.drop_length];rfl,rfl,rfl,rfl,rl_ _,eD_ _ _,(eB_ _ _).alloc (rl_ _) _⟩
   case round=>
    obtain ⟨j,i,rfl,rfl,hi,hk,hj,hg,hb⟩:=hrel;have a1:=Q3 hg 1 rfl;have HR:=h3_ hk hg hb;clear hk hg hb;cases j with
    | zero=>
     obtain rfl:i=-1:=(by omega);clear hi;go_wp2_with fail;go_ret;exact ⟨by rw[List.drop_zero];rfl,HR.C⟩
    | succ m=>
     obtain rfl:i=(m:Int):=(by omega);have hmx:(m:Int) < (l.length:Int):=(by omega);obtain ⟨d,hd1,hd2,hd3⟩:=X8 HT.B m (by omega);obtain ⟨b1,o1,ex,hcx⟩:=(HT.a.below HR.C).cell (i:=m) (by omega);rw[hd1] at hcx;have hbv:=LH hd3;obtain ⟨bt,hbt⟩:∃ b,dbyte d=b:=⟨_,rfl⟩
     rw[hbt] at hbv;have hcv:48+(d:Int)=((bt.toNat:Nat):Int):=(by omega);have hconv:∀ W:World,(convert 106 9 (.slice (some ⟨W.heap.size,0,none⟩) 1 1)).run prog (W.alloc (.cells #[.int .u8 (48+(d:Int))] 5))= .ok (.string ⟨[bt].toArray⟩) (W.alloc (.cells #[.int .u8 (48+(d:Int))] 5)):=fun W=> (by rw[hcv];exact LI bt W);clear hcv;have hd9:(d:Int)≤9:=(by omega);have HD:=h2_ hd2 hbt;have HLL:Hid (([45]++((l.drop (m+1)).reverse.map dbyte)).length+1≤9000000000000000000):=hd_ (by simp;omega);obtain ⟨pr,hpr⟩:∃ p:List UInt8, [45]++((l.drop (m+1)).reverse.map dbyte)=p:=⟨_,rfl⟩
     rw[hpr] at HLL ⊢;have HP:=hd_ hpr;clear hd1 hd2 hd3 hbv hbt hi hpr;obtain rfl:=ex;go_wp2_with (refine Jw (l:=pr) (m:= [bt]) rfl _ _ _ _ rfl rfl rfl HLL.o ?_);go_roundg m
     case measure=> have:=HR.a;omega
     case rel=>
      refine ⟨m,_,?_,rfl,rfl,rfl,by omega,?_,HR.C.alloc HR.C.size _⟩
      ·rw[Y5 HD.a,List.reverse_cons,List.map_append, ←eQ_,HP.o];rw[←HD.B];rfl
      ·rw[eJ_ _ _ _ (Q4 HR.b)];exact HR.b
open Go.RowKit Go.Sort
def POutZ (w':World) (e:Ending) (p:Int × Int):Prop:=∃ v',e= .returned (.tuple #[v',.int .i64 p.2])∧Zn w' v' p.1
theorem QW {fn:Func} {p u:Tmp} (h:fn.results= #[.cell p 48,.tmp u]) (hp:tmps.getD p undef= .pointer (some ⟨g,0,none⟩)) (hg:w.heap[g]? =some (.cells cs 48 (0,0))) (hs:cs.size=2) {x:Value} (hx:tmps.getD u undef=x):
  (results fn tmps).run prog w= .ok (.tuple #[.agg cs,x]) w:=
 QZ h _ _ g _ _ _ _ hp hg underlying48 rfl (by rw[hs];exact Jz) hx
theorem XF (w:World):Zn w (.agg #[.int .i64 0,.slice none 0 0]) 0:=by
 refine ⟨.slice none 0 0,rfl,?_⟩;have e:dg 0= []:=Zp.QG _;rw[e];exact RdD.nil _
def back (l:List UInt8):List Nat:=l.reverse.map fun c=> c.toNat - 48
theorem UR (c:UInt8) (l:List UInt8):back (c::l)=back l++ [c.toNat - 48]:=by simp[back]
theorem Z4 (l:List UInt8):(back l).length=l.length:=by simp[back]
theorem US {l:List UInt8} (h:m < l.length):l.drop m=l[m]::l.drop (m+1):=List.drop_eq_getElem_cons h
theorem Yn {l:List UInt8} {d:UInt8} (hm:m < l.length) (hd:l[m]=d) (h:Zp.isDig d=false):l.all Zp.isDig=false:=by
 rw[List.all_eq_false];exact ⟨d,by rw[←hd];exact List.getElem_mem hm,by simp[h]⟩
def PzRel (w:World) (r:List UInt8) (k:Nat) (v6 v7:Value) (wr:World):Prop:=
 ∃ (a:Option Addr) (cc j:Nat) (i:Int),v6= .slice a (back (r.drop j)).length cc∧v7= .int .i64 i∧i=(j:Int) - 1∧k=j∧j≤r.length∧(r.drop j).all Zp.isDig=true∧
  wr.ownsRow (w.heap.size+1) 3 1 (.slice a (back (r.drop j)).length cc) (back (r.drop j)).length (natCells (back (r.drop j)))∧wr.heap[w.heap.size]? =some (.cells #[.int .i64 0,.slice none 0 0] 48 (0,0))∧Below (w.heap.size+1) (w.alloc (.cells #[.int .i64 0,.slice none 0 0] 48)) wr
theorem Q0A (l:List UInt8) (hl:l.length≤1073741824) (w:World):
  Calls prog 25 #[.string ⟨l.toArray⟩] w fun e w'=> POutZ w' e (Zp.parse l)∧Below w.heap.size w w':=by
 obtain ⟨P,hP⟩:∃ P,Zp.parse l=P:=⟨_,rfl⟩
 have hP2:=hP;unfold Zp.parse at hP2;rw[hP];clear hP;have HB:=h2_ (eD_ w (.cells #[.int .i64 0,.slice none 0 0] 48)) ((eB_ w.heap.size w).alloc (rl_ _) (.cells #[.int .i64 0,.slice none 0 0] 48));cases hm:Zp.minusOf l with
 | true=>
  have hf:=Zp.D9 hm;have e1:Zp.restOf l=l.tail:=by rw[Zp.restOf,hm];rfl
  rw[hm] at hP2;rw[e1] at hP2;obtain ⟨r,hr⟩:∃ r,l.tail=r:=⟨_,rfl⟩
  rw[hr] at hf hP2;have hs:(⟨l.toArray⟩:ByteArray).size=r.length+1:=by rw[hf];simp[ByteArray.size]
  have hx:(⟨l.toArray⟩:ByteArray).extract 1 (r.length+1)=⟨r.toArray⟩:=by rw[QO,hf];simp
  have hrl:(r.length:Int)≤1073741824:=by rw[hf] at hl;simp at hl;omega
  have hcm:∀ h:0 < (⟨l.toArray⟩:ByteArray).size,((((⟨l.toArray⟩:ByteArray)[0]'h).toNat:Int)==45)=true:=by
   subst hf;intro h;rfl
  obtain ⟨S,hS⟩:∃ S,(⟨l.toArray⟩:ByteArray)=S:=⟨_,rfl⟩
  rw[hS] at hs hx hcm ⊢;have hsz0:0 < S.size:=by rw[hs];omega
  replace hcm:=hcm hsz0;clear hm hf e1 hr hl hS;by_cases h60:60 < r.length
  ·rw[if_pos h60] at hP2;subst hP2;have hd60:decide ((60:Int) < (r.length:Int))=true:=eM_ (by omega);have hd60n:decide (60 < r.length)=true:=eM_ h60;clear h60;go_in;go_wp2_with fail;exact eG_ (QW rfl rfl HB.a rfl rfl) rfl ⟨⟨_,rfl,XF _⟩,HB.B⟩
  ·rw[if_neg h60] at hP2;cases r with
   | nil=>
    rw[if_pos (Or.inl rfl)] at hP2;subst hP2;clear h60;go_in;go_wp2_with fail;exact eG_ (QW rfl rfl HB.a rfl rfl) rfl ⟨⟨_,rfl,XF _⟩,HB.B⟩
   | cons c rs=>
    rw[eL_] at hs hx;clear hrl;have hln:(rs.length:Int)≤59:=(by simp at h60;omega);have hs2:(⟨(c::rs).toArray⟩:ByteArray).size=rs.length+1:=(by simp[ByteArray.size]);have hix:∀ (m:Nat) (h1:m < (⟨(c::rs).toArray⟩:ByteArray).size) (h2:m < (c::rs).length),(⟨(c::rs).toArray⟩:ByteArray)[m]'h1=(c::rs)[m]:=fun m h1 h2=> rfl;obtain ⟨S2,hS2⟩:∃ S2,(⟨(c::rs).toArray⟩:ByteArray)=S2:=⟨_,rfl⟩
    rw[hS2] at hs2 hix hx;have hsz:0 < S2.size:=(by rw[hs2];omega);have hix0:S2[0]'hsz=c:=hix 0 hsz (by simp);have HIX:=hd_ hix;clear hix hS2;have hd60:decide ((60:Int) < (rs.length:Int)+1)=false:=eK_ (by omega);have hq0:((rs.length:Int)+1==0)=false:=beq_false_of_ne (by omega);have hPQ:((c::rs).all Zp.isDig=false→P=(0,10))∧((c::rs).all Zp.isDig=true→¬ ((c::rs).head? =some 48∧(1 < (c::rs).length∨true=true))→P=(-(Zp.num (c::rs):Int),0)):=by
     constructor
     ·intro h;rw[if_pos (Or.inr (Or.inl h))] at hP2;exact hP2.symm
     ·intro h hz;rw[if_neg (fun h2=> h2.elim (by simp) (fun h2=> h2.elim (by rw[h];simp) hz))] at hP2;exact hP2.symm
    by_cases hz:(c::rs).head? =some 48∧(1 < (c::rs).length∨true=true)
    ·rw[if_pos (Or.inr (Or.inr hz))] at hP2;subst hP2;obtain ⟨hz1,hz2⟩:=hz;have hc:c=48:=(by simpa using hz1);have hcb:(((S2[0]'hsz).toNat:Int)==48)=true:=(by rw[hix0,hc];rfl);clear hz1 h60 hc hPQ hix0;by_cases h1:0 < rs.length
     ·have h1':decide ((1:Int) < (rs.length:Int)+1)=true:=eM_ (by omega);clear hz2;go_in;go_wp2_with fail;exact eG_ (QW rfl rfl HB.a rfl rfl) rfl ⟨⟨_,rfl,XF _⟩,HB.B⟩
     ·have h1':decide ((1:Int) < (rs.length:Int)+1)=false:=eK_ (by omega);clear hz2;go_in;go_wp2_with fail;exact eG_ (QW rfl rfl HB.a rfl rfl) rfl ⟨⟨_,rfl,XF _⟩,HB.B⟩
    ·replace hPQ:((c::rs).all Zp.isDig=false→P=(0,10))∧((c::rs).all Zp.isDig=true→P=(-(Zp.num (c::rs):Int),0)):=⟨hPQ.1,fun h=> hPQ.2 h hz⟩
     clear hP2;by_cases hc:c=48
     ·exact absurd ⟨by rw[hc];rfl,Or.inr rfl⟩ hz
     ·have hcb:(((S2[0]'hsz).toNat:Int)==48)=false:=(by rw[hix0];exact beq_false_of_ne fun e=> hc (UInt8.toNat_inj.1 (by show c.toNat=48;omega)));clear hz h60 hc hix0;go_in;go_wp2_with fail;have HD:=h2_ hd60 hPQ;clear hd60 hq0 hPQ hsz hcb hln hx hcm;go_loopg [6,7] (c::rs).length (fun k v6 v7 wr=> PzRel w (c::rs) k v6 v7 wr)
      case atStart=> exact ⟨none,0,(c::rs).length,_,by rw[List.drop_length];rfl,rfl,by rw[eL_];omega,rfl,rl_ _,by rw[List.drop_length];rfl,by rw[List.drop_length];exact World.ownsRow_nil _ _ _ _,HB.a,eB_ _ _⟩
      case round=>
       obtain ⟨a,cc,j,i,rfl,rfl,hi,hk,hj,hall,hown,hg,hb⟩:=hrel;have HR:=h5_ hk hall hown hg hb;clear hk hall hown hg hb;cases j with
       | zero=>
        obtain rfl:i=-1:=(by omega);clear hi hj;obtain ⟨q1,q2,q3,q4,q5⟩:=HR.o;rw[List.drop_zero] at q2 q3 ⊢;have hPz:=HD.C q2;have hnd:=Zp.ZI (c::rs) q2;have hdd:=Zp.GD q2;have hrd:=Zi q3;have hbw:Below w.heap.size w wr:=HB.B.trans (q5.mono (Nat.le_succ _));have hll:(back (c::rs)).length≤1073741824:=(by rw[Z4,eL_];have:=of_decide_eq_false HD.a;omega);subst hPz;have HV:=h6_ hrd hnd hdd hll q4 hbw;clear q1 q2 q3 q4 q5 hnd hdd hrd hbw hll;go_wp2_with fail;refine (X4 HV.a HV.d HV.c (-1) _ (show -(Zp.num (c::rs):Int)=(-1)*(Zp.val 10 (back (c::rs)):Nat) by rw[HV.b];show _=(-1)*_;rw[Int.neg_mul,Int.one_mul];rfl) (by omega)).mono ?_;rintro e w2 ⟨v2,rfl,hr,hb⟩;have HS:=h3_ ((hb.block _ (Q4 HV.e)).trans HV.e) hr (HV.F.trans (hb.mono HV.F.size));clear hr hb;dsimp only;go_wp2_with (refine X3 rfl _ _ rfl rfl HS.a rfl rfl HS.b (rl_ _) HS.C ?_;rintro W cs - rfl hg hs hn hb -;have HT:=h4_ hg hs hn hb;clear hg hs hn hb);exact eG_ (QW rfl rfl HT.a HT.b rfl) rfl ⟨⟨_,rfl,HT.c⟩,HT.D⟩
       | succ m=>
        obtain rfl:i=(m:Int):=(by omega);have hr2:(c::rs).length=rs.length+1:=rfl;have hr:=hr2;have hml:m < (c::rs).length:=(by omega);have hszm:m < S2.size:=(by rw[hs2];exact hml);obtain ⟨d,hd⟩:∃ d,(c::rs)[m]=d:=⟨_,rfl⟩
        obtain ⟨x,hx⟩:∃ x:Nat,d.toNat=x:=⟨_,rfl⟩
        have hxe:((S2[m]'hszm).toNat)=x:=(by rw[HIX.o m hszm hml,hd,hx]);have hdrop:=US hml;rw[hd] at hdrop;have hx255:(x:Int)≤255:=(by have:=d.toNat_lt;omega);have hmr:(m:Int)≤(rs.length:Int):=(by omega);have hrl60:(rs.length:Int)≤59:=(by have:=of_decide_eq_false HD.a;omega);rcases eS_ x 48 with h1 | h1
        ·have h1':decide ((x:Int) < 48)=true:=eM_ (by omega);have h1n:decide (x < 48)=true:=eM_ h1;have hbad:=HD.b (Yn hml hd (by unfold Zp.isDig;simp;omega));subst hbad;have zc0:=Q3 HR.d 0 rfl;have zc1:=Q3 HR.d 1 rfl;have z0:=Q6 HR.d 0;have z1:=Q6 HR.d 1;clear hdrop hx hd hr hml hj hr2 hi;go_wp2_with fail;obtain ⟨y1,y2,y3⟩:=Yz (XF wr) HR.d rfl (HB.B.trans (HR.E.mono (Nat.le_succ _))) (rl_ _);exact eG_ (QW rfl rfl y1 rfl rfl) rfl ⟨⟨_,rfl,y2⟩,y3⟩
        ·have h1':decide ((x:Int) < 48)=false:=eK_ (by omega);have h1n:decide (x < 48)=false:=eK_ (by omega);rcases eS_ 57 x with h2 | h2
         ·have h2':decide ((57:Int) < (x:Int))=true:=eM_ (by omega);have h2n:decide (57 < x)=true:=eM_ h2;have hbad:=HD.b (Yn hml hd (by unfold Zp.isDig;simp;omega));subst hbad;have zc0:=Q3 HR.d 0 rfl;have zc1:=Q3 HR.d 1 rfl;have z0:=Q6 HR.d 0;have z1:=Q6 HR.d 1;clear hdrop hx hd hr hml hj hr2 hi;go_wp2_with fail;obtain ⟨y1,y2,y3⟩:=Yz (XF wr) HR.d rfl (HB.B.trans (HR.E.mono (Nat.le_succ _))) (rl_ _);exact eG_ (QW rfl rfl y1 rfl rfl) rfl ⟨⟨_,rfl,y2⟩,y3⟩
         ·have h2':decide ((57:Int) < (x:Int))=false:=eK_ (by omega);have h2n:decide (57 < x)=false:=eK_ (by omega);have h48:(48:Int)≤(x:Int):=(by omega);have h57:(x:Int)≤57:=(by omega);have hsz:w.heap.size+1≤wr.heap.size:=(by have h:=HR.E.size;rw[←Q5] at h;exact h);have HX:=h5_ hdrop hx hml hr2 hsz;clear hdrop hx hd hr hml hr2 hj hsz hi;go_wp2_with (first
           | (refine app1 rfl _ _ Xp rfl rfl HR.c (rl_ _) HX.E HR.E _ rfl rfl rfl (by rw[Z4,List.length_drop];have:=HX.d;omega) ?_;rintro a2 c2 w2 ho2 hb2 hg2;have HA:=h3_ ho2 hb2 hg2;clear ho2 hb2 hg2))
          go_roundg m
          case measure=> have:=HR.a;omega
          case rel=>
           obtain ⟨q1,q2,q3,q4,q5⟩:=HR.o;have e1:back ((c::rs).drop m)=back ((c::rs).drop (m+1))++ [x - 48]:=(by rw[HX.a,UR,HX.b]);refine ⟨a2,c2,m,_,by rw[e1,eC_];rfl,rfl,rfl,rfl,by have:=HX.c;omega,?_,?_,?_,HA.b⟩
           ·rw[HX.a,List.all_cons,q2,Bool.and_true];unfold Zp.isDig;rw[HX.b];simp;omega
           ·rw[e1,eC_];exact Xj HA.a (by omega)
           ·exact (HA.b.block _ (Nat.lt_succ_self _)).trans HB.a
 | false=>
  have e1:Zp.restOf l=l:=by rw[Zp.restOf,hm];rfl
  rw[hm] at hP2;rw[e1] at hP2;clear e1;cases l with
  | nil=>
   rw[if_neg (by simp),if_pos (Or.inl rfl)] at hP2;subst hP2;clear hm hl;go_in;go_wp2_with fail;exact eG_ (QW rfl rfl HB.a rfl rfl) rfl ⟨⟨_,rfl,XF _⟩,HB.B⟩
  | cons c rs=>
   have hcm:∀ h:0 < (⟨(c::rs).toArray⟩:ByteArray).size,((((⟨(c::rs).toArray⟩:ByteArray)[0]'h).toNat:Int)==45)=false:=by
    intro h;show ((c.toNat:Int)==45)=false;refine beq_false_of_ne fun e=> ?_;have:c=45:=UInt8.toNat_inj.1 (by show c.toNat=45;omega);rw[this] at hm;cases hm
   have hrl:(rs.length:Int)≤1073741823:=(by simp at hl;omega);clear hm hl;by_cases h60:60 < (c::rs).length
   ·rw[if_pos h60] at hP2;subst hP2;have hd60:decide ((60:Int) < (rs.length:Int)+1)=true:=eM_ (by rw[eL_] at h60;omega);clear h60;go_in;go_wp2_with fail;exact eG_ (QW rfl rfl HB.a rfl rfl) rfl ⟨⟨_,rfl,XF _⟩,HB.B⟩
   ·rw[if_neg h60] at hP2;have hln:(rs.length:Int)≤59:=(by simp at h60;omega);have hs2:(⟨(c::rs).toArray⟩:ByteArray).size=rs.length+1:=(by simp[ByteArray.size]);have hix:∀ (m:Nat) (h1:m < (⟨(c::rs).toArray⟩:ByteArray).size) (h2:m < (c::rs).length),(⟨(c::rs).toArray⟩:ByteArray)[m]'h1=(c::rs)[m]:=fun m h1 h2=> rfl;obtain ⟨S2,hS2⟩:∃ S2,(⟨(c::rs).toArray⟩:ByteArray)=S2:=⟨_,rfl⟩
    rw[hS2] at hs2 hix hcm ⊢;have hsz:0 < S2.size:=(by rw[hs2];omega);have hix0:S2[0]'hsz=c:=hix 0 hsz (by simp);have HIX:=hd_ hix;clear hix hS2;have hd60:decide ((60:Int) < (rs.length:Int)+1)=false:=eK_ (by omega);have hq0:((rs.length:Int)+1==0)=false:=beq_false_of_ne (by omega);have hPQ:((c::rs).all Zp.isDig=false→P=(0,10))∧((c::rs).all Zp.isDig=true→¬ ((c::rs).head? =some 48∧(1 < (c::rs).length∨false=true))→P=((Zp.num (c::rs):Int),0)):=by
     constructor
     ·intro h;rw[if_pos (Or.inr (Or.inl h))] at hP2;exact hP2.symm
     ·intro h hz;rw[if_neg (fun h2=> h2.elim (by simp) (fun h2=> h2.elim (by rw[h];simp) hz))] at hP2;exact hP2.symm
    by_cases hz:(c::rs).head? =some 48∧(1 < (c::rs).length∨false=true)
    ·rw[if_pos (Or.inr (Or.inr hz))] at hP2;subst hP2;obtain ⟨hz1,hz2⟩:=hz;have hc:c=48:=(by simpa using hz1);have hcb:(((S2[0]'hsz).toNat:Int)==48)=true:=(by rw[hix0,hc];rfl);clear hz1 h60 hc hPQ hix0;by_cases h1:0 < rs.length
     ·have h1':decide ((1:Int) < (rs.length:Int)+1)=true:=eM_ (by omega);clear hz2;go_in;go_wp2_with fail;exact eG_ (QW rfl rfl HB.a rfl rfl) rfl ⟨⟨_,rfl,XF _⟩,HB.B⟩
     ·exact absurd (hz2.resolve_right (by simp)) (fun h=> h1 (by simpa using h))
    ·replace hPQ:((c::rs).all Zp.isDig=false→P=(0,10))∧((c::rs).all Zp.isDig=true→P=((Zp.num (c::rs):Int),0)):=⟨hPQ.1,fun h=> hPQ.2 h hz⟩
     clear hP2;by_cases hc:c=48
     ·have h1:¬ 1 < (c::rs).length:=fun h=> hz ⟨by rw[hc];rfl,Or.inl h⟩;have h1':decide ((1:Int) < (rs.length:Int)+1)=false:=eK_ (by rw[eL_] at h1;omega);have hcb:(((S2[0]'hsz).toNat:Int)==48)=true:=(by rw[hix0,hc];rfl);clear hz h60 hc h1 hix0;go_in;go_wp2_with fail;have HD:=h2_ hd60 hPQ;clear hd60 hq0 hPQ hsz h1' hcb hln hcm hrl;go_loopg [6,7] (c::rs).length (fun k v6 v7 wr=> PzRel w (c::rs) k v6 v7 wr)
      case atStart=> exact ⟨none,0,(c::rs).length,_,by rw[List.drop_length];rfl,rfl,by rw[eL_];omega,rfl,rl_ _,by rw[List.drop_length];rfl,by rw[List.drop_length];exact World.ownsRow_nil _ _ _ _,HB.a,eB_ _ _⟩
      case round=>
       obtain ⟨a,cc,j,i,rfl,rfl,hi,hk,hj,hall,hown,hg,hb⟩:=hrel;have HR:=h5_ hk hall hown hg hb;clear hk hall hown hg hb;cases j with
       | zero=>
        obtain rfl:i=-1:=(by omega);clear hi hj;obtain ⟨q1,q2,q3,q4,q5⟩:=HR.o;rw[List.drop_zero] at q2 q3 ⊢;have hPz:=HD.C q2;have hnd:=Zp.ZI (c::rs) q2;have hdd:=Zp.GD q2;have hrd:=Zi q3;have hbw:Below w.heap.size w wr:=HB.B.trans (q5.mono (Nat.le_succ _));have hll:(back (c::rs)).length≤1073741824:=(by rw[Z4,eL_];have:=of_decide_eq_false HD.a;omega);subst hPz;have HV:=h6_ hrd hnd hdd hll q4 hbw;clear q1 q2 q3 q4 q5 hnd hdd hrd hbw hll;go_wp2_with fail;refine (X4 HV.a HV.d HV.c 1 _ (show (Zp.num (c::rs):Int)=1*(Zp.val 10 (back (c::rs)):Nat) by rw[HV.b];show _=1*_;rw[Int.one_mul];rfl) (by omega)).mono ?_;rintro e w2 ⟨v2,rfl,hr,hb⟩;have HS:=h3_ ((hb.block _ (Q4 HV.e)).trans HV.e) hr (HV.F.trans (hb.mono HV.F.size));clear hr hb;dsimp only;go_wp2_with (refine X3 rfl _ _ rfl rfl HS.a rfl rfl HS.b (rl_ _) HS.C ?_;rintro W cs - rfl hg hs hn hb -;have HT:=h4_ hg hs hn hb;clear hg hs hn hb);exact eG_ (QW rfl rfl HT.a HT.b rfl) rfl ⟨⟨_,rfl,HT.c⟩,HT.D⟩
       | succ m=>
        obtain rfl:i=(m:Int):=(by omega);have hr2:(c::rs).length=rs.length+1:=rfl;have hr:=hr2;have hml:m < (c::rs).length:=(by omega);have hszm:m < S2.size:=(by rw[hs2];exact hml);obtain ⟨d,hd⟩:∃ d,(c::rs)[m]=d:=⟨_,rfl⟩
        obtain ⟨x,hx⟩:∃ x:Nat,d.toNat=x:=⟨_,rfl⟩
        have hxe:((S2[m]'hszm).toNat)=x:=(by rw[HIX.o m hszm hml,hd,hx]);have hdrop:=US hml;rw[hd] at hdrop;have hx255:(x:Int)≤255:=(by have:=d.toNat_lt;omega);have hmr:(m:Int)≤(rs.length:Int):=(by omega);have hrl60:(rs.length:Int)≤59:=(by have:=of_decide_eq_false HD.a;omega);rcases eS_ x 48 with h1 | h1
        ·have h1':decide ((x:Int) < 48)=true:=eM_ (by omega);have h1n:decide (x < 48)=true:=eM_ h1;have hbad:=HD.b (Yn hml hd (by unfold Zp.isDig;simp;omega));subst hbad;have zc0:=Q3 HR.d 0 rfl;have zc1:=Q3 HR.d 1 rfl;have z0:=Q6 HR.d 0;have z1:=Q6 HR.d 1;clear hdrop hx hd hr hml hj hr2 hi;go_wp2_with fail;obtain ⟨y1,y2,y3⟩:=Yz (XF wr) HR.d rfl (HB.B.trans (HR.E.mono (Nat.le_succ _))) (rl_ _);exact eG_ (QW rfl rfl y1 rfl rfl) rfl ⟨⟨_,rfl,y2⟩,y3⟩
        ·have h1':decide ((x:Int) < 48)=false:=eK_ (by omega);have h1n:decide (x < 48)=false:=eK_ (by omega);rcases eS_ 57 x with h2 | h2
         ·have h2':decide ((57:Int) < (x:Int))=true:=eM_ (by omega);have h2n:decide (57 < x)=true:=eM_ h2;have hbad:=HD.b (Yn hml hd (by unfold Zp.isDig;simp;omega));subst hbad;have zc0:=Q3 HR.d 0 rfl;have zc1:=Q3 HR.d 1 rfl;have z0:=Q6 HR.d 0;have z1:=Q6 HR.d 1;clear hdrop hx hd hr hml hj hr2 hi;go_wp2_with fail;obtain ⟨y1,y2,y3⟩:=Yz (XF wr) HR.d rfl (HB.B.trans (HR.E.mono (Nat.le_succ _))) (rl_ _);exact eG_ (QW rfl rfl y1 rfl rfl) rfl ⟨⟨_,rfl,y2⟩,y3⟩
         ·have h2':decide ((57:Int) < (x:Int))=false:=eK_ (by omega);have h2n:decide (57 < x)=false:=eK_ (by omega);have h48:(48:Int)≤(x:Int):=(by omega);have h57:(x:Int)≤57:=(by omega);have hsz:w.heap.size+1≤wr.heap.size:=(by have h:=HR.E.size;rw[←Q5] at h;exact h);have HX:=h5_ hdrop hx hml hr2 hsz;clear hdrop hx hd hr hml hr2 hj hsz hi;go_wp2_with (first
           | (refine app1 rfl _ _ Xp rfl rfl HR.c (rl_ _) HX.E HR.E _ rfl rfl rfl (by rw[Z4,List.length_drop];have:=HX.d;omega) ?_;rintro a2 c2 w2 ho2 hb2 hg2;have HA:=h3_ ho2 hb2 hg2;clear ho2 hb2 hg2))
          go_roundg m
          case measure=> have:=HR.a;omega
          case rel=>
           obtain ⟨q1,q2,q3,q4,q5⟩:=HR.o;have e1:back ((c::rs).drop m)=back ((c::rs).drop (m+1))++ [x - 48]:=(by rw[HX.a,UR,HX.b]);refine ⟨a2,c2,m,_,by rw[e1,eC_];rfl,rfl,rfl,rfl,by have:=HX.c;omega,?_,?_,?_,HA.b⟩
           ·rw[HX.a,List.all_cons,q2,Bool.and_true];unfold Zp.isDig;rw[HX.b];simp;omega
           ·rw[e1,eC_];exact Xj HA.a (by omega)
           ·exact (HA.b.block _ (Nat.lt_succ_self _)).trans HB.a
     ·have hcb:(((S2[0]'hsz).toNat:Int)==48)=false:=(by rw[hix0];exact beq_false_of_ne fun e=> hc (UInt8.toNat_inj.1 (by show c.toNat=48;omega)));clear hz h60 hc hix0;go_in;go_wp2_with fail;have HD:=h2_ hd60 hPQ;clear hd60 hq0 hPQ hsz hcb hln hcm hrl;go_loopg [6,7] (c::rs).length (fun k v6 v7 wr=> PzRel w (c::rs) k v6 v7 wr)
      case atStart=> exact ⟨none,0,(c::rs).length,_,by rw[List.drop_length];rfl,rfl,by rw[eL_];omega,rfl,rl_ _,by rw[List.drop_length];rfl,by rw[List.drop_length];exact World.ownsRow_nil _ _ _ _,HB.a,eB_ _ _⟩
      case round=>
       obtain ⟨a,cc,j,i,rfl,rfl,hi,hk,hj,hall,hown,hg,hb⟩:=hrel;have HR:=h5_ hk hall hown hg hb;clear hk hall hown hg hb;cases j with
       | zero=>
        obtain rfl:i=-1:=(by omega);clear hi hj;obtain ⟨q1,q2,q3,q4,q5⟩:=HR.o;rw[List.drop_zero] at q2 q3 ⊢;have hPz:=HD.C q2;have hnd:=Zp.ZI (c::rs) q2;have hdd:=Zp.GD q2;have hrd:=Zi q3;have hbw:Below w.heap.size w wr:=HB.B.trans (q5.mono (Nat.le_succ _));have hll:(back (c::rs)).length≤1073741824:=(by rw[Z4,eL_];have:=of_decide_eq_false HD.a;omega);subst hPz;have HV:=h6_ hrd hnd hdd hll q4 hbw;clear q1 q2 q3 q4 q5 hnd hdd hrd hbw hll;go_wp2_with fail;refine (X4 HV.a HV.d HV.c 1 _ (show (Zp.num (c::rs):Int)=1*(Zp.val 10 (back (c::rs)):Nat) by rw[HV.b];show _=1*_;rw[Int.one_mul];rfl) (by omega)).mono ?_;rintro e w2 ⟨v2,rfl,hr,hb⟩;have HS:=h3_ ((hb.block _ (Q4 HV.e)).trans HV.e) hr (HV.F.trans (hb.mono HV.F.size));clear hr hb;dsimp only;go_wp2_with (refine X3 rfl _ _ rfl rfl HS.a rfl rfl HS.b (rl_ _) HS.C ?_;rintro W cs - rfl hg hs hn hb -;have HT:=h4_ hg hs hn hb;clear hg hs hn hb);exact eG_ (QW rfl rfl HT.a HT.b rfl) rfl ⟨⟨_,rfl,HT.c⟩,HT.D⟩
       | succ m=>
        obtain rfl:i=(m:Int):=(by omega);have hr2:(c::rs).length=rs.length+1:=rfl;have hr:=hr2;have hml:m < (c::rs).length:=(by omega);have hszm:m < S2.size:=(by rw[hs2];exact hml);obtain ⟨d,hd⟩:∃ d,(c::rs)[m]=d:=⟨_,rfl⟩
        obtain ⟨x,hx⟩:∃ x:Nat,d.toNat=x:=⟨_,rfl⟩
        have hxe:((S2[m]'hszm).toNat)=x:=(by rw[HIX.o m hszm hml,hd,hx]);have hdrop:=US hml;rw[hd] at hdrop;have hx255:(x:Int)≤255:=(by have:=d.toNat_lt;omega);have hmr:(m:Int)≤(rs.length:Int):=(by omega);have hrl60:(rs.length:Int)≤59:=(by have:=of_decide_eq_false HD.a;omega);rcases eS_ x 48 with h1 | h1
        ·have h1':decide ((x:Int) < 48)=true:=eM_ (by omega);have h1n:decide (x < 48)=true:=eM_ h1;have hbad:=HD.b (Yn hml hd (by unfold Zp.isDig;simp;omega));subst hbad;have zc0:=Q3 HR.d 0 rfl;have zc1:=Q3 HR.d 1 rfl;have z0:=Q6 HR.d 0;have z1:=Q6 HR.d 1;clear hdrop hx hd hr hml hj hr2 hi;go_wp2_with fail;obtain ⟨y1,y2,y3⟩:=Yz (XF wr) HR.d rfl (HB.B.trans (HR.E.mono (Nat.le_succ _))) (rl_ _);exact eG_ (QW rfl rfl y1 rfl rfl) rfl ⟨⟨_,rfl,y2⟩,y3⟩
        ·have h1':decide ((x:Int) < 48)=false:=eK_ (by omega);have h1n:decide (x < 48)=false:=eK_ (by omega);rcases eS_ 57 x with h2 | h2
         ·have h2':decide ((57:Int) < (x:Int))=true:=eM_ (by omega);have h2n:decide (57 < x)=true:=eM_ h2;have hbad:=HD.b (Yn hml hd (by unfold Zp.isDig;simp;omega));subst hbad;have zc0:=Q3 HR.d 0 rfl;have zc1:=Q3 HR.d 1 rfl;have z0:=Q6 HR.d 0;have z1:=Q6 HR.d 1;clear hdrop hx hd hr hml hj hr2 hi;go_wp2_with fail;obtain ⟨y1,y2,y3⟩:=Yz (XF wr) HR.d rfl (HB.B.trans (HR.E.mono (Nat.le_succ _))) (rl_ _);exact eG_ (QW rfl rfl y1 rfl rfl) rfl ⟨⟨_,rfl,y2⟩,y3⟩
         ·have h2':decide ((57:Int) < (x:Int))=false:=eK_ (by omega);have h2n:decide (57 < x)=false:=eK_ (by omega);have h48:(48:Int)≤(x:Int):=(by omega);have h57:(x:Int)≤57:=(by omega);have hsz:w.heap.size+1≤wr.heap.size:=(by have h:=HR.E.size;rw[←Q5] at h;exact h);have HX:=h5_ hdrop hx hml hr2 hsz;clear hdrop hx hd hr hml hr2 hj hsz hi;go_wp2_with (first
           | (refine app1 rfl _ _ Xp rfl rfl HR.c (rl_ _) HX.E HR.E _ rfl rfl rfl (by rw[Z4,List.length_drop];have:=HX.d;omega) ?_;rintro a2 c2 w2 ho2 hb2 hg2;have HA:=h3_ ho2 hb2 hg2;clear ho2 hb2 hg2))
          go_roundg m
          case measure=> have:=HR.a;omega
          case rel=>
           obtain ⟨q1,q2,q3,q4,q5⟩:=HR.o;have e1:back ((c::rs).drop m)=back ((c::rs).drop (m+1))++ [x - 48]:=(by rw[HX.a,UR,HX.b]);refine ⟨a2,c2,m,_,by rw[e1,eC_];rfl,rfl,rfl,rfl,by have:=HX.c;omega,?_,?_,?_,HA.b⟩
           ·rw[HX.a,List.all_cons,q2,Bool.and_true];unfold Zp.isDig;rw[HX.b];simp;omega
           ·rw[e1,eC_];exact Xj HA.a (by omega)
           ·exact (HA.b.block _ (Nat.lt_succ_self _)).trans HB.a
def nmCells (l:Tp.L):List Value:=l.map fun p=> Value.string ⟨p.1.toArray⟩
def zCells (q:(Tp.Nm × Int) × Value):List Value:= [.int .i64 (sgn q.1.2),q.2]
theorem Q3f (q:(Tp.Nm × Int) × Value):(zCells q).length=2:=rfl
def fcCells (l:Tp.L) (ss:List Value):List Value:=(l.zip ss).flatMap zCells
structure FWords (w:World) (l:Tp.L) (ss:List Value):Prop where
 len:ss.length=l.length
 rd:∀ (i:Nat) (p:Tp.Nm × Int) (s:Value),l[i]? =some p→ss[i]? =some s→RdD w s (dg p.2)
theorem FWords.keep (h:FWords w l ss) (hk:∀ s ws,RdD w s ws→RdD w' s ws):FWords w' l ss:=⟨h.len,fun i p s h1 h2=> hk _ _ (h.rd i p s h1 h2)⟩
theorem FWords.nil (w:World):FWords w [] []:=⟨rfl,fun i p s h1 _=> by simp at h1⟩
theorem FWords.snoc (h:FWords w l ss) (p:Tp.Nm × Int) {s:Value} (hs:RdD w s (dg p.2)):FWords w (l++ [p]) (ss++ [s]):=by
 have hl:=h.len;refine ⟨by simp[hl],fun i q u h1 h2=> ?_⟩;rcases eS_ i l.length with hi | hi
 ·rw[eT_ hi] at h1;rw[eT_ (by omega)] at h2;exact h.rd i q u h1 h2
 ·rw[eO_ hi] at h1;rw[eO_ (by omega),hl] at h2;cases hd:i - l.length with
  | zero=>
   rw[hd] at h1 h2;simp only[eZ_,Option.some.injEq] at h1 h2;subst h1 h2;exact hs
  | succ d=> rw[hd] at h1;simp at h1
theorem Q7j (l:Tp.L) (p:Tp.Nm × Int):nmCells (l++ [p])=nmCells l++ [.string ⟨p.1.toArray⟩]:=by simp[nmCells]
theorem Q80 {p:Tp.Nm × Int} (h:l[i]? =some p):(nmCells l)[i]? =some (.string ⟨p.1.toArray⟩):=by simp[nmCells,h]
theorem Q7k (h:ss.length=l.length) (p:Tp.Nm × Int) (s:Value):fcCells (l++ [p]) (ss++ [s])=fcCells l ss++ [.int .i64 (sgn p.2),s]:=by
 rw[fcCells,List.zip_append h.symm,List.flatMap_append];rfl
def Tz (w:World) (v:Value) (t:Tp.T):Prop:=
 ∃ vn vf sd ss,v= .agg #[vn,vf,.int .i64 (sgn t.rest),sd]∧RdD w sd (dg t.rest)∧FWords w t.l ss∧RdB 9 w 1 vn t.l.length (nmCells t.l)∧RdB 48 w 2 vf t.l.length (fcCells t.l ss)
theorem Tz.below {w w':World} {v:Value} {t:Tp.T} (h:Tz w v t) (hb:Below w.heap.size w w'):Tz w' v t:=by
 obtain ⟨vn,vf,sd,ss,h1,h2,h3,h4,h5⟩:=h;exact ⟨vn,vf,sd,ss,h1,h2.below hb,h3.keep fun _ _ h=> h.below hb,h4.below hb,h5.below hb⟩
def TzO (base:Nat) (w:World) (vn vf:Value) (l:Tp.L):Prop:=
 ∃ ss,FWords w l ss∧w.ownsRow base 9 1 vn l.length (nmCells l)∧w.ownsRow base 48 2 vf l.length (fcCells l ss)
theorem TzO.nil (base:Nat) (w:World):TzO base w (.slice none 0 0) (.slice none 0 0) []:=⟨[],FWords.nil w,World.ownsRow_nil _ _ _ _,World.ownsRow_nil _ _ _ _⟩
theorem TzO.past {base:Nat} (h:TzO base w vn vf l) (hb:Below w.heap.size w w'):TzO base w' vn vf l:=by
 obtain ⟨ss,h1,h2,h3⟩:=h;exact ⟨ss,h1.keep fun _ _ h=> h.below hb,Qj h2 fun k hk=> hb.block k (h2.lt k hk).2,Qj h3 fun k hk=> hb.block k (h3.lt k hk).2⟩
theorem TzO.read {base:Nat} {sd:Value} (h:TzO base w vn vf t.l) (hs:RdD w sd (dg t.rest)):Tz w (.agg #[vn,vf,.int .i64 (sgn t.rest),sd]) t:=by
 obtain ⟨ss,h1,h2,h3⟩:=h;exact ⟨vn,vf,sd,ss,rfl,hs,h1,RdB.own h2,RdB.own h3⟩
theorem TzO.form {base:Nat} (h:TzO base w vn vf l):∃ a c a2 c2,vn= .slice a l.length c∧vf= .slice a2 l.length c2:=by
 obtain ⟨ss,_,h2,h3⟩:=h;obtain ⟨a,c,e⟩:=Qi h2;obtain ⟨a2,c2,e2⟩:=Qi h3;exact ⟨a,c,a2,c2,e,e2⟩
theorem MapR.frt {ts:List TypeId} {w w':World} {m:Nat} {l:Tp.L} (h:MapR w m l) (hf:FrT ts w w') (h1:174∉ts) (h2:112∉ts) (h3:126∉ts):MapR w' m l:=by
 obtain ⟨v,a,ss,b,c⟩:=h;exact ⟨v,hf.cells a h3,ss,b.keep fun _ _ h=> RdB.frt h hf h1,RdB.frt c hf h2⟩
theorem Yi (w:World):Calls prog 20 #[] w fun e w'=> e= .returned (.pointer (some ⟨w.heap.size,0,none⟩))∧MapO w.heap.size (fun k=> w.heap.size≤k) w' w.heap.size []∧Below w.heap.size w w'∧w.heap.size < w'.heap.size:=by
 go_in;go_wp2_with fail;go_ret;exact ⟨rfl,MapO.nil (eD_ _ _) (rl_ _) _,(eB_ _ _).alloc (rl_ _) _,by rw[←Q5];omega⟩
theorem JC (h:MapR w m l) (hr:Tp.Rise l) (hl:l.length≤1073741824) (k:Tp.Nm):
  Calls prog 59 #[.pointer (some ⟨m,0,none⟩),.string ⟨k.toArray⟩] w (Found l k w):=by
 obtain ⟨v,h1,h2⟩:=h;obtain ⟨a,c,rfl,hc⟩:=h2.form;have c0:=Q3 h1 0 rfl;have HH:=h3_ h2 hr hl;clear h1 h2 hr hl hc;go_in;go_wp2_with fail;refine (L9 HH.a HH.b HH.C k).mono ?_;rintro e w1 ⟨i,rfl,hat,hb⟩;have HB:=h2_ hat hb;clear hat hb;dsimp only;go_wp2_with fail;go_ret2;exact ⟨i,rfl,HB.a,HB.B⟩
theorem Q3g {k:Tp.Nm} (hr:Tp.Rise l) (h:Tp.At l k i) (hh:Tp.has l k=true):∃ p,l[i]? =some p∧p.1=k:=by
 rw[h.has hr] at hh;exact of_decide_eq_true hh
theorem Y1 {rest:List Oper} {Q:Exit→Act→World→Prop} (hgd:o.guard=none) (x v:Operand) (ho:o.op= .store 27 x v)
  {g:Nat} {zs:Array Value} (hx:a.eval x= .pointer (some ⟨g,0,none⟩)) (hg:w1.heap[g]? =some (.cells zs 27 (0,0))) (hz:zs.size=2) {val:Value} {z:Int} (hv:a.eval v=val) (hn:Num w1 val z)
  {B:Nat} {w0:World} (hB:B≤g) (hb:Below B w0 w1)
  (h:∀ W cs,W.heap[g]? =some (.cells cs 27 (0,0))→cs.size=2→Num W (.agg cs) z→Below B w0 W→FrT [27] w1 W→wpList prog ops Q rest (a.put o.dst undef) W):
  wpList prog ops Q (o::rest) a w1:=
 QB hgd x v ho hx hg hz hv hn hB hb fun W cs _ h2 h3 h4 h5 h6 h7=> h W cs h3 h4 (h2 ▸ h5) h6 h7
def GetOut (w:World) (b:Bool) (z:Int) (e:Ending) (w':World):Prop:=∃ v',e= .returned (.tuple #[v',.bool b])∧Num w' v' z∧Below w.heap.size w w'
theorem Z5 (h:MapR w m l) (hr:Tp.Rise l) (hl:l.length≤1073741824) (k:Tp.Nm):
  Calls prog 24 #[.pointer (some ⟨m,0,none⟩),.string ⟨k.toArray⟩] w (GetOut w (Tp.has l k) (Tp.look l k)):=by
 have HH:=h3_ h hr hl;clear h hr hl;go_in;go_wp2_with fail;obtain ⟨V,hV⟩:∃ V,w.alloc (.cells #[.bool false,.slice none 0 0] 27)=V:=⟨_,rfl⟩
 have hbx:=box1 w #[.bool false,.slice none 0 0] 27;rw[hV] at hbx ⊢;have HV:=hd_ hbx;clear hbx hV;refine (JC (HH.a.below HV.B) HH.b HH.C k).mono ?_;rintro e w1 ⟨i,rfl,hat,hb⟩;have hgr:=(hb.block _ (Q4 HV.a)).trans HV.a;have hbw:=HV.B.trans (hb.mono HV.B.size);have HB:=h3_ hat hbw hgr;clear hat hb;dsimp only;cases hhas:Tp.has l k with
 | true=>
  obtain ⟨p,hp,hpk⟩:=Q3g HH.b HB.a hhas;obtain ⟨v,m1,m2⟩:=HH.a.below HB.b;obtain ⟨a,c,rfl,hc⟩:=m2.form;have c0:=Q3 m1 0 rfl;obtain ⟨b,off,s,ea,q0,q1,q2,hs⟩:=m2.at hp;obtain rfl:=ea;obtain ⟨aw,cw,rfl,_⟩:=hs.form;have hil:(i:Int) < (l.length:Int):=by have:=(List.getElem?_eq_some_iff.1 hp).1;omega
  have hlook:=(HB.a.hit hp hpk).1;obtain ⟨ng,hng⟩:∃ b,decide (p.2 < 0)=b:=⟨_,rfl⟩
  have hnum:Num w1 (.agg #[.bool ng,.slice aw (wd p.2).length cw]) p.2:=⟨_,by rw[hng],hs⟩
  rw[hng] at q1;have HS:=h5_ hgr hnum hbw hlook hhas;clear m1 m2 hc hp hpk hs hlook hng hnum hgr hbw hhas;go_wp2_with (refine Y1 rfl _ _ rfl rfl HS.a rfl rfl HS.b (rl_ _) HS.c ?_;rintro W cs hg hs hn hb -;have HT:=h4_ hg hs hn hb;clear hg hs hn hb);refine eG_ (Y0 rfl rfl HT.a HT.b rfl) rfl ?_;exact ⟨_,by rw[HS.E];rfl,by rw[HS.d];exact HT.c,HT.D⟩
 | false=>
  have hlook:=(HB.a.miss HH.b hhas).1;have hb2:Below w.heap.size w (w1.alloc (.cells #[.bool false,.slice none 0 0] 27)):=hbw.alloc hbw.size _;have hg2:(w1.alloc (.cells #[.bool false,.slice none 0 0] 27)).heap[w.heap.size]? =some (.cells #[.bool false,.slice none 0 0] 27 (0,0)):=(eJ_ _ _ _ (Q4 hgr)).trans hgr;have HS:=h5_ hg2 (Num.zero (w1.alloc (.cells #[.bool false,.slice none 0 0] 27))) hb2 hlook hhas;clear hgr hbw hlook hb2 hg2 hhas;go_wp2_with (refine Y1 rfl _ _ rfl rfl HS.a rfl rfl HS.b (rl_ _) HS.c ?_;rintro W cs hg hs hn hb -;have HT:=h4_ hg hs hn hb;clear hg hs hn hb);refine eG_ (Y0 rfl rfl HT.a HT.b rfl) rfl ?_;exact ⟨_,by rw[HS.E];rfl,by rw[HS.d];exact HT.c,HT.D⟩
def PrOwn (w:World) (l:Tp.L) (e:Ending) (w':World):Prop:=∃ v ss,e= .returned v∧PWords w' l ss∧w'.ownsRow w.heap.size 112 3 v l.length (prCells l ss)∧Below w.heap.size w w'
theorem U6 (h:MapR w m l) (hl:l.length≤1073741824):Calls prog 90 #[.pointer (some ⟨m,0,none⟩)] w (PrOwn w l):=by
 obtain ⟨v,h1,ss,h2,h3⟩:=h;have c0:=Q3 h1 0 rfl;obtain ⟨a,c,rfl⟩:=RdS.form h3;have HH:=h3_ h2 h3 hl;clear h1 h2 h3 hl;go_in;go_wp2_with fail;refine (Q5X HH.b HH.C HH.a.one).mono ?_;rintro e w1 ⟨v1,rfl,ho,hb⟩;have HB:=h2_ ho hb;clear ho hb;dsimp only;go_wp2_with fail;go_ret;exact ⟨_,ss,rfl,HH.a.keep fun _ _ h=> h.below HB.B,HB.a,HB.B⟩
theorem Q3h (h:MapR w m l) (hl:l.length≤1073741824):Calls prog 93 #[.pointer (some ⟨m,0,none⟩)] w fun e w'=> ∃ m',e= .returned (.pointer (some ⟨m',0,none⟩))∧MapO w.heap.size (fun k=> w.heap.size≤k) w' m' l∧Below w.heap.size w w':=by
 have HH:=h2_ h hl;clear h hl;go_in;go_wp2_with fail;refine (U6 HH.a HH.B).mono ?_;rintro e w1 ⟨v,ss,rfl,hw,ho,hb⟩;obtain ⟨a,c,rfl⟩:=Qi ho;have HB:=h3_ hw ho hb;clear hw ho hb;dsimp only;go_wp2_with fail;go_ret;have hal:Below w1.heap.size w1 (w1.alloc (.cells #[.slice a l.length c] 126)):=(eB_ _ _).alloc (rl_ _) _;exact ⟨_,rfl,⟨HB.C.size,_,ss,eD_ _ _,HB.a.keep fun _ _ h=> h.below hal,Qj HB.b fun k hk=> hal.block k (HB.b.lt k hk).2,fun k hk=> (HB.b.lt k hk).1⟩,HB.C.alloc HB.C.size _⟩
theorem QD (w:World) (g:Nat) (vs:Array Value):(w.setRow g vs).heap.size=w.heap.size:=by simp[World.setRow]
theorem Q7l (ht:cur.toList.take (n*3)=xs++ys) (hxl:xs.length=i*3) (hyl:ys.length=(n - i)*3) (hl:ns.length=3) (hin:i < n):
  (layAt (layAt cur ((i+1)*3) ys) (i*3) ns).toList.take ((n+1)*3)=xs++ns++ys:=by
 have hx:cur.toList.take (i*3)=xs:=by
  have h:=congrArg (List.take (i*3)) ht;rw[List.take_take,Nat.min_eq_left (by omega)] at h;rw[h];exact List.take_left' hxl
 have hlen:(i+1)*3≤cur.toList.length:=by
  have h:=congrArg List.length ht;rw[eN_,eC_,hxl,hyl] at h;omega
 have e1:(layAt cur ((i+1)*3) ys).toList.take (i*3)=xs:=by
  unfold layAt;rw[eQ_,List.take_append_of_le_length (by rw[eN_];omega),List.take_take,Nat.min_eq_left (by omega),hx]
 have e2:(layAt cur ((i+1)*3) ys).toList.drop (i*3+ns.length)=ys++cur.toList.drop ((i+1)*3+ys.length):=by
  unfold layAt;rw[eQ_];exact List.drop_left' (by rw[eN_,hl];omega)
 show (List.take (i*3) (layAt cur ((i+1)*3) ys).toList++ns++List.drop (i*3+ns.length) (layAt cur ((i+1)*3) ys).toList).take ((n+1)*3)=_;rw[e1,e2, ←eQ_];exact List.take_left' (by rw[eC_,eC_,hxl,hyl,hl];omega)
theorem Q1H {base:Nat} (hin:i < n) (hcur:w.heap[g]? =some (.cells cur 112 (0,0))) (hbg:base≤g) (hnc:n+1≤c) (hcm:c≤maxLen) (hcs:cur.size=c*3) (ht:cur.toList.take (n*3)=xs++ys) (hxl:xs.length=i*3) (hyl:ys.length=(n - i)*3) (hn:n≤1000000)
  (h1y:∀ u∈ys,u.oneCell'=true) (hg:w.heap[r]? =some (.cells ns.toArray 112 (0,0))) (hrg:r≠g) (hl:ns.length=3) (h1:∀ u∈ns,u.oneCell'=true):
  Calls prog 60 #[.slice (some ⟨g,0,none⟩) n c,.int .i64 (i:Int),.slice (some ⟨r,0,none⟩) 1 1] w (InsOut base w (some g) (n+1) (xs++ns++ys)):=by
 have hni:(n:Int)≤1000000:=by omega
 have hii:(i:Int) < (n:Int):=by omega
 have hci:(n:Int)+1≤(c:Int):=by omega
 have hcx:(c:Int)≤9223372036854775807:=by unfold maxLen at hcm;omega
 have hc0:(c=i)=False:=eq_false (by omega);have hin0:((i:Int)==(n:Int))=false:=beq_false_of_ne (by omega);have hnc0:decide ((c:Int) < (n:Int)+1)=false:=eK_ (by omega);have HH:=h12_ hcur hg hcs ht hxl hyl h1y hl h1 hrg hbg hcm;have hsz:(prog.info? 112).map (·.size)=some 3:=by
  have h:=J5;cases hq:prog.info? 112 with
  | none=> rw[hq] at h;cases h
  | some q=> rw[hq] at h;simp at h ⊢;exact h.2.1
 have hc1:∀ (W:World) (ty:TypeId),W.heap=w.heap→(Builtin.copy_ #[109,109] ty #[.slice (some ⟨g,(i+1)*3,none⟩) (n - i) (c - (i+1)),.slice (some ⟨g,i*3,none⟩) (n+1 - i) (c - i)]).run prog W= .ok (goInt (Nat.min (n+1 - i) (n - i))) (W.setRow g (layAt cur ((i+1)*3) ys)):=fun W ty hW=> by
  refine J4 W 109 109 ty 112 3 g ((i+1)*3) (n - i) (c - (i+1)) ⟨g,i*3,none⟩ (n+1 - i) (c - i) cur 112 ys underlying109 hsz (by rw[hW];exact HH.a) ?_ ?_ ?_ HH.g
  ·rw[HH.f];congr 1;exact (Nat.min_eq_right (by omega)).symm
  ·intro j u hj;rw[Addr.add_mid];refine Q3 (by rw[hW];exact HH.a) (i*3+j) ?_;have hj2:=(List.getElem?_eq_some_iff.1 hj).1;have h2:(xs++ys)[i*3+j]? =some u:=(by rw[eO_ (by rw[HH.e];omega),HH.e,Nat.add_sub_cancel_left];exact hj);rw[←HH.d,List.getElem?_take] at h2;split at h2
   ·simpa using h2
   ·cases h2
  ·rw[HH.f,HH.c];omega
 have hw1:IntKind.i64.wrap ((i:Int)+1)=(i:Int)+1:=by rw[IntKind.wrap_i64];omega
 have htn:((i:Int)+1).toNat=i+1:=by omega
 have hle0:(0:Int)≤(i:Int)+1:=by omega
 have hle2:(i:Int)≤(n:Int)+1:=by omega
 have hle1:(i:Int)+1≤(n:Int)+1:=by omega
 have hc2:(c=i+1)=False:=eq_false (by omega);have hov:=Q0r hg hcur hrg (by omega) 1 1 ((i+1)*3) (n - i) (c - (i+1));have HOV:=hd_ hov;clear hcur hg hcs ht hxl hyl h1y hl h1 hrg hbg hcm hin;go_in;go_wp2_with (simp only[hov]);clear hov;have hcw:=hc1 w.drew 3 rfl;clear hc1;go_region;obtain ⟨W1,hW1⟩:∃ W,w.drew.setRow g (layAt cur ((i+1)*3) ys)=W:=⟨_,rfl⟩
 have hs1:(layAt cur ((i+1)*3) ys).size=c*3:=by rw[Y4 (by rw[HH.f,HH.c];omega)];exact HH.c
 have hg1:W1.heap[g]? =some (.cells (layAt cur ((i+1)*3) ys) 112 (0,0)):=by rw[←hW1];exact Qc (w:=w.drew) HH.a
 have hr1:W1.heap[r]? =some (.cells ns.toArray 112 (0,0)):=by rw[←hW1,Qa HH.j];exact HH.b
 have hcw2:=J4 (P:=prog) W1 109 109 3 112 3 g (i*3) (n+1 - i) (c - i) ⟨r,0,none⟩ 1 1 _ 112 ns underlying109 hsz hg1 (by rw[HH.h];rw[show Nat.min 1 (n+1 - i)=1 from Nat.min_eq_left (by omega)]) (fun j v hj=> by rw[Addr.add_mid,Nat.zero_add];exact Q3 hr1 j (by simpa using hj)) (by rw[hs1,HH.h];omega) HH.i;rw[hW1];have H1:=h3_ hg1 hs1 hW1;clear hg1 hr1 hs1 hW1 hcw hsz;go_wp2_with fail;go_ret;obtain ⟨p1,p2,p3,p4,p5,p6,p7,p8,p9,p10,p11,p12⟩:=HH.o;refine ⟨_,rfl,⟨by rw[eC_,eC_,p5,p6,p8];omega,Or.inr ⟨g,c,_,rfl,p11,Qc H1.a,hnc,p12,?_,?_⟩⟩,?_⟩
 ·rw[Y4 (by rw[H1.b,p8];omega)];exact H1.b
 ·exact Q7l p4 p5 p6 p8 (by omega)
 ·rw[←H1.C];refine ⟨⟨rfl,rfl,rfl,by rw[QD,QD];exact rl_ _,fun k hk hne=> by
   rw[Qa (fun e=> hne (by rw[e])),Qa (fun e=> hne (by rw[e]))];rfl⟩,fun k hk=> Or.inl hk⟩
theorem Gq {rest:List Oper} {Q:Exit→Act→World→Prop} (hgd:o.guard=none) (d:Operand) (t:TypeId)
  (ho:o.op= .call {callee:= .builtin .clear,args:= #[d],argTypes:= #[t]}) (v:Value) (hd:a.eval d=v) {v':Value} {w':World}
  (hr:(Builtin.clear_ #[t] o.type #[v]).run P w= .ok v' w') (h:wpList P ops Q rest (a.put o.dst v') w'):wpList P ops Q (o::rest) a w:=by
 refine wpList_plain hgd fun K hK=> ?_;unfold Oper.wp execOp;simp only[ho,resolve,invoke,builtin,Sem.run_bind,Sem.run_pure,Result.andThen_ok,List.map_toArray,List.map_cons,List.map_nil,hd,hr];exact hK _ _ h
theorem Q7m (w:World):(zeroValue 112).run prog w= .ok (.agg #[.string ⟨#[]⟩,.bool false,.slice none 0 0]) w:=by kernel_rfl
def zeroPr:List Value:= [.string ⟨#[]⟩,.bool false,.slice none 0 0]
theorem LJ:(Builtin.zeroCells (Value.agg #[.string ⟨#[]⟩,.bool false,.slice none 0 0]).cells 1).toList=zeroPr:=by kernel_rfl
theorem Q7n {zs:List Value} (ht:cur.toList.take (n*3)=xs) (hxl:xs.length=n*3) (hin:i < n) (hnc:n≤c) (hcs:cur.size=c*3):
  (layAt (layAt cur (i*3) (xs.drop ((i+1)*3))) ((n - 1)*3) zs).toList.take ((n - 1)*3)=xs.take (i*3)++xs.drop ((i+1)*3):=by
 have hx:cur.toList.take (i*3)=xs.take (i*3):=by rw[←ht,List.take_take,Nat.min_eq_left (by omega)]
 have hl:(xs.take (i*3)).length=i*3:=by rw[eN_,hxl,Nat.min_eq_left (by omega)]
 have hd:(xs.drop ((i+1)*3)).length=(n - (i+1))*3:=by rw[List.length_drop,hxl];omega
 have e1:(layAt cur (i*3) (xs.drop ((i+1)*3))).toList.take ((n - 1)*3)=xs.take (i*3)++xs.drop ((i+1)*3):=by
  unfold layAt;rw[hx];exact List.take_left' (by rw[eC_,hl,hd];omega)
 show (List.take ((n - 1)*3) (layAt cur (i*3) (xs.drop ((i+1)*3))).toList++zs++List.drop ((n - 1)*3+zs.length) (layAt cur (i*3) (xs.drop ((i+1)*3))).toList).take ((n - 1)*3)=_;rw[e1,eQ_];exact List.take_left' (by rw[eC_,hl,hd];omega)
theorem Q0B {base:Nat} (hin:i < n) (hcur:w.heap[g]? =some (.cells cur 112 (0,0))) (hbg:base≤g) (hnc:n≤c) (hcm:c≤maxLen) (hcs:cur.size=c*3) (ht:cur.toList.take (n*3)=xs) (hn:n≤1000000) (h1:∀ u∈xs,u.oneCell'=true):
  Calls prog 133 #[.slice (some ⟨g,0,none⟩) n c,.int .i64 (i:Int),.int .i64 ((i:Int)+1)] w (InsOut base w (some g) (n - 1) (xs.take (i*3)++xs.drop ((i+1)*3))):=by
 have hxl:xs.length=n*3:=by rw[←ht,eN_,Array.length_toList,hcs,Nat.min_eq_left (by omega)]
 have hni:(n:Int)≤1000000:=by omega
 have hii:(i:Int)+1≤(n:Int):=by omega
 have hci:(n:Int)≤(c:Int):=by omega
 have hcx:(c:Int)≤9223372036854775807:=by unfold maxLen at hcm;omega
 have hc0:(n=i)=False:=eq_false (by omega);have htn:((i:Int)+1).toNat=i+1:=by omega
 have hle0:(0:Int)≤(i:Int)+1:=by omega
 have hne:((i:Int)==(i:Int)+1)=false:=beq_false_of_ne (by omega);obtain ⟨ys,hys⟩:∃ ys,xs.drop ((i+1)*3)=ys:=⟨_,rfl⟩
 have hyl:ys.length=(n - (i+1))*3:=by rw[←hys,List.length_drop,hxl];omega
 have h1y:∀ u∈ys,u.oneCell'=true:=fun u hu=> h1 u (List.mem_of_mem_drop (by rw[hys];exact hu));obtain ⟨i0,hi0,hz0,hz1,hz2⟩:=Qv J5;obtain ⟨A,hA,hnews⟩:∃ A:Addr,(if c=i+1 then some (⟨g,0,none⟩:Addr) else some ⟨g,(i+1)*3,none⟩)=some A∧(∀ j u,ys[j]? =some u→w.drew.cell? (A.add j)=some u):=by
  by_cases h:c=i+1
  ·refine ⟨⟨g,0,none⟩,by simp[h],fun j u hu=> ?_⟩;have:ys= []:=List.eq_nil_of_length_eq_zero (by rw[hyl];omega);rw[this] at hu;simp at hu
  ·refine ⟨⟨g,(i+1)*3,none⟩,by simp[h],fun j u hu=> ?_⟩;rw[Addr.add_mid];refine Q3 (w:=w.drew) hcur _ ?_;rw[←hys,List.getElem?_drop, ←ht,List.getElem?_take] at hu;split at hu
   ·simpa using hu
   ·cases hu
 have s3:∀ j,j < ys.length→(w.drew.cell? ⟨g,0+i*3+j,none⟩).isSome=true∧w.drew.frozen? ⟨g,0+i*3+j,none⟩=false:=by
  intro j hj;rw[hyl] at hj;refine ⟨?_,Q6 (w:=w.drew) hcur _⟩;have hlt:0+i*3+j < cur.size:=by omega
  rw[Q3 (w:=w.drew) hcur (0+i*3+j) (Array.getElem?_eq_getElem hlt)];rfl
 have hset:w.drew.setCells g (i*3) ys=w.drew.setRow g (layAt cur (i*3) ys):=U1 ys (i*3) cur w.drew hcur (by rw[hyl,hcs];omega);have hg1:(w.drew.setRow g (layAt cur (i*3) ys)).heap[g]? =some (.cells (layAt cur (i*3) ys) 112 (0,0)):=Qc (w:=w.drew) hcur;have hs1:(layAt cur (i*3) ys).size=c*3:=by rw[Y4 (by rw[hyl,hcs];omega)];exact hcs
 obtain ⟨W1,hW1⟩:∃ W1,w.drew.setRow g (layAt cur (i*3) ys)=W1:=⟨_,rfl⟩
 rw[hW1] at hset hg1;have hcl:=Q39 (P:=prog) W1 109 0 112 _ g ((n - 1)*3) 1 (c - (n - 1)) _ 112 underlying109 (Q7m W1) hg1 (by decide) (by rw[hs1,size_zeroCells];show (n - 1)*3+1*3≤_;omega) (by rw[LJ];decide);rw[LJ] at hcl;have HN:=h4_ hyl hnews h1y s3;have HI:=h2_ hi0 hz1;have HF:=h12_ hin hcur hbg hnc hcm hcs ht hxl hys hg1 hs1 hW1;have HS:=hd_ hset;have HCL:=hd_ hcl;have hlen:i+(n - (i+1))=n - 1:=by omega
 have hln:((n - 1:Nat):Int)≤(n:Int):=by omega
 have hlc:(c=n - 1)=False:=eq_false (by omega);have hnn:n - (n - 1)=1:=by omega
 have hic:(i:Int)≤(c:Int):=by omega
 clear hcur hbg hnc hcm hcs ht h1 hxl hyl hys h1y hi0 hz0 hz1 hz2 hnews s3 hset hg1 hs1 hcl hW1 hin hn;go_in;go_wp2_with fail;go_region_law (refine step_append_room rfl (.tmp 22) (.tmp 25) 109 rfl 112 i0 3 underlying109 HI.a HI.B g 0 i c (by simp[Act.eval,Act.put]) A (n - (i+1)) (c - (i+1)) ys (by simp[Act.eval,Act.put]) HN.a HN.b HN.c (by omega) HN.D ?_);rw[HS.o];go_wp2_with (refine Gq rfl (.tmp 31) 109 rfl (.slice (some ⟨g,(n - 1)*3,none⟩) 1 (c - (n - 1))) rfl HCL.o ?_);go_ret;obtain ⟨p1,p2,p3,p4,p5,p6,p7,p8,p9,p10,p11,p12⟩:=HF.o;refine ⟨_,rfl,⟨by rw[eC_,eN_,List.length_drop,p8];omega,Or.inr ⟨g,c,_,rfl,p3,Qc p10,by omega,p5,?_,?_⟩⟩,⟨?_,fun k hk=> Or.inl hk⟩⟩
 ·rw[Y4 (by rw[p11];show (n - 1)*3+3≤_;omega)];exact p11
 ·rw[←p9];exact Q7n p7 p8 p1 p4 p6
 ·rw[←p12];exact ⟨rfl,rfl,rfl,by rw[QD,QD];exact rl_ _,fun k hk hne=> by
   rw[Qa (fun e=> hne (by rw[e])),Qa (fun e=> hne (by rw[e]))];rfl⟩
theorem FrM.grown {base size:Nat} (ho:w.ownsRow base 112 size v n xs) (hQ:∀ k,v.ownBlock=some k→Q k) (hg:w.grownBy w' v.ownBlock):FrM Q m w w':=
 ⟨hg.os,hg.tape,hg.output,hg.size,fun k hk _ hn=> hg.block k hk fun e=> hn ⟨hQ k e.symm,Qk ho e.symm⟩⟩
theorem FrM.set (w:World) (cs:Array Value):FrM Q m w (w.setRow m cs):=
 ⟨rfl,rfl,rfl,by rw[QD];exact rl_ _,fun k _ hm _=> Qa hm⟩
theorem Q1I (h:ss.length=l.length) (i:Nat):prCells (l.eraseIdx i) (ss.eraseIdx i)=(prCells l ss).take (i*3)++(prCells l ss).drop ((i+1)*3):=by
 rw[List.eraseIdx_eq_take_drop_succ,List.eraseIdx_eq_take_drop_succ,Xz (by rw[eN_,eN_,h]),Zl h,Zm h]
def MapDid (base:Nat) (Q:Nat→Prop) (w:World) (m:Nat) (b:Bool) (l:Tp.L) (e:Ending) (w':World):Prop:=e= .returned (.bool b)∧MapO base Q w' m l∧FrM Q m w w'
theorem Dn {base:Nat} {w2:World} {v0:Value} (hm:w2.heap[m]? =some (.cells #[v0] 126 (0,0))) (hbm:base≤m) (hw:PWords w2 l ss) (ho:w2.ownsRow base 112 3 v l.length (prCells l ss)) (hQ:∀ k,v.ownBlock=some k→Q k) (hf:FrM Q m w w2):
  MapO base Q (w2.setCell ⟨m,0,none⟩ v) m l∧FrM Q m w (w2.setCell ⟨m,0,none⟩ v):=by
 rw[setCell_eq_setRow w2 m 0 #[v0] _ (0,0) v hm];have hfr:FrM Q m w2 (w2.setRow m (#[v0].setIfInBounds 0 v)):=FrM.set w2 _;refine ⟨⟨hbm,v,ss,Qc hm,hw.keep fun _ _ h=> hfr.rdu hm h,Qj ho fun k hk=> ?_,hQ⟩,hf.trans hfr⟩;refine Qa fun e=> ?_;obtain ⟨cur,hc⟩:=Qk ho hk;rw[e,hm] at hc;injection hc with hc;injection hc with _ h2 _;exact absurd h2 (by decide)
theorem Do {base:Nat} (h:MapO base Q w m l) (hU:Up Q w) (hr:Tp.Rise l) (hl:l.length≤1000000) (k:Tp.Nm):
  Calls prog 94 #[.pointer (some ⟨m,0,none⟩),.string ⟨k.toArray⟩] w (MapDid base Q w m (Tp.has l k) (Tp.del l k)):=by
 have HH:=h4_ h hU hr hl;clear h hU hr hl;go_in;go_wp2_with fail;refine (JC HH.a.read HH.c (by have:=HH.D;omega) k).mono ?_;rintro e w1 ⟨i,rfl,hat,hb⟩;have HB:=h2_ hat hb;clear hat hb;dsimp only;cases hhas:Tp.has l k with
 | false=>
  have hdel:=(HB.a.miss HH.c hhas).2.2;have HX:=hd_ hhas;clear hhas;go_wp2_with fail;go_ret;exact ⟨by rw[HX.o];rfl,by rw[hdel];exact HH.a.past HB.B,FrM.of HB.B⟩
 | true=>
  obtain ⟨p,hp,hpk⟩:=Q3g HH.c HB.a hhas;obtain ⟨hbm,v,ss,m1,hw,ho,hQ⟩:=HH.a.past HB.B;have hil:=(List.getElem?_eq_some_iff.1 hp).1;have hdel:=(HB.a.hit hp hpk).2.2;obtain ⟨_,⟨_,e⟩ | ⟨g,cap,cur,rfl,hbg,hcur,hnc,hcm,hcs,ht⟩⟩:=id ho
  ·omega
  have c0:=Q3 m1 0 rfl;have hii:(i:Int) < 1000000:=by have:=HH.D;omega
  have HC:=h7_ hil hcur hbg hnc hcm hcs ht;have HO:=h6_ hbm m1 hw ho hQ hdel;have HX:=hd_ hhas;clear hp hpk hbm m1 hw ho hQ hil hdel hbg hcur hnc hcm hcs ht hhas;go_wp2_with fail;refine (Q0B HC.a HC.b HC.c HC.d HC.e HC.f HC.G HH.D HO.c.one).mono ?_;rintro e w2 ⟨v2,rfl,ho2,hg2,hat2⟩;obtain ⟨a2,c2,rfl⟩:=Qi ho2;have hgm:some m≠some g:=fun e=> by
   injection e with e;have h1:=HO.b;rw[e,HC.b] at h1;injection h1 with h1;injection h1 with _ h2 _;exact absurd h2 (by decide)
  have hm2:=(hg2.block m (Q4 HO.b) hgm).trans HO.b;have hf2:FrM Q m w1 w2:=FrM.grown HO.d HO.e hg2;have h0:=Q3 hm2 0 rfl;have hz:=Q6 hm2 0;have HD:=h4_ ho2 hat2 hm2 hf2;clear ho2 hg2 hat2 hm2 hf2 hgm c0;dsimp only;go_wp2_with fail;go_ret;have hlen:(l.eraseIdx i).length=l.length - 1:=by rw[List.length_eraseIdx,if_pos HC.a]
  have hfw:FrM Q m w w1:=FrM.of HB.B;obtain ⟨r1,r2⟩:=Dn (w:=w) (l:=l.eraseIdx i) (ss:=ss.eraseIdx i) HD.c HO.a ((HO.c.del i).keep fun _ _ h=> HD.D.rdu HO.b h) (by rw[Q1I HO.c.len,hlen];exact HD.a) (fun k hk=> (HD.b k hk).elim (fun e=> HO.e k e) fun e=> HH.b k (eE_ HB.B.size e)) (hfw.trans HD.D);exact ⟨by rw[HX.o];rfl,by rw[HO.F];exact r1,r2⟩
theorem UT {rest:List Oper} {Q:Exit→Act→World→Prop} (hgd:o.guard=none) (d s:Operand) (t t':TypeId)
  (ho:o.op= .call {callee:= .builtin .append,args:= #[d,s],argTypes:= #[t,t']}) (v u:Value) (hd:a.eval d=v) (hs:a.eval s=u) {v':Value} {w':World}
  (hr:(Builtin.append_ #[t,t'] o.type #[v,u]).run P w= .ok v' w') (h:wpList P ops Q rest (a.put o.dst v') w'):wpList P ops Q (o::rest) a w:=by
 refine wpList_plain hgd fun K hK=> ?_;unfold Oper.wp execOp;simp only[ho,resolve,invoke,builtin,Sem.run_bind,Sem.run_pure,Result.andThen_ok,List.map_toArray,List.map_cons,List.map_nil,hd,hs,hr];exact hK _ _ h
theorem Q67 (hx:cur.toList.take (i*3)=xs) (hxl:xs.length=i*3) (hyl:ys.length=(n - i)*3) (hl:ns.length=3) (hin:i < n):
  (layAt (layAt cur (i*3) ns) ((i+1)*3) ys).toList.take ((n+1)*3)=xs++ns++ys:=by
 have e1:(layAt cur (i*3) ns).toList.take ((i+1)*3)=xs++ns:=by
  unfold layAt;rw[hx];exact List.take_left' (by rw[eC_,hxl,hl];omega)
 show (List.take ((i+1)*3) (layAt cur (i*3) ns).toList++ys++List.drop ((i+1)*3+ys.length) (layAt cur (i*3) ns).toList).take ((n+1)*3)=_;rw[e1];exact List.take_left' (by rw[eC_,eC_,hxl,hyl,hl];omega)
theorem Q1J (hcur:w.heap[g]? =some (.cells cur 112 (0,0))) (hx:cur.toList.take (i*3)=xs) (hxl:xs.length=i*3) (hin:i < n) (hn:n≤1000000) (ty:TypeId):
  ∃ C W cur2,(Builtin.append_ #[109,3] ty #[.slice (some ⟨g,0,none⟩) i n,.int .i64 ((n:Int)+1 - (i:Int))]).run prog w= .ok (.slice (some ⟨w.heap.size,0,none⟩) (n+1) C) W∧
   W.heap[w.heap.size]? =some (.cells cur2 112 (0,0))∧cur2.size=C*3∧cur2.toList.take (i*3)=xs∧n+1≤C∧C≤maxLen∧Below w.heap.size w W:=by
 obtain ⟨i0,hi0,hz0,hz1,hz2⟩:=Qv J5;have hold:(Builtin.firstCells i0.size i (.slice (some ⟨g,0,none⟩) i n)).run prog w.drew= .ok xs.toArray w.drew:=by
  rw[hz1];refine run_firstCells_some w.drew 3 i ⟨g,0,none⟩ i n xs hxl fun j v hj=> ?_;rw[Addr.add_mid,Nat.zero_add];refine Q3 (w:=w.drew) hcur j ?_;have hj2:=(List.getElem?_eq_some_iff.1 hj).1;rw[←hx,List.getElem?_take] at hj;split at hj
  ·simpa using hj
  ·cases hj
 have hap:=Lib.run_append_grow_zeros (P:=prog) w 109 3 ty 112 i0 _ .i64 .i64 underlying109 underlying3 hi0 hz0 (some ⟨g,0,none⟩) i n xs hold (n+1 - i) (by omega) (by rw[hz1];decide) (by omega) (by omega) (by rw[hz2];omega) (by rw[hz2];exact growslice_fits (by omega) (by omega));rw[show ((n+1 - i:Nat):Int)=(n:Int)+1 - (i:Int) by omega,show i+(n+1 - i)=n+1 by omega] at hap;have hC:=grownCap_ge w (n+1) n 112;have hM:=grownCap_le_maxLen w (n+1) n 112 (by unfold maxLen;omega);refine ⟨_,_,_,hap,eD_ _ _,?_,?_,hC,hM,(eB_ _ _).drew.alloc (rl_ _) _⟩
 ·simp only[Array.size_append,size_zeroCells,List.size_toArray,hxl];show i*3+(n+1 - i)*3+(_ - (n+1))*3=_;omega
 ·rw[Array.append_assoc,Array.toList_append];exact List.take_left' hxl
theorem Q1K {base:Nat} (hin:i < n) (hcur:w.heap[g]? =some (.cells cur 112 (0,0))) (hbw:base≤w.heap.size) (hcs:cur.size=n*3) (ht:cur.toList.take (n*3)=xs++ys) (hxl:xs.length=i*3) (hyl:ys.length=(n - i)*3) (hn:n≤1000000)
  (h1y:∀ u∈ys,u.oneCell'=true) (hg:w.heap[r]? =some (.cells ns.toArray 112 (0,0))) (hl:ns.length=3) (h1:∀ u∈ns,u.oneCell'=true):
  Calls prog 60 #[.slice (some ⟨g,0,none⟩) n n,.int .i64 (i:Int),.slice (some ⟨r,0,none⟩) 1 1] w (InsOut base w (some g) (n+1) (xs++ns++ys)):=by
 have hni:(n:Int)≤1000000:=by omega
 have hii:(i:Int) < (n:Int):=by omega
 have hc0:(n=i)=False:=eq_false (by omega);have hin0:((i:Int)==(n:Int))=false:=beq_false_of_ne (by omega);have hnc0:decide ((n:Int) < (n:Int)+1)=true:=eM_ (by omega);have hx:cur.toList.take (i*3)=xs:=by
  have h:=congrArg (List.take (i*3)) ht;rw[List.take_take,Nat.min_eq_left (by omega)] at h;rw[h];exact List.take_left' hxl
 have hsz:(prog.info? 112).map (·.size)=some 3:=by
  have h:=J5;cases hq:prog.info? 112 with
  | none=> rw[hq] at h;cases h
  | some q=> rw[hq] at h;simp at h ⊢;exact h.2.1
 obtain ⟨C,W,cur2,hap,hg2,hcs2,hx2,hC,hM,hbW⟩:=Q1J hcur hx hxl hin hn 109;obtain ⟨G,hG⟩:∃ G,w.heap.size=G:=⟨_,rfl⟩
 rw[hG] at hap hg2;have hrG:r≠G:=by have:=Q4 hg;omega
 have hgG:g≠G:=by have:=Q4 hcur;omega
 have hWr:W.heap[r]? =some (.cells ns.toArray 112 (0,0)):=(hbW.block _ (Q4 hg)).trans hg;have hWg:W.heap[g]? =some (.cells cur 112 (0,0)):=(hbW.block _ (Q4 hcur)).trans hcur;have hc1:=J4 (P:=prog) W 109 109 3 112 3 G (i*3) (n+1 - i) (C - i) ⟨r,0,none⟩ 1 1 cur2 112 ns underlying109 hsz hg2 (by rw[hl,show Nat.min 1 (n+1 - i)=1 from Nat.min_eq_left (by omega)]) (fun j v hj=> by rw[Addr.add_mid,Nat.zero_add];exact Q3 hWr j (by simpa using hj)) (by rw[hcs2,hl];omega) h1;obtain ⟨W1,hW1⟩:∃ W1,W.setRow G (layAt cur2 (i*3) ns)=W1:=⟨_,rfl⟩
 rw[hW1] at hc1;have hs1:(layAt cur2 (i*3) ns).size=C*3:=by rw[Y4 (by rw[hl,hcs2];omega)];exact hcs2
 have hg1:W1.heap[G]? =some (.cells (layAt cur2 (i*3) ns) 112 (0,0)):=by rw[←hW1];exact Qc hg2
 have hg3:W1.heap[g]? =some (.cells cur 112 (0,0)):=by rw[←hW1,Qa hgG];exact hWg
 have hcw:=J4 (P:=prog) W1.drew 109 109 3 112 3 G ((i+1)*3) (n - i) (C - (i+1)) ⟨g,i*3,none⟩ (n - i) (n - i) _ 112 ys underlying109 hsz hg1 (by rw[hyl];congr 1;exact (Nat.min_eq_left (by omega)).symm) (fun j u hj=> by
   rw[Addr.add_mid];refine Q3 (w:=W1.drew) hg3 (i*3+j) ?_;have hj2:=(List.getElem?_eq_some_iff.1 hj).1;have h2:(xs++ys)[i*3+j]? =some u:=(by rw[eO_ (by rw[hxl];omega),hxl,Nat.add_sub_cancel_left];exact hj);rw[←ht,List.getElem?_take] at h2;split at h2
   ·simpa using h2
   ·cases h2) (by rw[hs1,hyl];omega) h1y
 have hw1:IntKind.i64.wrap ((i:Int)+1)=(i:Int)+1:=by rw[IntKind.wrap_i64];omega
 have hw2:IntKind.i64.wrap ((n:Int)+1)=(n:Int)+1:=by rw[IntKind.wrap_i64];omega
 have hw3:IntKind.i64.wrap ((n:Int)+1 - (i:Int))=(n:Int)+1 - (i:Int):=by rw[IntKind.wrap_i64];omega
 have htn:((i:Int)+1).toNat=i+1:=by omega
 have hle0:(0:Int)≤(i:Int)+1:=by omega
 have hle1:(i:Int)+1≤(n:Int)+1:=by omega
 have hle2:(i:Int)≤(n:Int)+1:=by omega
 have hcC:(n:Int)+1≤(C:Int):=by omega
 have hC1:(C=i+1)=False:=eq_false (by omega);have hC2:(C=i)=False:=eq_false (by omega);have HH:=hd_ (an_ hcs2 (an_ hx2 (n14_ hC hM hxl hyl hl hin hbw hg2 hs1 hg1 hW1 hbW hG hg)));have HAP:=hd_ hap;have HC1:=hd_ hc1;clear hap hc1 hcur hbw hcs ht hxl hyl h1y hl h1 hin hx hsz hg2 hcs2 hx2 hC hM hbW hrG hgG hWr hWg hs1 hg1 hg3 hg hG hW1;go_in;go_wp2_with (first
  | refine UT rfl (.tmp 34) (.tmp 39) 109 3 rfl (.slice (some ⟨g,0,none⟩) i n) (.int .i64 ((n:Int)+1 - (i:Int))) rfl rfl HAP.o ?_
  | refine De rfl (.tmp 43) (.tmp 44) 109 109 rfl (.slice (some ⟨G,i*3,none⟩) (n+1 - i) (C - i)) (.slice (some ⟨r,0,none⟩) 1 1) rfl rfl HC1.o ?_)
 simp only[Act.put,Array.set!_eq_setIfInBounds,List.setIfInBounds_toArray,List.set_cons_succ,List.set_cons_zero];have hinn:i≤n:=by omega
 go_region;go_wp2_with fail;go_ret;obtain ⟨p1,p2,p3,p4,p5,p6,p7,p8,p9,p10,p11,p12,p13,p14,p15,p16⟩:=HH.o;refine ⟨_,rfl,⟨by rw[eC_,eC_,p5,p6,p7];omega,Or.inr ⟨G,C,_,rfl,by omega,Qc (w:=W1.drew) p12,p3,p4,?_,?_⟩⟩,⟨?_,fun k hk=> Or.inr (by injection hk with hk;rw[←hk, ←p15];exact rl_ _)⟩⟩
 ·rw[Y4 (by rw[p11,p6];omega)];exact p11
 ·exact Q67 p2 p5 p6 p7 p8
 ·rw[←p13];have hsz:w.heap.size≤W.heap.size:=p14.size;refine ⟨p14.os,p14.tape,p14.output,?_,fun k hk _=> ?_⟩
  ·rw[QD];show w.heap.size≤(W.setRow G _).heap.size;rw[QD];exact hsz
  ·rw[Qa (by omega)];show (W.setRow G _).heap[k]? =_;rw[Qa (by omega)];exact p14.block k hk
theorem Q0C {base:Nat} (hown:w.ownsRow base 112 3 v n (xs++ys)) (hxl:xs.length=i*3) (hyl:ys.length=(n - i)*3) (hin:i≤n) (hb:base≤w.heap.size) (hn:n≤1000000)
  (h1y:∀ u∈ys,u.oneCell'=true) (hg:w.heap[r]? =some (.cells ns.toArray 112 (0,0))) (hr:v.ownBlock≠some r) (hl:ns.length=3) (h1:∀ u∈ns,u.oneCell'=true):
  Calls prog 60 #[v,.int .i64 (i:Int),.slice (some ⟨r,0,none⟩) 1 1] w (InsOut base w v.ownBlock (n+1) (xs++ns++ys)):=by
 rcases eS_ i n with hi | hi
 ·obtain ⟨_,⟨_,e⟩ | ⟨g,cap,cur,rfl,hbg,hcur,hnc,hcm,hcs,ht⟩⟩:=hown
  ·omega
  ·have hrg:r≠g:=fun e=> hr (by rw[e];rfl);rcases eS_ n cap with hc | hc
   ·exact Q1H hi hcur hbg (by omega) hcm hcs ht hxl hyl hn h1y hg hrg hl h1
   ·obtain rfl:n=cap:=(by omega);exact Q1K hi hcur hb hcs ht hxl hyl hn h1y hg hl h1
 ·obtain rfl:i=n:=by omega
  have:ys= []:=List.eq_nil_of_length_eq_zero (by rw[hyl,Nat.sub_self]);subst this;rw[List.append_nil] at hown ⊢;exact Q3a hown hb hn hg hl h1
theorem Gd {q:Tp.Nm × Int} {s:Value}:∀ {l:Tp.L} {ss:List Value} {i:Nat} {p:Tp.Nm × Int},ss.length=l.length→l[i]? =some p→p.1=q.1→prCells (l.set i q) (ss.set i s)=((prCells l ss).set (i*3+1) (.bool (decide (q.2 < 0)))).set (i*3+2) s
 | [],_,_,_,_,h,_=> by simp at h
 | _::_, [],_,_,h,_,_=> by simp at h
 | x::l,y::ss,0,p,hl,h,e=> by
  simp only[eZ_,Option.some.injEq] at h;subst h;simp only[List.set_cons_zero,XZ,pairCells,List.cons_append,List.nil_append,Nat.zero_mul,Nat.zero_add,List.set_cons_succ,e]
 | x::l,y::ss,i+1,p,hl,h,e=> by
  have ih:=Gd (q:=q) (s:=s) (l:=l) (ss:=ss) (i:=i) (p:=p) (by simpa using hl) (by simpa using h) e;rw[show (i+1)*3+1=(i*3+1)+1+1+1 by omega,show (i+1)*3+2=(i*3+2)+1+1+1 by omega];simp only[List.set_cons_succ,XZ,pairCells,List.cons_append,List.nil_append,ih]
theorem Q0D {base cap o1 o2:Nat} {x y:Value} {T:TypeId} (hbg:base≤g) (hcur:w.heap[g]? =some (.cells cur T (0,0))) (hnc:n≤cap) (hcm:cap≤maxLen) (hcs:cur.size=cap*3) (ht:cur.toList.take (n*3)=xs) (hxl:xs.length=n*3):
  (w.setCell ⟨g,o1,none⟩ x).setCell ⟨g,o2,none⟩ y=w.setRow g ((cur.setIfInBounds o1 x).setIfInBounds o2 y)∧
  (w.setRow g ((cur.setIfInBounds o1 x).setIfInBounds o2 y)).ownsRow base T 3 (.slice (some ⟨g,0,none⟩) n cap) n ((xs.set o1 x).set o2 y):=by
 refine ⟨?_,by rw[List.length_set,List.length_set,hxl],Or.inr ⟨g,cap,_,rfl,hbg,Qc hcur,hnc,hcm,by simpa using hcs,?_⟩⟩
 ·rw[setCell_eq_setRow w g o1 cur _ (0,0) x hcur,setCell_eq_setRow _ g o2 _ _ (0,0) y (Qc hcur),setRow_setRow]
 ·rw[Array.toList_setIfInBounds,Array.toList_setIfInBounds,List.take_set,List.take_set,ht]
theorem FrM.setRow {Q:Nat→Prop} {m:Nat} {w:World} {g:Nat} {cur:Array Value} (hcur:w.heap[g]? =some (.cells cur 112 (0,0))) (hQ:Q g) (cs:Array Value):FrM Q m w (w.setRow g cs):=
 ⟨rfl,rfl,rfl,by rw[QD];exact rl_ _,fun k _ _ hn=> Qa fun e=> hn (by rw[e];exact ⟨hQ,_,hcur⟩)⟩
theorem Z6 {base:Nat} (h:MapO base Q w m l) (hU:Up Q w) (hr:Tp.Rise l) (hl:l.length≤999999) (hbw:base≤w.heap.size) (k:Tp.Nm) {vz:Value} {z:Int} (hz:Num w vz z):
  Calls prog 21 #[.pointer (some ⟨m,0,none⟩),.string ⟨k.toArray⟩,vz] w (MapDid base Q w m (!Tp.has l k) (Tp.ins l k z)):=by
 obtain ⟨az,cz,rfl,hzr⟩:=hz.form;obtain ⟨nz,hnz⟩:∃ b,decide (z < 0)=b:=⟨_,rfl⟩
 rw[hnz];have HH:=h7_ h hU hr hl hbw hzr hnz;clear h hU hr hl hz hzr hnz hbw;go_in;go_wp2_with fail;obtain ⟨V,hV⟩:∃ V,w.alloc (.cells #[.bool nz,.slice az (wd z).length cz] 27)=V:=⟨_,rfl⟩
 have hbx:=box1 w #[.bool nz,.slice az (wd z).length cz] 27;rw[hV] at hbx ⊢;have HV:=hd_ hbx;clear hbx hV;refine (JC (HH.a.read.below HV.B) HH.c (by have:=HH.d;omega) k).mono ?_;rintro e w1 ⟨i,rfl,hat,hb⟩;have hbx1:=(hb.block _ (Q4 HV.a)).trans HV.a;have hbw1:=HV.B.trans (hb.mono HV.B.size);have HB:=h3_ hat hbw1 hbx1;have b0:=Q3 hbx1 0 rfl;have b1:=Q3 hbx1 1 rfl;obtain ⟨hbm,v,ss,m1,hw,ho,hQ⟩:=HH.a.past hbw1;have c0:=Q3 m1 0 rfl;have HO:=h5_ hbm m1 hw ho hQ;clear hat hb hbx1 hbw1 hbm m1 hw ho hQ;dsimp only;cases hhas:Tp.has l k with
 | true=>
  obtain ⟨p,hp,hpk⟩:=Q3g HH.c HB.a hhas;have hil:=(List.getElem?_eq_some_iff.1 hp).1;have hins:=(HB.a.hit hp hpk).2.1 z;obtain ⟨hxl,⟨_,e⟩ | ⟨g,cap,cur,rfl,hbg,hcur,hnc,hcm,hcs,ht⟩⟩:=id HO.d
  ·omega
  have hii:(i:Int) < (l.length:Int):=by omega
  have q1:∃ u,w1.cell? ⟨g,i*3+1,none⟩=some u:=⟨_,Q3 hcur _ (Array.getElem?_eq_getElem (show i*3+1 < cur.size by omega))⟩
  have q2:∃ u,w1.cell? ⟨g,i*3+2,none⟩=some u:=⟨_,Q3 hcur _ (Array.getElem?_eq_getElem (show i*3+2 < cur.size by omega))⟩
  obtain ⟨u1,q1⟩:=q1;obtain ⟨u2,q2⟩:=q2;have f1:=Q6 hcur (i*3+1);have f2:=Q6 hcur (i*3+2);have HC:=h10_ hp hpk hbg hcur hnc hcm hcs ht hxl hins;have HX:=hd_ hhas;clear hp hpk hbg hcur hnc hcm hcs ht hhas hxl hins hil;go_wp2_with fail;go_region;go_wp2_with fail;go_ret;obtain ⟨p1,p2,p3,p4,p5,p6,p7,p8,p9,p10⟩:=HC.o;obtain ⟨y1,y2⟩:=Q0D (o1:=i*3+1) (o2:=i*3+2) (x:= .bool nz) (y:= .slice az (wd z).length cz) p3 p4 p5 p6 p7 p8 p9;have hfr:FrM Q m w1 (w1.setRow g ((cur.setIfInBounds (i*3+1) (.bool nz)).setIfInBounds (i*3+2) (.slice az (wd z).length cz))):=FrM.setRow p4 (HO.E g rfl) _;have hfw:FrM Q m w w1:=FrM.of HB.b;have hcell:(w1.setRow g ((cur.setIfInBounds (i*3+1) (.bool nz)).setIfInBounds (i*3+2) (.slice az (wd z).length cz))).heap[m]? =_:=(Qa fun e=> by
   have h1:=HO.b;rw[e,p4] at h1;injection h1 with h1;injection h1 with _ h2 _;exact absurd h2 (by decide)).trans HO.b
  have hwz:RdU w1 (.slice az (wd z).length cz) (wd z):=HH.f.below HB.b;have hpw:=(HO.c.set i (k,z) hwz).keep fun _ _ h=> hfr.rdu HO.b h;have e1:prCells (l.set i (k,z)) (ss.set i (.slice az (wd z).length cz))=((prCells l ss).set (i*3+1) (.bool nz)).set (i*3+2) (.slice az (wd z).length cz):=by
   rw[Gd HO.c.len p1 p2,HH.G]
  show MapDid base Q w m _ _ _ ((w1.setCell ⟨g,i*3+1,none⟩ _).setCell ⟨g,i*3+2,none⟩ _).drew;rw[y1];refine ⟨by rw[HX.o];rfl,?_,⟨hfr.os.trans hfw.os,hfr.tape.trans hfw.tape,hfr.output.trans hfw.output,eE_ hfw.size hfr.size,(hfw.trans hfr).block⟩⟩;rw[p10];refine ⟨HO.a,_,_,hcell,⟨hpw.len,hpw.rd⟩,?_,HO.E⟩;rw[List.length_set,e1];exact y2
 | false=>
  have hmiss:=HB.a.miss HH.c hhas;have HM:=h2_ hmiss HB.a.le;obtain ⟨a,c,rfl⟩:=Qi HO.d;have c1:w1.cell? ⟨m,0,none⟩=some (.slice a l.length c):=c0;have b2:w1.cell? ⟨w.heap.size,0,none⟩=some (.bool nz):=b0;have b3:w1.cell? ⟨w.heap.size,1,none⟩=some (.slice az (wd z).length cz):=b1;clear c0 b0 b1;have HX:=hd_ hhas;clear hhas hmiss;go_wp2_with fail;have c2:(w1.alloc (.cells #[.string ⟨k.toArray⟩,.bool nz,.slice az (wd z).length cz] 112)).cell? ⟨m,0,none⟩=some (.slice a l.length c):=Q3 ((eJ_ _ _ _ (Q4 HO.b)).trans HO.b) 0 rfl;have hgm:some m≠some w1.heap.size:=fun e=> by
   injection e with e;have:=Q4 HO.b;omega
  have hbl:Below w1.heap.size w1 (w1.alloc (.cells #[.string ⟨k.toArray⟩,.bool nz,.slice az (wd z).length cz] 112)).drew:=((eB_ _ _).alloc (rl_ _) _).drew;have hnew:(w1.alloc (.cells #[.string ⟨k.toArray⟩,.bool nz,.slice az (wd z).length cz] 112)).drew.heap[w1.heap.size]? =some (.cells [.string ⟨k.toArray⟩,.bool nz,.slice az (wd z).length cz].toArray 112 (0,0)):=eD_ _ _;obtain ⟨U,hU⟩:∃ U,(w1.alloc (.cells #[.string ⟨k.toArray⟩,.bool nz,.slice az (wd z).length cz] 112)).drew=U:=⟨_,rfl⟩
  rw[hU] at hbl hnew;have ho1:=Qj (w':=U) HO.d fun k hk=> hbl.block k (HO.d.lt k hk).2;have hl3:=HO.c.len;have e0:prCells l ss=prCells (l.take i) (ss.take i)++prCells (l.drop i) (ss.drop i):=by
   rw[←Zl hl3, ←Zm hl3,eW_]
  have ho2:=ho1;rw[e0] at ho2;have hx1:(prCells (l.take i) (ss.take i)).length=i*3:=by rw[←Zl hl3,eN_,XP hl3];have:=HM.B;omega
  have hy1:(prCells (l.drop i) (ss.drop i)).length=(l.length - i)*3:=by rw[←Zm hl3,List.length_drop,XP hl3];omega
  have hbU:base≤U.heap.size:=eE_ HH.e (eE_ HB.b.size hbl.size);have hone:∀ u∈prCells (l.drop i) (ss.drop i),u.oneCell'=true:=fun u hu=> HO.c.one u (by rw[e0];exact List.mem_append_right _ hu);have hr1:(Value.slice a l.length c).ownBlock≠some w1.heap.size:=fun e=> by
   have:=(HO.d.lt _ e).2;omega
  have hcall:=Q0C (ns:= [.string ⟨k.toArray⟩,.bool nz,.slice az (wd z).length cz]) ho2 hx1 hy1 HM.B hbU (by have:=HH.d;omega) hone hnew hr1 rfl (by simp[Value.oneCell']);have HCALL:=hd_ hcall;have HU:=h5_ hbl ho1 e0 hU hgm;clear hgm hbl hnew hU ho1 hl3 e0 ho2 hx1 hy1 hbU hone hr1 hcall;go_region_with (go_at_call 60;rw[HU.d];refine HCALL.o.mono ?_;rintro e w2 ⟨v2,rfl,ho2,hg2,hat2⟩;obtain ⟨a2,c2,rfl⟩:=Qi ho2;have hm1:=(HU.a.block m (Q4 HO.b)).trans HO.b;have hm2:=(hg2.block m (Q4 hm1) (fun e=> by obtain ⟨cur,hc⟩:=Qk HU.b e.symm;rw[hm1] at hc;injection hc with hc;injection hc with _ h2 _;exact absurd h2 (by decide))).trans hm1;have h0:=Q3 hm2 0 rfl;have hz:=Q6 hm2 0;have HD:=h4_ ho2 hg2 hat2 hm2;clear ho2 hg2 hat2 hm1 hm2)
  all_goals (
   go_wp2_with fail;go_ret;have hf1:FrM Q m w w1:=FrM.of HB.b;have hf2:FrM Q m w1 U:=FrM.of HU.a;have hf3:FrM Q m U w2:=FrM.grown HU.b HO.E HD.b;have hf:FrM Q m w w2:=(hf1.trans hf2).trans hf3;have hlen:(l.take i++(k,z)::l.drop i).length=l.length+1:=(by rw[eC_,eL_,eN_,List.length_drop];have:=HM.B;omega);have hwz:RdU w1 (.slice az (wd z).length cz) (wd z):=HH.f.below HB.b;have hmU:=(HU.a.block m (Q4 HO.b)).trans HO.b;have hl3:=HO.c.len;have hpc:prCells (l.take i++(k,z)::l.drop i) (ss.take i++(.slice az (wd z).length cz)::ss.drop i)=prCells (l.take i) (ss.take i)++ [.string ⟨k.toArray⟩,.bool nz,.slice az (wd z).length cz]++prCells (l.drop i) (ss.drop i):=by
    rw[Xz (by rw[eN_,eN_,hl3]),XZ,pairCells,HH.G,eQ_]
   obtain ⟨r1,r2⟩:=Dn (w:=w) (l:=l.take i++(k,z)::l.drop i) (ss:=ss.take i++(.slice az (wd z).length cz)::ss.drop i) HD.D HO.a ((HO.c.ins i HM.B (k,z) hwz).keep fun _ _ h=> hf3.rdu hmU (h.below HU.a)) (by rw[hlen,hpc];exact HD.a) (fun q hq=> (HD.c q hq).elim (fun e=> HO.E q e) fun e=> HH.b q (eE_ HB.b.size (eE_ HU.a.size e))) hf;exact ⟨by rw[HX.o];rfl,by rw[HM.a.2.1 z];exact r1,r2⟩)
theorem TmP.frt {ts:List TypeId} {w w':World} {p:Value} {l:Tp.L} (h:TmP w p l) (hf:FrT ts w w') (h1:174∉ts) (h2:112∉ts) (h3:126∉ts):TmP w' p l:=h.imp id fun ⟨m,a,b⟩=> ⟨m,a,b.frt hf h1 h2 h3⟩
theorem Tm.frt {ts:List TypeId} {w w':World} {v:Value} {t:Tp.T} (h:Tm w v t) (hf:FrT ts w w') (h1:174∉ts) (h2:112∉ts) (h3:126∉ts):Tm w' v t:=by
 obtain ⟨s,p,a,b,c⟩:=h;exact ⟨s,p,a,RdB.frt b hf h1,c.frt hf h1 h2 h3⟩
theorem TmP.one (h:TmP w p l):p.oneCell'=true:=by
 rcases h with ⟨rfl,_⟩ | ⟨m,rfl,_⟩ <;> rfl
theorem Tm.cells (h:Tm w v t):∃ cs,v= .agg cs∧cs.size=3∧∀ u∈cs.toList,u.oneCell'=true:=by
 obtain ⟨a,c,p,rfl,_,hp,_⟩:=h.form;refine ⟨_,rfl,rfl,fun u hu=> ?_⟩;simp only[List.mem_cons,List.mem_nil_iff,or_false] at hu;rcases hu with rfl | rfl | rfl
 ·rfl
 ·rfl
 ·exact hp.one
theorem QF:(prog.info? 38).map (·.size)=some 3:=by kernel_rfl
theorem Qw {rest:List Oper} {Q:Exit→Act→World→Prop} (hgd:o.guard=none) (x v:Operand) (ho:o.op= .store 38 x v)
  {g:Nat} {zs:Array Value} (hx:a.eval x= .pointer (some ⟨g,0,none⟩)) (hg:w1.heap[g]? =some (.cells zs 38 (0,0))) (hz:zs.size=3) {val:Value} {t:Tp.T} (hv:a.eval v=val) (hn:Tm w1 val t)
  {B:Nat} {w0:World} (hB:B≤g) (hb:Below B w0 w1)
  (h:∀ W cs,W=w1.setRow g cs→val= .agg cs→W.heap[g]? =some (.cells cs 38 (0,0))→cs.size=3→Tm W (.agg cs) t→Below B w0 W→wpList prog ops Q rest (a.put o.dst undef) W):
  wpList prog ops Q (o::rest) a w1:=by
 obtain ⟨cs,rfl,hs,h1⟩:=hn.cells;refine Qf hgd _ x v ho _ g zs cs hx hg hv (by rw[hz,hs]) (by rw[hs];exact QF) h1 ?_;exact h _ cs rfl rfl (Qc hg) hs (hn.frt (Qg hg) (by decide) (by decide) (by decide)) (Qd hb hB cs)
theorem ZN {fn:Func} {p:Tmp} (h:fn.results= #[.cell p 38]) (hp:tmps.getD p undef= .pointer (some ⟨g,0,none⟩)) (hg:w.heap[g]? =some (.cells cs 38 (0,0))) (hs:cs.size=3):
  (results fn tmps).run prog w= .ok (.agg cs) w:=
 eY_ h _ _ g _ _ _ _ hp hg underlying38 rfl (by rw[hs];exact QF)
def TmOut (w:World) (t:Tp.T) (e:Ending) (w':World):Prop:=∃ v,e= .returned v∧Tm w' v t∧Below w.heap.size w w'
theorem Xe (h:Num w v z):Calls prog 52 #[v] w (TmOut w ⟨[],z⟩):=by
 obtain ⟨a,c,rfl,hr⟩:=h.form;obtain ⟨nz,hnz⟩:∃ b,decide (z < 0)=b:=⟨_,rfl⟩
 rw[hnz] at h ⊢;have HH:=hd_ h;clear h hr hnz;go_in;go_wp2_with fail;have hbx:=box2 w #[.bool nz,.slice a (wd z).length c] 27 #[.bool nz,.slice a (wd z).length c,.pointer none] 38;refine eG_ (ZN rfl rfl hbx.2.1 rfl) rfl ?_;exact ⟨_,rfl,Tm.of (t:=⟨[],z⟩) (HH.o.below hbx.2.2) (Or.inl ⟨rfl,rfl⟩),hbx.2.2⟩
theorem Zo (w:World) (s:Tp.Nm):Calls prog 19 #[.string ⟨s.toArray⟩] w (TmOut w (Tp.name s)):=by
 go_in;go_wp2_with fail;obtain ⟨V,hV⟩:∃ V,w.alloc (.cells #[.bool false,.slice none 0 0,.pointer none] 38)=V:=⟨_,rfl⟩
 have hbx:=box1 w #[.bool false,.slice none 0 0,.pointer none] 38;rw[hV] at hbx ⊢;have HV:=hd_ hbx;clear hbx hV;refine (Yi V).mono ?_;rintro e w1 ⟨rfl,hm,hb,hlt⟩;have H1:=h3_ hm hb hlt;clear hm hb hlt;dsimp only;go_wp2_with fail;refine (QY 1 (by decide) (by decide) w1).mono ?_;rintro e w2 ⟨v2,rfl,hn,hb⟩;have H2:=h2_ hn hb;clear hn hb;dsimp only;go_wp2_with fail;refine (Z6 (H1.a.past H2.B) (fun k hk=> eE_ (eE_ H1.b.size H2.B.size) hk) Tp.Rise.nil (by decide) (eE_ H1.b.size H2.B.size) s H2.a).mono ?_;rintro e w3 ⟨rfl,hm,hf⟩;have hbv:Below V.heap.size V w2:=H1.b.trans (H2.B.mono H1.b.size);have hb3:Below V.heap.size V w3:=hbv.trans (hf.below (rl_ _) (fun k hk=> hk) hbv.size);have hg3:=(hb3.block _ (Q4 HV.a)).trans HV.a;have hbw:Below w.heap.size w w3:=HV.B.trans (hb3.mono HV.B.size);have ht:Tm w3 (.agg #[.bool false,.slice none 0 0,.pointer (some ⟨V.heap.size,0,none⟩)]) (Tp.name s):=Tm.of (Num.zero w3) (Or.inr ⟨_,rfl,hm.read⟩);have H3:=h3_ hg3 hbw ht;clear hm hf hbv hb3 hg3 hbw ht;dsimp only;go_wp2_with (refine Qw rfl _ _ rfl rfl H3.a rfl rfl H3.C (rl_ _) H3.b ?_;rintro W cs - hcs hg hs hn hb;have HT:=h4_ hg hs hn hb;clear hg hs hn hb hcs);exact eG_ (ZN rfl rfl HT.a HT.b) rfl ⟨_,rfl,HT.c,HT.D⟩
theorem Zq {base base':Nat} {e:TypeId} {size:Nat} (h:w.ownsRow base e size v n xs) (hb:base'≤base):w.ownsRow base' e size v n xs:=by
 obtain ⟨h1,h2 | ⟨g,cap,cur,h3,h4,h5⟩⟩:=h
 ·exact ⟨h1,Or.inl h2⟩
 ·exact ⟨h1,Or.inr ⟨g,cap,cur,h3,eE_ hb h4,h5⟩⟩
theorem XR (h:Tm w v t) (hl:t.l.length≤1073741824):Calls prog 47 #[v] w (PrOwn w t.l):=by
 obtain ⟨a,c,p,rfl,hr,hp,hp2⟩:=h.form;obtain ⟨nz,hnz⟩:∃ b,decide (t.rest < 0)=b:=⟨_,rfl⟩
 rw[hnz];clear h hr hnz;rcases hp with ⟨rfl,he⟩ | ⟨m,rfl,hm⟩
 ·rw[he];clear hp2 hl he;go_in;go_wp2_with fail;go_ret;exact ⟨_, [],rfl,PWords.nil _,World.ownsRow_nil _ _ _ _,(eB_ _ _).alloc (rl_ _) _⟩
 ·have HH:=h2_ hm hl;clear hp2 hm hl;go_in;go_wp2_with fail;have hbx:=box1 w #[.bool nz,.slice a (wd t.rest).length c,.pointer (some ⟨m,0,none⟩)] 38;refine (U6 (HH.a.below hbx.2) HH.B).mono ?_;rintro e w1 ⟨v1,ss,rfl,hw,ho,hb⟩;have H1:=h4_ hw ho hb hbx.2;clear hw ho hb hbx;dsimp only;go_wp2_with fail;go_ret;exact ⟨_,ss,rfl,H1.a,Zq H1.b H1.D.size,H1.D.trans (H1.c.mono H1.D.size)⟩
def NumOut (w:World) (z:Int) (e:Ending) (w':World):Prop:=∃ v',e= .returned v'∧Num w' v' z∧Below w.heap.size w w'
theorem Q0E (h:Tm w v t) (ho:Tp.Rise t.l) (hl:t.l.length≤1073741824) (s:Tp.Nm):Calls prog 54 #[v,.string ⟨s.toArray⟩] w (NumOut w (Tp.look t.l s)):=by
 obtain ⟨a,c,p,rfl,hr,hp,hp2⟩:=h.form;obtain ⟨nz,hnz⟩:∃ b,decide (t.rest < 0)=b:=⟨_,rfl⟩
 rw[hnz];clear h hr hnz;rcases hp with ⟨rfl,he⟩ | ⟨m,rfl,hm⟩
 ·rw[he];clear hp2 hl he ho;go_in;go_wp2_with fail;have hbx:=box2 w #[.bool nz,.slice a (wd t.rest).length c,.pointer none] 38 #[.bool false,.slice none 0 0] 27;refine eG_ (XW rfl rfl hbx.2.1 rfl) rfl ?_;exact ⟨_,rfl,Num.zero _,hbx.2.2⟩
 ·have HH:=h3_ hm ho hl;clear hp2 hm hl ho;go_in;go_wp2_with fail;obtain ⟨V,hV⟩:∃ V,(w.alloc (.cells #[.bool nz,.slice a (wd t.rest).length c,.pointer (some ⟨m,0,none⟩)] 38)).alloc (.cells #[.bool false,.slice none 0 0] 27)=V:=⟨_,rfl⟩
  have hbx:=box2 w #[.bool nz,.slice a (wd t.rest).length c,.pointer (some ⟨m,0,none⟩)] 38 #[.bool false,.slice none 0 0] 27;rw[hV] at hbx ⊢;have HV:=hd_ hbx;clear hbx hV;refine (Z5 (HH.a.below HV.C) HH.b HH.C s).mono ?_;rintro e w1 ⟨v1,rfl,hn,hb⟩;obtain ⟨a1,c1,rfl,hr1⟩:=hn.form;obtain ⟨n1,hn1⟩:∃ b,decide (Tp.look t.l s < 0)=b:=⟨_,rfl⟩
  rw[hn1] at hn ⊢;have hg:=(hb.block _ (Q4 HV.b)).trans HV.b;have hbw:=HV.C.trans (hb.mono HV.C.size);have h2:Below w1.heap.size w1 (w1.alloc (.cells #[.bool n1,.slice a1 (wd (Tp.look t.l s)).length c1] 27)):=(eB_ _ _).alloc (rl_ _) _;have H1:=h3_ ((h2.block _ (Q4 hg)).trans hg) (hn.below h2) (hbw.trans (h2.mono hbw.size));clear hr1 hn hb hg hbw h2 hn1;dsimp only;go_wp2_with (refine Y1 rfl _ _ rfl rfl H1.a rfl rfl H1.b (show w.heap.size≤w.heap.size+1 by omega) H1.C ?_;rintro W cs hg hs hn hb -;have HT:=h4_ hg hs hn hb;clear hg hs hn hb);refine eG_ (XW rfl rfl HT.a HT.b) rfl ?_;exact ⟨_,rfl,HT.c,HT.D⟩
def nzCells (q:Int × Value):List Value:= [.bool (decide (q.1 < 0)),q.2]
theorem Q1L (q:Int × Value):(nzCells q).length=2:=rfl
def RdNs2 (w:World) (v:Value) (zs:List Int):Prop:=∃ ss:List Value,ss.length=zs.length∧(∀ (i:Nat) (z:Int) (s:Value),zs[i]? =some z→ss[i]? =some s→RdU w s (wd z))∧RdB 27 w 2 v zs.length ((zs.zip ss).flatMap nzCells)
theorem RdNs2.below {w w':World} {v:Value} {zs:List Int} (h:RdNs2 w v zs) (hb:Below w.heap.size w w'):RdNs2 w' v zs:=by
 obtain ⟨ss,h1,h2,h3⟩:=h;exact ⟨ss,h1,fun i z s a b=> (h2 i z s a b).below hb,h3.below hb⟩
theorem RdNs2.form (h:RdNs2 w v zs):∃ a c,v= .slice a zs.length c∧zs.length≤c:=by
 obtain ⟨ss,_,_,_,a,c,e,hc,_⟩:=h;exact ⟨a,c,e,hc⟩
theorem RdNs2.at {a:Option Addr} (h:RdNs2 w (.slice a n c) zs) {i:Nat} {z:Int} (hz:zs[i]? =some z):
  ∃ b off aw cw,a=some ⟨b,off,none⟩∧w.cell? ⟨b,off+i*2,none⟩=some (.bool (decide (z < 0)))∧w.cell? ⟨b,off+i*2+1,none⟩=some (.slice aw (wd z).length cw)∧Num w (.agg #[.bool (decide (z < 0)),.slice aw (wd z).length cw]) z:=by
 obtain ⟨ss,h1,h2,_,a2,c2,e,hc,h3⟩:=h;injection e with e1 e2 e3;subst e1 e2 e3;have hi:=(List.getElem?_eq_some_iff.1 hz).1;obtain ⟨s,hs⟩:∃ s,ss[i]? =some s:=⟨_,eA_ (by rw[h1];exact hi)⟩
 have hr:=h2 i z s hz hs;obtain ⟨aw,cw,rfl,_⟩:=hr.form;rcases h3 with ⟨_,h3⟩ | ⟨b,off,rfl,_,h3⟩
 ·omega
 ·have h4:=QT Q1L h3 (show (zs.zip ss)[i]? =some (z,.slice aw (wd z).length cw) from by rw[List.getElem?_zip_eq_some];exact ⟨hz,hs⟩);exact ⟨b,off,aw,cw,rfl,h4 0 _ rfl,h4 1 _ rfl,_,rfl,hr⟩
theorem Q68 (h:w.heap[g]? =some (.cells #[.bool b,s] 27 (0,0))) (hn:Num w (.agg #[.bool b,s]) z) {c:Nat} (hc:1≤c):RdNs2 w (.slice (some ⟨g,0,none⟩) 1 c) [z]:=by
 obtain ⟨s2,e,hs⟩:=hn;injection e with e;have e1:b=decide (z < 0)∧s=s2:=by simpa using e
 obtain ⟨rfl,rfl⟩:=e1;refine ⟨[s],rfl,fun i z' s' h1 h2=> ?_,?_⟩
 ·cases i with
  | zero=>
   obtain rfl:z=z':=(by simpa using h1);obtain rfl:s=s':=(by simpa using h2);exact hs
  | succ i=> simp at h1
 ·refine ⟨rfl,_,c,rfl,hc,Or.inr ⟨g,0,rfl,Or.inr ⟨_,h⟩,fun j u hj=> ?_⟩⟩;rw[Nat.zero_add];refine Q3 h j ?_;simpa [nzCells] using hj
theorem Q69 (l:List Nat):∀ u∈u32Cells l,u.oneCell'=true:=by
 intro u hu;obtain ⟨d,_,rfl⟩:=List.mem_map.1 hu;rfl
theorem Ge {l:List Nat} (h:RdU w v l) (hl:l.length≤1073741824):Calls prog 100 #[v] w fun e w'=> ∃ v',e= .returned v'∧RdU w' v' l∧Below w.heap.size w w':=
 (Q4A h hl (Q69 l)).mono fun e w' ⟨v',h1,h2,h3⟩=> ⟨v',h1,GE h2,h3⟩
def AdRel (w:World) (x:Int) (zs:List Int) (g:Nat) (k:Nat) (v16:Value) (wr:World):Prop:=
 ∃ (i:Nat) (cs:Array Value) (acc:Int),v16= .int .i64 i∧k=zs.length - i∧i≤zs.length∧wr.heap[g]? =some (.cells cs 27 (0,0))∧Num wr (.agg cs) acc∧acc+(zs.drop i).sum=x+zs.sum∧wr.heap[w.heap.size+1]? =some (.cells #[.bool false,.slice none 0 0] 27 (0,0))∧Below w.heap.size w wr
theorem Q3i {vs:Value} (hx:Num w vx x) (hs:RdNs2 w vs zs) (hl:zs.length≤1000000) (B:Nat) (hB:B≤1073741820) (hlx:(wd x).length≤B) (hb:∀ z∈zs,(wd z).length≤B) (hsum:∀ k,k≤zs.length→(wd (x+(zs.take k).sum)).length≤B):
  Calls prog 63 #[vx,vs] w fun e w'=> ∃ v',e= .returned v'∧Num w' v' (x+zs.sum)∧Below w.heap.size w w':=by
 obtain ⟨ax,cx,rfl,hrx⟩:=hx.form;obtain ⟨av,cv,rfl,hcv⟩:=hs.form;have HH:=h6_ hrx hs hb hsum hlx hx;obtain ⟨nx,hnx⟩:∃ b,decide (x < 0)=b:=⟨_,rfl⟩
 rw[hnx] at HH ⊢;have hl':(zs.length:Int)≤1000000:=by omega
 clear hx hs hlx hb hsum hrx hnx;go_in;go_wp2_with fail;obtain ⟨V,hV⟩:∃ V,(w.alloc (.cells #[.bool nx,.slice ax (wd x).length cx] 27)).alloc (.cells #[.bool false,.slice none 0 0] 27)=V:=⟨_,rfl⟩
 have hbx:=box2 w #[.bool nx,.slice ax (wd x).length cx] 27 #[.bool false,.slice none 0 0] 27;rw[hV] at hbx ⊢;have hsz:V.heap.size=w.heap.size+2:=by rw[←hV, ←Q5, ←Q5]
 have HV:=hd_ hbx;have a0:=Q3 hbx.1 0 rfl;have a1:=Q3 hbx.1 1 rfl;have hA:V.drew.heap[w.heap.size]? =some (.cells #[.bool nx,.slice ax (wd x).length cx] 27 (0,0))∧V.drew.heap[w.heap.size+1]? =some (.cells #[.bool false,.slice none 0 0] 27 (0,0))∧Below w.heap.size w V.drew:=⟨hbx.1,hbx.2.1,hbx.2.2.drew⟩
 have hB3:(V.alloc (.cells #[.bool false,.slice none 0 0] 27)).drew.heap[w.heap.size]? =some (.cells #[.bool nx,.slice ax (wd x).length cx] 27 (0,0))∧(V.alloc (.cells #[.bool false,.slice none 0 0] 27)).drew.heap[w.heap.size+1]? =some (.cells #[.bool false,.slice none 0 0] 27 (0,0))∧Below w.heap.size w (V.alloc (.cells #[.bool false,.slice none 0 0] 27)).drew:=
  ⟨(eJ_ _ _ _ (Q4 hbx.1)).trans hbx.1,(eJ_ _ _ _ (Q4 hbx.2.1)).trans hbx.2.1,(hbx.2.2.alloc (by omega) _).drew⟩
 have hC3:(V.alloc (.cells #[.bool false,.slice none 0 0] 27)).drew.heap[V.heap.size]? =some (.cells #[.bool false,.slice none 0 0] 27 (0,0)):=eD_ _ _;have HA:=hd_ hA;have HB:=hd_ hB3;have HC:=hd_ hC3;have j0:(V.alloc (.cells #[.bool false,.slice none 0 0] 27)).cell? ⟨w.heap.size,0,none⟩=some (.bool nx):=Q3 hB3.1 0 rfl;have j1:(V.alloc (.cells #[.bool false,.slice none 0 0] 27)).cell? ⟨w.heap.size,1,none⟩=some (.slice ax (wd x).length cx):=Q3 hB3.1 1 rfl;have hne:w.heap.size≠V.heap.size:=by omega
 have HSZ:=hd_ hsz;clear hbx hV hsz hA hB3 hC3;go_region_held3 (fun w'=> w'.cell? ⟨w.heap.size,0,none⟩=some (.bool nx)∧w'.cell? ⟨w.heap.size,1,none⟩=some (.slice ax (wd x).length cx)) (first | exact ⟨a0,a1⟩ | exact ⟨j0,j1⟩ | exact ⟨e0,e1⟩ | exact ⟨Qt e0 hne,Qt e1 hne⟩ | go_keep)
  ((first
   | (go_at_call 100;refine (Ge (HH.a.below HA.C) (by have:=HH.e;omega)).mono ?_;rintro e w2 ⟨v2,rfl,hr2,hb2⟩;have e0:=Q3 ((hb2.block _ (Q4 HA.a)).trans HA.a) 0 rfl;have e1:=Q3 ((hb2.block _ (Q4 HA.a)).trans HA.a) 1 rfl;obtain ⟨a2,c2,rfl,_⟩:=hr2.form;have H2:=h2_ hr2 hb2;clear hr2 hb2)
   | (go_at_call 100;refine (Ge (HH.a.below HB.C) (by have:=HH.e;omega)).mono ?_;rintro e w2 ⟨v2,rfl,hr2,hb2⟩;have e0:=Q3 ((hb2.block _ (Q4 HB.a)).trans HB.a) 0 rfl;have e1:=Q3 ((hb2.block _ (Q4 HB.a)).trans HB.a) 1 rfl;have r0:=Q3 ((hb2.block _ (Q4 HC.o)).trans HC.o) 0 rfl;have r1:=Q3 ((hb2.block _ (Q4 HC.o)).trans HC.o) 1 rfl;have z0:=Q6 ((hb2.block _ (Q4 HC.o)).trans HC.o) 0;have z1:=Q6 ((hb2.block _ (Q4 HC.o)).trans HC.o) 1;obtain ⟨a2,c2,rfl,_⟩:=hr2.form;have H2:=h2_ hr2 hb2;clear hr2 hb2)))
 ·rename_i hh;clear hh;have hw2:Below w.heap.size w w2:=HA.C.trans (H2.B.mono HA.C.size);have hszz:w.heap.size+2≤w2.heap.size:=by have h1:=H2.B.size;have h2:V.drew.heap.size=V.heap.size:=rfl;have:=HSZ.o;omega
  have hgl:=eD_ w2 (.cells #[.bool nx,.slice a2 (wd x).length c2] 27);have hnum:Num (w2.alloc (.cells #[.bool nx,.slice a2 (wd x).length c2] 27)) (.agg #[.bool nx,.slice a2 (wd x).length c2]) x:=by
   obtain ⟨s,e,_⟩:=HH.F;injection e with e;have e1:nx=decide (x < 0):=(by have:=congrArg (fun a=> a[0]?) e;simpa using this);exact ⟨_,by rw[e1],H2.a.below ((eB_ _ _).alloc (rl_ _) _)⟩
  have hzr:(w2.alloc (.cells #[.bool nx,.slice a2 (wd x).length c2] 27)).heap[w.heap.size+1]? =some (.cells #[.bool false,.slice none 0 0] 27 (0,0)):=(eJ_ _ _ _ (by omega)).trans ((H2.B.block _ (Q4 HA.b)).trans HA.b);obtain ⟨W,hW⟩:∃ W,w2.alloc (.cells #[.bool nx,.slice a2 (wd x).length c2] 27)=W:=⟨_,rfl⟩
  have hbw:Below w.heap.size w W:=by rw[←hW];exact hw2.alloc (by omega) _
  rw[hW] at hgl hnum hzr ⊢;obtain ⟨g,hg⟩:∃ g,w2.heap.size=g:=⟨_,rfl⟩
  rw[hg] at hgl hszz ⊢;have HW:=h5_ hgl hnum hzr hbw hszz;have HGE:=hd_ hszz;clear hw2 hszz hgl hnum hzr hW hbw hg;clear a0 a1 e0 e1 j0 j1 hne;go_wp2_with fail;go_loopg [16] zs.length (fun k v16 wr=> AdRel w x zs g k v16 wr)
  case atStart=> exact ⟨0,_,x,rfl,rfl,eV_ _,HW.a,HW.b,by simp,HW.c,HW.d⟩
  case round=>
   obtain ⟨i,cs,acc,rfl,hk,hi,hg,hn,hsm,hz,hb⟩:=hrel;obtain ⟨aw,cw,ecs,hnr⟩:=hn.form;obtain rfl:cs= #[.bool (decide (acc < 0)),.slice aw (wd acc).length cw]:=(by injection ecs);have hacc:acc=x+(zs.take i).sum:=by
    have h1:(zs.take i).sum+(zs.drop i).sum=zs.sum:=(by rw[←List.sum_append,eW_]);omega
   have hlacc:(wd acc).length≤B:=(by rw[hacc];exact HH.d i hi);obtain ⟨na,hna⟩:∃ b,decide (acc < 0)=b:=⟨_,rfl⟩
   rw[hna] at hg hn;have HR:=h7_ hk hg hn hsm hz hb hlacc;have g0:=Q3 hg 0 rfl;have g1:=Q3 hg 1 rfl;have gl:=Q9 g0;have r0:=Q3 hz 0 rfl;have r1:=Q3 hz 1 rfl;clear hk hg hn hsm hz hb ecs hnr hacc hlacc hna;by_cases hlt:i < zs.length
   ·have hlt':(i:Int) < (zs.length:Int):=(by omega);obtain ⟨z,hz⟩:∃ z,zs[i]? =some z:=⟨_,eA_ hlt⟩
    obtain ⟨bv,ov,az,cz,ev,q0,q1,hnz⟩:=(HH.b.below HR.f).at hz;have hlz:(wd z).length≤B:=HH.c z (eP_ hz);obtain ⟨nz,hnz2⟩:∃ b,decide (z < 0)=b:=⟨_,rfl⟩
    rw[hnz2] at q0 hnz;have HZ:=h3_ hz hnz hlz;obtain rfl:=ev;clear hz hnz hlz hnz2 r0 r1;go_wp2_with fail;have hba:Below wr.heap.size wr (wr.alloc (.cells #[.bool nz,.slice az (wd z).length cz] 27)):=(eB_ _ _).alloc (rl_ _) _;refine (Dd (HR.c.below hba) (HZ.b.below hba) (by have:=HR.G;omega) (by have:=HZ.C;omega)).mono ?_;rintro e w3 ⟨v3,rfl,hr3,hb3⟩;have hb4:=hba.trans (hb3.mono hba.size);have hgg:=(hb4.block _ (Q4 HR.b)).trans HR.b;have hzz:=(hb4.block _ (Q4 HR.e)).trans HR.e;have HT:=h4_ hgg hr3 (HR.f.trans (hb4.mono HR.f.size)) hzz;clear hba hr3 hb3 hb4 hgg hzz g0 g1 gl q0 q1;dsimp only;go_wp2_with (refine QB rfl _ _ rfl rfl HT.a rfl rfl HT.b (show w.heap.size≤g by have:=HGE.o;omega) HT.c ?_;rintro W3 cs3 hW3 rfl hg3 hs3 hn3 hb3 -;have HT3:=h5_ hg3 hs3 hn3 hb3 hW3;clear hg3 hs3 hn3 hb3 hW3);go_roundg (zs.length - (i+1))
    case measure=> have:=HR.a;omega
    case rel=>
     refine ⟨i+1,cs3,acc+z,by go_num,rfl,by omega,HT3.a,HT3.c,?_,?_,HT3.d⟩
     ·rw[←HR.d,List.drop_eq_getElem_cons hlt,List.sum_cons,(List.getElem?_eq_some_iff.1 HZ.a).2];omega
     ·rw[HT3.E,Qa (by have:=HGE.o;omega)];exact HT.D
   ·obtain rfl:zs.length=i:=(by omega);go_wp2_with (refine QB rfl _ _ rfl rfl HR.e rfl rfl HR.c (show w.heap.size≤w.heap.size+1 by omega) HR.f ?_;rintro W3 cs3 hW3 hcs3 hg3 hs3 hn3 hb3 -;have HT3:=h5_ hg3 hs3 hn3 hb3 hcs3;clear hg3 hs3 hn3 hb3 hW3 hcs3);have hfin:acc=x+zs.sum:=by
     have h1:=HR.d;rw[List.drop_length,List.sum_nil] at h1;omega
    rw[←hfin];refine eG_ (XW rfl rfl HT3.a HT3.b) rfl ⟨_,rfl,?_,HT3.d⟩;rw[←HT3.E];exact HT3.c
 ·rename_i hh;clear hh;have hw2:Below w.heap.size w w2:=HB.C.trans (H2.B.mono HB.C.size);have hgl0:=(H2.B.block _ (Q4 HC.o)).trans HC.o;have hszz:w.heap.size+2≤V.heap.size:=by have:=HSZ.o;omega
  rw[Dc hgl0 rfl];have hgl:=Qc (vs:= #[.bool nx,.slice a2 (wd x).length c2]) hgl0;have hnum:Num (w2.setRow V.heap.size #[.bool nx,.slice a2 (wd x).length c2]) (.agg #[.bool nx,.slice a2 (wd x).length c2]) x:=by
   obtain ⟨s,e,_⟩:=HH.F;injection e with e;have e1:nx=decide (x < 0):=(by have:=congrArg (fun a=> a[0]?) e;simpa using this);exact ⟨_,by rw[e1],RdB.frt H2.a (Qg hgl0) (by decide)⟩
  have hzr:(w2.setRow V.heap.size #[.bool nx,.slice a2 (wd x).length c2]).heap[w.heap.size+1]? =some (.cells #[.bool false,.slice none 0 0] 27 (0,0)):=(Qa (by omega)).trans ((H2.B.block _ (Q4 HB.b)).trans HB.b);obtain ⟨W,hW⟩:∃ W,w2.setRow V.heap.size #[.bool nx,.slice a2 (wd x).length c2]=W:=⟨_,rfl⟩
  have hbw:Below w.heap.size w W:=by rw[←hW];exact Qd hw2 (by omega) _
  rw[hW] at hgl hnum hzr ⊢;clear r0 r1 z0 z1;obtain ⟨g,hg⟩:∃ g,V.heap.size=g:=⟨_,rfl⟩
  rw[hg] at hgl hszz ⊢;have HW:=h5_ hgl hnum hzr hbw hszz;have HGE:=hd_ hszz;clear hw2 hszz hgl hgl0 hnum hzr hW hbw hg;clear a0 a1 e0 e1 j0 j1 hne;go_wp2_with fail;go_loopg [16] zs.length (fun k v16 wr=> AdRel w x zs g k v16 wr)
  case atStart=> exact ⟨0,_,x,rfl,rfl,eV_ _,HW.a,HW.b,by simp,HW.c,HW.d⟩
  case round=>
   obtain ⟨i,cs,acc,rfl,hk,hi,hg,hn,hsm,hz,hb⟩:=hrel;obtain ⟨aw,cw,ecs,hnr⟩:=hn.form;obtain rfl:cs= #[.bool (decide (acc < 0)),.slice aw (wd acc).length cw]:=(by injection ecs);have hacc:acc=x+(zs.take i).sum:=by
    have h1:(zs.take i).sum+(zs.drop i).sum=zs.sum:=(by rw[←List.sum_append,eW_]);omega
   have hlacc:(wd acc).length≤B:=(by rw[hacc];exact HH.d i hi);obtain ⟨na,hna⟩:∃ b,decide (acc < 0)=b:=⟨_,rfl⟩
   rw[hna] at hg hn;have HR:=h7_ hk hg hn hsm hz hb hlacc;have g0:=Q3 hg 0 rfl;have g1:=Q3 hg 1 rfl;have gl:=Q9 g0;have r0:=Q3 hz 0 rfl;have r1:=Q3 hz 1 rfl;clear hk hg hn hsm hz hb ecs hnr hacc hlacc hna;by_cases hlt:i < zs.length
   ·have hlt':(i:Int) < (zs.length:Int):=(by omega);obtain ⟨z,hz⟩:∃ z,zs[i]? =some z:=⟨_,eA_ hlt⟩
    obtain ⟨bv,ov,az,cz,ev,q0,q1,hnz⟩:=(HH.b.below HR.f).at hz;have hlz:(wd z).length≤B:=HH.c z (eP_ hz);obtain ⟨nz,hnz2⟩:∃ b,decide (z < 0)=b:=⟨_,rfl⟩
    rw[hnz2] at q0 hnz;have HZ:=h3_ hz hnz hlz;obtain rfl:=ev;clear hz hnz hlz hnz2 r0 r1;go_wp2_with fail;have hba:Below wr.heap.size wr (wr.alloc (.cells #[.bool nz,.slice az (wd z).length cz] 27)):=(eB_ _ _).alloc (rl_ _) _;refine (Dd (HR.c.below hba) (HZ.b.below hba) (by have:=HR.G;omega) (by have:=HZ.C;omega)).mono ?_;rintro e w3 ⟨v3,rfl,hr3,hb3⟩;have hb4:=hba.trans (hb3.mono hba.size);have hgg:=(hb4.block _ (Q4 HR.b)).trans HR.b;have hzz:=(hb4.block _ (Q4 HR.e)).trans HR.e;have HT:=h4_ hgg hr3 (HR.f.trans (hb4.mono HR.f.size)) hzz;clear hba hr3 hb3 hb4 hgg hzz g0 g1 gl q0 q1;dsimp only;go_wp2_with (refine QB rfl _ _ rfl rfl HT.a rfl rfl HT.b (show w.heap.size≤g by have:=HGE.o;omega) HT.c ?_;rintro W3 cs3 hW3 rfl hg3 hs3 hn3 hb3 -;have HT3:=h5_ hg3 hs3 hn3 hb3 hW3;clear hg3 hs3 hn3 hb3 hW3);go_roundg (zs.length - (i+1))
    case measure=> have:=HR.a;omega
    case rel=>
     refine ⟨i+1,cs3,acc+z,by go_num,rfl,by omega,HT3.a,HT3.c,?_,?_,HT3.d⟩
     ·rw[←HR.d,List.drop_eq_getElem_cons hlt,List.sum_cons,(List.getElem?_eq_some_iff.1 HZ.a).2];omega
     ·rw[HT3.E,Qa (by have:=HGE.o;omega)];exact HT.D
   ·obtain rfl:zs.length=i:=(by omega);go_wp2_with (refine QB rfl _ _ rfl rfl HR.e rfl rfl HR.c (show w.heap.size≤w.heap.size+1 by omega) HR.f ?_;rintro W3 cs3 hW3 hcs3 hg3 hs3 hn3 hb3 -;have HT3:=h5_ hg3 hs3 hn3 hb3 hcs3;clear hg3 hs3 hn3 hb3 hW3 hcs3);have hfin:acc=x+zs.sum:=by
     have h1:=HR.d;rw[List.drop_length,List.sum_nil] at h1;omega
    rw[←hfin];refine eG_ (XW rfl rfl HT3.a HT3.b) rfl ⟨_,rfl,?_,HT3.d⟩;rw[←HT3.E];exact HT3.c
theorem Qq (h:Below B w W∧R):Below B w W:=h.1
theorem XN (h:Below B w W∧R) (hB:B≤w.heap.size) (o:Obj):Below B w (W.alloc o):=h.1.alloc (eE_ hB h.1.size) o
theorem QH {W':World} (hb:Below W.heap.size W W') (h:Below B w W∧R) (hB:B≤w.heap.size):Below B w W':=h.1.trans (hb.mono (eE_ hB h.1.size))
theorem JD (h:Below B w W) {g:Nat} (hg:B≤g) (x y:Value):Below B w ((W.setCell ⟨g,0,none⟩ x).setCell ⟨g,1,none⟩ y):=(h.setCell (p:=⟨g,0,none⟩) hg x).setCell (p:=⟨g,1,none⟩) hg y
theorem YA (h:Below B w W) {g:Nat} (hg:B≤g) (x y z:Value):Below B w (((W.setCell ⟨g,0,none⟩ x).setCell ⟨g,1,none⟩ y).setCell ⟨g,2,none⟩ z):=(JD h hg x y).setCell (p:=⟨g,2,none⟩) hg z
theorem Xv (w:World) (o:Obj):w.heap.size < (w.alloc o).heap.size:=by rw[←Q5];omega
theorem Qn (w:World) (o:Obj):Below w.heap.size w (w.alloc o):=(eB_ _ _).alloc (rl_ _) _
theorem Xq (w:World) (o o2:Obj):Below w.heap.size w ((w.alloc o).alloc o2):=(Qn w o).alloc (Nat.le_of_lt (Xv w o)) _
theorem box4 (w:World) (A:Array Value) (TA:TypeId) (B:Array Value) (TB:TypeId) (C:Array Value) (TC:TypeId) (D:Array Value) (TD:TypeId):
  ((((w.alloc (.cells A TA)).alloc (.cells B TB)).alloc (.cells C TC)).alloc (.cells D TD)).heap[w.heap.size]? =some (.cells A TA (0,0))∧((((w.alloc (.cells A TA)).alloc (.cells B TB)).alloc (.cells C TC)).alloc (.cells D TD)).heap[w.heap.size+1]? =some (.cells B TB (0,0))∧
  ((((w.alloc (.cells A TA)).alloc (.cells B TB)).alloc (.cells C TC)).alloc (.cells D TD)).heap[w.heap.size+1+1]? =some (.cells C TC (0,0))∧((((w.alloc (.cells A TA)).alloc (.cells B TB)).alloc (.cells C TC)).alloc (.cells D TD)).heap[w.heap.size+1+1+1]? =some (.cells D TD (0,0))∧
  Below w.heap.size w ((((w.alloc (.cells A TA)).alloc (.cells B TB)).alloc (.cells C TC)).alloc (.cells D TD))∧((((w.alloc (.cells A TA)).alloc (.cells B TB)).alloc (.cells C TC)).alloc (.cells D TD)).heap.size=w.heap.size+4:=by
 obtain ⟨h1,h2,h3,h4⟩:=box3 w A TA B TB C TC;have hs:(((w.alloc (.cells A TA)).alloc (.cells B TB)).alloc (.cells C TC)).heap.size=w.heap.size+3:=by rw[←Q5, ←Q5, ←Q5]
 exact ⟨by rw[eJ_ _ _ _ (by omega)];exact h1,by rw[eJ_ _ _ _ (by omega)];exact h2,by rw[eJ_ _ _ _ (by omega)];exact h3,Xd _ _ _ hs.symm,h4.alloc (by omega) _,by rw[←Q5,hs]⟩
theorem Yb {vy:Value} (hx:Num w vx x) (hy:Num w vy y) {K:Nat} (bx:Bd K x) (by_:Bd K y) (hK:K≤1000000):Calls prog 64 #[vx,vy] w fun e w'=> ∃ v',e= .returned v'∧Num w' v' (x*y)∧Below w.heap.size w w':=
 Q3b hx hy (by have:=bx.len;omega) (by have:=by_.len;omega)
theorem Xg (hx:Num w vx x) (hr:w.heap[r]? =some (.cells #[.bool b,s] 27 (0,0))) (hy:Num w (.agg #[.bool b,s]) y) {K:Nat} (bx:Bd K x) (by_:Bd K y) (hK:K≤1000000):
  Calls prog 63 #[vx,.slice (some ⟨r,0,none⟩) 1 1] w fun e w'=> ∃ v',e= .returned v'∧Num w' v' (x+y)∧Below w.heap.size w w':=by
 refine (Q3i hx (Q68 hr hy (rl_ _)) (by simp) (K+1) (by omega) (by have:=bx.len;omega) (fun z hz=> ?_) (fun k hk=> ?_)).mono fun e w' ⟨v',h1,h2,h3⟩=> ⟨v',h1,by simpa using h2,h3⟩
 ·rw[List.mem_singleton.1 hz];have:=by_.len;omega
 ·rcases Nat.eq_zero_or_pos k with rfl | hk0
  ·have e:x+(([y]:List Int).take 0).sum=x:=(by simp);rw[e];have:=bx.len;omega
  ·have e:x+(([y]:List Int).take k).sum=x+y:=by
    rw[List.take_of_length_le (show ([y]:List Int).length≤k from hk0)];simp
   rw[e];have:=(Bd.add bx by_ (rl_ _)).len;omega
def NumAt (B:Nat) (w0:World) (z:Int) (g:Nat) (W:World):Prop:=∃ b s,W.heap[g]? =some (.cells #[.bool b,s] 27 (0,0))∧Num W (.agg #[.bool b,s]) z∧Below B w0 W∧B≤g
theorem LK (hn:Num W (.agg #[.bool b,s]) z) (hb:Below B w0 W) (hB:B≤w0.heap.size):NumAt B w0 z W.heap.size (W.alloc (.cells #[.bool b,s] 27)):=
 ⟨b,s,eD_ _ _,hn.below (Qn _ _),hb.alloc (eE_ hB hb.size) _,eE_ hB hb.size⟩
theorem Yo (hn:Num W (.agg #[.bool b,s]) z) (hb:Below B w0 W) {g:Nat} {cs:Array Value} (hg:W.heap[g]? =some (.cells cs 27 (0,0))) (hs:cs.size=2) (hB:B≤g):NumAt B w0 z g ((W.setCell ⟨g,0,none⟩ (.bool b)).setCell ⟨g,1,none⟩ s):=by
 obtain ⟨a,c,e,_⟩:=hn.form;have he:b=decide (z < 0)∧s= .slice a (wd z).length c:=by
  injection e with e;simpa using e
 obtain ⟨rfl,rfl⟩:=he;obtain ⟨y1,y2,y3⟩:=Zk hn hg hs hb hB;exact ⟨_,_,y1,y2,y3,hB⟩
theorem Q1M {T:TypeId} (h:w.heap[g]? =some (.cells cs T (0,0))) (hs:cs.size=3) (x y z:Value):
  ((w.setCell ⟨g,0,none⟩ x).setCell ⟨g,1,none⟩ y).setCell ⟨g,2,none⟩ z=w.setRow g #[x,y,z]:=by
 rw[setCell_eq_setRow w g 0 cs _ (0,0) x h,setCell_eq_setRow _ g 1 _ _ (0,0) y (Qc h),setRow_setRow,setCell_eq_setRow _ g 2 _ _ (0,0) z (Qc h),setRow_setRow];obtain ⟨l⟩:=cs
 match l,hs with
 | [_,_,_],_=> rfl
theorem Dp {w3:World} (ht:Tm w3 (.agg #[.bool b,s,p]) t) (hg:w3.heap[g]? =some (.cells cs 38 (0,0))) (hs:cs.size=3) (hb:Below B w w3) (hB:B≤g):
  (((w3.setCell ⟨g,0,none⟩ (.bool b)).setCell ⟨g,1,none⟩ s).setCell ⟨g,2,none⟩ p).heap[g]? =some (.cells #[.bool b,s,p] 38 (0,0))∧
  Tm (((w3.setCell ⟨g,0,none⟩ (.bool b)).setCell ⟨g,1,none⟩ s).setCell ⟨g,2,none⟩ p) (.agg #[.bool b,s,p]) t∧Below B w (((w3.setCell ⟨g,0,none⟩ (.bool b)).setCell ⟨g,1,none⟩ s).setCell ⟨g,2,none⟩ p):=by
 rw[Q1M hg hs];exact ⟨Qc hg,ht.frt (Qg hg) (by decide) (by decide) (by decide),Qd hb hB _⟩
end Go.Proofs.YtiecccakcenobaaGreatDoor
