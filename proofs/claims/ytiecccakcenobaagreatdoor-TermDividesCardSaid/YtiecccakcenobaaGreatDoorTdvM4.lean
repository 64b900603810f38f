/- A part of the proof. -/
import Derived.Test.YtiecccakcenobaaGreatDoorTdvM3
import Derived.Laws.Strings
import Derived.OwnWalk
import Derived.Shelf.Small.Bits
import Derived.Shelf.SlicesE.Reverse
import Derived.Laws.BytesString
import Derived.Lib.ConvBytes
import Derived.Laws.ResultCell
set_option linter.all false
set_option maxRecDepth 100000
set_option maxHeartbeats 64000000
namespace Go.Proofs.YtiecccakcenobaaGreatDoor
open Tryz
open Go.RowKit
variable {a b l os ys:List Nat} {c i j k o v x:Nat} {w:World}
theorem Q6N {xs:List Nat} (h:xs[i]? =some x):Zp.mul B32 (xs.drop i) ys os=(Zp.mrow B32 x ys os 0).headD 0::Zp.mul B32 (xs.drop (i+1)) ys (Zp.mrow B32 x ys os 0).tail:=by
 rw[X7 h];rfl
theorem Q5i {y:Nat} (h:ys[k]? =some y):Zp.mrow B32 x (ys.drop k) (o::os) c=(c+x*y+o) % B32::Zp.mrow B32 x (ys.drop (k+1)) os ((c+x*y+o) / B32):=by
 rw[X7 h];rfl
theorem Q5j (h:ys.length<=k):Zp.mrow B32 x (ys.drop k) (o::os) c=c::os:=by
 rw[List.drop_of_length_le h];rfl
theorem Q8x (ha:a.length=i) (hb:b.length=k) {r:List Nat} (n:Nat) (hn:n=i+k):(a++(b++o::r))[n]! =o/\n < (a++(b++o::r)).length:=by
 subst hn;have hl:i+k < (a++(b++o::r)).length:=by simp;omega
 have h2:(a++(b++o::r))[i+k]? =some o:=by
  rw[eO_ (by omega),eO_ (by omega),show i+k - a.length - b.length=0 from by omega];rfl
 exact ⟨by rw[List.getElem!_eq_getElem?_getD,h2];rfl,hl⟩
theorem Dk (ha:a.length=i) (hb:b.length=k) {r:List Nat}:(a++(b++o::r)).set (i+k) v=a++((b++ [v])++r):=by
 rw[List.set_append_right _ _ (by omega),List.set_append_right _ _ (by omega),show i+k - a.length - b.length=0 from by omega,List.set_cons_zero,eQ_];rfl
def MuRel (w:World) (g:Nat) (A B:Array Value) (x y:List Nat) (n:Nat) (target:List Nat) (k:Nat) (v23:Value) (wr:World):Prop:=
 ∃ (i:Nat) (done rest:List Nat),v23= .int .i64 i/\k=x.length - i/\i<=x.length/\done.length=i/\rest.length=n - i/\Zp.Dig B32 rest/\
  wr.heap[g]? =some (.cells (u32Cells (done++rest)).toArray 174 (0,0))/\wr.heap[w.heap.size]? =some (.cells A 27 (0,0))/\wr.heap[w.heap.size+1]? =some (.cells B 27 (0,0))/\
  wr.heap[w.heap.size+2]? =some (.cells #[.bool false,.slice none 0 0] 27 (0,0))/\done++Zp.mul B32 (x.drop i) y rest=target/\Below w.heap.size w wr
def MvRel (w:World) (g:Nat) (A B:Array Value) (xi:Nat) (y done target:List Nat) (n:Nat) (k:Nat) (v8 v31:Value) (wr:World):Prop:=
 ∃ (j c:Nat) (dk rk:List Nat),v8= .int .u64 c/\v31= .int .i64 j/\k=y.length - j/\j<=y.length/\c < B32/\dk.length=j/\rk.length=n - j/\Zp.Dig B32 rk/\
  wr.heap[g]? =some (.cells (u32Cells (done++(dk++rk))).toArray 174 (0,0))/\wr.heap[w.heap.size]? =some (.cells A 27 (0,0))/\wr.heap[w.heap.size+1]? =some (.cells B 27 (0,0))/\
  wr.heap[w.heap.size+2]? =some (.cells #[.bool false,.slice none 0 0] 27 (0,0))/\dk++Zp.mrow B32 xi (y.drop j) rk c=target/\Below w.heap.size w wr
theorem Q3x {vx vy:Value} {x y:Int} (hx:Num w vx x) (hy:Num w vy y) (hlx:(wd x).length<=500000000) (hly:(wd y).length<=500000000):
  Calls prog 64 #[vx,vy] w fun e w'=> ∃ v',e= .returned v'/\Num w' v' (x*y)/\Below w.heap.size w w':=by
 obtain ⟨ax,cx,rfl,hrx⟩:=hx.form;obtain ⟨ay,cy,rfl,hry⟩:=hy.form;have hlen:=Zp.Q4p B32 (wd x) (wd y) (List.replicate ((wd x).length+(wd y).length+1) 0) (by simp <;> omega);have hval:=Zp.Q4q B32 (wd x) (wd y) (List.replicate ((wd x).length+(wd y).length+1) 0) (by simp <;> omega) (fun i h1 h2=> by rw[getElem!_pos _ i h2,List.getElem_replicate]);have hdz:Zp.Dig B32 (List.replicate ((wd x).length+(wd y).length+1) 0):=fun d hd=> by rw[(List.mem_replicate.1 hd).2];decide
 have hdm:=Zp.Q4r (B:=B32) (by decide) (wd x) (wd y) _ (Xp x) (Xp y) hdz;have hv0:Zp.val B32 (List.replicate ((wd x).length+(wd y).length+1) 0)=0:=by
  have h1:=Zp.Y8 (List.replicate ((wd x).length+(wd y).length+1) 0) (fun i h2=> by rw[getElem!_pos _ i h2,List.getElem_replicate]);rw[Zp.Xh (by decide) hdz,Zp.Xy (by decide)] at h1;exact h1
 rw[hv0,Nat.zero_add,ZP,ZP] at hval;obtain ⟨M,hM⟩:∃ M,Zp.mul B32 (wd x) (wd y) (List.replicate ((wd x).length+(wd y).length+1) 0)=M:=⟨_,rfl⟩
 rw[hM] at hlen hval hdm;have hz:x*y=(if (decide (x < 0) !=decide (y < 0))=true then -((Zp.val B32 M:Nat):Int) else ((Zp.val B32 M:Nat):Int)):=by
  rw[hval, <-Int.natAbs_mul];by_cases h1:x < 0 <;> by_cases h2:y < 0
  ·have:=Int.mul_pos_of_neg_of_neg h1 h2;simp[h1,h2];omega
  ·have:=Int.mul_nonpos_of_nonpos_of_nonneg (Int.le_of_lt h1) (Int.not_lt.1 h2);simp[h1,h2] <;> omega
  ·have:=Int.mul_nonpos_of_nonneg_of_nonpos (Int.not_lt.1 h1) (Int.le_of_lt h2);simp[h1,h2] <;> omega
  ·have:=Int.mul_nonneg (Int.not_lt.1 h1) (Int.not_lt.1 h2);simp[h1,h2];omega
 have hml:M.length<=1073741824:=by rw[hlen,List.length_replicate];omega
 have HX:=h2_ hrx (Xp x);have HY:=h2_ hry (Xp y);have HMM:=hd_ hM;have hX':((wd x).length:Int)<=500000000:=by omega
 have hY':((wd y).length:Int)<=500000000:=by omega
 have hmk:∀ W:World,(Instr.makeSlice 25 (.int .i64 (((wd x).length:Int)+((wd y).length:Int)+1)) (.int .i64 (((wd x).length:Int)+((wd y).length:Int)+1))).run prog W= .ok (.slice (some ⟨W.heap.size,0,none⟩) ((wd x).length+(wd y).length+1) ((wd x).length+(wd y).length+1)) (W.alloc (.cells (u32Cells (List.replicate ((wd x).length+(wd y).length+1) 0)).toArray 174)):=fun W=> Y9 ((wd x).length+(wd y).length+1) _ (rl_ _) (by omega) _ _ (by omega) (by omega) W;obtain ⟨nx,hnx⟩:∃ b,decide (x < 0)=b:=⟨_,rfl⟩
 obtain ⟨ny,hny⟩:∃ b,decide (y < 0)=b:=⟨_,rfl⟩
 rw[hnx,hny] at hz;have HS:=h5_ hdm hml hz hdz hlen;rw[hnx,hny];clear hx hy hrx hry hlx hly hlen hval hdm hv0 hM hz hml hnx hny hdz;obtain ⟨xs,hxs⟩:∃ xs,wd x=xs:=⟨_,rfl⟩
 obtain ⟨ys,hys⟩:∃ ys,wd y=ys:=⟨_,rfl⟩
 rw[hxs] at HX HMM HS hX' hmk |-;rw[hys] at HY HMM HS hY' hmk |-;obtain ⟨zz,hzz⟩:∃ zz,x*y=zz:=⟨_,rfl⟩
 rw[hzz] at HS |-;obtain ⟨n,hn⟩:∃ n,xs.length+ys.length+1=n:=⟨_,rfl⟩
 rw[hn] at HS HMM hmk;have HN:=hd_ hn;have hn':(n:Int)<=1000000001:=by omega
 have hn2:(n:Int)=(xs.length:Int)+(ys.length:Int)+1:=by omega
 have hmk2:∀ W:World,(Instr.makeSlice 25 (.int .i64 ((xs.length:Int)+(ys.length:Int)+1)) (.int .i64 ((xs.length:Int)+(ys.length:Int)+1))).run prog W= .ok (.slice (some ⟨W.heap.size,0,none⟩) n n) (W.alloc (.cells (u32Cells (List.replicate n 0)).toArray 174)):=hmk;clear hmk hn hxs hys hzz hn2;go_in;go_wp2_with fail;clear hmk2;go_loopg [23] xs.length (fun k v23 wr=> MuRel w (w.heap.size+1+1+1) #[.bool nx,.slice ax xs.length cx] #[.bool ny,.slice ay ys.length cy] xs ys n M k v23 wr)
 case atStart=>
  obtain ⟨h1,h2,h3,h4⟩:=box3 w #[.bool nx,.slice ax xs.length cx] 27 #[.bool ny,.slice ay ys.length cy] 27 #[.bool false,.slice none 0 0] 27;refine ⟨0, [],List.replicate n 0,rfl,rfl,eV_ _,rfl,by simp,HS.d,?_,?_,?_,?_,HMM.o,h4.alloc (by have:=Q4 h1;omega) _⟩
  ·exact XE _ _ _ (by rw[<-Q5, <-Q5, <-Q5])
  ·rw[eJ_ _ _ _ (Q4 h1)];exact h1
  ·rw[eJ_ _ _ _ (Q4 h2)];exact h2
  ·rw[eJ_ _ _ _ (Q4 h3)];exact h3
 case round=>
  obtain ⟨i,done,rest,rfl,hk,hi,hdl,hrl,hrd,hg,hA,hB,hC,hgo,hb⟩:=hrel;have HR:=h10_ hk hdl hrl hrd hg hA hB hC hgo hb;have b1:=Q3 hB 1 rfl;clear hk hdl hrl hrd hg hA hB hC hgo hb;by_cases hlt:i < xs.length
  ·have hlt':(i:Int) < (xs.length:Int):=(by omega);obtain ⟨xi,hd1,hd2,hd3⟩:=QI HX.B i hlt;obtain ⟨bx,ox,ex,hcell⟩:=(HX.a.below HR.J).cell hlt;rw[hd1] at hcell;have HD:=h2_ hd2 hd3;clear hd1 hd2 hd3;obtain rfl:=ex;obtain ⟨R,hR⟩:∃ R,Zp.mrow B32 xi ys rest 0=R:=⟨_,rfl⟩
   have HRR:=hd_ hR;clear hR;go_wp2_with fail;clear b1 hcell;generalize wr=w1 at*;go_loopg [8,31] ys.length (fun k v8 v31 wr=> MvRel w (w.heap.size+1+1+1) #[.bool nx,.slice (some ⟨bx,ox,none⟩) xs.length cx] #[.bool ny,.slice ay ys.length cy] xi ys done R (n - i) k v8 v31 wr)
   case atStart=>
    obtain ⟨-,-,q3,q4,q5,q6,q7,q8,-,q10⟩:=HR.o;exact ⟨0,0, [],rest,rfl,rfl,rfl,eV_ _,by decide,rfl,by rw[q3];rfl,q4,q5,q6,q7,q8,HRR.o,q10⟩
   case round=>
    obtain ⟨j,c,dk,rk,rfl,rfl,hk,hj,hc,hdl,hrl,hrd,hg,hA,hB,hC,hgo,hb⟩:=hrel;have b1:=Q3 hB 1 rfl;have HJ:=h11_ hk hc hdl hrl hrd hg hA hB hC hgo hb;have hrk:j < n - i:=(by have:=HN.o;omega);clear hk hc hrd hA hB hC hgo hb hg;obtain ⟨o,os,rfl⟩:∃ o os,rk=o::os:=by
     cases rk with
     | nil=> simp at hrl;omega
     | cons o os=> exact ⟨o,os,rfl⟩
    have ho:=HJ.e.head;have hat:=Q8x (o:=o) (r:=os) HR.b hdl (i+j) rfl;have hcg:wr.cell? ⟨w.heap.size+1+1+1,i+j,none⟩=some (.int .u32 (o:Int)):=by
     refine Q3 HJ.f (i+j) ?_;have h:=Dd hat.2;rw[hat.1] at h;simpa using h
    have hfz:=Q6 HJ.f (i+j);clear hat hdl hrl;by_cases hltj:j < ys.length
    ·have hltj':(j:Int) < (ys.length:Int):=(by omega);have hin:(i:Int)+(j:Int) < (n:Int):=(by omega);have hin2:((i:Int)+(j:Int)).toNat=i+j:=(by omega);obtain ⟨yj,hd1,hd2,hd3⟩:=QI HY.B j hltj;obtain ⟨by_,oy,ey,hcell⟩:=(HY.a.below HJ.K).cell hltj;rw[hd1] at hcell;have hfit:=Zp.Lu (B:=B32) HD.B hd3 HJ.b ho;obtain ⟨sm,hsm⟩:∃ sm:Nat,c+xi*yj+o=sm:=⟨_,rfl⟩
     have hw1:IntKind.u64.wrap (xi:Int)=(xi:Int):=QA (eI_ HD.B (by decide));have hw2:IntKind.u64.wrap (yj:Int)=(yj:Int):=QA (eI_ hd3 (by decide));have hw0:IntKind.u64.wrap (o:Int)=(o:Int):=QA (eI_ ho (by decide));have hw3:IntKind.u64.wrap ((xi:Int)*(yj:Int))=(xi:Int)*(yj:Int):=by
      have:=QA (n:=xi*yj) (by omega);rwa [Int.natCast_mul] at this
     have hw4:IntKind.u64.wrap ((xi:Int)*(yj:Int)+(o:Int))=(xi:Int)*(yj:Int)+(o:Int):=by
      have:=QA (n:=xi*yj+o) (by omega);rwa [Int.natCast_add,Int.natCast_mul] at this
     have hw5:IntKind.u64.wrap ((c:Int)+((xi:Int)*(yj:Int)+(o:Int)))=(sm:Int):=by
      have:=QA (n:=c+(xi*yj+o)) (by omega);rw[Int.natCast_add,Int.natCast_add,Int.natCast_mul] at this;rw[this, <-hsm];simp only[Int.natCast_add,Int.natCast_mul];omega
     have hsm2:sm / B32 < B32:=(Nat.div_lt_iff_lt_mul (by decide)).2 (by rw[<-hsm];exact hfit);have HE:=h3_ hd2 hsm hsm2;clear hd1 hd2 hd3 hfit hsm hsm2 ho;obtain rfl:=ey;go_wp2_with fail;go_roundg (ys.length - (j+1))
     case measure=> have:=HJ.a;omega
     case rel=>
      obtain ⟨q1,q2,q3,q4,q5,q6,q7,q8,q9,q10,q11⟩:=HJ.o;have hbs:Below (w.heap.size+1+1+1) wr (wr.setCell ⟨w.heap.size+1+1+1,i+j,none⟩ (.int .u32 ((sm:Int) % 4294967296))):=(eB_ _ wr).setCell (by exact rl_ _) _;have hst:=XK q6 (i+j) (sm % B32);rw[Dk HR.b q3] at hst;refine ⟨j+1,sm / B32,dk++ [sm % B32],os,rfl,by go_num,rfl,by omega,HE.C,by simp[q3],by simp at q4;omega,q5.tail,hst,(hbs.block _ (by omega)).trans q7,(hbs.block _ (by omega)).trans q8,(hbs.block _ (by omega)).trans q9,?_,q11.setCell (by show w.heap.size<=w.heap.size+1+1+1;omega) _⟩;rw[<-q10,Q5i HE.a,HE.b,eQ_];rfl
    ·obtain rfl:ys.length=j:=(by omega);have hin:(i:Int)+(ys.length:Int) < (n:Int):=(by omega);have hin2:((i:Int)+(ys.length:Int)).toNat=i+ys.length:=(by omega);have hcB:(c:Int) % 4294967296=(c:Int):=(by have:c < 4294967296:=HJ.b;omega);clear ho;go_wp2_with fail;go_roundg (xs.length - (i+1))
     case measure=> have:=HR.a;omega
     case rel=>
      obtain ⟨q1,q2,q3,q4,q5,q6,q7,q8,q9,q10,q11⟩:=HJ.o;have hbs:Below (w.heap.size+1+1+1) wr (wr.setCell ⟨w.heap.size+1+1+1,i+ys.length,none⟩ (.int .u32 (c:Int))):=(eB_ _ wr).setCell (by exact rl_ _) _;have hst:=XK q6 (i+ys.length) c;rw[Dk HR.b q3] at hst;have hRe:dk++c::os=R:=(by rw[<-q10,Q5j (rl_ _)]);have hRl:R.length=n - i:=(by rw[<-HRR.o,Zp.JW _ _ _ _ _ (by rw[HR.c];have:=HN.o;omega),HR.c]);have hRd:Zp.Dig B32 R:=(by rw[<-HRR.o];exact Zp.GR HD.B _ _ _ HY.B HR.d (by decide));rw[eQ_] at hst;rw[show [c]++os=c::os from rfl,hRe] at hst;obtain ⟨r0,rs,rfl⟩:∃ r0 rs,R=r0::rs:=by
       cases R with
       | nil=> simp at hRl;omega
       | cons a b=> exact ⟨a,b,rfl⟩
      refine ⟨i+1,done++ [r0],rs,by go_num,rfl,by omega,by simp[HR.b],by simp at hRl;omega,hRd.tail,by rw[eQ_];exact hst,(hbs.block _ (by omega)).trans q7,(hbs.block _ (by omega)).trans q8,(hbs.block _ (by omega)).trans q9,?_,q11.setCell (by show w.heap.size<=w.heap.size+1+1+1;omega) _⟩;rw[<-HR.i,Q6N HD.a,HRR.o,eQ_];rfl
  ·obtain rfl:xs.length=i:=(by omega);obtain ⟨q1,q2,q3,q4,q5,q6,q7,q8,q9,q10⟩:=HR.o;have a0:=Q3 q6 0 rfl;have b0:=Q3 q7 0 rfl;have hMe:done++rest=M:=(by rw[<-q9,List.drop_length];rfl);rw[hMe] at q5;have hMl:M.length=n:=(by rw[HS.E];simp);have hrd:=Zb q5 (c:=n) (by rw[hMl];exact rl_ _);rw[hMl] at hrd;have HV:=h3_ hrd q8 q10;clear q1 q2 q3 q4 q5 q6 q7 q8 q9 q10 hMe hMl hrd b1;go_wp2_with fail;refine (QZ HV.a HS.b HS.a (nx !=ny) zz HS.c).mono ?_;rintro e W2 ⟨v2,rfl,hr,hb⟩;have HT2:=h3_ ((hb.block _ (Q4 HV.b)).trans HV.b) hr (HV.C.trans (hb.mono HV.C.size));clear hr hb;dsimp only;go_wp2_with (refine QB rfl _ _ rfl rfl HT2.a rfl rfl HT2.b (by omega) HT2.C ?_;rintro W cs - rfl hg hs hn hb -;have HT:=h4_ hg hs hn hb;clear hg hs hn hb);exact eG_ (Y2 rfl rfl HT.a HT.b) rfl ⟨_,rfl,HT.c,HT.D⟩
theorem Q3y {b d:Nat} (h:l[j]? =some d):Zp.short B32 b (l.drop j)=(((Zp.short B32 b (l.drop (j+1))).2*B32+d) / b::(Zp.short B32 b (l.drop (j+1))).1,((Zp.short B32 b (l.drop (j+1))).2*B32+d) % b):=by
 rw[X7 h];rfl
theorem Q1H {done:List Nat}:(List.replicate (j+1) 0++done).set j v=List.replicate j 0++(v::done):=by
 rw[List.replicate_succ',eQ_,List.set_append_right _ _ (by simp)];simp
theorem filled2 {m:Nat}:(u32Cells (List.replicate (m+1) 0++l)).toArray[m]? =some (.int .u32 0):=by
 have h:=Dd (l:=List.replicate (m+1) 0++l) (i:=m) (by simp;omega);rw[List.getElem?_toArray,h];have:(List.replicate (m+1) 0++l)[m]! =0:=by
  rw[List.getElem!_eq_getElem?_getD,eT_ (by simp),List.getElem?_replicate,if_pos (by omega)];rfl
 rw[this];rfl
def ShRel (w:World) (b:Nat) (l:List Nat) (k:Nat) (v7 v8:Value) (wr:World):Prop:=
 ∃ (j:Nat) (i:Int),v7= .int .u64 ((Zp.short B32 b (l.drop j)).2:Nat)/\v8= .int .i64 i/\i=(j:Int) - 1/\k=j/\j<=l.length/\
  wr.heap[w.heap.size]? =some (.cells (u32Cells (List.replicate j 0++(Zp.short B32 b (l.drop j)).1)).toArray 174 (0,0))/\Below w.heap.size w wr
theorem Ub {v:Value} (h:RdU w v l) (hl:l.length<=1073741824) (hd:Zp.Dig B32 l) (b:Nat) (hb:0 < b) (hb2:b<=B32):
  Calls prog 66 #[v,.int .u64 (b:Int)] w fun e w'=> ∃ v',e= .returned (.tuple #[v',.int .u64 ((Zp.val B32 l % b:Nat):Int)])/\RdU w' v' (Zp.digs B32 (Zp.val B32 l / b))/\Below w.heap.size w w':=by
 obtain ⟨a0,c0,rfl,hc⟩:=h.form;have HH:=h4_ h hd hb hb2;have hl':(l.length:Int)<=1073741824:=by omega
 have hmk:∀ W:World,(Instr.makeSlice 25 (.int .i64 (l.length:Int)) (.int .i64 (l.length:Int))).run prog W= .ok (.slice (some ⟨W.heap.size,0,none⟩) l.length l.length) (W.alloc (.cells (u32Cells (List.replicate l.length 0)).toArray 174)):=fun W=> Y9 l.length l.length (rl_ _) hl _ _ rfl rfl W;have hb':(0:Int) < (b:Int):=by omega
 clear h hd;go_in;go_wp2_with fail;clear hmk;go_loopg [7,8] l.length (fun k v7 v8 wr=> ShRel w b l k v7 v8 wr)
 case atStart=> exact ⟨l.length,_,by rw[List.drop_length];rfl,rfl,rfl,rfl,rl_ _,by rw[List.drop_length];exact (List.append_nil _).symm ▸ eD_ _ _,(eB_ _ _).alloc (rl_ _) _⟩
 case round=>
  obtain ⟨j,i,rfl,rfl,hi,hk,hj,hg,hbl⟩:=hrel;have HR:=h3_ hk hg hbl;clear hk hg hbl;cases j with
  | zero=>
   obtain rfl:i=-1:=(by omega);have hsp:=Zp.Q4U HH.c (B:=B32) l;have hds:=Zp.Ly HH.c l HH.b;have hln:=Zp.Lw B32 b l;rw[List.drop_zero] at HR |-;obtain ⟨⟨q,r⟩,hqr⟩:∃ q,Zp.short B32 b l=q:=⟨_,rfl⟩
   rw[hqr] at HR hsp hds hln |-;dsimp only at HR hsp hds hln |-;have hrd:=Zb HR.b (c:=l.length) (by rw[List.replicate_zero,List.nil_append,hln];exact rl_ _);rw[List.replicate_zero,List.nil_append,hln] at hrd;have htr:=Xj (c:=l.length) (l:=q) (by rw[hln];exact hrd) (by rw[hln];exact hl);have HT:=h4_ htr hrd.trim hsp hds;rw[hln] at HT;clear htr hrd hsp hds hln hi hqr;go_wp2_with fail;refine HT.a.mono ?_;rintro e w2 ⟨rfl,rfl⟩;dsimp only;go_wp2_with fail;go_ret2;refine ⟨_,by rw[<-HT.c.2];rfl,?_,HR.C⟩;rw[<-HT.c.1, <-Zp.Xh (by decide) HT.D];exact HT.b
  | succ m=>
   obtain rfl:i=(m:Int):=(by omega);have hmx:(m:Int) < (l.length:Int):=(by omega);obtain ⟨d,hd1,hd2,hd3⟩:=QI HH.b m (by omega);obtain ⟨b1,o1,ex,hcx⟩:=(HH.a.below HR.C).cell (i:=m) (by omega);rw[hd1] at hcx;obtain ⟨r,hr⟩:∃ r,(Zp.short B32 b (l.drop (m+1))).2=r:=⟨_,rfl⟩
   have hrb:r < b:=(by rw[<-hr];exact (Zp.Zi HH.c _).2);rw[hr];obtain ⟨x,hx⟩:∃ x,r*B32+d=x:=⟨_,rfl⟩
   have hxb:x < b*B32:=by
    have h1:(r+1)*B32<=b*B32:=Nat.mul_le_mul_right _ hrb;rw[Nat.add_mul,Nat.one_mul] at h1;omega
   have hxm:x < B32*B32:=eI_ hxb (Nat.mul_le_mul_right _ HH.D);have hor:bits BinOp.or IntKind.u64 (IntKind.u64.wrap ((r:Int)*4294967296)) (IntKind.u64.wrap (d:Int))=(x:Int):=by
    have hrx:r*4294967296 < B32*B32:=Nat.lt_of_le_of_lt (by rw[<-hx];exact Nat.le_add_right _ _) hxm;have hdx:d < B32*B32:=eI_ hd3 (by decide);have h1:IntKind.u64.wrap ((r:Int)*4294967296)=((r*4294967296:Nat):Int):=by
     have:=QA (n:=r*4294967296) hrx;rwa [Int.natCast_mul] at this
    rw[h1,QA (n:=d) hdx,u64_or_nat _ _ hrx hdx,nat_join 32 _ _ (by show r*4294967296 % 4294967296=0;omega) hd3,hx]
   obtain ⟨q,hq⟩:∃ q,x / b=q:=⟨_,rfl⟩
   obtain ⟨rm,hrm⟩:∃ rm,x % b=rm:=⟨_,rfl⟩
   have hqB:q < B32:=(by rw[<-hq];exact (Nat.div_lt_iff_lt_mul HH.c).2 (by rw[Nat.mul_comm];exact hxb));have hrb2:rm < b:=(by rw[<-hrm];exact Nat.mod_lt _ HH.c);have hdv:IntKind.u64.wrap ((x:Int) / (b:Int))=(q:Int):=by
    rw[<-Int.natCast_ediv,hq];exact QA (eI_ hqB (by decide))
   have hmd:(x:Int) % (b:Int)=(rm:Int):=(by rw[<-Int.natCast_emod,hrm]);have hq2:(q:Int) % 4294967296=(q:Int):=(by have:q < 4294967296:=hqB;omega);have hcs:=Q3 HR.b m (filled2 (l:=(Zp.short B32 b (l.drop (m+1))).1));have hfz:=Q6 HR.b m;have hst:Zp.short B32 b (l.drop m)=(q::(Zp.short B32 b (l.drop (m+1))).1,rm):=(by rw[Q3y hd2,hr,hx,hq,hrm]);have HD:=hd_ hst;clear hd1 hd2 hd3 hr hrb hi hx hxb hxm hq hrm hqB hrb2 hst;obtain rfl:=ex;go_wp2_with fail;go_roundg m
   case measure=> have:=HR.a;omega
   case rel=>
    refine ⟨m,_,by rw[HD.o,hmd],rfl,rfl,rfl,by omega,?_,HR.C.setCell (by exact rl_ _) _⟩;have h2:=XK HR.b m q;rw[Q1H] at h2;rw[HD.o];exact h2
theorem JK {P:Program} {ops:Array Oper} {rest:List Oper} {o:Oper} {a:Act} {Q:Exit->Act->World->Prop} (hgd:o.guard=none) (x y:Operand) (t t2:TypeId)
  (ho:o.op= .binOp .add t x y t2) {l m:List UInt8} (hx:a.eval x= .string ⟨l.toArray⟩) (hy:a.eval y= .string ⟨m.toArray⟩) (hlen:l.length+m.length<=9000000000000000000)
  (h:wpList P ops Q rest (a.put o.dst (.string ⟨(l++m).toArray⟩)) w):wpList P ops Q (o::rest) a w:=by
 refine wpList_plain hgd fun K hK=> ?_;unfold Oper.wp execOp;simp only[ho,hx,hy];have hs:¬ ((((⟨l.toArray⟩:ByteArray).size+(⟨m.toArray⟩:ByteArray).size:Nat):Int) > IntKind.i64.max):=by
  have e1:(⟨l.toArray⟩:ByteArray).size=l.length:=by simp[ByteArray.size]
  have e2:(⟨m.toArray⟩:ByteArray).size=m.length:=by simp[ByteArray.size]
  rw[e1,e2];show ¬ ((l.length+m.length:Nat):Int) > 9223372036854775807;omega
 have hg:(eqGuard BinOp.add t x y (.string ⟨l.toArray⟩) (.string ⟨m.toArray⟩)).run P w= .ok () w:=by simp[eqGuard]
 have hb:(binOp .add t (.string ⟨l.toArray⟩) (.string ⟨m.toArray⟩)).run P w= .ok (.string ⟨(l++m).toArray⟩) w:=by
  rw[binOp_string_add];unfold Op.stringOp;simp only[if_neg hs,Sem.run_pure,Q0t]
 simp only[Sem.run_bind,hg,hb,Result.andThen_ok,Sem.run_pure];exact hK _ _ h
end Go.Proofs.YtiecccakcenobaaGreatDoor
namespace Go.Proofs
open Go.Shelf
def Tryz.lays162_ren:Go.Shelf.Ren:=⟨fun | 162=> 67 | 232=> 102 | 227=> 103 | 234=> 104 | 236=> 105 | 228=> 138 | 271=> 139 | 151=> 140 | 120=> 177 | 197=> 160 | 152=> 178 | 260=> 200 | 137=> 211 | 119=> 212 | 224=> 213 | 225=> 214 | 217=> 230 | 266=> 240 | n=> n,fun | 9=> 9 | 4=> 4 | 3=> 3 | 5=> 5 | 117=> 179 | 116=> 178 | 0=> 0 | 124=> 182 | 21=> 21 | 105=> 216 | 46=> 175 | 119=> 282 | 139=> 285 | 138=> 284 | n=> n,fun | 3=> 0 | 4=> 1 | n=> n⟩
theorem Tryz.lays162:Go.Proofs.Lays.n162 prog Tryz.lays162_ren:={
 mixed:=by kernel_rfl
 f119:=Tryz.func212.trans (congrArg some (by kernel_rfl))
 f120:=Tryz.func177.trans (congrArg some (by kernel_rfl))
 f137:=Tryz.func211.trans (congrArg some (by kernel_rfl))
 f151:=Tryz.func140.trans (congrArg some (by kernel_rfl))
 f152:=Tryz.func178.trans (congrArg some (by kernel_rfl))
 f162:=Tryz.func67.trans (congrArg some (by kernel_rfl))
 f197:=Tryz.func160.trans (congrArg some (by kernel_rfl))
 f217:=Tryz.func230.trans (congrArg some (by kernel_rfl))
 f224:=Tryz.func213.trans (congrArg some (by kernel_rfl))
 f225:=Tryz.func214.trans (congrArg some (by kernel_rfl))
 f227:=Tryz.func103.trans (congrArg some (by kernel_rfl))
 f228:=Tryz.func138.trans (congrArg some (by kernel_rfl))
 f232:=Tryz.func102.trans (congrArg some (by kernel_rfl))
 f234:=Tryz.func104.trans (congrArg some (by kernel_rfl))
 f236:=Tryz.func105.trans (congrArg some (by kernel_rfl))
 f260:=Tryz.func200.trans (congrArg some (by kernel_rfl))
 f266:=Tryz.func240.trans (congrArg some (by kernel_rfl))
 f271:=Tryz.func139.trans (congrArg some (by kernel_rfl))
 t0:=underlying0
 a0:=isAgg0
 z0:=sizeOf0
 v0:=zeroValue0
 t3:=underlying3
 a3:=isAgg3
 z3:=sizeOf3
 v3:=zeroValue3
 t4:=underlying4
 a4:=isAgg4
 z4:=sizeOf4
 v4:=zeroValue4
 t5:=underlying5
 a5:=isAgg5
 z5:=sizeOf5
 v5:=zeroValue5
 t9:=underlying9
 a9:=isAgg9
 z9:=sizeOf9
 v9:=zeroValue9
 t21:=underlying21
 a21:=isAgg21
 z21:=sizeOf21
 v21:=zeroValue21
 t46:=underlying175
 a46:=isAgg175
 z46:=sizeOf175
 v46:=zeroValue175
 t105:=underlying216
 a105:=isAgg216
 z105:=sizeOf216
 v105:=zeroValue216
 t116:=underlying178
 a116:=isAgg178
 z116:=sizeOf178
 t117:=underlying179
 a117:=isAgg179
 z117:=sizeOf179
 v117:=zeroValue179
 t119:=underlying282
 a119:=isAgg282
 z119:=sizeOf282
 t124:=underlying182
 a124:=isAgg182
 z124:=sizeOf182
 v124:=zeroValue182
 t138:=underlying284
 a138:=isAgg284
 z138:=sizeOf284
 v138:=zeroValue284
 t139:=underlying285
 a139:=isAgg285
 z139:=sizeOf285
 v139:=zeroValue285
 g3:=by kernel_rfl
 g4:=by kernel_rfl}
open Go.RowKit in
theorem Tryz.strings_TrimRight_one (s:ByteArray) (c:UInt8) (hc:c.toNat < 128) (w:World) (hs:s.size<=9223372036854775807):
  Calls prog 67 #[.string s,.string ⟨#[c]⟩] w fun e w'=> e= .returned (.string ⟨(Lib.trimRightB s.data.toList c).toArray⟩)/\w'=w:=Any.strings_TrimRight_one Tryz.lays162 s c hc w hs
def Tryz.lays160_ren:Go.Shelf.Ren:=⟨fun | 160=> 83 | 232=> 102 | 231=> 125 | 227=> 103 | 234=> 104 | 233=> 126 | 236=> 105 | 235=> 127 | 228=> 138 | 271=> 139 | 151=> 140 | 197=> 160 | 120=> 177 | 152=> 178 | 260=> 200 | 137=> 211 | 119=> 212 | 224=> 213 | 225=> 214 | 217=> 230 | 266=> 240 | n=> n,fun | 9=> 9 | 4=> 4 | 3=> 3 | 5=> 5 | 117=> 179 | 116=> 178 | 0=> 0 | 124=> 182 | 21=> 21 | 105=> 216 | 46=> 175 | 119=> 282 | 139=> 285 | 138=> 284 | n=> n,fun | 3=> 0 | 4=> 1 | n=> n⟩
theorem Tryz.lays160:Go.Proofs.Lays.n160 prog Tryz.lays160_ren:={
 mixed:=by kernel_rfl
 f119:=Tryz.func212.trans (congrArg some (by kernel_rfl))
 f120:=Tryz.func177.trans (congrArg some (by kernel_rfl))
 f137:=Tryz.func211.trans (congrArg some (by kernel_rfl))
 f151:=Tryz.func140.trans (congrArg some (by kernel_rfl))
 f152:=Tryz.func178.trans (congrArg some (by kernel_rfl))
 f160:=Tryz.func83.trans (congrArg some (by kernel_rfl))
 f197:=Tryz.func160.trans (congrArg some (by kernel_rfl))
 f217:=Tryz.func230.trans (congrArg some (by kernel_rfl))
 f224:=Tryz.func213.trans (congrArg some (by kernel_rfl))
 f225:=Tryz.func214.trans (congrArg some (by kernel_rfl))
 f227:=Tryz.func103.trans (congrArg some (by kernel_rfl))
 f228:=Tryz.func138.trans (congrArg some (by kernel_rfl))
 f231:=Tryz.func125.trans (congrArg some (by kernel_rfl))
 f232:=Tryz.func102.trans (congrArg some (by kernel_rfl))
 f233:=Tryz.func126.trans (congrArg some (by kernel_rfl))
 f234:=Tryz.func104.trans (congrArg some (by kernel_rfl))
 f235:=Tryz.func127.trans (congrArg some (by kernel_rfl))
 f236:=Tryz.func105.trans (congrArg some (by kernel_rfl))
 f260:=Tryz.func200.trans (congrArg some (by kernel_rfl))
 f266:=Tryz.func240.trans (congrArg some (by kernel_rfl))
 f271:=Tryz.func139.trans (congrArg some (by kernel_rfl))
 t0:=underlying0
 a0:=isAgg0
 z0:=sizeOf0
 v0:=zeroValue0
 t3:=underlying3
 a3:=isAgg3
 z3:=sizeOf3
 v3:=zeroValue3
 t4:=underlying4
 a4:=isAgg4
 z4:=sizeOf4
 v4:=zeroValue4
 t5:=underlying5
 a5:=isAgg5
 z5:=sizeOf5
 v5:=zeroValue5
 t9:=underlying9
 a9:=isAgg9
 z9:=sizeOf9
 v9:=zeroValue9
 t21:=underlying21
 a21:=isAgg21
 z21:=sizeOf21
 v21:=zeroValue21
 t46:=underlying175
 a46:=isAgg175
 z46:=sizeOf175
 v46:=zeroValue175
 t105:=underlying216
 a105:=isAgg216
 z105:=sizeOf216
 v105:=zeroValue216
 t116:=underlying178
 a116:=isAgg178
 z116:=sizeOf178
 t117:=underlying179
 a117:=isAgg179
 z117:=sizeOf179
 v117:=zeroValue179
 t119:=underlying282
 a119:=isAgg282
 z119:=sizeOf282
 t124:=underlying182
 a124:=isAgg182
 z124:=sizeOf182
 v124:=zeroValue182
 t138:=underlying284
 a138:=isAgg284
 z138:=sizeOf284
 v138:=zeroValue284
 t139:=underlying285
 a139:=isAgg285
 z139:=sizeOf285
 v139:=zeroValue285
 g3:=by kernel_rfl
 g4:=by kernel_rfl}
open Go.RowKit in
def Tryz.lays133_ren:Go.Shelf.Ren:=⟨fun | 133=> 179 | 128=> 215 | n=> n,fun | 51=> 174 | 3=> 3 | 4=> 4 | 46=> 175 | 5=> 5 | 9=> 9 | n=> n,fun | n=> n⟩
theorem Tryz.lays133:Go.Proofs.Lays.n133 prog Tryz.lays133_ren:={
 mixed:=by kernel_rfl
 f128:=Tryz.func215.trans (congrArg some (by kernel_rfl))
 f133:=Tryz.func179.trans (congrArg some (by kernel_rfl))
 t3:=underlying3
 a3:=isAgg3
 z3:=sizeOf3
 v3:=zeroValue3
 t4:=underlying4
 a4:=isAgg4
 z4:=sizeOf4
 v4:=zeroValue4
 t5:=underlying5
 a5:=isAgg5
 z5:=sizeOf5
 v5:=zeroValue5
 t9:=underlying9
 a9:=isAgg9
 z9:=sizeOf9
 v9:=zeroValue9
 t46:=underlying175
 a46:=isAgg175
 z46:=sizeOf175
 v46:=zeroValue175
 t51:=underlying174
 a51:=isAgg174
 z51:=sizeOf174
 v51:=zeroValue174}
theorem Tryz.bits_LeadingZeros32 (x:Int) (w:World) (h0:0<=x) (h1:x<=4294967295):
  Calls prog 179 #[.int .u32 x] w fun e w'=> e= .returned (.int .i64 (32 - (Lib.bitLen x.toNat:Int)))/\w'=w:=Any.bits_LeadingZeros32 Tryz.lays133 x w h0 h1
open Go.RowKit in
theorem Tryz.Trim_digits (s:ByteArray) (w:World) (hs:s.size<=9223372036854775807):
  Calls prog 83 #[.string s,.string ⟨#[48,49,50,51,52,53,54,55,56,57]⟩] w fun e w'=> e= .returned (.string ⟨(Lib.trimS s.data.toList [48,49,50,51,52,53,54,55,56,57]).toArray⟩)/\Below w.heap.size w w':=Any.strings_Trim_laid Tryz.lays160 (by kernel_rfl) s ⟨#[48,49,50,51,52,53,54,55,56,57]⟩ w hs (by decide) (ascii_of_all (by decide))
end Go.Proofs
namespace Go.Proofs
def Tryz.revu8_ren:Go.Shelf.Ren:=⟨fun | 35=> 68 | n=> n,fun | 0=> 0 | 3=> 3 | 4=> 4 | 22=> 106 | 23=> 5 | n=> n,fun | n=> n⟩
theorem Tryz.revu8:Go.Proofs.SlLaysE.n35 prog Tryz.revu8_ren:={
 mixed:=by kernel_rfl
 f35:=⟨Tryz.f68.name,by decide,Tryz.func68.trans (congrArg some (by kernel_rfl))⟩
 t0:=underlying0
 a0:=isAgg0
 z0:=sizeOf0
 v0:=zeroValue0
 t3:=underlying3
 a3:=isAgg3
 z3:=sizeOf3
 v3:=zeroValue3
 t4:=underlying4
 a4:=isAgg4
 z4:=sizeOf4
 v4:=zeroValue4
 t22:=underlying106
 a22:=isAgg106
 z22:=sizeOf106
 v22:=zeroValue106
 a23:=isAgg5
 z23:=sizeOf5}
end Go.Proofs
namespace Go.Proofs.YtiecccakcenobaaGreatDoor
open Tryz
open Go.RowKit Go.Sort
variable {cs tmps:Array Value} {b s x y z:Int} {l:List Nat} {xs:List Value} {B K N P V X Y c d g i j k m n q:Nat} {a:Option Addr} {v vx vy:Value} {W w w':World}
theorem Q8y:One 106 5 (.int .u8 0) 1:=⟨underlying106,by kernel_rfl,rfl,by decide⟩
def u8c (b:UInt8):Value:= .int .u8 (b.toNat:Int)
def u8Cells (l:List UInt8):List Value:=l.map u8c
theorem Q6O (l:List UInt8):(u8Cells l).length=l.length:=by simp[u8Cells]
theorem Q7S (l:List UInt8) (b:UInt8):u8Cells (l++ [b])=u8Cells l++ [u8c b]:=by simp[u8Cells]
theorem LP:∀ (l:List UInt8) (s:ByteArray),(l.map fun b=> ((b.toNat:Nat):Int)).foldl (fun (r:ByteArray) n=> r.push (UInt8.ofNat n.toNat)) s=⟨(s.data.toList++l).toArray⟩
 | [],s=> by simp
 | b::l,s=> by
  rw[List.map_cons,List.foldl_cons,LP l,Int.toNat_natCast,UInt8.ofNat_toNat];simp[ByteArray.push]
theorem JL {l:List UInt8} (h:∀ j u,(u8Cells l)[j]? =some u->W.cell? ⟨g,j,none⟩=some u):
  (convert 106 9 (.slice (some ⟨g,0,none⟩) l.length c)).run prog W= .ok (.string ⟨l.toArray⟩) W:=by
 rw[run_convert_bytes_string (P:=prog) _ 106 9 5 (some ⟨g,0,none⟩) l.length c underlying106 underlying5 underlying9];have hl:=run_loadCells_list (P:=prog) W ⟨g,0,none⟩ (u8Cells l) (fun j u hj=> by
  rw[Addr.add_mid,Nat.zero_add];exact h j u hj)
 rw[Q6O] at hl;have e:u8Cells l=(l.map fun b=> ((b.toNat:Nat):Int)).map (Value.int .u8):=by simp[u8Cells,u8c]
 rw[run_bytesToString (P:=prog) _ ⟨g,0,none⟩ l.length c _ (by rw[hl,e]),LP];rfl
theorem Q6P {base:Nat} {l:List UInt8} (hl:l≠ []) (h:W.ownsRow base 5 1 (.slice a l.length c) l.length (u8Cells l)):
  (convert 106 9 (.slice a l.length c)).run prog W= .ok (.string ⟨l.toArray⟩) W:=by
 obtain ⟨_,⟨_,h0⟩ | ⟨g,cap,cur,e,_,hg,_,_,_,ht⟩⟩:=h
 ·exact absurd (List.length_eq_zero_iff.1 h0) hl
 ·have e1:a=some ⟨g,0,none⟩:=(Value.slice.inj e).1;subst e1;refine JL fun j u hj=> Q3 hg j ?_;rw[<-ht,List.getElem?_take] at hj;split at hj
  ·simpa using hj
  ·cases hj
theorem Q7T:OneCell u8c:=fun _=> rfl
theorem Q0H {a:World} (h:Below B a w) (n:Nat) {g:Nat} (hg:B<=g) (off:Nat) (d:Array UInt8):Below B a (putRow u8c (Sort.ahead w n) g off d):=by
 refine ⟨h.os,h.tape,h.output,by rw[size_putRow];exact h.size,fun k hk=> ?_⟩;refine Eq.trans ?_ (h.block k hk);show ((Sort.ahead w n).heap.modify g _)[k]? =_;rw[Array.getElem?_modify,if_neg (by omega)];rfl
theorem YS (w:World) (l:List UInt8):Holds u8c (Lib.bytesWorld w 5 ⟨l.toArray⟩) w.heap.size 0 l.toArray:=by
 intro j hj;have hj':j < l.length:=by simpa using hj
 refine ⟨?_,?_⟩
 ·rw[Nat.zero_add,Lib.bytesWorld_cell w _ _ j (by simpa [ByteArray.size] using hj')];simp[u8c,List.getD,hj',getElem!_pos]
 ·unfold World.frozen?;rw[Lib.bytesWorld_at_new];have:l.length<=(Lib.bytesCells w 5 ⟨l.toArray⟩).size:=by simp[Lib.bytesCells]
  simp;omega
theorem YT {a:World} (h:Below B a w) (hB:B<=w.heap.size) (s:ByteArray):Below B a (Lib.bytesWorld w 5 s):=
 h.trans ⟨rfl,rfl,rfl,by rw[Lib.bytesWorld_size];omega,fun k hk=> Lib.bytesWorld_at_old w _ s k (by omega)⟩
theorem Jy {l:List UInt8} (h:Holds u8c w g 0 l.toArray) (hl:l.length<=9223372036854775807):
  Calls prog 68 #[.slice (some ⟨g,0,none⟩) l.length c] w fun e w'=> e= .returned (.tuple #[])/\(∀ j u,(u8Cells l.reverse)[j]? =some u->w'.cell? ⟨g,j,none⟩=some u)/\∀ B a,B<=g->Below B a w->Below B a w':=by
 refine (AnyE.slices_Reverse Tryz.revu8 u8c Q7T g 0 c l w h hl).mono ?_;rintro e w' ⟨rfl,n,rfl⟩;refine ⟨rfl,fun j u hj=> ?_,fun B a hB hb=> Q0H hb n hB _ _⟩;have hj2:j < l.reverse.length:=by
  have:=(List.getElem?_eq_some_iff.1 hj).1;simpa [Q6O] using this
 have h2:=cell?_putRow u8c (Sort.ahead w n) g 0 l.toArray l.reverse.toArray (holds_ahead u8c w n g 0 _ h) (by simp) j (by simpa using hj2);rw[Nat.zero_add] at h2;rw[h2];simp only[u8Cells,List.getElem?_map,eA_ hj2,Option.map_some] at hj;rw[getElem!_pos _ j (by simpa using hj2)];simpa using hj
theorem Q3z {base:Nat} {T:TypeId} {size:Nat} (h:w.ownsRow base T size v n xs) (hb:Below w.heap.size w w'):w'.ownsRow base T size v n xs:=
 ⟨h.1,h.2.imp id fun ⟨g,cap,cur,e,h1,h2,h3⟩=> ⟨g,cap,cur,e,h1,(hb.block _ (Q4 h2)).trans h2,h3⟩⟩
theorem Q1I:∀ (k r:Nat),Zp.pad (k+1) r=Zp.pad k r++ [r / 10 ^ k % 10]
 | 0,r=> by simp[Zp.pad]
 | k+1,r=> by
  rw[Zp.pad,Q1I k,Zp.pad,Nat.div_div_eq_div_mul,Nat.pow_succ,Nat.mul_comm 10];rfl
theorem Dl:∀ {l:List Nat},Zp.Dig 10 l->Lib.trimRightB (Zp.bytes l) 48=Zp.bytes (Zp.trim l)
 | [],_=> rfl
 | d::r,h=> by
  have ih:=Dl (l:=r) fun x hx=> h x (eR_ _ hx);have hd:=h d eX_;unfold Lib.trimRightB at ih |-;rw[Zp.trim];show ((_::Zp.bytes r).reverse.dropWhile _).reverse=_;rw[List.reverse_cons,List.dropWhile_append];by_cases h0:Zp.trim r= []
  ·rw[h0] at ih;have h1:(Zp.bytes r).reverse.dropWhile (·==48)= []:=by
    have:=congrArg List.reverse ih;rw[List.reverse_reverse] at this;exact this
   rw[if_pos (by simpa using h1)];by_cases hz:d=0
   ·rw[if_pos ⟨h0,hz⟩,hz];rfl
   ·rw[if_neg (fun h=> hz h.2),h0];have:=Zp.Q5d hd;rw[show (d==0)=false by simpa using hz] at this;rw[List.dropWhile_cons,this];rfl
  ·have h1:(Zp.bytes r).reverse.dropWhile (·==48)≠ []:=by
    intro h1;rw[h1] at ih;exact h0 (List.map_eq_nil_iff.1 ih.symm)
   rw[if_neg (by simpa using h1),if_neg (fun h=> h0 h.1),List.reverse_append,ih];rfl
theorem RdU.app8 {s:Value} {base:Nat} {o:Obj} (h:RdU w v l) (hown:w.ownsRow base 5 1 s n xs) (hg:(w.alloc o).grownBy w' s.ownBlock):RdU w' v l:=by
 refine RdB.keep h fun k hk=> ?_;have hlt:=Bk.lt hk;refine (hg.block k (by rw[<-Q5];omega) fun e=> ?_).trans (eJ_ _ _ _ hlt);obtain ⟨_,⟨rfl,_⟩ | ⟨g,cap,cur,rfl,_,h2,_⟩⟩:=hown
 ·cases e
 ·obtain ⟨cs,hk⟩:=hk;cases e;have h3:=hk.symm.trans h2;cases h3
theorem Q3A {a:Int} (h:a=b):Value.int .u64 a= .int .u64 b:=by rw[h]
theorem Q7U {r:List Nat} (h:Zp.Dig B l) (h2:Zp.Dig B r):Zp.Dig B (l++r):=fun d hd=> (List.mem_append.1 hd).elim (h d) (h2 d)
theorem Q0I (h:0 < n):(0:Int) < ((Zp.digs B32 n).length:Int):=by
 have h1:(Zp.digs B32 n).length≠0:=fun e=> by
  have:=(Zp.Xy (by decide)).1 (List.length_eq_zero_iff.1 e);omega
 omega
def StRel (w:World) (A:Array Value) (K N:Nat) (k:Nat) (v3 v4:Value) (wr:World):Prop:=
 ∃ (a a4:Option Addr) (cc c4:Nat) (out:List Nat) (n:Nat),v3= .slice a (Zp.bytes out).length cc/\v4= .slice a4 (Zp.digs B32 n).length c4/\RdU wr (.slice a4 (Zp.digs B32 n).length c4) (Zp.digs B32 n)/\Zp.Dig 10 out/\
  Zp.val 10 out+10 ^ out.length*n=N/\wr.ownsRow (w.heap.size+1) 5 1 (.slice a (Zp.bytes out).length cc) (Zp.bytes out).length (u8Cells (Zp.bytes out))/\k=n/\out.length<=K+9/\
  wr.heap[w.heap.size]? =some (.cells A 27 (0,0))/\Below (w.heap.size+1) (w.alloc (.cells A 27)) wr
theorem Q8z (h:V+10 ^ k*m=N) (hm:0 < m) (hN:N < 10 ^ K):k < K:=by
 rcases eS_ k K with h1 | h1
 ·exact h1
 ·have h2:10 ^ K<=10 ^ k:=Nat.pow_le_pow_right (by decide) h1;have h3:10 ^ k*1<=10 ^ k*m:=Nat.mul_le_mul_left _ hm;omega
theorem Q1J (h:V+10 ^ k*n=N) (hz:z.natAbs=N) (hK:Bd K z):(Zp.digs B32 n).length<=K:=by
 refine Zp.QR (by decide) K n ?_;have h1:1*n<=10 ^ k*n:=Nat.mul_le_mul_right _ (Nat.pow_pos (by decide));have h2:10 ^ K<=B32 ^ K:=Nat.pow_le_pow_left (by decide) K;have h3:N < 10 ^ K:=hz ▸ hK;omega
theorem Q6Q:∀ d:Fin 10,(⟨#[48,49,50,51,52,53,54,55,56,57]⟩:ByteArray)[d.val]'(by have:=d.isLt;exact this)=(48+d.val).toUInt8:=by decide
theorem Q7V (h:d < 10) (h2:d < (⟨#[48,49,50,51,52,53,54,55,56,57]⟩:ByteArray).size):(⟨#[48,49,50,51,52,53,54,55,56,57]⟩:ByteArray)[d]=(48+d).toUInt8:=Q6Q ⟨d,h⟩
theorem Dm (l:List Nat) (d:Nat):Zp.bytes (l++ [d])=Zp.bytes l++ [(48+d).toUInt8]:=by simp[Zp.bytes]
theorem Jh (l:List Nat):(Zp.bytes l).length=l.length:=by simp[Zp.bytes]
theorem UT {L:List UInt8} (h:L.length<=1073741824):Calls prog 67 #[.string ⟨L.toArray⟩,.string ⟨#[48]⟩] w fun e w'=> e= .returned (.string ⟨(Lib.trimRightB L 48).toArray⟩)/\w'=w:=by
 have h2:=Tryz.strings_TrimRight_one ⟨L.toArray⟩ 48 (by decide) w (by
  have h2:(⟨L.toArray⟩:ByteArray).size=L.length:=by simp[ByteArray.size]
  omega)
 exact h2
def DgRel (w V0:World) (A:Array Value) (out:List Nat) (r:Nat) (v4:Value) (l:List Nat) (k:Nat) (v3 v5 v22:Value) (wr:World):Prop:=
 ∃ (a:Option Addr) (cc j:Nat),v3= .slice a (Zp.bytes (out++Zp.pad j r)).length cc/\v5= .int .u64 ((r / 10 ^ j:Nat):Int)/\v22= .int .i64 (j:Int)/\k=9 - j/\j<=9/\
  wr.ownsRow (w.heap.size+1) 5 1 (.slice a (Zp.bytes (out++Zp.pad j r)).length cc) (Zp.bytes (out++Zp.pad j r)).length (u8Cells (Zp.bytes (out++Zp.pad j r)))/\RdU wr v4 l/\
  wr.heap[w.heap.size]? =some (.cells A 27 (0,0))/\Below (w.heap.size+1) V0 wr
theorem XL (h:Num w v z) {K:Nat} (hK:Bd K z) (hK2:K<=1000000000):
  Calls prog 26 #[v] w fun e w'=> e= .returned (.string ⟨(Zp.text z).toArray⟩)/\Below w.heap.size w w':=by
 obtain ⟨a0,c,rfl,hr⟩:=h.form;have hwl:=hK.len;have h0:(wd z).length=0↔z=0:=by rw[List.length_eq_zero_iff,wd,Zp.Xy (by decide),Int.natAbs_eq_zero]
 by_cases hz:z=0
 ·subst hz;have hl:(wd 0).length=0:=h0.2 rfl;have hd:decide ((0:Int) < 0)=false:=rfl;rw[hl];clear h hr h0 hl hwl;go_in;go_wp2_with fail;go_ret;exact ⟨rfl,(eB_ _ _).alloc (rl_ _) _⟩
 ·have hlp:(0:Int) < ((wd z).length:Int):=by have:(wd z).length≠0:=fun e=> hz (h0.1 e);omega
  have hln:(((wd z).length:Int)==0)=false:=beq_false_of_ne (by omega);obtain ⟨N,hN⟩:∃ N,z.natAbs=N:=⟨_,rfl⟩
  have hwd:wd z=Zp.digs B32 N:=by rw[wd,hN]
  have HC:=h6_ hK hK2 hz hN hr hwd;go_in;clear h hr h0 hz hwl hwd hN hK hK2;go_wp2_with fail;obtain ⟨A,hA⟩:∃ A:Array Value,A= #[.bool (decide (z < 0)),.slice a0 (wd z).length c]:=⟨_,rfl⟩
  go_loopg [3,4] N (fun k v3 v4 wr=> StRel w #[.bool (decide (z < 0)),.slice a0 (wd z).length c] K N k v3 v4 wr)
  case atStart=> exact ⟨none,a0,0,c, [],N,rfl,by rw[HC.F],by rw[<-HC.F];exact HC.e.below ((eB_ _ _).alloc (rl_ _) _),Zp.Dig.nil,by simp[Zp.val],World.ownsRow_nil _ _ _ _,rfl,by simp,eD_ _ _,eB_ _ _⟩
  case round=>
   obtain ⟨a,a4,cc,c4,out,n,rfl,rfl,hr,hd,hv,hown,hk,hol,hg,hb⟩:=hrel;have HR:=h8_ hr hd hv hown hk hol hg hb;clear hr hd hv hown hk hol hg hb;rcases Nat.eq_zero_or_pos n with h0 | h0
   ·subst h0;obtain ⟨q1,q2,q3,q4,q5,q6,q7,q8⟩:=HR.o;have hne:Zp.bytes out≠ []:=by
     intro e;have e2:out= []:=List.map_eq_nil_iff.1 e;subst e2;have:=HC.d;have:=HC.c;simp[Zp.val] at q3;omega
    have hcv:=Q6P hne q4;have hlo:(Zp.bytes out).length<=1073741824:=(by rw[Jh];have:=HC.b;omega);have hN:Zp.val 10 out=z.natAbs:=(by rw[HC.d, <-q3,Nat.mul_zero,Nat.add_zero]);have hto:=Zp.Q7F HC.c q2 hN;have hb:Below w.heap.size w wr:=((eB_ w.heap.size w).alloc (rl_ _) _).trans (q8.mono (Nat.le_succ _));have c0:=Q3 q7 0 rfl;have htb:=Dl q2;have htl:(Zp.bytes (Zp.trim out)).length<=1073741824:=(by rw[Jh];exact eE_ (ZQ out) (by rw[Jh] at hlo;exact hlo));obtain ⟨B,hB⟩:∃ B,Zp.bytes (Zp.trim out)=B:=⟨_,rfl⟩
    rw[hB] at htb hto htl;have hl0:(Zp.digs B32 0).length=0:=(by rw[Zp.QG];rfl);rw[hl0];obtain ⟨L,hL⟩:∃ L,Zp.bytes out=L:=⟨_,rfl⟩
    rw[hL] at hcv hlo htb hne |-;have HE:=h5_ hlo hto hb htb htl;clear q1 q2 q3 q4 q5 q6 q7 q8 hne hlo hN hto hb htb htl hB hl0 hL;go_wp2_with fail;refine (UT (w:=wr) HE.a).mono ?_;rintro e w3 ⟨rfl,rfl⟩;rw[HE.d];dsimp only;by_cases hs:z < 0
    ·have hsd:decide (z < 0)=true:=eM_ hs;have HLL:Hid (B.length+1<=9000000000000000000):=hd_ (by have:=HE.E;omega);have hto:=HE.b;rw[if_pos hs] at hto;have HTO:=hd_ hto;rw[hsd] at c0 |-;clear hto hs hsd;obtain ⟨D,hD⟩:∃ D,B++ [45]=D:=⟨_,rfl⟩
     rw[hD] at HTO;have hDl:D.length<=1073741825:=(by rw[<-hD];have:=HE.E;rw[eC_,List.length_singleton];omega);have hcs:=Lib.run_convert_string_bytes (P:=prog) w3 9 106 5 ⟨D.toArray⟩ underlying9 underlying106 underlying5;have hhb:=YS w3 D;have hbb:=YT (B:=w.heap.size) (a:=w) HE.c HE.c.size ⟨D.toArray⟩;rw[show (⟨D.toArray⟩:ByteArray).size=D.length by simp[ByteArray.size]] at hcs;obtain ⟨W6,hW6⟩:∃ W,Lib.bytesWorld w3 5 ⟨D.toArray⟩=W:=⟨_,rfl⟩
     rw[hW6] at hcs hhb hbb;obtain ⟨c6,hc6⟩:∃ c,grownCap w3 D.length 0 5=c:=⟨_,rfl⟩
     rw[hc6] at hcs;have HB:=h3_ hhb hbb hDl;have HDD:=hd_ hD;clear hhb hbb hW6 hc6 hDl hD;go_wp2_with (refine JK (l:=B) (m:= [45]) rfl _ _ _ _ rfl rfl rfl HLL.o ?_;rw[HDD.o]);refine (Jy (c:=c6) HB.a (eE_ HB.C (by decide))).mono ?_;rintro e w7 ⟨rfl,hcells,hbf⟩;have hcv2:=JL (c:=c6) hcells;rw[List.length_reverse] at hcv2;rw[HTO.o] at hcv2;have HZ:=hd_ (hbf w.heap.size w HE.c.size HB.b);clear hcells hbf;dsimp only;go_wp2_with fail;go_ret;exact ⟨rfl,HZ.o⟩
    ·have hsd:decide (z < 0)=false:=eK_ hs;have hto:=HE.b;rw[if_neg hs,List.append_nil] at hto;have HTO:=hd_ hto;rw[hsd] at c0 |-;clear hto hs hsd;obtain ⟨D,hD⟩:∃ D,B=D:=⟨_,rfl⟩
     rw[hD] at HTO |-;have hDl:D.length<=1073741825:=(by rw[<-hD];have:=HE.E;omega);have hcs:=Lib.run_convert_string_bytes (P:=prog) w3 9 106 5 ⟨D.toArray⟩ underlying9 underlying106 underlying5;have hhb:=YS w3 D;have hbb:=YT (B:=w.heap.size) (a:=w) HE.c HE.c.size ⟨D.toArray⟩;rw[show (⟨D.toArray⟩:ByteArray).size=D.length by simp[ByteArray.size]] at hcs;obtain ⟨W6,hW6⟩:∃ W,Lib.bytesWorld w3 5 ⟨D.toArray⟩=W:=⟨_,rfl⟩
     rw[hW6] at hcs hhb hbb;obtain ⟨c6,hc6⟩:∃ c,grownCap w3 D.length 0 5=c:=⟨_,rfl⟩
     rw[hc6] at hcs;have HB:=h3_ hhb hbb hDl;clear hhb hbb hW6 hc6 hDl hD;go_wp2_with fail;refine (Jy (c:=c6) HB.a (eE_ HB.C (by decide))).mono ?_;rintro e w7 ⟨rfl,hcells,hbf⟩;have hcv2:=JL (c:=c6) hcells;rw[List.length_reverse] at hcv2;rw[HTO.o] at hcv2;have HZ:=hd_ (hbf w.heap.size w HE.c.size HB.b);clear hcells hbf;dsimp only;go_wp2_with fail;go_ret;exact ⟨rfl,HZ.o⟩
   ·have hlp:=Q0I h0;have hlq:decide (0 < (Zp.digs B32 n).length)=true:=eM_ (by omega);have HP:=hd_ h0;go_wp2_with fail;refine (Ub (l:=Zp.digs B32 n) HR.a (eE_ (Q1J HR.c HC.d HC.a) (eE_ HC.b (by decide))) (Zp.Qo (by decide) _) 1000000000 (by decide) (by decide)).mono ?_;rintro e w2 ⟨v2,rfl,hr2,hb2⟩;rw[Zp.Qi (by decide)] at hr2 |-;obtain ⟨a5,c5,rfl,_⟩:=hr2.form;obtain ⟨r,hrm⟩:∃ r,n % 1000000000=r:=⟨_,rfl⟩
    rw[hrm];have hr9:(r:Int)<=999999999:=(by omega);have HS:=h4_ hr2 hb2 hrm hr9;clear hr2 hb2 hrm;dsimp only;go_wp2_with fail;have hsz:w.heap.size+1<=w2.heap.size:=(by have h1:=HR.H.size;rw[<-Q5] at h1;exact eE_ h1 HS.b.size);have HSZ:=hd_ hsz;have hg2:=(HS.b.block _ (Q4 HR.g)).trans HR.g;have HSZ2:=hd_ hg2;have how:w2.ownsRow (w.heap.size+1) 5 1 (.slice a (Zp.bytes out).length cc) (Zp.bytes out).length (u8Cells (Zp.bytes out)):=Q3z HR.d HS.b;have HOW:=hd_ how;clear hsz hg2 how;go_loopg [3,5,22] 9 (fun k v3 v5 v22 wr=> DgRel w w2 #[.bool (decide (z < 0)),.slice a0 (wd z).length c] out r (.slice a5 (Zp.digs B32 (n / 1000000000)).length c5) (Zp.digs B32 (n / 1000000000)) k v3 v5 v22 wr)
    case atStart=> exact ⟨_,_,0,by rw[Zp.pad,List.append_nil],by rw[Nat.pow_zero,Nat.div_one],rfl,rfl,by decide,by rw[Zp.pad,List.append_nil];exact HOW.o,HS.a,HSZ2.o,(eB_ _ _)⟩
    case round=>
     obtain ⟨b,bc,j,rfl,rfl,rfl,hk,hj,hown,hr3,hg3,hb3⟩:=hrel;have HI:=h5_ hk hown hr3 hg3 hb3;clear hk hown hr3 hg3 hb3;rcases eS_ j 9 with h9 | h9
     ·have h9':(j:Int) < 9:=(by omega);obtain ⟨x,hx⟩:∃ x,r / 10 ^ j=x:=⟨_,rfl⟩
      rw[hx];have hxr:x<=r:=(by rw[<-hx];exact Nat.div_le_self _ _);have hx9:(x:Int)<=999999999:=(by omega);have HX:=hd_ hx;clear hxr hx;go_wp2_with (first
       | (refine app1 rfl _ _ Q8y rfl rfl HI.b (rl_ _) (by have:=HI.E.size;have:=HSZ.o;omega) HI.E _ rfl rfl rfl (by rw[Jh,eC_,Zp.GE];have:=HR.f;have:=HC.b;omega) ?_;rintro b2 bc2 w4 ho4 hb4 hg4;have HA:=h3_ ho4 hb4 hg4;clear ho4 hb4 hg4))
      go_roundg (9 - (j+1))
      case measure=> have:=HI.a;omega
      case rel=>
       obtain ⟨q1,q2,q3,q4,q5⟩:=HI.o;rw[Q7V (Nat.mod_lt _ (by decide))] at HA;have e1:out++Zp.pad (j+1) r=(out++Zp.pad j r)++ [x % 10]:=(by rw[Q1I,HX.o,eQ_]);refine ⟨b2,bc2,j+1,?_,?_,rfl,rfl,by omega,?_,q3.app8 q2 HA.C,?_,HA.b⟩
       ·rw[e1,Dm,eC_];rfl
       ·rw[Nat.pow_succ, <-Nat.div_div_eq_div_mul,HX.o];exact Q3A (by omega)
       ·rw[e1,Dm,eC_,Q7S];exact HA.a
       ·exact (HA.b.block _ (Nat.lt_succ_self _)).trans (HSZ2.o)
     ·obtain rfl:j=9:=(by omega);go_wp2_with fail;go_roundg (n / 1000000000)
      case measure=> have:=HR.e;have:=HP.o;omega
      case rel=>
       obtain ⟨q1,q2,q3,q4,q5,q6,q7,q8⟩:=HR.o;obtain ⟨p1,p2,p3,p4,p5⟩:=HI.o;refine ⟨b,a5,bc,c5,out++Zp.pad 9 r,n / 1000000000,rfl,rfl,p3,Q7U q2 (Zp.Q4x _ _),Zp.Q6x q3 HS.c,p2,rfl,?_,p4,(q8.trans (HS.b.mono (by have h:=q8.size;rw[<-Q5] at h;exact h))).trans p5⟩;have h1:=Q8z q3 HP.o (by rw[<-HC.d];exact HC.a);rw[eC_,Zp.GE];omega
open Go.RowKit
theorem Dn (l:List UInt8) (hl:l.length<=1073741824) (w:World):
  Calls prog 159 #[.string ⟨l.toArray⟩,.string ⟨#[45]⟩] w fun e w'=> e= .returned (.bool (Zp.minusOf l))/\w'=w:=by
 cases l with
 | nil=>
  go_in;go_wp2_with fail;go_ret;exact ⟨rfl,rfl⟩
 | cons c r=>
  have hs:(⟨(c::r).toArray⟩:ByteArray).size=r.length+1:=by simp[ByteArray.size]
  have hx:(⟨(c::r).toArray⟩:ByteArray).extract 0 1=⟨#[c]⟩:=by rw[QY];rfl
  obtain ⟨S,hS⟩:∃ S:ByteArray,⟨(c::r).toArray⟩=S:=⟨_,rfl⟩
  rw[hS] at hs hx |-;clear hS;have hr:(r.length:Int)<=1073741823:=by simp at hl;omega
  have hq:Zp.minusOf (c::r)=(c==45):=by simp[Zp.minusOf]
  rw[hq];clear hq hl;go_in;go_wp2_with fail;go_ret;exact ⟨rfl,rfl⟩
theorem Do (l:List UInt8) (hl:l.length<=1073741824) (w:World):
  Calls prog 124 #[.string ⟨l.toArray⟩,.string ⟨#[45]⟩] w fun e w'=> e= .returned (.tuple #[.string ⟨(Zp.restOf l).toArray⟩,.bool (Zp.minusOf l)])/\w'=w:=by
 have hm:=Dn l hl w;cases hq:Zp.minusOf l with
 | false=>
  have e1:Zp.restOf l=l:=by rw[Zp.restOf,hq];rfl
  rw[e1];rw[hq] at hm;have H:=hd_ hm;clear hm hq e1;go_in;go_wp2_with fail;refine H.o.mono ?_;rintro e w1 ⟨rfl,rfl⟩;dsimp only;go_wp2_with fail;go_ret2;exact ⟨rfl,rfl⟩
 | true=>
  have hf:=Zp.Q3r hq;have e1:Zp.restOf l=l.tail:=by rw[Zp.restOf,hq];rfl
  rw[e1];rw[hq] at hm;obtain ⟨r,hr⟩:∃ r,l.tail=r:=⟨_,rfl⟩
  rw[hr] at hf |-;have hs:(⟨l.toArray⟩:ByteArray).size=r.length+1:=by rw[hf];simp[ByteArray.size]
  have hx:(⟨l.toArray⟩:ByteArray).extract 1 (r.length+1)=⟨r.toArray⟩:=by rw[QY,hf];simp
  have hln:(r.length:Int)<=1073741823:=by rw[hf] at hl;simp at hl;omega
  obtain ⟨S,hS⟩:∃ S:ByteArray,⟨l.toArray⟩=S:=⟨_,rfl⟩
  rw[hS] at hs hx hm |-;have H:=hd_ hm;clear hm hq e1 hf hr hS hl;go_in;go_wp2_with fail;refine H.o.mono ?_;rintro e w1 ⟨rfl,rfl⟩;dsimp only;go_wp2_with fail;go_ret2;exact ⟨rfl,rfl⟩
theorem Gv (l:List UInt8) (hl:l.length<=1073741824) (w:World):
  Calls prog 82 #[.string ⟨l.toArray⟩,.string ⟨#[45]⟩] w fun e w'=> e= .returned (.tuple #[.string ⟨(Zp.restOf l).toArray⟩,.bool (Zp.minusOf l)])/\w'=w:=by
 have H:=hd_ (Do l hl w);clear hl;go_in;go_wp2_with fail;refine H.o.mono ?_;rintro e w1 ⟨rfl,rfl⟩;dsimp only;go_wp2_with fail;go_ret2;exact ⟨rfl,rfl⟩
theorem Q0J (c:UInt8): [(48:UInt8),49,50,51,52,53,54,55,56,57].contains c=Zp.isDig c:=by
 have h:∀ n:Fin 256, [(48:UInt8),49,50,51,52,53,54,55,56,57].contains (UInt8.ofNat n.val)=Zp.isDig (UInt8.ofNat n.val):=by decide
 have h2:=h ⟨c.toNat,c.toNat_lt⟩;simpa using h2
theorem Z0 {α:Type} {p:α->Bool}:∀ {l:List α},l.dropWhile p= []↔∀ x∈l,p x=true
 | []=> by simp
 | a::r=> by
  rw[List.dropWhile_cons];cases h:p a
  ·simp[h]
  ·simp[h,Z0 (l:=r)]
theorem Jz {α:Type} {p:α->Bool}:∀ {l:List α} {x:α},x∈l.takeWhile p->p x=true
 | [],_,h=> by simp at h
 | a::r,x,h=> by
  rw[List.takeWhile_cons] at h;cases ha:p a
  ·simp[ha] at h
  ·simp[ha] at h;rcases h with rfl | h
   ·exact ha
   ·exact Jz h
theorem Uc (l:List UInt8):(Lib.trimS l [48,49,50,51,52,53,54,55,56,57]= [])↔l.all Zp.isDig=true:=by
 have e:(fun c=> [(48:UInt8),49,50,51,52,53,54,55,56,57].contains c)=Zp.isDig:=funext Q0J;unfold Lib.trimS Lib.trimLeftS Lib.trimRightS;rw[e];constructor
 ·intro h;have h1:=Z0.1 h;rw[List.all_eq_true];intro x hx;by_cases h2:x∈(l.reverse.dropWhile Zp.isDig).reverse
  ·exact h1 x h2
  ·have h3:x∈l.reverse:=List.mem_reverse.2 hx;rw[<-List.takeWhile_append_dropWhile (p:=Zp.isDig) (l:=l.reverse)] at h3;rcases List.mem_append.1 h3 with h4 | h4
   ·exact Jz h4
   ·exact absurd (List.mem_reverse.2 h4) h2
 ·intro h;have h1:l.reverse.dropWhile Zp.isDig= []:=Z0.2 fun x hx=> List.all_eq_true.1 h x (List.mem_reverse.1 hx);rw[h1];rfl
theorem Xk {P:Program} {fn:Func} {p u:Tmp} {ty:TypeId} (h:fn.results= #[.cell p ty,.tmp u]) (tmps:Array Value) (w:World) (g:Nat) (t:TypeId) (cs:Array Value) (fr:Nat × Nat) (d:TypeDesc)
  (hp:tmps.getD p undef= .pointer (some ⟨g,0,none⟩)) (hg:w.heap[g]? =some (.cells cs t fr))
  (hu:P.underlying ty=some d) (hd:(match d with | .struct _ | .array _ _=> true | _=> false)=true) (hi:(P.info? ty).map (·.size)=some cs.size) {x:Value} (hx:tmps.getD u undef=x):
  (results fn tmps).run P w= .ok (.tuple #[.agg cs,x]) w:=by
 rw[results_cell_tmp h,hp,hx];simp[asAddr,run_loadVar_row w g t ty cs fr d hg hu hd hi]
def POut (w':World) (e:Ending) (p:Int × Int):Prop:=∃ v',e= .returned (.tuple #[v',.int .i64 p.2])/\Num w' v' p.1
theorem Y4 {fn:Func} {p u:Tmp} (h:fn.results= #[.cell p 27,.tmp u]) (hp:tmps.getD p undef= .pointer (some ⟨g,0,none⟩)) (hg:w.heap[g]? =some (.cells cs 27 (0,0))) (hs:cs.size=2) {x:Value} (hx:tmps.getD u undef=x):
  (results fn tmps).run prog w= .ok (.tuple #[.agg cs,x]) w:=
 Xk h _ _ g _ _ _ _ hp hg underlying27 rfl (by rw[hs];exact Qq) hx
theorem ZU (w:World):Num w (.agg #[.bool false,.slice none 0 0]) 0:=by
 refine ⟨.slice none 0 0,rfl,?_⟩;have e:wd 0= []:=Zp.QG _;rw[e];exact RdB.nil _ _ _
theorem Q1K (l:List UInt8) (c:UInt8):Zp.num (l++ [c])=Zp.num l*10+(c.toNat - 48):=by
 rw[Zp.Zo];simp[Zp.num]
theorem Zc {l:List UInt8} (h:l.length<=1073741824) (w:World):Calls prog 83 #[.string ⟨l.toArray⟩,.string ⟨#[48,49,50,51,52,53,54,55,56,57]⟩] w fun e w'=> e= .returned (.string ⟨(Lib.trimS l [48,49,50,51,52,53,54,55,56,57]).toArray⟩)/\Below w.heap.size w w':=
 Tryz.Trim_digits ⟨l.toArray⟩ w (by
  have h2:(⟨l.toArray⟩:ByteArray).size=l.length:=by simp[ByteArray.size]
  omega)
def CkRel (ck:List UInt8) (W:World) (k:Nat) (v8 v9 v55:Value) (wr:World):Prop:=
 ∃ j:Nat,v8= .int .u64 ((10 ^ j:Nat):Int)/\v9= .int .u64 (Zp.num (ck.take j):Int)/\v55= .int .i64 (j:Int)/\k=ck.length - j/\j<=ck.length/\wr=W
theorem Q1L (w:World):RdU w (.slice none (Zp.digs B32 (Zp.num [])).length 0) (Zp.digs B32 (Zp.num [])):=by
 rw[show Zp.num []=0 from rfl,Zp.QG];exact RdB.nil _ _ _
def PaRel (w:World) (r:List UInt8) (k:Nat) (v4 v6:Value) (wr:World):Prop:=
 ∃ (done rest:List UInt8) (a:Option Addr) (c:Nat),r=done++rest/\v4= .string ⟨rest.toArray⟩/\v6= .slice a (Zp.digs B32 (Zp.num done)).length c/\RdU wr (.slice a (Zp.digs B32 (Zp.num done)).length c) (Zp.digs B32 (Zp.num done))/\k=rest.length/\
  wr.heap[w.heap.size]? =some (.cells #[.bool false,.slice none 0 0] 27 (0,0))/\Below w.heap.size w wr
theorem UU {l:List UInt8} (h:l.all Zp.isDig=true):Zp.num l < 10 ^ l.length:=Zp.Q8v l fun c hc=> List.all_eq_true.1 h c hc
theorem Q1M {l:List UInt8} (h:l.all Zp.isDig=true) (n:Nat):(l.take n).all Zp.isDig=true:=List.all_eq_true.2 fun x hx=> List.all_eq_true.1 h x (List.mem_of_mem_take hx)
theorem Q4A (h:j<=9):10 ^ j<=1000000000:=Nat.pow_le_pow_right (n:=10) (by decide) h
theorem Gk {r done rest:List UInt8} (h:r=done++rest) (hd:r.all Zp.isDig=true) (hl:r.length<=60):done.all Zp.isDig=true/\rest.all Zp.isDig=true/\(Zp.digs B32 (Zp.num done)).length<=60/\rest.length<=60/\done.length+rest.length<=60:=by
 subst h;rw[List.all_append,Bool.and_eq_true] at hd;rw[eC_] at hl;refine ⟨hd.1,hd.2,?_,by omega,hl⟩;refine Zp.QR (by decide) 60 _ ?_;have h1:=UU hd.1;have h2:10 ^ done.length<=10 ^ 60:=Nat.pow_le_pow_right (by decide) (by omega);exact eI_ h1 (eE_ h2 (Nat.pow_le_pow_left (by decide) 60))
theorem Q0K (l:List UInt8) (hl:l.length<=1073741824) (w:World):
  Calls prog 40 #[.string ⟨l.toArray⟩] w fun e w'=> POut w' e (Zp.parse l)/\Below w.heap.size w w':=by
 have HC:=hd_ (fun W=> Gv l hl W);have hrl:(Zp.restOf l).length<=l.length:=by unfold Zp.restOf;split <;> simp
 obtain ⟨P,hP⟩:∃ P,Zp.parse l=P:=⟨_,rfl⟩
 have hP2:=hP;unfold Zp.parse at hP2;rw[hP];obtain ⟨r,hr⟩:∃ r,Zp.restOf l=r:=⟨_,rfl⟩
 obtain ⟨ng,hng⟩:∃ ng,Zp.minusOf l=ng:=⟨_,rfl⟩
 rw[hr,hng] at hP2;rw[hr] at hrl;rw[hr,hng] at HC;have hlr:r.length<=1073741824:=eE_ hrl hl;clear hP hr hng hl hrl;have hb0:=(eB_ w.heap.size w).alloc (rl_ _) (.cells #[.bool false,.slice none 0 0] 27);have HB:=h2_ (eD_ w (.cells #[.bool false,.slice none 0 0] 27)) hb0;clear hb0;by_cases h60:60 < r.length
 ·rw[if_pos h60] at hP2;subst hP2;have h60':(60:Int) < (r.length:Int):=by omega
  clear h60 hlr;go_in;go_wp2_with fail;refine (HC.o _).mono ?_;rintro e w1 ⟨rfl,rfl⟩;dsimp only;go_wp2_with fail;exact eG_ (Y4 rfl rfl HB.a rfl rfl) rfl ⟨⟨_,rfl,ZU _⟩,HB.B⟩
 ·rw[if_neg h60] at hP2;cases r with
  | nil=>
   rw[if_pos (Or.inl rfl)] at hP2;subst hP2;go_in;go_wp2_with fail;refine (HC.o _).mono ?_;rintro e w1 ⟨rfl,rfl⟩;dsimp only;go_wp2_with fail;exact eG_ (Y4 rfl rfl HB.a rfl rfl) rfl ⟨⟨_,rfl,ZU _⟩,HB.B⟩
  | cons c rs=>
   have HL:=hd_ hlr;have hln:(rs.length:Int)<=59:=(by simp at h60;omega);have hsz:0 < (⟨(c::rs).toArray⟩:ByteArray).size:=(by simp[ByteArray.size]);have hd60:decide ((60:Int) < (rs.length:Int)+1)=false:=eK_ (by omega);by_cases hd:(c::rs).all Zp.isDig=true
   ·have HT:=hd_ ((Uc (c::rs)).2 hd);by_cases hz:(c::rs).head? =some 48/\(1 < (c::rs).length\/ng=true)
    ·rw[if_pos (Or.inr (Or.inr hz))] at hP2;subst hP2;obtain ⟨hz1,hz2⟩:=hz;have hc:c=48:=(by simpa using hz1);have hcb:((((⟨(c::rs).toArray⟩:ByteArray)[0]'hsz).toNat:Int)==48)=true:=(by show ((c.toNat:Int)==48)=true;rw[hc];rfl);clear hz1 h60 hlr hc;by_cases h1:0 < rs.length
     ·clear hz2 hd;have h1':decide ((1:Int) < (rs.length:Int)+1)=true:=eM_ (by omega);go_in;go_wp2_with fail;refine (HC.o _).mono ?_;rintro e w1 ⟨rfl,rfl⟩;dsimp only;go_wp2_with fail;refine (Zc (l:=c::rs) HL.o _).mono ?_;rintro e w2 ⟨rfl,hb2⟩;obtain ⟨t,ht⟩:∃ t,Lib.trimS (c::rs) [48,49,50,51,52,53,54,55,56,57]=t:=⟨_,rfl⟩
      rw[ht] at HT;rw[ht];have HW:=h2_ ((hb2.block _ (Q4 HB.a)).trans HB.a) (HB.B.trans (hb2.mono HB.B.size));clear hb2 ht;dsimp only;obtain rfl:t= []:=HT.o;have zc0:=Q3 HW.a 0 rfl;have zc1:=Q3 HW.a 1 rfl;have z0:=Q6 HW.a 0;have z1:=Q6 HW.a 1;go_wp2_with fail;obtain ⟨y1,y2,y3⟩:=YR (ZU w2) HW.a rfl HW.B (rl_ _);exact eG_ (Y4 rfl rfl y1 rfl rfl) rfl ⟨⟨_,rfl,y2⟩,y3⟩
     ·have hng:ng=true:=hz2.resolve_left (fun h=> h1 (by simpa using h));subst hng;have h1':decide ((1:Int) < (rs.length:Int)+1)=false:=eK_ (by omega);clear hz2 hd h1 hln;go_in;go_wp2_with fail;refine (HC.o _).mono ?_;rintro e w1 ⟨rfl,rfl⟩;dsimp only;go_wp2_with fail;refine (Zc (l:=c::rs) HL.o _).mono ?_;rintro e w2 ⟨rfl,hb2⟩;obtain ⟨t,ht⟩:∃ t,Lib.trimS (c::rs) [48,49,50,51,52,53,54,55,56,57]=t:=⟨_,rfl⟩
      rw[ht] at HT;rw[ht];have HW:=h2_ ((hb2.block _ (Q4 HB.a)).trans HB.a) (HB.B.trans (hb2.mono HB.B.size));clear hb2 ht;dsimp only;obtain rfl:t= []:=HT.o;have zc0:=Q3 HW.a 0 rfl;have zc1:=Q3 HW.a 1 rfl;have z0:=Q6 HW.a 0;have z1:=Q6 HW.a 1;go_wp2_with fail;obtain ⟨y1,y2,y3⟩:=YR (ZU w2) HW.a rfl HW.B (rl_ _);exact eG_ (Y4 rfl rfl y1 rfl rfl) rfl ⟨⟨_,rfl,y2⟩,y3⟩
    ·rw[if_neg (fun h=> h.elim (by simp) (fun h=> h.elim (by rw[hd];simp) hz))] at hP2;by_cases hc:c=48
     ·have h2:rs= []:=by
       refine List.length_eq_zero_iff.1 ?_;have h3:¬ 1 < (c::rs).length:=fun h=> hz ⟨by rw[hc];rfl,Or.inl h⟩;simpa using h3
      have hng:ng=false:=by
       cases ng
       ·rfl
       ·exact absurd ⟨by rw[hc];rfl,Or.inr rfl⟩ hz
      have h1':decide ((1:Int) < (rs.length:Int)+1)=false:=(by rw[h2];rfl);have hcb:((((⟨(c::rs).toArray⟩:ByteArray)[0]'hsz).toNat:Int)==48)=true:=(by show ((c.toNat:Int)==48)=true;rw[hc];rfl);subst hng;clear hz h60 hlr hln hc h2;go_in;go_wp2_with fail;refine (HC.o _).mono ?_;rintro e w1 ⟨rfl,rfl⟩;dsimp only;go_wp2_with fail;refine (Zc (l:=c::rs) HL.o _).mono ?_;rintro e w2 ⟨rfl,hb2⟩;obtain ⟨t,ht⟩:∃ t,Lib.trimS (c::rs) [48,49,50,51,52,53,54,55,56,57]=t:=⟨_,rfl⟩
      rw[ht] at HT;rw[ht];have HW:=h2_ ((hb2.block _ (Q4 HB.a)).trans HB.a) (HB.B.trans (hb2.mono HB.B.size));clear hb2 ht;dsimp only;obtain rfl:t= []:=HT.o;go_wp2_with fail;have HD:=h2_ hd hd60;clear hd hd60 hsz h1' hcb;go_loopg [4,6] (c::rs).length (fun k v4 v6 wr=> PaRel w (c::rs) k v4 v6 wr)
      case atStart=> exact ⟨[],c::rs,none,0,rfl,rfl,by rw[show Zp.num []=0 from rfl,Zp.QG];rfl,Q1L _,rfl,HW.a,HW.B⟩
      case round=>
       obtain ⟨done,rest,a,cc,hsp,rfl,rfl,hr,hk,hg,hb⟩:=hrel;have hfac:=Gk hsp HD.a (by have:=of_decide_eq_false HD.B;rw[eL_];omega);have HR:=h6_ hsp hr hk hg hb hfac;clear hsp hr hk hg hb hfac;rcases Nat.eq_zero_or_pos rest.length with h0 | h0
       ·obtain rfl:rest= []:=List.length_eq_zero_iff.1 h0;clear h0;have hfin:∃ z,P=(z,0)/\z=if false then -((Zp.val B32 (Zp.digs B32 (Zp.num done)):Nat):Int) else ((Zp.val B32 (Zp.digs B32 (Zp.num done)):Nat):Int):=by
         rw[Zp.Qi (by decide)];have e:c::rs=done:=(by have:=HR.a;simpa using this);rw[<-e];exact ⟨_,hP2.symm,rfl⟩
        obtain ⟨z,rfl,hz⟩:=hfin;have HZ:=hd_ hz;clear hz hP2;go_wp2_with fail;refine (QZ HR.b (eE_ HR.h (by decide)) (Zp.Qo (by decide) _) false z HZ.o).mono ?_;rintro e w3 ⟨v3,rfl,hr3,hb3⟩;have HS:=h3_ ((hb3.block _ (Q4 HR.d)).trans HR.d) hr3 (HR.e.trans (hb3.mono HR.e.size));clear hr3 hb3;dsimp only;go_wp2_with (refine QB rfl _ _ rfl rfl HS.a rfl rfl HS.b (rl_ _) HS.C ?_;rintro W cs - rfl hg hs hn hb -;have HT:=h4_ hg hs hn hb;clear hg hs hn hb);exact eG_ (Y4 rfl rfl HT.a HT.b rfl) rfl ⟨⟨_,rfl,HT.c⟩,HT.D⟩
       ·have hlt:(0:Int) < (rest.length:Int):=(by omega);have hlq:decide (0 < rest.length)=true:=eM_ h0;have hlm:(rest.length:Int)<=60:=(by have:=HR.i;omega);obtain ⟨n,hn⟩:∃ n,min 9 rest.length=n:=⟨_,rfl⟩
        have hmin:min (9:Int) (rest.length:Int)=(n:Int):=(by omega);have hn9:(n:Int)<=9:=(by omega);have hnr:(n:Int)<=(rest.length:Int):=(by omega);have hn0:0 < n:=(by omega);have hs:(⟨rest.toArray⟩:ByteArray).size=rest.length:=(by simp[ByteArray.size]);obtain ⟨ck,hck⟩:∃ ck,rest.take n=ck:=⟨_,rfl⟩
        obtain ⟨dr,hdr⟩:∃ dr,rest.drop n=dr:=⟨_,rfl⟩
        have hckl:ck.length=n:=(by rw[<-hck,eN_];omega);have hx1:(⟨rest.toArray⟩:ByteArray).extract 0 n=⟨ck.toArray⟩:=(by rw[QY, <-hck];simp);have hx2:(⟨rest.toArray⟩:ByteArray).extract n rest.length=⟨dr.toArray⟩:=(by rw[QY, <-hdr];rw[List.take_of_length_le (by simp)]);have hcs:=Lib.run_convert_string_bytes (P:=prog) wr 9 106 5 ⟨ck.toArray⟩ underlying9 underlying106 underlying5;have hhb:=YS wr ck;have hbb:=YT (eB_ wr.heap.size wr) (rl_ _) ⟨ck.toArray⟩;rw[show (⟨ck.toArray⟩:ByteArray).size=n by simp[ByteArray.size,hckl]] at hcs;obtain ⟨W6,hW6⟩:∃ W,Lib.bytesWorld wr 5 ⟨ck.toArray⟩=W:=⟨_,rfl⟩
        rw[hW6] at hcs hhb hbb;obtain ⟨c6,hc6⟩:∃ c,grownCap wr n 0 5=c:=⟨_,rfl⟩
        rw[hc6] at hcs;have hkl:rest=ck++dr:=(by rw[<-hck, <-hdr,eW_]);have HK:=h6_ hhb hbb hckl hkl hn0 h0;obtain ⟨S,hS⟩:∃ S:ByteArray,⟨rest.toArray⟩=S:=⟨_,rfl⟩
        rw[hS] at hs hx1 hx2 |-;clear hhb hbb hW6 hc6 hckl hkl hck hdr hS hn hn0 h0;go_wp2_with fail;go_loopg [8,9,55] n (fun k v8 v9 v55 wr2=> CkRel ck W6 k v8 v9 v55 wr2)
        case atStart=> exact ⟨0,by rw[Nat.pow_zero];rfl,by rw[List.take_zero];rfl,rfl,by rw[HK.c];rfl,eV_ _,rfl⟩
        case round=>
         obtain ⟨j,rfl,rfl,rfl,hk,hj,rfl⟩:=hrel;rw[HK.c] at hk hj;obtain ⟨p,hp⟩:∃ p,10 ^ j=p:=⟨_,rfl⟩
         obtain ⟨q,hq⟩:∃ q,Zp.num (ck.take j)=q:=⟨_,rfl⟩
         have hcka:ck.all Zp.isDig=true:=(by have h:=HR.g;rw[HK.d,List.all_append,Bool.and_eq_true] at h;exact h.1);have hp9:(p:Int)<=1000000000:=(by have:=Q4A (j:=j) (by omega);omega);have hqp:q < p:=(by rw[<-hq, <-hp];have h:=UU (Q1M hcka j);rwa [eN_,Nat.min_eq_left (by rw[HK.c];exact hj)] at h);rw[hp,hq];rcases eS_ j n with h9 | h9
         ·have h9':(j:Int) < (n:Int):=(by omega);have hp8:(p:Int)<=100000000:=(by have h:10 ^ j<=10 ^ 8:=Nat.pow_le_pow_right (by decide) (by omega);have h2:(10:Nat) ^ 8=100000000:=(by decide);omega);have hq8:(q:Int)<=100000000:=(by omega);have hjl:j < ck.length:=(by rw[HK.c];exact h9);have hcell:=(HK.a j (by simpa using hjl)).1;rw[Nat.zero_add] at hcell;obtain ⟨d,hd⟩:∃ d,ck[j]=d:=⟨_,rfl⟩
          have hcd:ck.toArray[j]! =d:=(by rw[<-hd,getElem!_pos _ j (by simpa using hjl)];simp);rw[hcd] at hcell;have hdd:Zp.isDig d=true:=List.all_eq_true.1 hcka d (by rw[<-hd];exact List.getElem_mem hjl);unfold Zp.isDig at hdd;simp at hdd;obtain ⟨x,hx⟩:∃ x:Nat,d.toNat=x:=⟨_,rfl⟩
          unfold u8c at hcell;rw[hx] at hcell hdd;have hx1:(48:Int)<=(x:Int):=(by omega);have hx2:(x:Int)<=57:=(by omega);have hst:ck.take (j+1)=ck.take j++ [d]:=(by rw[<-hd,List.take_succ_eq_append_getElem hjl]);have HX:=h5_ hp hq hk hst hx;clear hp hq hk hst hx hcd hd hdd hcka hqp hjl;go_wp2_with fail;go_roundg (n - (j+1))
          case measure=> have:=HX.c;omega
          case rel=>
           refine ⟨j+1,?_,?_,rfl,by rw[HK.c],by rw[HK.c];omega,rfl⟩
           ·rw[Nat.pow_succ,HX.a];rfl
           ·rw[HX.d,Q1K,HX.b,HX.E];exact Q3A (by omega)
         ·obtain rfl:n=j:=(by omega);have hqe:Zp.num ck=q:=(by rw[<-hq, <-HK.c,List.take_length]);have HX:=h4_ hp hqe hqp hp9;clear hp hq hk hcka hqp hqe;go_wp2_with fail;refine (U6 (l:=Zp.digs B32 (Zp.num done)) (HR.b.below HK.b) (eE_ HR.h (by decide)) (Zp.Qo (by decide) _) p q (eE_ (Int.ofNat_le.1 HX.D) (by decide)) HX.c).mono ?_;rintro e w3 ⟨v3,rfl,hr3,hb3⟩;have htl:(Zp.scale B32 p (Zp.digs B32 (Zp.num done)) q).length<=1073741824:=(by rw[Zp.Yv];have:=HR.h;omega);have hdv:Zp.val B32 (Zp.scale B32 p (Zp.digs B32 (Zp.num done)) q)=Zp.num (done++ck):=by
           rw[Zp.Z7,Zp.Qi (by decide),Zp.Zo,HX.b,HK.c,HX.a]
          have hdg:Zp.Dig B32 (Zp.scale B32 p (Zp.digs B32 (Zp.num done)) q):=Zp.Z8 (eE_ (Int.ofNat_le.1 HX.D) (by decide)) _ _ (Zp.Qo (by decide) _) HX.c;have htr:=Zp.Xh (by decide) hdg;rw[hdv] at htr;obtain ⟨L,hL⟩:∃ L,Zp.scale B32 p (Zp.digs B32 (Zp.num done)) q=L:=⟨_,rfl⟩
          rw[hL] at hr3 htl htr;obtain ⟨a3,c3,rfl,_⟩:=hr3.form;have HS:=h4_ hr3 htl htr hb3;clear hr3 htl htr hdv hdg hb3 hL;dsimp only;go_wp2_with fail;refine (Xj HS.a HS.b).mono ?_;rintro e w4 ⟨rfl,rfl⟩;rw[HS.c];dsimp only;go_wp2_with fail;go_roundg dr.length
          case measure=> have h1:=HR.c;have h2:=HK.e;have h3:=HK.d;have h4:=HK.c;have h5:=congrArg List.length h3;rw[eC_] at h5;omega
          case rel=>
           refine ⟨done++ck,dr,a3,c3,?_,rfl,rfl,?_,rfl,?_,?_⟩
           ·rw[HR.a,HK.d,eQ_]
           ·have h:=HS.a.trim;rw[HS.c] at h;exact h
           ·have h1:=(HK.b.block _ (Q4 HR.d)).trans HR.d;exact (HS.D.block _ (Q4 h1)).trans h1
           ·have h1:=HR.e.trans (HK.b.mono HR.e.size);exact h1.trans (HS.D.mono h1.size)
     ·have hcb:((((⟨(c::rs).toArray⟩:ByteArray)[0]'hsz).toNat:Int)==48)=false:=(by show ((c.toNat:Int)==48)=false;exact beq_false_of_ne fun e=> hc (UInt8.toNat_inj.1 (by show c.toNat=48;omega)));clear hz h60 hlr hc;go_in;go_wp2_with fail;refine (HC.o _).mono ?_;rintro e w1 ⟨rfl,rfl⟩;dsimp only;go_wp2_with fail;refine (Zc (l:=c::rs) HL.o _).mono ?_;rintro e w2 ⟨rfl,hb2⟩;obtain ⟨t,ht⟩:∃ t,Lib.trimS (c::rs) [48,49,50,51,52,53,54,55,56,57]=t:=⟨_,rfl⟩
      rw[ht] at HT;rw[ht];have HW:=h2_ ((hb2.block _ (Q4 HB.a)).trans HB.a) (HB.B.trans (hb2.mono HB.B.size));clear hb2 ht;dsimp only;obtain rfl:t= []:=HT.o;go_wp2_with fail;have HD:=h2_ hd hd60;clear hd hd60 hsz hcb;go_loopg [4,6] (c::rs).length (fun k v4 v6 wr=> PaRel w (c::rs) k v4 v6 wr)
      case atStart=> exact ⟨[],c::rs,none,0,rfl,rfl,by rw[show Zp.num []=0 from rfl,Zp.QG];rfl,Q1L _,rfl,HW.a,HW.B⟩
      case round=>
       obtain ⟨done,rest,a,cc,hsp,rfl,rfl,hr,hk,hg,hb⟩:=hrel;have hfac:=Gk hsp HD.a (by have:=of_decide_eq_false HD.B;rw[eL_];omega);have HR:=h6_ hsp hr hk hg hb hfac;clear hsp hr hk hg hb hfac;rcases Nat.eq_zero_or_pos rest.length with h0 | h0
       ·obtain rfl:rest= []:=List.length_eq_zero_iff.1 h0;clear h0;have hfin:∃ z,P=(z,0)/\z=if ng then -((Zp.val B32 (Zp.digs B32 (Zp.num done)):Nat):Int) else ((Zp.val B32 (Zp.digs B32 (Zp.num done)):Nat):Int):=by
         rw[Zp.Qi (by decide)];have e:c::rs=done:=(by have:=HR.a;simpa using this);rw[<-e];exact ⟨_,hP2.symm,rfl⟩
        obtain ⟨z,rfl,hz⟩:=hfin;have HZ:=hd_ hz;clear hz hP2;go_wp2_with fail;refine (QZ HR.b (eE_ HR.h (by decide)) (Zp.Qo (by decide) _) ng z HZ.o).mono ?_;rintro e w3 ⟨v3,rfl,hr3,hb3⟩;have HS:=h3_ ((hb3.block _ (Q4 HR.d)).trans HR.d) hr3 (HR.e.trans (hb3.mono HR.e.size));clear hr3 hb3;dsimp only;go_wp2_with (refine QB rfl _ _ rfl rfl HS.a rfl rfl HS.b (rl_ _) HS.C ?_;rintro W cs - rfl hg hs hn hb -;have HT:=h4_ hg hs hn hb;clear hg hs hn hb);exact eG_ (Y4 rfl rfl HT.a HT.b rfl) rfl ⟨⟨_,rfl,HT.c⟩,HT.D⟩
       ·have hlt:(0:Int) < (rest.length:Int):=(by omega);have hlq:decide (0 < rest.length)=true:=eM_ h0;have hlm:(rest.length:Int)<=60:=(by have:=HR.i;omega);obtain ⟨n,hn⟩:∃ n,min 9 rest.length=n:=⟨_,rfl⟩
        have hmin:min (9:Int) (rest.length:Int)=(n:Int):=(by omega);have hn9:(n:Int)<=9:=(by omega);have hnr:(n:Int)<=(rest.length:Int):=(by omega);have hn0:0 < n:=(by omega);have hs:(⟨rest.toArray⟩:ByteArray).size=rest.length:=(by simp[ByteArray.size]);obtain ⟨ck,hck⟩:∃ ck,rest.take n=ck:=⟨_,rfl⟩
        obtain ⟨dr,hdr⟩:∃ dr,rest.drop n=dr:=⟨_,rfl⟩
        have hckl:ck.length=n:=(by rw[<-hck,eN_];omega);have hx1:(⟨rest.toArray⟩:ByteArray).extract 0 n=⟨ck.toArray⟩:=(by rw[QY, <-hck];simp);have hx2:(⟨rest.toArray⟩:ByteArray).extract n rest.length=⟨dr.toArray⟩:=(by rw[QY, <-hdr];rw[List.take_of_length_le (by simp)]);have hcs:=Lib.run_convert_string_bytes (P:=prog) wr 9 106 5 ⟨ck.toArray⟩ underlying9 underlying106 underlying5;have hhb:=YS wr ck;have hbb:=YT (eB_ wr.heap.size wr) (rl_ _) ⟨ck.toArray⟩;rw[show (⟨ck.toArray⟩:ByteArray).size=n by simp[ByteArray.size,hckl]] at hcs;obtain ⟨W6,hW6⟩:∃ W,Lib.bytesWorld wr 5 ⟨ck.toArray⟩=W:=⟨_,rfl⟩
        rw[hW6] at hcs hhb hbb;obtain ⟨c6,hc6⟩:∃ c,grownCap wr n 0 5=c:=⟨_,rfl⟩
        rw[hc6] at hcs;have hkl:rest=ck++dr:=(by rw[<-hck, <-hdr,eW_]);have HK:=h6_ hhb hbb hckl hkl hn0 h0;obtain ⟨S,hS⟩:∃ S:ByteArray,⟨rest.toArray⟩=S:=⟨_,rfl⟩
        rw[hS] at hs hx1 hx2 |-;clear hhb hbb hW6 hc6 hckl hkl hck hdr hS hn hn0 h0;go_wp2_with fail;go_loopg [8,9,55] n (fun k v8 v9 v55 wr2=> CkRel ck W6 k v8 v9 v55 wr2)
        case atStart=> exact ⟨0,by rw[Nat.pow_zero];rfl,by rw[List.take_zero];rfl,rfl,by rw[HK.c];rfl,eV_ _,rfl⟩
        case round=>
         obtain ⟨j,rfl,rfl,rfl,hk,hj,rfl⟩:=hrel;rw[HK.c] at hk hj;obtain ⟨p,hp⟩:∃ p,10 ^ j=p:=⟨_,rfl⟩
         obtain ⟨q,hq⟩:∃ q,Zp.num (ck.take j)=q:=⟨_,rfl⟩
         have hcka:ck.all Zp.isDig=true:=(by have h:=HR.g;rw[HK.d,List.all_append,Bool.and_eq_true] at h;exact h.1);have hp9:(p:Int)<=1000000000:=(by have:=Q4A (j:=j) (by omega);omega);have hqp:q < p:=(by rw[<-hq, <-hp];have h:=UU (Q1M hcka j);rwa [eN_,Nat.min_eq_left (by rw[HK.c];exact hj)] at h);rw[hp,hq];rcases eS_ j n with h9 | h9
         ·have h9':(j:Int) < (n:Int):=(by omega);have hp8:(p:Int)<=100000000:=(by have h:10 ^ j<=10 ^ 8:=Nat.pow_le_pow_right (by decide) (by omega);have h2:(10:Nat) ^ 8=100000000:=(by decide);omega);have hq8:(q:Int)<=100000000:=(by omega);have hjl:j < ck.length:=(by rw[HK.c];exact h9);have hcell:=(HK.a j (by simpa using hjl)).1;rw[Nat.zero_add] at hcell;obtain ⟨d,hd⟩:∃ d,ck[j]=d:=⟨_,rfl⟩
          have hcd:ck.toArray[j]! =d:=(by rw[<-hd,getElem!_pos _ j (by simpa using hjl)];simp);rw[hcd] at hcell;have hdd:Zp.isDig d=true:=List.all_eq_true.1 hcka d (by rw[<-hd];exact List.getElem_mem hjl);unfold Zp.isDig at hdd;simp at hdd;obtain ⟨x,hx⟩:∃ x:Nat,d.toNat=x:=⟨_,rfl⟩
          unfold u8c at hcell;rw[hx] at hcell hdd;have hx1:(48:Int)<=(x:Int):=(by omega);have hx2:(x:Int)<=57:=(by omega);have hst:ck.take (j+1)=ck.take j++ [d]:=(by rw[<-hd,List.take_succ_eq_append_getElem hjl]);have HX:=h5_ hp hq hk hst hx;clear hp hq hk hst hx hcd hd hdd hcka hqp hjl;go_wp2_with fail;go_roundg (n - (j+1))
          case measure=> have:=HX.c;omega
          case rel=>
           refine ⟨j+1,?_,?_,rfl,by rw[HK.c],by rw[HK.c];omega,rfl⟩
           ·rw[Nat.pow_succ,HX.a];rfl
           ·rw[HX.d,Q1K,HX.b,HX.E];exact Q3A (by omega)
         ·obtain rfl:n=j:=(by omega);have hqe:Zp.num ck=q:=(by rw[<-hq, <-HK.c,List.take_length]);have HX:=h4_ hp hqe hqp hp9;clear hp hq hk hcka hqp hqe;go_wp2_with fail;refine (U6 (l:=Zp.digs B32 (Zp.num done)) (HR.b.below HK.b) (eE_ HR.h (by decide)) (Zp.Qo (by decide) _) p q (eE_ (Int.ofNat_le.1 HX.D) (by decide)) HX.c).mono ?_;rintro e w3 ⟨v3,rfl,hr3,hb3⟩;have htl:(Zp.scale B32 p (Zp.digs B32 (Zp.num done)) q).length<=1073741824:=(by rw[Zp.Yv];have:=HR.h;omega);have hdv:Zp.val B32 (Zp.scale B32 p (Zp.digs B32 (Zp.num done)) q)=Zp.num (done++ck):=by
           rw[Zp.Z7,Zp.Qi (by decide),Zp.Zo,HX.b,HK.c,HX.a]
          have hdg:Zp.Dig B32 (Zp.scale B32 p (Zp.digs B32 (Zp.num done)) q):=Zp.Z8 (eE_ (Int.ofNat_le.1 HX.D) (by decide)) _ _ (Zp.Qo (by decide) _) HX.c;have htr:=Zp.Xh (by decide) hdg;rw[hdv] at htr;obtain ⟨L,hL⟩:∃ L,Zp.scale B32 p (Zp.digs B32 (Zp.num done)) q=L:=⟨_,rfl⟩
          rw[hL] at hr3 htl htr;obtain ⟨a3,c3,rfl,_⟩:=hr3.form;have HS:=h4_ hr3 htl htr hb3;clear hr3 htl htr hdv hdg hb3 hL;dsimp only;go_wp2_with fail;refine (Xj HS.a HS.b).mono ?_;rintro e w4 ⟨rfl,rfl⟩;rw[HS.c];dsimp only;go_wp2_with fail;go_roundg dr.length
          case measure=> have h1:=HR.c;have h2:=HK.e;have h3:=HK.d;have h4:=HK.c;have h5:=congrArg List.length h3;rw[eC_] at h5;omega
          case rel=>
           refine ⟨done++ck,dr,a3,c3,?_,rfl,rfl,?_,rfl,?_,?_⟩
           ·rw[HR.a,HK.d,eQ_]
           ·have h:=HS.a.trim;rw[HS.c] at h;exact h
           ·have h1:=(HK.b.block _ (Q4 HR.d)).trans HR.d;exact (HS.D.block _ (Q4 h1)).trans h1
           ·have h1:=HR.e.trans (HK.b.mono HR.e.size);exact h1.trans (HS.D.mono h1.size)
   ·rw[if_pos (Or.inr (Or.inl (by simpa using hd)))] at hP2;subst hP2;have HT:Hid (¬ Lib.trimS (c::rs) [48,49,50,51,52,53,54,55,56,57]= []):=hd_ (fun e=> hd ((Uc (c::rs)).1 e));clear h60 hlr hd;go_in;go_wp2_with fail;refine (HC.o _).mono ?_;rintro e w1 ⟨rfl,rfl⟩;dsimp only;go_wp2_with fail;refine (Zc (l:=c::rs) HL.o _).mono ?_;rintro e w2 ⟨rfl,hb2⟩;obtain ⟨t,ht⟩:∃ t,Lib.trimS (c::rs) [48,49,50,51,52,53,54,55,56,57]=t:=⟨_,rfl⟩
    rw[ht] at HT;rw[ht];have HW:=h2_ ((hb2.block _ (Q4 HB.a)).trans HB.a) (HB.B.trans (hb2.mono HB.B.size));clear hb2 ht;dsimp only;cases t with
    | nil=> exact absurd rfl HT.o
    | cons t0 ts=>
     have zc0:=Q3 HW.a 0 rfl;have zc1:=Q3 HW.a 1 rfl;have z0:=Q6 HW.a 0;have z1:=Q6 HW.a 1;go_wp2_with fail;obtain ⟨y1,y2,y3⟩:=YR (ZU w2) HW.a rfl HW.B (rl_ _);exact eG_ (Y4 rfl rfl y1 rfl rfl) rfl ⟨⟨_,rfl,y2⟩,y3⟩
theorem RdD.trim {w:World} {a:Option Addr} {n c:Nat} {l:List Nat} (h:RdD w (.slice a n c) l):RdD w (.slice a (Zp.trim l).length c) (Zp.trim l):=by
 have h2:=h.cut (ZQ l);rw[<-Df] at h2;exact h2
theorem Zn.form {w:World} {v:Value} {z:Int} (h:Zn w v z):∃ a c,v= .agg #[.int .i64 (sgn z),.slice a (dg z).length c]/\RdD w (.slice a (dg z).length c) (dg z):=by
 obtain ⟨s,rfl,h2⟩:=h;obtain ⟨a,c,rfl,_⟩:=h2.form;exact ⟨a,c,rfl,h2⟩
theorem Zn.cells (h:Zn w v z):∃ cs,v= .agg cs/\cs.size=2/\∀ u∈cs.toList,u.oneCell'=true:=by
 obtain ⟨a,c,rfl,_⟩:=h.form;exact ⟨_,rfl,rfl,by simp[Value.oneCell']⟩
theorem X1:(prog.info? 48).map (·.size)=some 2:=by kernel_rfl
theorem XO {ops:Array Oper} {rest:List Oper} {o:Oper} {a:Act} {Q:Exit->Act->World->Prop} {w1:World} (hgd:o.guard=none) (x v:Operand) (ho:o.op= .store 48 x v)
  {g:Nat} {zs:Array Value} (hx:a.eval x= .pointer (some ⟨g,0,none⟩)) (hg:w1.heap[g]? =some (.cells zs 48 (0,0))) (hz:zs.size=2) {val:Value} {z:Int} (hv:a.eval v=val) (hn:Zn w1 val z)
  {B:Nat} {w0:World} (hB:B<=g) (hb:Below B w0 w1)
  (h:∀ W cs,W=w1.setRow g cs->val= .agg cs->W.heap[g]? =some (.cells cs 48 (0,0))->cs.size=2->Zn W val z->Below B w0 W->FrT [48] w1 W->wpList prog ops Q rest (a.put o.dst undef) W):
  wpList prog ops Q (o::rest) a w1:=by
 obtain ⟨cs,rfl,hs,h1⟩:=hn.cells;refine Qc hgd _ x v ho _ g zs cs hx hg hv (by rw[hz,hs]) (by rw[hs];exact X1) h1 ?_;exact h _ cs rfl rfl (Qb hg) hs (hn.frt (Qe hg) (by decide)) (Q9 hb hB cs) (Qe hg)
theorem YF {fn:Func} {p:Tmp} (h:fn.results= #[.cell p 48]) (hp:tmps.getD p undef= .pointer (some ⟨g,0,none⟩)) (hg:w.heap[g]? =some (.cells cs 48 (0,0))) (hs:cs.size=2):
  (results fn tmps).run prog w= .ok (.agg cs) w:=
 eY_ h _ _ g _ _ _ _ hp hg underlying48 rfl (by rw[hs];exact X1)
theorem Dp {w3:World} {a3:Option Addr} {c3:Nat} (hn:Zn w3 (.agg #[.int .i64 b,.slice a3 n c3]) z) (hg:w3.heap[g]? =some (.cells cs 48 (0,0))) (hs:cs.size=2) (hb:Below B w w3) (hB:B<=g):
  ((w3.setCell ⟨g,0,none⟩ (.int .i64 b)).setCell ⟨g,1,none⟩ (.slice a3 n c3)).heap[g]? =some (.cells #[.int .i64 b,.slice a3 n c3] 48 (0,0))/\
  Zn ((w3.setCell ⟨g,0,none⟩ (.int .i64 b)).setCell ⟨g,1,none⟩ (.slice a3 n c3)) (.agg #[.int .i64 b,.slice a3 n c3]) z/\
  Below B w ((w3.setCell ⟨g,0,none⟩ (.int .i64 b)).setCell ⟨g,1,none⟩ (.slice a3 n c3)):=by
 rw[YD hg hs];exact ⟨Qb hg,hn.frt (Qe hg) (by decide),Q9 hb hB _⟩
theorem JM (hd:Zp.Dig 10 l):(Zp.trim l).length=0↔Zp.val 10 l=0:=by
 rw[Zp.Xh (by decide) hd,List.length_eq_zero_iff,Zp.Xy (by decide)]
theorem Q7W (hd:Zp.Dig 10 l) {s z:Int} (hz:z=s*(Zp.val 10 l:Nat)) (h0:(Zp.trim l).length=0):Zn w (.agg #[.int .i64 0,.slice none 0 0]) z:=by
 rw[(JM hd).1 h0] at hz;obtain rfl:z=0:=by rw[hz];simp
 exact Zn.zero w
theorem Q7X (hd:Zp.Dig 10 l) {s z:Int} (hz:z=s*(Zp.val 10 l:Nat)) (hs:s=1\/s=-1) (h0:(Zp.trim l).length≠0) (h:RdD w (.slice a (Zp.trim l).length c) (Zp.trim l)):
  Zn w (.agg #[.int .i64 s,.slice a (Zp.trim l).length c]) z:=by
 have hv:Zp.val 10 l≠0:=fun e=> h0 ((JM hd).2 e);have hw:dg z=Zp.trim l:=by
  rw[Zp.Xh (by decide) hd,dg,hz];rcases hs with rfl | rfl <;> simp
 have hsg:sgn z=s:=by
  rw[hz];unfold sgn;rcases hs with rfl | rfl
  ·rw[if_neg (by omega),if_neg (by omega)]
  ·rw[if_pos (by omega)]
 exact ⟨_,by rw[hsg],by rw[hw];exact h⟩
def LieAt (B:Nat) (v:Value):Prop:=∀ b off i n c,v= .slice (some ⟨b,off,i⟩) n c->B<=b\/n=0
theorem LieAt.nil (B:Nat):LieAt B (.slice none 0 0):=fun _ _ _ _ _ h=> by simp at h
theorem LieAt.less (h:LieAt B (.slice a n c)) (hm:m<=n):LieAt B (.slice a m c):=fun b off i n2 c2 e=> by
 injection e with e1 e2 e3;subst e1 e2 e3;exact (h b off i n c rfl).imp_right fun h0=> by omega
theorem Q4B (h:LieAt B v):∀ x y,Value.agg #[.int .i64 s,v]= .agg #[x,y]->LieAt B y:=fun x y e=> by
 injection e with e;simp at e;exact e.2 ▸ h
def MdRel (w:World) (l:List Nat) (k:Nat) (v5:Value) (wr:World):Prop:=∃ j:Nat,v5= .int .i64 j/\k=j/\j<=l.length/\wr=w/\∀ i,j<=i->i < l.length->l[i]! =0
theorem Dq (h:RdD w v l) (hl:l.length<=1073741824) (hd:Zp.Dig 10 l) (s z:Int) (hz:z=s*(Zp.val 10 l:Nat)) (hs:s=1\/s=-1\/Zp.val 10 l=0):
  Calls prog 65 #[.int .i64 s,v] w fun e w'=> ∃ v',e= .returned v'/\Zn w' v' z/\Below w.heap.size w w'/\∀ B,LieAt B v->∀ x y,v'= .agg #[x,y]->LieAt B y:=by
 obtain ⟨a,c,rfl,hc⟩:=h.form;have hl':(l.length:Int)<=1073741824:=by omega
 have HR:=hd_ h;have hlen:∀ n,n<=l.length->Zp.trim l=l.take n->(Zp.trim l).length=n:=fun n hn e=> by rw[e,eN_,Nat.min_eq_left hn]
 have HL:=h4_ hlen hd hz hs;clear h hlen hd hz hs;go_in;go_wp2_with fail;obtain ⟨V,hV⟩:∃ V,w.alloc (.cells #[.int .i64 0,.slice none 0 0] 48)=V:=⟨_,rfl⟩
 have hbx:=box1 w #[.int .i64 0,.slice none 0 0] 48;rw[hV] at hbx |-;have HV:=hd_ hbx;have r0:=Q3 hbx.1 0 rfl;have r1:=Q3 hbx.1 1 rfl;have z0:=Q6 hbx.1 0;have z1:=Q6 hbx.1 1;clear hV hbx;go_loopg [5] l.length (fun k v5 wr=> MdRel V l k v5 wr)
 case atStart=> exact ⟨l.length,rfl,rfl,rl_ _,rfl,fun i h1 h2=> absurd h2 (by omega)⟩
 case round=>
  obtain ⟨j,rfl,hk,hj,rfl,hall⟩:=hrel;have HK:=hd_ hk;have HA:=hd_ hall;clear hk hall;rcases Nat.eq_zero_or_pos j with rfl | h0
  ·go_wp2_with fail;have ht:=HL.a 0 (eV_ _) (Zp.Z5 l 0 (eV_ _) HA.o (Or.inl rfl));obtain ⟨y1,y2,y3⟩:=Dp (z:=z) (Q7W HL.b HL.c ht) HV.a rfl HV.B (rl_ _);exact eG_ (YF rfl rfl y1 rfl) rfl ⟨_,rfl,y2,y3,fun B _=> Q4B (LieAt.nil B)⟩
  ·obtain ⟨m,rfl⟩:∃ m,j=m+1:=⟨j - 1,by omega⟩
   obtain ⟨b,off,rfl,hcell⟩:=(HR.o.below HV.B).cell (i:=m) (by omega);have hm:(m:Int) < (l.length:Int):=(by omega);obtain ⟨d,hd⟩:∃ d,l[m]! =d:=⟨_,rfl⟩
   rw[hd] at hcell;have HZ:=hd_ hd;clear hd;by_cases hz:d=0
   ·subst hz;go_wp2_with fail;go_roundg m
    case measure=> have:=HK.o;omega
    case rel=>
     refine ⟨m,by go_num,rfl,by omega,rfl,fun i h1 h2=> ?_⟩;by_cases e:i=m
     ·rw[e];exact HZ.o
     ·exact HA.o i (by omega) h2
   ·have hz':((d:Int)==0)=false:=(by simp;omega);go_wp2_with fail;have ht:=HL.a (m+1) hj (Zp.Z5 l (m+1) hj HA.o (Or.inr (by show l[m]! ≠0;rw[HZ.o];exact hz)));have h2:=(HR.o.below HV.B).trim;have h3:=Q7X HL.b HL.c (by rcases HL.D with h | h | h;exact Or.inl h;exact Or.inr h;exact absurd ((JM HL.b).2 h) (by omega)) (by omega) h2;rw[ht] at h3;obtain ⟨y1,y2,y3⟩:=Dp (z:=z) h3 HV.a rfl HV.B (rl_ _);exact eG_ (YF rfl rfl y1 rfl) rfl ⟨_,rfl,y2,y3,fun B h=> Q4B (h.less hj)⟩
theorem X4 (h:RdD w v l) (hl:l.length<=1073741824) (hd:Zp.Dig 10 l) (s z:Int) (hz:z=s*(Zp.val 10 l:Nat)) (hs:s=1\/s=-1\/Zp.val 10 l=0):
  Calls prog 65 #[.int .i64 s,v] w fun e w'=> ∃ v',e= .returned v'/\Zn w' v' z/\Below w.heap.size w w':=by
 refine (Dq h hl hd s z hz hs).mono ?_;rintro e w' ⟨v',rfl,h1,h2,_⟩;exact ⟨v',rfl,h1,h2⟩
theorem Dr (h:(Zp.digs 10 X).length < (Zp.digs 10 Y).length):X < Y:=by
 have:=Zp.Lr (by decide) (Zp.Qo (B:=10) (by decide) X) h;rwa [Zp.Qi (by decide)] at this
theorem Q6R {e:Nat} (hl:(Zp.digs 10 X).length=(Zp.digs 10 Y).length) (hd:(Zp.digs 10 X).drop (j+1)=(Zp.digs 10 Y).drop (j+1)) (hx:(Zp.digs 10 X)[j]? =some d) (hy:(Zp.digs 10 Y)[j]? =some e) (hn:d≠e):
  Zp.ord X Y=if d < e then -1 else 1:=by
 have hj:=(List.getElem?_eq_some_iff.1 hx).1;have hx2:(Zp.digs 10 X)[j]! =d:=by rw[getElem!_pos _ j hj];exact (List.getElem?_eq_some_iff.1 hx).2
 have hy2:(Zp.digs 10 Y)[j]! =e:=by rw[getElem!_pos _ j (by omega)];exact (List.getElem?_eq_some_iff.1 hy).2
 rcases Nat.lt_or_gt_of_ne hn with h | h
 ·have h1:=Zp.J7 (by decide) (Zp.Qo (B:=10) (by decide) X) j hj (by omega) hd (by rw[hx2,hy2];exact h);rw[Zp.Qi (by decide),Zp.Qi (by decide)] at h1;rw[if_pos h,Zp.ord,if_pos h1]
 ·have h1:=Zp.J7 (by decide) (Zp.Qo (B:=10) (by decide) Y) j (by omega) hj hd.symm (by rw[hx2,hy2];exact h);rw[Zp.Qi (by decide),Zp.Qi (by decide)] at h1;rw[if_neg (by omega),Zp.ord,if_neg (by omega),if_neg (by omega)]
theorem Q5k (hd:(Zp.digs 10 X).drop 0=(Zp.digs 10 Y).drop 0):Zp.ord X Y=0:=by
 have h:=congrArg (Zp.val 10) hd;rw[List.drop_zero,List.drop_zero,Zp.Qi (by decide),Zp.Qi (by decide)] at h;rw[Zp.ord,if_neg (by omega),if_pos h]
theorem ZV (hx:RdD w vx (Zp.digs 10 X)) (hy:RdD w vy (Zp.digs 10 Y)) (hlx:(Zp.digs 10 X).length<=1073741823) (hly:(Zp.digs 10 Y).length<=1073741823):
  Calls prog 70 #[vx,vy] w fun e w'=> e= .returned (.int .i64 (Zp.ord X Y))/\Below w.heap.size w w':=by
 obtain ⟨ax,cx,rfl,hcx⟩:=hx.form;obtain ⟨ay,cy,rfl,hcy⟩:=hy.form;obtain ⟨x,hxe⟩:∃ x,Zp.digs 10 X=x:=⟨_,rfl⟩
 obtain ⟨y,hye⟩:∃ y,Zp.digs 10 Y=y:=⟨_,rfl⟩
 have hdx:=Zp.Qo (B:=10) (by decide) X;have hdy:=Zp.Qo (B:=10) (by decide) Y;have HL:Hid (∀ h:x.length < y.length,X < Y):=hd_ fun h=> Dr (by rw[hxe,hye];exact h);have HG:Hid (∀ h:y.length < x.length,Y < X):=hd_ fun h=> Dr (by rw[hxe,hye];exact h);have HT:Hid (∀ (j d e:Nat) (hl:x.length=y.length) (hd:x.drop (j+1)=y.drop (j+1)) (hx:x[j]? =some d) (hy:y[j]? =some e) (hn:d≠e),Zp.ord X Y=if d < e then -1 else 1):=
  hd_ fun j d e hl hd h1 h2 h3=> Q6R (by rw[hxe,hye];exact hl) (by rw[hxe,hye];exact hd) (by rw[hxe];exact h1) (by rw[hye];exact h2) h3
 have HS:Hid (∀ (hd:x.drop 0=y.drop 0),Zp.ord X Y=0):=hd_ fun hd=> Q5k (by rw[hxe,hye];exact hd);rw[hxe] at hx hlx hcx hdx |-;rw[hye] at hy hly hcy hdy |-;have HX:=h2_ hx hdx;have HY:=h2_ hy hdy;have hX':(x.length:Int)<=1073741823:=by omega
 have hY':(y.length:Int)<=1073741823:=by omega
 obtain ⟨o,ho⟩:∃ o,Zp.ord X Y=o:=⟨_,rfl⟩
 rw[ho] at HT HS |-;have HO:=hd_ ho;clear hx hy hdx hdy hxe hye ho;by_cases hc:x.length=y.length
 ·have hq1:decide (x.length < y.length)=false:=eK_ (by omega);have hq2:decide (y.length < x.length)=false:=eK_ (by omega);have HC:=hd_ hc;clear hc;go_in;go_wp2_with fail;go_loopg [5] x.length (fun k v5 wr=> CmRel w x y k v5 wr)
  case atStart=> exact ⟨x.length,_,rfl,rfl,rfl,rl_ _,by rw[List.drop_of_length_le (rl_ _),List.drop_of_length_le (by rw[HC.o];exact rl_ _)],eB_ _ _⟩
  case round=>
   obtain ⟨j,i,rfl,hi,hk,hj,hdr,hb⟩:=hrel;have HR:=h4_ hk hj hdr hb;clear hk hdr hb;cases j with
   | zero=>
    obtain rfl:i=-1:=(by omega);clear hi;go_wp2_with fail;go_ret;refine ⟨?_,HR.D⟩;rw[HS.o HR.c];rfl
   | succ m=>
    obtain rfl:i=(m:Int):=(by omega);have hmx:(m:Int) < (x.length:Int):=(by omega);have hmy:(m:Int) < (y.length:Int):=(by have:=HC.o;omega);obtain ⟨d,hd1,hd2,hd3⟩:=QI HX.B m (by omega);obtain ⟨e,he1,he2,he3⟩:=QI HY.B m (by omega);obtain ⟨b1,o1,ex,hcx⟩:=(HX.a.below HR.D).cell (i:=m) (by omega);obtain ⟨b2,o2,ey,hcy⟩:=(HY.a.below HR.D).cell (i:=m) (by omega);rw[hd1] at hcx;rw[he1] at hcy;have HD:=h2_ hd2 he2;clear hd1 hd2 hd3 he1 he2 he3 hi;obtain rfl:=ex;obtain rfl:=ey;by_cases hlt:d < e
    ·have hq:decide (d < e)=true:=eM_ hlt;have ho:=HT.o m d e HC.o HR.c HD.a HD.B (by omega);rw[if_pos hlt] at ho;have HO2:=hd_ ho;clear ho hlt;go_wp2_with fail;go_quiet (fail);go_wp2_with fail;go_ret;exact ⟨by rw[HO2.o];rfl,HR.D.trans (Qf _ _)⟩
    ·have hq:decide (d < e)=false:=eK_ hlt;by_cases hgt:e < d
     ·have hq3:decide (e < d)=true:=eM_ hgt;have ho:=HT.o m d e HC.o HR.c HD.a HD.B (by omega);rw[if_neg hlt] at ho;have HO2:=hd_ ho;clear ho hlt hgt;go_wp2_with fail;go_quiet (fail);go_wp2_with fail;go_quiet (fail);go_wp2_with fail;go_ret
      first | exact ⟨by rw[HO2.o];rfl,HR.D.trans (Qf _ _)⟩ | exact ⟨by rw[HO2.o];rfl,HR.D.trans ((Qf _ _).trans (Qf _ _))⟩
     ·have hq3:decide (e < d)=false:=eK_ hgt;obtain rfl:d=e:=(by omega);clear hlt hgt;go_wp2_with fail;go_quiet (fail);go_wp2_with fail;go_quiet (fail);go_wp2_with fail;go_roundg m
      case measure=> have:=HR.a;omega
      case rel=>
       have hds:=Zp.Ls m (by omega) (by omega) HR.c (by rw[getElem!_pos _ _ (by omega),getElem!_pos _ _ (by omega),(List.getElem?_eq_some_iff.1 HD.a).2,(List.getElem?_eq_some_iff.1 HD.B).2])
       first
        | exact ⟨m,_,rfl,rfl,rfl,by omega,hds,HR.D.trans (Qf _ _)⟩
        | exact ⟨m,_,rfl,rfl,rfl,by omega,hds,HR.D.trans ((Qf _ _).trans (Qf _ _))⟩
 ·by_cases hlt:x.length < y.length
  ·have hq1:decide (x.length < y.length)=true:=eM_ hlt;have ho:o=-1:=(by rw[<-HO.o,Zp.ord,if_pos (HL.o hlt)]);subst ho;clear hc hlt;go_in;go_wp2_with fail;go_ret;exact ⟨rfl,eB_ _ _⟩
  ·have hq1:decide (x.length < y.length)=false:=eK_ hlt;have hq2:decide (y.length < x.length)=true:=eM_ (by omega);have ho:o=1:=by
    have:=HG.o (by omega);rw[<-HO.o,Zp.ord,if_neg (by omega),if_neg (by omega)]
   subst ho;clear hc hlt;go_in;go_wp2_with fail;go_ret;exact ⟨rfl,eB_ _ _⟩
theorem UV (z:Int): -1<=sgn z/\sgn z<=1:=by
 unfold sgn;split
 ·omega
 ·split <;> omega
theorem XM {b:Nat} {done:List Nat} {e:Int} (h:w.ownsRow b 3 1 v n (natCells done++ [.int .i64 e])) (he:e=(q:Int)):w.ownsRow b 3 1 v n (natCells (done++ [q])):=by
 subst he;rw[Q6C];exact h
theorem UW {k:IntKind} {a:Int} (h:a=b):Value.int k a=Value.int k b:=by rw[h]
theorem XB (B:Nat) (l:List Nat) (d:Nat):Zp.val B (l++ [d])=Zp.val B l+B ^ l.length*d:=by
 rw[Zp.Y7];simp[Zp.val]
theorem X5 (h:l[i]? =some d):Zp.val B (l.drop i)=d+B*Zp.val B (l.drop (i+1)):=by rw[X7 h];rfl
theorem XF (h:l.length<=i):Zp.val B (l.drop i)=0+B*Zp.val B (l.drop (i+1)):=by
 rw[List.drop_of_length_le h,List.drop_of_length_le (by omega)];simp[Zp.val]
theorem Xl (h:Zp.Dig 10 l) (hd:d < 10):Zp.Dig 10 (l++ [d]):=h.append (Zp.Dig.cons hd Zp.Dig.nil)
theorem Ud {D x y S:Nat} (h:D+P*((x+10*X)+(y+10*Y)+c)=S):D+P*((c+x+y) % 10)+P*10*(X+Y+(c+x+y) / 10)=S:=by
 rw[<-h,Nat.mul_assoc,Nat.add_assoc, <-Nat.mul_add];congr 2;have:=Nat.mod_add_div (c+x+y) 10;omega
def DOut (w:World) (P:List Nat->Prop) (e:Ending) (w':World):Prop:=∃ v' l,e= .returned v'/\RdD w' v' l/\P l/\Below w.heap.size w w'
theorem Q4C {base:Nat} {T:TypeId} {l:List Value} (h:w.ownsRow base T 1 v n l):LieAt base v:=by
 intro b off i n2 c e;obtain ⟨_,h | ⟨g,cap,cur,rfl,hb,_⟩⟩:=h
 ·rw[h.1] at e;simp at e
 ·injection e with e1 e2 e3;injection e1 with e1;injection e1 with e1;exact Or.inl (e1 ▸ hb)
def PdRel (w:World) (x y:List Nat) (k:Nat) (v5 v6 v7:Value) (wr:World):Prop:=
 ∃ (a:Option Addr) (cc i c:Nat) (done:List Nat),v5= .slice a i cc/\v6= .int .i64 c/\v7= .int .i64 i/\k=max x.length y.length+1 - i/\i<=max x.length y.length+1/\(i=max x.length y.length+1->c=0)/\c<=1/\done.length=i/\Zp.Dig 10 done/\
  wr.ownsRow w.heap.size 3 1 (.slice a i cc) i (natCells done)/\Zp.val 10 done+10 ^ i*(Zp.val 10 (x.drop i)+Zp.val 10 (y.drop i)+c)=Zp.val 10 x+Zp.val 10 y/\Below w.heap.size w wr
theorem Q1N {x y:List Nat} (hx:RdD w vx x) (hy:RdD w vy y) (hlx:x.length<=1073741820) (hly:y.length<=1073741820) (hdx:Zp.Dig 10 x) (hdy:Zp.Dig 10 y):
  Calls prog 69 #[vx,vy] w (DOut w fun l=> Zp.Dig 10 l/\l.length<=max x.length y.length+1/\Zp.val 10 l=Zp.val 10 x+Zp.val 10 y):=by
 obtain ⟨ax,cx,rfl,hcx⟩:=hx.form;obtain ⟨ay,cy,rfl,hcy⟩:=hy.form;have HX:=h2_ hx hdx;have HY:=h2_ hy hdy;have hX':(x.length:Int)<=1073741820:=by omega
 have hY':(y.length:Int)<=1073741820:=by omega
 clear hx hy hdx hdy;go_in;go_wp2_with fail;go_loopg [5,6,7] (max x.length y.length+1) (fun k v5 v6 v7 wr=> PdRel w x y k v5 v6 v7 wr)
 case atStart=> exact ⟨none,0,0,0, [],rfl,rfl,rfl,rfl,eV_ _,by omega,eV_ _,rfl,Zp.Dig.nil,World.ownsRow_nil _ _ _ _,by simp[Zp.val],eB_ _ _⟩
 case round=>
  obtain ⟨a,cc,i,c,done,rfl,rfl,rfl,hk,hi,hi2,hc,hdl,hdd,hown,hval,hb⟩:=hrel;have HR:=h9_ hk hi hi2 hc hdl hdd hown hval hb;have hi':(i:Int)<=1073741821:=by omega
  have hc1:(c:Int)<=1:=by omega
  clear hk hi2 hdl hdd hown hval hb;by_cases hx1:i < x.length
  ·have hcelli:(i:Int) < (x.length:Int):=(by omega);obtain ⟨d,hd1,hd2,hd3⟩:=QI HX.B i (by omega);obtain ⟨b1,o1,e1,hcell⟩:=(HX.a.below HR.I).cell (i:=i) (by omega);rw[hd1] at hcell;have HD:=hd_ hd2;have db:(d:Int)<=9:=(by omega);clear hd1 hd2 hd3;obtain rfl:=e1;by_cases hy1:i < y.length
   ·have hcell2i:(i:Int) < (y.length:Int):=(by omega);obtain ⟨d2,hd1,hd2,hd3⟩:=QI HY.B i (by omega);obtain ⟨b2,o2,e1,hcell2⟩:=(HY.a.below HR.I).cell (i:=i) (by omega);rw[hd1] at hcell2;have HE:=hd_ hd2;have d2b:(d2:Int)<=9:=(by omega);clear hd1 hd2 hd3;obtain rfl:=e1;go_wp2_with (first
     | (refine app1 rfl _ _ XN rfl rfl HR.g (rl_ _) HR.I.size HR.I _ rfl rfl rfl (by omega) ?_;rintro a2 c2 w2 ho2 hb2 -;have HA:=h2_ ho2 hb2;clear ho2 hb2))
    go_roundg (max x.length y.length+1 - (i+1))
    case measure=> have:=HR.a;have:=HR.b;have:=HR.c;omega
    case rel=>
     refine ⟨a2,c2,i+1,(c+d+d2) / 10,done++ [(c+d+d2) % 10],rfl,UW (by omega),by go_num,rfl,by omega,by omega,by omega,by simp[HR.e],Xl HR.f (by omega),XM HA.a (by omega),?_,HA.B⟩;have h1:=HR.h;rw[X5 HD.o,X5 HE.o] at h1;rw[XB,HR.e,Nat.pow_succ];exact Ud h1
   ·have hy2:¬ (i:Int) < (y.length:Int):=(by omega);go_wp2_with (first
     | (refine app1 rfl _ _ XN rfl rfl HR.g (rl_ _) HR.I.size HR.I _ rfl rfl rfl (by omega) ?_;rintro a2 c2 w2 ho2 hb2 -;have HA:=h2_ ho2 hb2;clear ho2 hb2))
    go_roundg (max x.length y.length+1 - (i+1))
    case measure=> have:=HR.a;have:=HR.b;have:=HR.c;omega
    case rel=>
     refine ⟨a2,c2,i+1,(c+d+0) / 10,done++ [(c+d+0) % 10],rfl,UW (by omega),by go_num,rfl,by omega,by omega,by omega,by simp[HR.e],Xl HR.f (by omega),XM HA.a (by omega),?_,HA.B⟩;have h1:=HR.h;rw[X5 HD.o,XF (l:=y) (i:=i) (by omega)] at h1;rw[XB,HR.e,Nat.pow_succ];exact Ud h1
  ·have hx2:¬ (i:Int) < (x.length:Int):=(by omega);by_cases hy1:i < y.length
   ·have hcell2i:(i:Int) < (y.length:Int):=(by omega);obtain ⟨d2,hd1,hd2,hd3⟩:=QI HY.B i (by omega);obtain ⟨b2,o2,e1,hcell2⟩:=(HY.a.below HR.I).cell (i:=i) (by omega);rw[hd1] at hcell2;have HE:=hd_ hd2;have d2b:(d2:Int)<=9:=(by omega);clear hd1 hd2 hd3;obtain rfl:=e1;go_wp2_with (first
     | (refine app1 rfl _ _ XN rfl rfl HR.g (rl_ _) HR.I.size HR.I _ rfl rfl rfl (by omega) ?_;rintro a2 c2 w2 ho2 hb2 -;have HA:=h2_ ho2 hb2;clear ho2 hb2))
    go_roundg (max x.length y.length+1 - (i+1))
    case measure=> have:=HR.a;have:=HR.b;have:=HR.c;omega
    case rel=>
     refine ⟨a2,c2,i+1,(c+0+d2) / 10,done++ [(c+0+d2) % 10],rfl,UW (by omega),by go_num,rfl,by omega,by omega,by omega,by simp[HR.e],Xl HR.f (by omega),XM HA.a (by omega),?_,HA.B⟩;have h1:=HR.h;rw[XF (l:=x) (i:=i) (by omega),X5 HE.o] at h1;rw[XB,HR.e,Nat.pow_succ];exact Ud h1
   ·have hy2:¬ (i:Int) < (y.length:Int):=(by omega);by_cases hc0:c=0
    ·subst hc0;go_wp2_with fail;go_ret;obtain ⟨-,q2,q3,q4,q5,q6,q7,q8,q9⟩:=HR.o;refine ⟨_,done,rfl,U5 q7,⟨q6,by omega,?_⟩,q9⟩;rw[List.drop_of_length_le (by omega),List.drop_of_length_le (by omega)] at q8;simpa [Zp.val] using q8
    ·obtain rfl:c=1:=(by omega);have hi3:i<=max x.length y.length:=(by have:=HR.b;have:=HR.c;omega);clear hc0;go_wp2_with (first
      | (refine app1 rfl _ _ XN rfl rfl HR.g (rl_ _) HR.I.size HR.I _ rfl rfl rfl (by omega) ?_;rintro a2 c2 w2 ho2 hb2 -;have HA:=h2_ ho2 hb2;clear ho2 hb2))
     go_roundg (max x.length y.length+1 - (i+1))
     case measure=> have:=HR.a;have:=HR.b;have:=HR.c;omega
     case rel=>
      refine ⟨a2,c2,i+1,(1+0+0) / 10,done++ [(1+0+0) % 10],rfl,UW (by omega),by go_num,rfl,by omega,by omega,by omega,by simp[HR.e],Xl HR.f (by omega),XM HA.a (by omega),?_,HA.B⟩;have h1:=HR.h;rw[XF (l:=x) (i:=i) (by omega),XF (l:=y) (i:=i) (by omega)] at h1;rw[XB,HR.e,Nat.pow_succ];exact Ud h1
def MdRel2 (w:World) (x y:List Nat) (k:Nat) (v5 v6 v7:Value) (wr:World):Prop:=
 ∃ (a:Option Addr) (cc i:Nat) (c:Int) (done:List Nat),v5= .slice a i cc/\v6= .int .i64 c/\v7= .int .i64 i/\k=x.length - i/\i<=x.length/\ -1<=c/\c<=0/\done.length=i/\Zp.Dig 10 done/\
  wr.ownsRow w.heap.size 3 1 (.slice a i cc) i (natCells done)/\((Zp.val 10 done:Nat):Int)+((10 ^ i:Nat):Int)*(((Zp.val 10 (x.drop i):Nat):Int) - ((Zp.val 10 (y.drop i):Nat):Int)+c)=((Zp.val 10 x:Nat):Int) - ((Zp.val 10 y:Nat):Int)/\Below w.heap.size w wr
theorem Ue {D P X Y c S nc:Int} (h:D+P*((x+10*X) - (y+10*Y)+c)=S) (hs:c+x - y=s+10*nc):D+P*s+P*10*(X - Y+nc)=S:=by
 rw[<-h,Int.mul_assoc,Int.add_assoc, <-Int.mul_add];congr 2;omega
theorem LQ {x y:List Nat} (hx:RdD w vx x) (hy:RdD w vy y) (hlx:x.length<=1073741820) (hly:y.length<=x.length) (hdx:Zp.Dig 10 x) (hdy:Zp.Dig 10 y) (hle:Zp.val 10 y<=Zp.val 10 x):
  Calls prog 71 #[vx,vy] w fun e w'=> ∃ v' l,e= .returned v'/\RdD w' v' l/\(Zp.Dig 10 l/\l.length=x.length/\Zp.val 10 l=Zp.val 10 x - Zp.val 10 y)/\Below w.heap.size w w'/\LieAt w.heap.size v':=by
 obtain ⟨ax,cx,rfl,hcx⟩:=hx.form;obtain ⟨ay,cy,rfl,hcy⟩:=hy.form;have HX:=h2_ hx hdx;have HY:=h4_ hy hdy hle hly;have hX':(x.length:Int)<=1073741820:=by omega
 have hY':(y.length:Int)<=1073741820:=by omega
 clear hx hy hdx hdy hle;go_in;go_wp2_with fail;go_loopg [5,6,7] x.length (fun k v5 v6 v7 wr=> MdRel2 w x y k v5 v6 v7 wr)
 case atStart=> exact ⟨none,0,0,0, [],rfl,rfl,rfl,rfl,eV_ _,by decide,by decide,rfl,Zp.Dig.nil,World.ownsRow_nil _ _ _ _,by simp[Zp.val],eB_ _ _⟩
 case round=>
  obtain ⟨a,cc,i,c,done,rfl,rfl,rfl,hk,hi,hc1,hc2,hdl,hdd,hown,hval,hb⟩:=hrel;have HR:=h7_ hk hi hdl hdd hown hval hb;clear hk hdl hdd hown hval hb;by_cases hx1:i < x.length
  ·have hcelli:(i:Int) < (x.length:Int):=(by omega);obtain ⟨d,hd1,hd2,hd3⟩:=QI HX.B i (by omega);obtain ⟨b1,o1,e1,hcell⟩:=(HX.a.below HR.G).cell (i:=i) (by omega);rw[hd1] at hcell;have HD:=hd_ hd2;have db:(d:Int)<=9:=(by omega);clear hd1 hd2 hd3;obtain rfl:=e1;by_cases hy1:i < y.length
   ·have hcell2i:(i:Int) < (y.length:Int):=(by omega);obtain ⟨d2,hd1,hd2,hd3⟩:=QI HY.b i (by omega);obtain ⟨b2,o2,e1,hcell2⟩:=(HY.a.below HR.G).cell (i:=i) (by omega);rw[hd1] at hcell2;have HE:=hd_ hd2;have d2b:(d2:Int)<=9:=(by omega);clear hd1 hd2 hd3;obtain rfl:=e1;by_cases hn:c+(d:Int) - (d2:Int) < 0
    ·have hn2:decide (c+(d:Int) - (d2:Int) < 0)=true:=eM_ hn;go_wp2_with (first
      | (refine app1 rfl _ _ XN rfl rfl HR.e (rl_ _) HR.G.size HR.G _ rfl rfl rfl (by omega) ?_;rintro a2 c2 w2 ho2 hb2 -;have HA:=h2_ ho2 hb2;clear ho2 hb2))
     go_roundg (x.length - (i+1))
     case measure=> have:=HR.a;omega
     case rel=>
      obtain ⟨q,hq⟩:∃ q:Nat,(q:Int)=c+d - d2+10:=⟨(c+d - d2+10).toNat,by omega⟩
      refine ⟨a2,c2,i+1,-1,done++ [q],rfl,rfl,by go_num,rfl,by omega,by decide,by decide,by simp[HR.c],Xl HR.d (by omega),XM HA.a (by omega),?_,HA.B⟩;have h1:=HR.f;rw[X5 HD.o,X5 HE.o] at h1;rw[XB,HR.c,Nat.pow_succ];simp only[Int.natCast_add,Int.natCast_mul] at h1 |-;exact Ue h1 (by omega)
    ·have hn2:decide (c+(d:Int) - (d2:Int) < 0)=false:=eK_ hn;go_wp2_with (first
      | (refine app1 rfl _ _ XN rfl rfl HR.e (rl_ _) HR.G.size HR.G _ rfl rfl rfl (by omega) ?_;rintro a2 c2 w2 ho2 hb2 -;have HA:=h2_ ho2 hb2;clear ho2 hb2))
     go_roundg (x.length - (i+1))
     case measure=> have:=HR.a;omega
     case rel=>
      obtain ⟨q,hq⟩:∃ q:Nat,(q:Int)=c+d - d2+0:=⟨(c+d - d2+0).toNat,by omega⟩
      refine ⟨a2,c2,i+1,0,done++ [q],rfl,rfl,by go_num,rfl,by omega,by decide,by decide,by simp[HR.c],Xl HR.d (by omega),XM HA.a (by omega),?_,HA.B⟩;have h1:=HR.f;rw[X5 HD.o,X5 HE.o] at h1;rw[XB,HR.c,Nat.pow_succ];simp only[Int.natCast_add,Int.natCast_mul] at h1 |-;exact Ue h1 (by omega)
   ·have hy2:¬ (i:Int) < (y.length:Int):=(by omega);by_cases hn:c+(d:Int) < 0
    ·have hn2:decide (c+(d:Int) < 0)=true:=eM_ hn;go_wp2_with (first
      | (refine app1 rfl _ _ XN rfl rfl HR.e (rl_ _) HR.G.size HR.G _ rfl rfl rfl (by omega) ?_;rintro a2 c2 w2 ho2 hb2 -;have HA:=h2_ ho2 hb2;clear ho2 hb2))
     go_roundg (x.length - (i+1))
     case measure=> have:=HR.a;omega
     case rel=>
      obtain ⟨q,hq⟩:∃ q:Nat,(q:Int)=c+d - 0+10:=⟨(c+d - 0+10).toNat,by omega⟩
      refine ⟨a2,c2,i+1,-1,done++ [q],rfl,rfl,by go_num,rfl,by omega,by decide,by decide,by simp[HR.c],Xl HR.d (by omega),XM HA.a (by omega),?_,HA.B⟩;have h1:=HR.f;rw[X5 HD.o,XF (l:=y) (i:=i) (by omega)] at h1;rw[XB,HR.c,Nat.pow_succ];simp only[Int.natCast_add,Int.natCast_mul] at h1 |-;exact Ue h1 (by omega)
    ·have hn2:decide (c+(d:Int) < 0)=false:=eK_ hn;go_wp2_with (first
      | (refine app1 rfl _ _ XN rfl rfl HR.e (rl_ _) HR.G.size HR.G _ rfl rfl rfl (by omega) ?_;rintro a2 c2 w2 ho2 hb2 -;have HA:=h2_ ho2 hb2;clear ho2 hb2))
     go_roundg (x.length - (i+1))
     case measure=> have:=HR.a;omega
     case rel=>
      obtain ⟨q,hq⟩:∃ q:Nat,(q:Int)=c+d - 0+0:=⟨(c+d - 0+0).toNat,by omega⟩
      refine ⟨a2,c2,i+1,0,done++ [q],rfl,rfl,by go_num,rfl,by omega,by decide,by decide,by simp[HR.c],Xl HR.d (by omega),XM HA.a (by omega),?_,HA.B⟩;have h1:=HR.f;rw[X5 HD.o,XF (l:=y) (i:=i) (by omega)] at h1;rw[XB,HR.c,Nat.pow_succ];simp only[Int.natCast_add,Int.natCast_mul] at h1 |-;exact Ue h1 (by omega)
  ·obtain rfl:x.length=i:=(by omega);go_wp2_with fail;go_ret;obtain ⟨-,q2,q3,q4,q5,q6,q7⟩:=HR.o;refine ⟨_,done,rfl,U5 q5,⟨q4,q3,?_⟩,q7,Q4C q5⟩;have hdl:=Zp.Xs (by decide) q4;rw[q3] at hdl;rw[List.drop_length,List.drop_of_length_le HY.D] at q6;have hle:=HY.c;simp only[Zp.val] at q6;have hc0:c=0\/c=-1:=(by omega);rcases hc0 with rfl | rfl
   ·omega
   ·omega
theorem Uf {x y:List Nat} (hx:RdD w vx x) (hy:RdD w vy y) (hlx:x.length<=1073741820) (hly:y.length<=x.length) (hdx:Zp.Dig 10 x) (hdy:Zp.Dig 10 y) (hle:Zp.val 10 y<=Zp.val 10 x):
  Calls prog 71 #[vx,vy] w (DOut w fun l=> Zp.Dig 10 l/\l.length=x.length/\Zp.val 10 l=Zp.val 10 x - Zp.val 10 y):=by
 refine (LQ hx hy hlx hly hdx hdy hle).mono ?_;rintro e w' ⟨v',l,rfl,h1,h2,h3,_⟩;exact ⟨v',l,rfl,h1,h2,h3⟩
theorem X2 (z:Int):(z=0/\sgn z=0)\/(0 < z/\sgn z=1)\/(z < 0/\sgn z=-1):=by
 unfold sgn;by_cases h1:z < 0
 ·rw[if_pos h1];omega
 ·by_cases h2:z=0
  ·rw[if_neg h1,if_pos h2];omega
  ·rw[if_neg h1,if_neg h2];omega
theorem LR (h:y.natAbs<=x.natAbs):(dg y).length<=(dg x).length:=by
 rcases eS_ (dg x).length (dg y).length with h1 | h1
 ·have:=Dr (X:=x.natAbs) (Y:=y.natAbs) h1;omega
 ·exact h1
theorem JN (hx:Zn w vx x) (hy:Zn w vy y) (hlx:(dg x).length<=1073741810) (hly:(dg y).length<=1073741810):
  Calls prog 27 #[vx,vy] w fun e w'=> ∃ v',e= .returned v'/\Zn w' v' (x+y)/\Below w.heap.size w w':=by
 obtain ⟨ax,cx,rfl,hrx⟩:=hx.form;obtain ⟨ay,cy,rfl,hry⟩:=hy.form;obtain ⟨sx,hsx⟩:∃ s,sgn x=s:=⟨_,rfl⟩
 obtain ⟨sy,hsy⟩:∃ s,sgn y=s:=⟨_,rfl⟩
 have hcx:=X2 x;have hcy:=X2 y;rw[hsx] at hcx hx |-;rw[hsy] at hcy hy |-;have HH:=h6_ hrx hry hlx hly hx hy;have HB:=hd_ (box3 w #[.int .i64 sx,.slice ax (dg x).length cx] 48 #[.int .i64 sy,.slice ay (dg y).length cy] 48 #[.int .i64 0,.slice none 0 0] 48);by_cases h0:sx=0
 ·have hy2:x+y=y:=by omega
  rw[hy2];subst h0;clear hx hy hrx hry hlx hly hsx hsy hcx hcy hy2;go_in;go_wp2_with fail;have hn:Zn (((w.alloc (.cells #[.int .i64 0,.slice ax (dg x).length cx] 48)).alloc (.cells #[.int .i64 sy,.slice ay (dg y).length cy] 48)).alloc (.cells #[.int .i64 sy,.slice ay (dg y).length cy] 48)) (.agg #[.int .i64 sy,.slice ay (dg y).length cy]) y:=HH.F.below (box3 w _ _ _ _ _ _).2.2.2;exact eG_ (YF rfl rfl (box3 w _ _ _ _ _ _).2.2.1 rfl) rfl ⟨_,rfl,hn,(box3 w _ _ _ _ _ _).2.2.2⟩
 have hs0:(sx==0)=false:=by simpa using h0
 by_cases h1:sy=0
 ·have hx2:x+y=x:=by omega
  rw[hx2];subst h1;clear hx hy hrx hry hlx hly hsx hsy hcx hcy hx2 h0;go_in;go_wp2_with fail;have hn:Zn (((w.alloc (.cells #[.int .i64 sx,.slice ax (dg x).length cx] 48)).alloc (.cells #[.int .i64 0,.slice ay (dg y).length cy] 48)).alloc (.cells #[.int .i64 sx,.slice ax (dg x).length cx] 48)) (.agg #[.int .i64 sx,.slice ax (dg x).length cx]) x:=HH.e.below (box3 w _ _ _ _ _ _).2.2.2;exact eG_ (YF rfl rfl (box3 w _ _ _ _ _ _).2.2.1 rfl) rfl ⟨_,rfl,hn,(box3 w _ _ _ _ _ _).2.2.2⟩
 have hs1:(sy==0)=false:=by simpa using h1
 by_cases hs:sx=sy
 ·subst hs;have HP:Hid (∀ W,Below w.heap.size w W->Calls prog 69 #[.slice ax (dg x).length cx,.slice ay (dg y).length cy] W (DOut W fun l=> Zp.Dig 10 l/\l.length<=max (dg x).length (dg y).length+1/\Zp.val 10 l=x.natAbs+y.natAbs)):=
   hd_ fun W hb=> by
    have h:=Q1N (hrx.below hb) (hry.below hb) (by omega) (by omega) (Yo x) (Yo y);rwa [XR,XR] at h
  have HS:Hid ((∀ l,Zp.val 10 l=x.natAbs+y.natAbs->x+y=sx*(Zp.val 10 l:Nat))/\(sx=1\/sx=-1)):=hd_ ⟨fun l hl=> by
   rw[hl];rcases hcx with h | h | h
   ·omega
   ·rw[h.2];omega
   ·rw[h.2];omega,by omega⟩
  clear hx hy hrx hry hlx hly hsx hsy hcx hcy h0 h1;go_in;go_wp2_with fail;obtain ⟨V,hV⟩:∃ V,((w.alloc (.cells #[.int .i64 sx,.slice ax (dg x).length cx] 48)).alloc (.cells #[.int .i64 sx,.slice ay (dg y).length cy] 48)).alloc (.cells #[.int .i64 0,.slice none 0 0] 48)=V:=⟨_,rfl⟩
  have hbx:=box3 w #[.int .i64 sx,.slice ax (dg x).length cx] 48 #[.int .i64 sx,.slice ay (dg y).length cy] 48 #[.int .i64 0,.slice none 0 0] 48;rw[hV] at hbx |-;have HV:=hd_ hbx;clear hbx hV;have a0:=Q3 HV.a 0 rfl;have a1:=Q3 HV.a 1 rfl;have b0:=Q3 HV.b 0 rfl;have b1:=Q3 HV.b 1 rfl;go_region_held3 (fun w'=> w'.cell? ⟨w.heap.size,0,none⟩=some (.int .i64 sx)/\w'.cell? ⟨w.heap.size,1,none⟩=some (.slice ax (dg x).length cx)/\w'.cell? ⟨w.heap.size+1,0,none⟩=some (.int .i64 sx)/\w'.cell? ⟨w.heap.size+1,1,none⟩=some (.slice ay (dg y).length cy)) (first | exact ⟨a0,a1,b0,b1⟩ | exact ⟨e0,e1,e2,e3⟩ | exact ⟨f0,f1,f2,f3⟩ | exact ⟨Qr f0 (by omega),Qr f1 (by omega),Qr f2 (by omega),Qr f3 (by omega)⟩ | go_keep)
   ((first
    | (go_at_call 69;refine (HP.o _ (HV.D.trans (Qf _ _))).mono ?_;rintro e w2 ⟨v2,l2,rfl,hr2,⟨hd2,hl2,hv2⟩,hb2⟩;have H2b:=h3_ hd2 hl2 hv2;clear hd2 hl2 hv2;have hb3:=(Qf (B:=V.heap.size) V 1).trans (hb2.mono (Nat.le_refl V.heap.size));have e0:=Q3 ((hb3.block _ (Q4 HV.a)).trans HV.a) 0 rfl;have e1:=Q3 ((hb3.block _ (Q4 HV.a)).trans HV.a) 1 rfl;have e2:=Q3 ((hb3.block _ (Q4 HV.b)).trans HV.b) 0 rfl;have e3:=Q3 ((hb3.block _ (Q4 HV.b)).trans HV.b) 1 rfl;have H2:=h2_ hr2 hb3;clear hr2 hb2 hb3)
    | (go_at_call 65;refine (X4 H2.a (by have:=H2b.b;have:=HH.c;have:=HH.d;omega) H2b.a sx (x+y) (HS.a _ H2b.C) (by rcases HS.B with h | h;exact Or.inl h;exact Or.inr (Or.inl h))).mono ?_;rintro e w3 ⟨v3,rfl,hr3,hb3⟩;have hb4:=H2.B.trans (hb3.mono H2.B.size);have f0:=Q3 ((hb4.block _ (Q4 HV.a)).trans HV.a) 0 rfl;have f1:=Q3 ((hb4.block _ (Q4 HV.a)).trans HV.a) 1 rfl;have f2:=Q3 ((hb4.block _ (Q4 HV.b)).trans HV.b) 0 rfl;have f3:=Q3 ((hb4.block _ (Q4 HV.b)).trans HV.b) 1 rfl;have r0:=Q3 ((hb4.block _ (Q4 HV.c)).trans HV.c) 0 rfl;have r1:=Q3 ((hb4.block _ (Q4 HV.c)).trans HV.c) 1 rfl;have z0:=Q6 ((hb4.block _ (Q4 HV.c)).trans HV.c) 0;have z1:=Q6 ((hb4.block _ (Q4 HV.c)).trans HV.c) 1;obtain ⟨a3,c3,rfl,_⟩:=hr3.form;have H3:=h2_ hr3 hb4;clear hr3 hb3 hb4)))
  clear a0 a1 b0 b1 e0 e1 e2 e3 f0 f1 f2 f3 r0 r1 z0 z1;go_wp2_with fail;obtain ⟨y1,y2,y3⟩:=Dp H3.a ((H3.B.block _ (Q4 HV.c)).trans HV.c) rfl (HV.D.trans (H3.B.mono HV.D.size)) (show w.heap.size<=w.heap.size+2 by omega);exact eG_ (YF rfl rfl y1 rfl) rfl ⟨_,rfl,y2,y3⟩
 have hs2:(sx==sy)=false:=by simpa using hs
 have hcmp:∀ W,Below w.heap.size w W->Calls prog 70 #[.slice ax (dg x).length cx,.slice ay (dg y).length cy] W fun e w'=> e= .returned (.int .i64 (Zp.ord x.natAbs y.natAbs))/\Below W.heap.size W w':=
  fun W hb=> ZV (X:=x.natAbs) (Y:=y.natAbs) (hrx.below hb) (hry.below hb) (by show (dg x).length<=_;omega) (by show (dg y).length<=_;omega)
 by_cases hc:y.natAbs<=x.natAbs
 ·have hle:y.natAbs<=x.natAbs:=by omega
  have hge0:decide ((0:Int)<=Zp.ord x.natAbs y.natAbs)=true:=by
   unfold Zp.ord;rw[if_neg (by omega)];split <;> rfl
  obtain ⟨o,ho⟩:∃ o,Zp.ord x.natAbs y.natAbs=o:=⟨_,rfl⟩
  rw[ho] at hge0 hcmp;have HC:=hd_ hcmp;have HM:Hid (∀ W,Below w.heap.size w W->Calls prog 71 #[.slice ax (dg x).length cx,.slice ay (dg y).length cy] W (DOut W fun l=> Zp.Dig 10 l/\l.length=(dg x).length/\Zp.val 10 l=x.natAbs - y.natAbs)):=
   hd_ fun W hb=> by
    have h:=Uf (hrx.below hb) (hry.below hb) (by omega) (LR hle) (Yo x) (Yo y) (by rw[XR,XR];exact hle);rwa [XR,XR] at h
  have HS:Hid ((∀ l,Zp.val 10 l=x.natAbs - y.natAbs->x+y=sx*(Zp.val 10 l:Nat))/\(sx=1\/sx=-1)):=hd_ ⟨fun l hl=> by
   rw[hl];rcases hcx with h | h | h
   ·omega
   ·rcases hcy with h3 | h3 | h3
    ·omega
    ·omega
    ·rw[h.2];omega
   ·rcases hcy with h3 | h3 | h3
    ·omega
    ·rw[h.2];omega
    ·omega,by omega⟩
  clear hx hy hrx hry hlx hly hsx hsy hcx hcy h0 h1 hs hc hle hcmp ho;go_in;go_wp2_with fail;obtain ⟨V,hV⟩:∃ V,((w.alloc (.cells #[.int .i64 sx,.slice ax (dg x).length cx] 48)).alloc (.cells #[.int .i64 sy,.slice ay (dg y).length cy] 48)).alloc (.cells #[.int .i64 0,.slice none 0 0] 48)=V:=⟨_,rfl⟩
  have hbx:=box3 w #[.int .i64 sx,.slice ax (dg x).length cx] 48 #[.int .i64 sy,.slice ay (dg y).length cy] 48 #[.int .i64 0,.slice none 0 0] 48;rw[hV] at hbx |-;have HV:=hd_ hbx;clear hbx hV;refine (HC.o _ HV.D).mono ?_;rintro e w4 ⟨rfl,hb⟩;have p0:=(hb.block _ (Q4 HV.a)).trans HV.a;have p1:=(hb.block _ (Q4 HV.b)).trans HV.b;have p2:=(hb.block _ (Q4 HV.c)).trans HV.c;have HV2:=h4_ p0 p1 p2 (HV.D.trans (hb.mono HV.D.size));clear p0 p1 p2 hb;dsimp only;go_wp2_with fail;have a0:=Q3 HV2.a 0 rfl;have a1:=Q3 HV2.a 1 rfl;have b0:=Q3 HV2.b 0 rfl;have b1:=Q3 HV2.b 1 rfl;go_region_held3 (fun w'=> w'.cell? ⟨w.heap.size,0,none⟩=some (.int .i64 sx)/\w'.cell? ⟨w.heap.size,1,none⟩=some (.slice ax (dg x).length cx)/\w'.cell? ⟨w.heap.size+1,0,none⟩=some (.int .i64 sy)/\w'.cell? ⟨w.heap.size+1,1,none⟩=some (.slice ay (dg y).length cy)) (first | exact ⟨a0,a1,b0,b1⟩ | exact ⟨e0,e1,e2,e3⟩ | exact ⟨f0,f1,f2,f3⟩ | exact ⟨Qr f0 (by omega),Qr f1 (by omega),Qr f2 (by omega),Qr f3 (by omega)⟩ | go_keep)
   ((first
    | (go_at_call 71;refine (HM.o _ (HV2.D.trans (Qf _ _))).mono ?_;rintro e w2 ⟨v2,l2,rfl,hr2,⟨hd2,hl2,hv2⟩,hb2⟩;have H2b:=h3_ hd2 hl2 hv2;clear hd2 hl2 hv2;have hb3:=(Qf (B:=w4.heap.size) w4 1).trans (hb2.mono (Nat.le_refl w4.heap.size));have e0:=Q3 ((hb3.block _ (Q4 HV2.a)).trans HV2.a) 0 rfl;have e1:=Q3 ((hb3.block _ (Q4 HV2.a)).trans HV2.a) 1 rfl;have e2:=Q3 ((hb3.block _ (Q4 HV2.b)).trans HV2.b) 0 rfl;have e3:=Q3 ((hb3.block _ (Q4 HV2.b)).trans HV2.b) 1 rfl;have H2:=h2_ hr2 hb3;clear hr2 hb2 hb3)
    | (go_at_call 65;refine (X4 H2.a (by have:=H2b.b;have:=HH.c;have:=HH.d;omega) H2b.a sx (x+y) (HS.a _ H2b.C) (by rcases HS.B with h | h;exact Or.inl h;exact Or.inr (Or.inl h))).mono ?_;rintro e w3 ⟨v3,rfl,hr3,hb3⟩;have hb4:=H2.B.trans (hb3.mono H2.B.size);have f0:=Q3 ((hb4.block _ (Q4 HV2.a)).trans HV2.a) 0 rfl;have f1:=Q3 ((hb4.block _ (Q4 HV2.a)).trans HV2.a) 1 rfl;have f2:=Q3 ((hb4.block _ (Q4 HV2.b)).trans HV2.b) 0 rfl;have f3:=Q3 ((hb4.block _ (Q4 HV2.b)).trans HV2.b) 1 rfl;have r0:=Q3 ((hb4.block _ (Q4 HV2.c)).trans HV2.c) 0 rfl;have r1:=Q3 ((hb4.block _ (Q4 HV2.c)).trans HV2.c) 1 rfl;have z0:=Q6 ((hb4.block _ (Q4 HV2.c)).trans HV2.c) 0;have z1:=Q6 ((hb4.block _ (Q4 HV2.c)).trans HV2.c) 1;obtain ⟨a3,c3,rfl,_⟩:=hr3.form;have H3:=h2_ hr3 hb4;clear hr3 hb3 hb4)))
  clear a0 a1 b0 b1 e0 e1 e2 e3 f0 f1 f2 f3 r0 r1 z0 z1;go_wp2_with fail;obtain ⟨y1,y2,y3⟩:=Dp H3.a ((H3.B.block _ (Q4 HV2.c)).trans HV2.c) rfl (HV2.D.trans (H3.B.mono HV2.D.size)) (show w.heap.size<=w.heap.size+2 by omega);exact eG_ (YF rfl rfl y1 rfl) rfl ⟨_,rfl,y2,y3⟩
 ·have hle:x.natAbs<=y.natAbs:=by omega
  have hge0:decide ((0:Int)<=Zp.ord x.natAbs y.natAbs)=false:=by
   unfold Zp.ord;rw[if_pos (by omega)];rfl
  obtain ⟨o,ho⟩:∃ o,Zp.ord x.natAbs y.natAbs=o:=⟨_,rfl⟩
  rw[ho] at hge0 hcmp;have HC:=hd_ hcmp;have HM:Hid (∀ W,Below w.heap.size w W->Calls prog 71 #[.slice ay (dg y).length cy,.slice ax (dg x).length cx] W (DOut W fun l=> Zp.Dig 10 l/\l.length=(dg y).length/\Zp.val 10 l=y.natAbs - x.natAbs)):=
   hd_ fun W hb=> by
    have h:=Uf (hry.below hb) (hrx.below hb) (by omega) (LR hle) (Yo y) (Yo x) (by rw[XR,XR];exact hle);rwa [XR,XR] at h
  have HS:Hid ((∀ l,Zp.val 10 l=y.natAbs - x.natAbs->x+y=sy*(Zp.val 10 l:Nat))/\(sy=1\/sy=-1)):=hd_ ⟨fun l hl=> by
   rw[hl];rcases hcx with h | h | h
   ·omega
   ·rcases hcy with h3 | h3 | h3
    ·omega
    ·omega
    ·rw[h3.2];omega
   ·rcases hcy with h3 | h3 | h3
    ·omega
    ·rw[h3.2];omega
    ·omega,by omega⟩
  clear hx hy hrx hry hlx hly hsx hsy hcx hcy h0 h1 hs hc hle hcmp ho;go_in;go_wp2_with fail;obtain ⟨V,hV⟩:∃ V,((w.alloc (.cells #[.int .i64 sx,.slice ax (dg x).length cx] 48)).alloc (.cells #[.int .i64 sy,.slice ay (dg y).length cy] 48)).alloc (.cells #[.int .i64 0,.slice none 0 0] 48)=V:=⟨_,rfl⟩
  have hbx:=box3 w #[.int .i64 sx,.slice ax (dg x).length cx] 48 #[.int .i64 sy,.slice ay (dg y).length cy] 48 #[.int .i64 0,.slice none 0 0] 48;rw[hV] at hbx |-;have HV:=hd_ hbx;clear hbx hV;refine (HC.o _ HV.D).mono ?_;rintro e w4 ⟨rfl,hb⟩;have p0:=(hb.block _ (Q4 HV.a)).trans HV.a;have p1:=(hb.block _ (Q4 HV.b)).trans HV.b;have p2:=(hb.block _ (Q4 HV.c)).trans HV.c;have HV2:=h4_ p0 p1 p2 (HV.D.trans (hb.mono HV.D.size));clear p0 p1 p2 hb;dsimp only;go_wp2_with fail;have a0:=Q3 HV2.a 0 rfl;have a1:=Q3 HV2.a 1 rfl;have b0:=Q3 HV2.b 0 rfl;have b1:=Q3 HV2.b 1 rfl;go_region_held3 (fun w'=> w'.cell? ⟨w.heap.size,0,none⟩=some (.int .i64 sx)/\w'.cell? ⟨w.heap.size,1,none⟩=some (.slice ax (dg x).length cx)/\w'.cell? ⟨w.heap.size+1,0,none⟩=some (.int .i64 sy)/\w'.cell? ⟨w.heap.size+1,1,none⟩=some (.slice ay (dg y).length cy)) (first | exact ⟨a0,a1,b0,b1⟩ | exact ⟨e0,e1,e2,e3⟩ | exact ⟨f0,f1,f2,f3⟩ | exact ⟨Qr f0 (by omega),Qr f1 (by omega),Qr f2 (by omega),Qr f3 (by omega)⟩ | go_keep)
   ((first
    | (go_at_call 71;refine (HM.o _ (HV2.D.trans (Qf _ _))).mono ?_;rintro e w2 ⟨v2,l2,rfl,hr2,⟨hd2,hl2,hv2⟩,hb2⟩;have H2b:=h3_ hd2 hl2 hv2;clear hd2 hl2 hv2;have hb3:=(Qf (B:=w4.heap.size) w4 1).trans (hb2.mono (Nat.le_refl w4.heap.size));have e0:=Q3 ((hb3.block _ (Q4 HV2.a)).trans HV2.a) 0 rfl;have e1:=Q3 ((hb3.block _ (Q4 HV2.a)).trans HV2.a) 1 rfl;have e2:=Q3 ((hb3.block _ (Q4 HV2.b)).trans HV2.b) 0 rfl;have e3:=Q3 ((hb3.block _ (Q4 HV2.b)).trans HV2.b) 1 rfl;have H2:=h2_ hr2 hb3;clear hr2 hb2 hb3)
    | (go_at_call 65;refine (X4 H2.a (by have:=H2b.b;have:=HH.c;have:=HH.d;omega) H2b.a sy (x+y) (HS.a _ H2b.C) (by rcases HS.B with h | h;exact Or.inl h;exact Or.inr (Or.inl h))).mono ?_;rintro e w3 ⟨v3,rfl,hr3,hb3⟩;have hb4:=H2.B.trans (hb3.mono H2.B.size);have f0:=Q3 ((hb4.block _ (Q4 HV2.a)).trans HV2.a) 0 rfl;have f1:=Q3 ((hb4.block _ (Q4 HV2.a)).trans HV2.a) 1 rfl;have f2:=Q3 ((hb4.block _ (Q4 HV2.b)).trans HV2.b) 0 rfl;have f3:=Q3 ((hb4.block _ (Q4 HV2.b)).trans HV2.b) 1 rfl;have r0:=Q3 ((hb4.block _ (Q4 HV2.c)).trans HV2.c) 0 rfl;have r1:=Q3 ((hb4.block _ (Q4 HV2.c)).trans HV2.c) 1 rfl;have z0:=Q6 ((hb4.block _ (Q4 HV2.c)).trans HV2.c) 0;have z1:=Q6 ((hb4.block _ (Q4 HV2.c)).trans HV2.c) 1;obtain ⟨a3,c3,rfl,_⟩:=hr3.form;have H3:=h2_ hr3 hb4;clear hr3 hb3 hb4)))
  clear a0 a1 b0 b1 e0 e1 e2 e3 f0 f1 f2 f3 r0 r1 z0 z1;go_wp2_with fail;obtain ⟨y1,y2,y3⟩:=Dp H3.a ((H3.B.block _ (Q4 HV2.c)).trans HV2.c) rfl (HV2.D.trans (H3.B.mono HV2.D.size)) (show w.heap.size<=w.heap.size+2 by omega);exact eG_ (YF rfl rfl y1 rfl) rfl ⟨_,rfl,y2,y3⟩
theorem GI {B:Nat}:∀ (l:List Nat) (j o p:Nat),l[j]? =some o->Zp.val B (l.set j (o+p))=Zp.val B l+B ^ j*p
 | [],j,o,p,h=> by simp at h
 | d::l,0,o,p,h=> by
  obtain rfl:d=o:=by simpa using h
  simp[Zp.val];omega
 | d::l,j+1,o,p,h=> by
  have ih:=GI (B:=B) l j o p (by simpa using h);simp only[List.set_cons_succ,Zp.val,ih,Nat.mul_add,Nat.pow_succ];rw[Nat.mul_comm (B ^ j) B,Nat.mul_assoc];omega
theorem Q1O {B:Nat}:∀ (l:List Nat) (j o v:Nat),l[j]? =some o->Zp.val B (l.set j v)+B ^ j*o=Zp.val B l+B ^ j*v
 | [],j,o,v,h=> by simp at h
 | d::l,0,o,v,h=> by
  obtain rfl:d=o:=by simpa using h
  simp[Zp.val];omega
 | d::l,j+1,o,v,h=> by
  have ih:=congrArg (B*·) (Q1O (B:=B) l j o v (by simpa using h));simp only[Nat.mul_add] at ih;simp only[List.set_cons_succ,Zp.val,Nat.pow_succ];rw[Nat.mul_comm (B ^ j) B,Nat.mul_assoc,Nat.mul_assoc];omega
theorem Q5l {o o2:Nat} (h1:l[i]? =some o) (h2:l[i+1]? =some o2):Zp.val 10 ((l.set (i+1) (o2+o / 10)).set i (o % 10))=Zp.val 10 l:=by
 have e1:=GI (B:=10) l (i+1) o2 (o / 10) h2;have e2:=Q1O (B:=10) (l.set (i+1) (o2+o / 10)) i o (o % 10) (by rw[List.getElem?_set_ne (by omega)];exact h1);rw[e1,Nat.pow_succ,Nat.mul_assoc] at e2;have h3:=Nat.mod_add_div o 10;have e3:10 ^ i*o=10 ^ i*(o % 10)+10 ^ i*(10*(o / 10)):=by rw[<-Nat.mul_add,h3]
 omega
theorem Z1 (h:l[k]? =some d):Zp.val B (l.take (k+1))=Zp.val B (l.take k)+B ^ k*d:=by
 have hk:=(List.getElem?_eq_some_iff.1 h).1;rw[List.take_add_one,h,Option.toList_some,XB,eN_,Nat.min_eq_left (by omega)]
theorem Q5m {Q:Nat} (hl:l.length=n) (hi:n=i+1) (hd:∀ j d,l[j]? =some d->j < i->d < 10) (hv:Zp.val 10 l=X*Y) (hx:X < 10 ^ P) (hy:Y < 10 ^ Q) (hpq:P+Q=i):Zp.Dig 10 l:=by
 obtain ⟨o,ho⟩:∃ o,l[i]? =some o:=⟨_,eA_ (by omega)⟩
 have h1:=Z1 (B:=10) ho;rw[List.take_of_length_le (by omega),hv] at h1;have h2:X*Y < 10 ^ i:=by
  rw[<-hpq,Nat.pow_add];exact Nat.mul_lt_mul'' hx hy
 have h0:o=0:=by
  rcases Nat.eq_zero_or_pos o with h | h
  ·exact h
  ·have:10 ^ i*1<=10 ^ i*o:=Nat.mul_le_mul_left _ h;omega
 intro d hdm;obtain ⟨j,hj,rfl⟩:=List.getElem_of_mem hdm;by_cases e:j < i
 ·exact hd j _ (eA_ hj) e
 ·obtain rfl:j=i:=by omega
  rw[eA_ hj] at ho;rw[Option.some.inj ho,h0];decide
theorem Q8A {T p:Nat} (h:V=X*Y+P*(p*T)) (hp:P=10 ^ i):V+10 ^ (i+k)*(p*q)=X*Y+P*(p*(T+10 ^ k*q)):=by
 subst hp;rw[h,Nat.mul_add,Nat.mul_add,Nat.pow_add];have:10 ^ i*10 ^ k*(p*q)=10 ^ i*(p*(10 ^ k*q)):=by
  rw[Nat.mul_assoc,Nat.mul_left_comm p]
 omega
def RmRel (w:World) (A B:Array Value) (x y:List Nat) (n:Nat) (k:Nat) (v6:Value) (wr:World):Prop:=
 ∃ (i:Nat) (os:List Nat),v6= .int .i64 i/\k=x.length - i/\i<=x.length/\os.length=n/\(∀ d∈os,d<=81*(i*y.length))/\Zp.val 10 os=Zp.val 10 (x.take i)*Zp.val 10 y/\
  wr.heap[w.heap.size+1+1+1]? =some (.cells (natCells os).toArray 3 (0,0))/\wr.heap[w.heap.size]? =some (.cells A 48 (0,0))/\wr.heap[w.heap.size+1]? =some (.cells B 48 (0,0))/\
  wr.heap[w.heap.size+2]? =some (.cells #[.int .i64 0,.slice none 0 0] 48 (0,0))/\Below w.heap.size w wr
def RnRel (w:World) (A B:Array Value) (x y:List Nat) (n i xi:Nat) (k:Nat) (v7:Value) (wr:World):Prop:=
 ∃ (j:Nat) (os:List Nat),v7= .int .i64 j/\k=y.length - j/\j<=y.length/\os.length=n/\(∀ d∈os,d<=81*(i*y.length+j))/\Zp.val 10 os=Zp.val 10 (x.take i)*Zp.val 10 y+10 ^ i*(xi*Zp.val 10 (y.take j))/\
  wr.heap[w.heap.size+1+1+1]? =some (.cells (natCells os).toArray 3 (0,0))/\wr.heap[w.heap.size]? =some (.cells A 48 (0,0))/\wr.heap[w.heap.size+1]? =some (.cells B 48 (0,0))/\
  wr.heap[w.heap.size+2]? =some (.cells #[.int .i64 0,.slice none 0 0] 48 (0,0))/\Below w.heap.size w wr
def RoRel (w:World) (A B:Array Value) (n E P:Nat) (k:Nat) (v8:Value) (wr:World):Prop:=
 ∃ (i:Nat) (os:List Nat),v8= .int .i64 i/\k=n - i/\i+1<=n/\os.length=n/\(∀ j d,os[j]? =some d->j < i->d < 10)/\(∀ j d,os[j]? =some d->i < j->d<=E)/\(∀ d,os[i]? =some d->d<=2*E)/\Zp.val 10 os=P/\
  wr.heap[w.heap.size+1+1+1]? =some (.cells (natCells os).toArray 3 (0,0))/\wr.heap[w.heap.size]? =some (.cells A 48 (0,0))/\wr.heap[w.heap.size+1]? =some (.cells B 48 (0,0))/\
  wr.heap[w.heap.size+2]? =some (.cells #[.int .i64 0,.slice none 0 0] 48 (0,0))/\Below w.heap.size w wr
theorem ncell (h:w.heap[g]? =some (.cells (natCells l).toArray 3 (0,0))) (hj:l[j]? =some d):w.cell? ⟨g,j,none⟩=some (.int .i64 (d:Int)):=by
 refine Q3 h j ?_;have h2:=Q6A (l:=l) (i:=j) (List.getElem?_eq_some_iff.1 hj).1;rw[List.getElem!_eq_getElem?_getD,hj] at h2;simpa using h2
theorem Ji (h:w.heap[g]? =some (.cells (natCells l).toArray 3 (0,0))) (j v:Nat):(w.setCell ⟨g,j,none⟩ (.int .i64 (v:Int))).heap[g]? =some (.cells (natCells (l.set j v)).toArray 3 (0,0)):=by
 rw[Qx h,Q7J]
theorem Q7Y (x y:Int):sgn (x*y)=sgn x*sgn y:=by
 rcases X2 x with hx | hx | hx
 ·rw[hx.1,Int.zero_mul,YC.2 rfl,Int.zero_mul]
 ·rcases X2 y with hy | hy | hy
  ·rw[hy.1,Int.mul_zero,YC.2 rfl,Int.mul_zero]
  ·rw[hx.2,hy.2];have:=Int.mul_pos hx.1 hy.1;unfold sgn;rw[if_neg (by omega),if_neg (by omega)];rfl
  ·rw[hx.2,hy.2];have:=Int.mul_neg_of_pos_of_neg hx.1 hy.1;unfold sgn;rw[if_pos (by omega)];rfl
 ·rcases X2 y with hy | hy | hy
  ·rw[hy.1,Int.mul_zero,YC.2 rfl,Int.mul_zero]
  ·rw[hx.2,hy.2];have:=Int.mul_neg_of_neg_of_pos hx.1 hy.1;unfold sgn;rw[if_pos (by omega)];rfl
  ·rw[hx.2,hy.2];have:=Int.mul_pos_of_neg_of_neg hx.1 hy.1;unfold sgn;rw[if_neg (by omega),if_neg (by omega)];rfl
theorem Q7Z (z:Int):z=sgn z*((z.natAbs:Nat):Int):=by
 rcases X2 z with h | h | h
 ·rw[h.1];simp
 ·rw[h.2];omega
 ·rw[h.2];omega
theorem Q3B (hx:Zn w vx x) (hy:Zn w vy y) (hlx:(dg x).length<=1000000) (hly:(dg y).length<=1000000):
  Calls prog 28 #[vx,vy] w fun e w'=> ∃ v',e= .returned v'/\Zn w' v' (x*y)/\Below w.heap.size w w':=by
 obtain ⟨ax,cx,rfl,hrx⟩:=hx.form;obtain ⟨ay,cy,rfl,hry⟩:=hy.form;have hbx:=UV x;have hby:=UV y;have hsm:=Q7Y x y;have hss:=X2 (x*y);obtain ⟨sx,hsx⟩:∃ s,sgn x=s:=⟨_,rfl⟩
 obtain ⟨sy,hsy⟩:∃ s,sgn y=s:=⟨_,rfl⟩
 rw[hsx,hsy] at hsm;rw[hsx] at hbx |-;rw[hsy] at hby |-;have hvx:=XR x;have hvy:=XR y;have hdx:=Yo x;have hdy:=Yo y;obtain ⟨ss,hss2⟩:∃ s:Int,sx*sy=s:=⟨_,rfl⟩
 rw[hss2] at hsm;have hab:=Q7Z (x*y);rw[Int.natAbs_mul,hsm] at hab;have hna:(x*y).natAbs=x.natAbs*y.natAbs:=Int.natAbs_mul x y;rw[hsm] at hss;obtain ⟨xs,hxs⟩:∃ xs,dg x=xs:=⟨_,rfl⟩
 obtain ⟨ys,hys⟩:∃ ys,dg y=ys:=⟨_,rfl⟩
 rw[hxs] at hrx hvx hdx hlx |-;rw[hys] at hry hvy hdy hly |-;obtain ⟨zz,hzz⟩:∃ zz,x*y=zz:=⟨_,rfl⟩
 rw[hzz] at hab hss hna |-;have HX:=h2_ hrx hdx;have HY:=h2_ hry hdy;have HZ:=h5_ hvx hvy hab hss hna;obtain ⟨n,hn⟩:∃ n,xs.length+ys.length+1=n:=⟨_,rfl⟩
 have hX':(xs.length:Int)<=1000000:=by omega
 have hY':(ys.length:Int)<=1000000:=by omega
 have hlxy:xs.length*ys.length<=1000000*1000000:=Nat.mul_le_mul hlx hly;have HN:=h2_ hn hlxy;have hn':(n:Int)<=2000001:=by omega
 have hmk:∀ W:World,(Instr.makeSlice 46 (.int .i64 ((xs.length:Int)+(ys.length:Int)+1)) (.int .i64 ((xs.length:Int)+(ys.length:Int)+1))).run prog W= .ok (.slice (some ⟨W.heap.size,0,none⟩) n n) (W.alloc (.cells (natCells (List.replicate n 0)).toArray 3)):=fun W=> by
  have h:=Q1D (n:=n) (c:=n) (rl_ _) (by omega) W;rwa [show ((n:Nat):Int)=(xs.length:Int)+(ys.length:Int)+1 from by omega] at h
 have hsb1: -1<=ss:=by omega
 have hsb2:ss<=1:=by omega
 clear hx hy hrx hry hlx hly hsx hsy hss hvx hvy hdx hdy hab hxs hys hzz hn hlxy hsm hna;go_in;go_wp2_with fail;clear hmk;go_loopg [6] xs.length (fun k v6 wr=> RmRel w #[.int .i64 sx,.slice ax xs.length cx] #[.int .i64 sy,.slice ay ys.length cy] xs ys n k v6 wr)
 case atStart=>
  obtain ⟨h1,h2,h3,h4⟩:=box3 w #[.int .i64 sx,.slice ax xs.length cx] 48 #[.int .i64 sy,.slice ay ys.length cy] 48 #[.int .i64 0,.slice none 0 0] 48;refine ⟨0,List.replicate n 0,rfl,rfl,eV_ _,by simp,fun d hd=> by rw[(List.mem_replicate.1 hd).2];omega,?_,?_,?_,?_,?_,h4.alloc (by have:=Q4 h1;omega) _⟩
  ·have h0:Zp.val 10 (List.replicate n 0)=0:=by
    have h1:=Zp.Y8 (List.replicate n 0) (fun i h2=> by rw[getElem!_pos _ i h2,List.getElem_replicate]);rw[Zp.Xh (B:=10) (by decide) (fun d hd=> by rw[(List.mem_replicate.1 hd).2];decide),Zp.Xy (by decide)] at h1;exact h1
   rw[h0,List.take_zero];simp[Zp.val]
  ·exact XE _ _ _ (by rw[<-Q5, <-Q5, <-Q5])
  ·rw[eJ_ _ _ _ (Q4 h1)];exact h1
  ·rw[eJ_ _ _ _ (Q4 h2)];exact h2
  ·rw[eJ_ _ _ _ (Q4 h3)];exact h3
 case round=>
  obtain ⟨i,os,rfl,hk,hi,hol,hob,hov,hg,hA,hB,hC,hb⟩:=hrel;have HR:=h10_ hk hi hol hob hov hg hA hB hC hb;have a1:=Q3 hA 1 rfl;have b1:=Q3 hB 1 rfl;clear hk hol hob hov hg hA hB hC hb;by_cases hlt:i < xs.length
  ·have hlt':(i:Int) < (xs.length:Int):=(by omega);obtain ⟨xi,hd1,hd2,hd3⟩:=QI HX.B i hlt;have HD:=h2_ hd2 hd3;clear hd1 hd2 hd3;go_wp2_with fail;clear a1 b1;generalize wr=w1 at*;go_loopg [7] ys.length (fun k v7 wr=> RnRel w #[.int .i64 sx,.slice ax xs.length cx] #[.int .i64 sy,.slice ay ys.length cy] xs ys n i xi k v7 wr)
   case atStart=>
    obtain ⟨-,-,q3,q4,q5,q6,q7,q8,q9,q10⟩:=HR.o;exact ⟨0,os,rfl,rfl,eV_ _,q3,fun d hd=> by have:=q4 d hd;omega,by rw[q5,List.take_zero];simp[Zp.val],q6,q7,q8,q9,q10⟩
   case round=>
    obtain ⟨j,ot,rfl,hk,hj,hol,hob,hov,hg,hA,hB,hC,hb⟩:=hrel;have HJ:=h9_ hk hol hob hov hg hA hB hC hb;have a1:=Q3 hA 1 rfl;have b1:=Q3 hB 1 rfl;clear hk hol hob hov hg hA hB hC hb;by_cases hltj:j < ys.length
    ·have hltj':(j:Int) < (ys.length:Int):=(by omega);have hin:(i:Int)+(j:Int) < (n:Int):=(by have:=HN.a;omega);have hin2:((i:Int)+(j:Int)).toNat=i+j:=(by omega);obtain ⟨yj,hd1,hd2,hd3⟩:=QI HY.B j hltj;obtain ⟨by_,oy,ey,hcell⟩:=(HY.a.below HJ.I).cell hltj;obtain ⟨bx,ox,ex,hcell2⟩:=(HX.a.below HJ.I).cell hlt;rw[hd1] at hcell;rw[show xs[i]! =xi from by rw[List.getElem!_eq_getElem?_getD,HD.a];rfl] at hcell2;obtain ⟨o,ho⟩:∃ o,ot[i+j]? =some o:=⟨_,eA_ (by rw[HJ.b];omega)⟩
     have hcg:=ncell HJ.e ho;have hfz:=Q6 HJ.e (i+j);have hob:=HJ.c o (eP_ ho);have hbd:i*ys.length+j<=1000000*1000000:=by
      have h1:(i+1)*ys.length<=xs.length*ys.length:=Nat.mul_le_mul_right _ hlt;rw[Nat.add_mul,Nat.one_mul] at h1;have:=HN.B;omega
     have hob':(o:Int)<=81000000000000:=(by omega);obtain ⟨p,hp⟩:∃ p:Nat,xi*yj=p:=⟨_,rfl⟩
     have hp81:p<=81:=by
      rw[<-hp];exact Nat.mul_le_mul (show xi<=9 by have:=HD.B;omega) (show yj<=9 by omega)
     have hmul:(xi:Int)*(yj:Int)=(p:Int):=(by rw[<-Int.natCast_mul,hp]);have hp':(p:Int)<=81:=(by omega);have HE:=h5_ hd2 hp ho hp81 hob;clear hd1 hd2 hd3 hp hp81 ho hob hbd;obtain rfl:=ey;obtain rfl:=ex;go_wp2_with fail;go_region;go_wp2_with fail;go_roundg (ys.length - (j+1))
     case measure=> have:=HJ.a;omega
     case rel=>
      obtain ⟨q1,q2,q3,q4,q5,q6,q7,q8,q9⟩:=HJ.o;obtain ⟨e1,e2,e3,e4,e5⟩:=HE.o;have hbs:Below (w.heap.size+1+1+1) wr (wr.setCell ⟨w.heap.size+1+1+1,i+j,none⟩ (.int .i64 ((o:Int)+(p:Int)))):=(eB_ _ wr).setCell (by exact rl_ _) _;have hst:=Ji q5 (i+j) (o+p);refine ⟨j+1,ot.set (i+j) (o+p),by go_num,rfl,by omega,by rw[List.length_set];exact q2,?_,?_,hst,(hbs.block _ (by omega)).trans q6,(hbs.block _ (by omega)).trans q7,(hbs.block _ (by omega)).trans q8,(q9.setCell (by show w.heap.size<=w.heap.size+1+1+1;omega) _).drew⟩
      ·intro d hd;rcases List.mem_or_eq_of_mem_set hd with hd | rfl
       ·have:=q3 d hd;omega
       ·omega
      ·rw[GI _ _ _ _ e3,Z1 e1, <-e2];exact Q8A q4 rfl
    ·obtain rfl:ys.length=j:=(by omega);go_wp2_with fail;go_roundg (xs.length - (i+1))
     case measure=> have:=HR.a;omega
     case rel=>
      obtain ⟨q1,q2,q3,q4,q5,q6,q7,q8,q9⟩:=HJ.o;refine ⟨i+1,ot,by go_num,rfl,by omega,q2,?_,?_,q5,q6,q7,q8,q9⟩
      ·intro d hd;have:=q3 d hd;rw[Nat.add_mul i 1,Nat.one_mul];exact this
      ·rw[q4,List.take_length,Z1 HD.a,Nat.add_mul,Nat.mul_assoc]
  ·obtain rfl:xs.length=i:=(by omega);have hE:∀ d∈os,d<=81*(xs.length*ys.length):=HR.d;have hP:Zp.val 10 os=Zp.val 10 xs*Zp.val 10 ys:=(by rw[HR.e,List.take_length]);obtain ⟨E,hEe⟩:∃ E,81*(xs.length*ys.length)=E:=⟨_,rfl⟩
   have hEb:E<=81000000000000:=(by have:=HN.B;omega);rw[hEe] at hE;have HE:=h2_ hE hP;have hE':(E:Int)<=81000000000000:=(by omega);clear hE hP hEe hEb;go_wp2_with fail;clear a1 b1;generalize wr=w1 at*;go_loopg [8] n (fun k v8 wr=> RoRel w #[.int .i64 sx,.slice ax xs.length cx] #[.int .i64 sy,.slice ay ys.length cy] n E (Zp.val 10 xs*Zp.val 10 ys) k v8 wr)
   case atStart=>
    obtain ⟨-,-,q3,q4,q5,q6,q7,q8,q9,q10⟩:=HR.o;exact ⟨0,os,rfl,rfl,by have:=HN.a;omega,q3,fun j d _ h=> by omega,fun j d h _=> HE.a d (eP_ h),fun d h=> by have:=HE.a d (eP_ h);omega,HE.B,q6,q7,q8,q9,q10⟩
   case round=>
    obtain ⟨i,ot,rfl,hk,hi,hol,ho1,ho2,ho3,hov,hg,hA,hB,hC,hb⟩:=hrel;have HJ:=h11_ hk hol ho1 ho2 ho3 hov hg hA hB hC hb;have hi':(i:Int)<=2000000:=(by omega);clear hk hol ho1 ho2 ho3 hov hg hA hB hC hb;by_cases hlt:i+1 < n
    ·have hlt':(i:Int)+1 < (n:Int):=(by omega);have hin2:((i:Int)+1).toNat=i+1:=(by omega);obtain ⟨o,ho⟩:∃ o,ot[i]? =some o:=⟨_,eA_ (by rw[HJ.b];omega)⟩
     obtain ⟨o2,hoo⟩:∃ o,ot[i+1]? =some o:=⟨_,eA_ (by rw[HJ.b];omega)⟩
     have hc1:=ncell HJ.g ho;have hc2:=ncell HJ.g hoo;have hf1:=Q6 HJ.g i;have hf2:=Q6 HJ.g (i+1);have hb1:=HJ.e o ho;have hb2:=HJ.d (i+1) o2 hoo (Nat.lt_succ_self _);have hb1':(o:Int)<=162000000000000:=(by omega);have hb2':(o2:Int)<=81000000000000:=(by omega);have HQ:=h4_ ho hoo hb1 hb2;clear ho hoo hb1 hb2;go_wp2_with fail;go_region;go_wp2_with fail;go_roundg (n - (i+1))
     case measure=> have:=HJ.a;omega
     case rel=>
      obtain ⟨q1,q2,q3,q4,q5,q6,q7,q8,q9,q10,q11⟩:=HJ.o;obtain ⟨e1,e2,e3,e4⟩:=HQ.o;have hbs:Below (w.heap.size+1+1+1) wr (wr.setCell ⟨w.heap.size+1+1+1,i+1,none⟩ (.int .i64 ((o2:Int)+(o:Int) / 10))):=(eB_ _ wr).setCell (by exact rl_ _) _;have hbs2:Below (w.heap.size+1+1+1) wr ((wr.setCell ⟨w.heap.size+1+1+1,i+1,none⟩ (.int .i64 ((o2:Int)+(o:Int) / 10))).setCell ⟨w.heap.size+1+1+1,i,none⟩ (.int .i64 ((o:Int) % 10))):=hbs.setCell (by exact rl_ _) _;have hst:=Ji (Ji q7 (i+1) (o2+o / 10)) i (o % 10);have hget:∀ j d,((ot.set (i+1) (o2+o / 10)).set i (o % 10))[j]? =some d->(j=i/\d=o % 10)\/(j=i+1/\d=o2+o / 10)\/(j≠i/\j≠i+1/\ot[j]? =some d):=by
       intro j d h;by_cases e:j=i
       ·subst e;rw[List.getElem?_set_self (by rw[List.length_set,q2];omega)] at h;exact Or.inl ⟨rfl,(Option.some.inj h).symm⟩
       ·rw[List.getElem?_set_ne (by omega)] at h;by_cases e2:j=i+1
        ·subst e2;rw[List.getElem?_set_self (by rw[q2];omega)] at h;exact Or.inr (Or.inl ⟨rfl,(Option.some.inj h).symm⟩)
        ·rw[List.getElem?_set_ne (by omega)] at h;exact Or.inr (Or.inr ⟨e,e2,h⟩)
      refine ⟨i+1,(ot.set (i+1) (o2+o / 10)).set i (o % 10),by go_num,rfl,by omega,by rw[List.length_set,List.length_set];exact q2,?_,?_,?_,by rw[Q5l e1 e2];exact q6,hst,(hbs2.block _ (by omega)).trans q8,(hbs2.block _ (by omega)).trans q9,(hbs2.block _ (by omega)).trans q10,((q11.setCell (by show w.heap.size<=w.heap.size+1+1+1;omega) _).setCell (by show w.heap.size<=w.heap.size+1+1+1;omega) _).drew⟩
      ·intro j d h hj;rcases hget j d h with ⟨_,rfl⟩ | ⟨rfl,_⟩ | ⟨h1,h2,h3⟩
       ·exact Nat.mod_lt _ (by decide)
       ·omega
       ·exact q3 j d h3 (by omega)
      ·intro j d h hj;rcases hget j d h with ⟨rfl,_⟩ | ⟨rfl,_⟩ | ⟨h1,h2,h3⟩
       ·omega
       ·omega
       ·exact q4 j d h3 (by omega)
      ·intro d h;rcases hget (i+1) d h with ⟨h1,_⟩ | ⟨_,rfl⟩ | ⟨h1,h2,h3⟩
       ·omega
       ·omega
       ·omega
    ·have hin:n=i+1:=(by omega);obtain ⟨q1,q2,q3,q4,q5,q6,q7,q8,q9,q10,q11⟩:=HJ.o;have hdg:=Q5m q2 hin q3 q6 (Zp.Xs (by decide) HX.B) (Zp.Xs (by decide) HY.B) (by have:=HN.a;omega);have a0:=Q3 q8 0 rfl;have b0:=Q3 q9 0 rfl;have hrd:=LL q7 (c:=n) (by rw[q2];exact rl_ _);rw[q2] at hrd;have hz:zz=ss*(Zp.val 10 ot:Nat):=(by rw[q6,HZ.a,HZ.b];exact HZ.c);have hs3:ss=1\/ss=-1\/Zp.val 10 ot=0:=by
      rcases HZ.d with h | h | h
      ·refine Or.inr (Or.inr ?_);rw[q6,HZ.a,HZ.b, <-HZ.E,h.1];rfl
      ·exact Or.inl h.2
      ·exact Or.inr (Or.inl h.2)
     have HV:=h7_ hrd q10 q11 hdg hz hs3 q2;clear q1 q2 q3 q4 q5 q6 q7 q8 q9 q10 q11 hdg hrd hz hs3 hin;go_wp2_with fail;refine (X4 HV.a (by rw[HV.G];omega) HV.d ss zz HV.e HV.f).mono ?_;rintro e W2 ⟨v2,rfl,hr,hb⟩;have HT2:=h3_ ((hb.block _ (Q4 HV.b)).trans HV.b) hr (HV.c.trans (hb.mono HV.c.size));clear hr hb;dsimp only;go_wp2_with (refine XO rfl _ _ rfl rfl HT2.a rfl rfl HT2.b (by omega) HT2.C ?_;rintro W cs - rfl hg hs hn hb -;have HT:=h4_ hg hs hn hb;clear hg hs hn hb);exact eG_ (YF rfl rfl HT.a HT.b) rfl ⟨_,rfl,HT.c,HT.D⟩
end Go.Proofs.YtiecccakcenobaaGreatDoor
