/- A part of the proof. -/
import Derived.Test.YtiecccakcenobaaGreatDoorTdvM10
import Derived.Lib.BitFns
import Derived.Lib.ItoaNum
set_option linter.all false
set_option maxRecDepth 100000
set_option maxHeartbeats 64000000
namespace Go.Proofs.YtiecccakcenobaaGreatDoor.Zp
variable {B P W X0 Y g p q r:Nat}
def back (B p:Nat):List Nat->List Nat
 | []=> []
 | d::r=> ((r.headD 0*B+d) / p) % B::back B p r
theorem back_len (B p:Nat):∀ l:List Nat,(back B p l).length=l.length
 | []=> rfl
 | d::r=> by simp only[back,eL_,back_len B p r]
theorem Q2C {B p:Nat} (hB:0 < B):∀ l:List Nat,Dig B (back B p l)
 | []=> Dig.nil
 | d::r=> Dig.cons (Nat.mod_lt _ hB) (Q2C hB r)
theorem Q2D {B p s:Nat} (hp:0 < p) (hs:B=p*s):∀ l:List Nat,Dig B l->val B (back B p l)=val B l / p
 | [],_=> by simp[back,val]
 | d::r,h=> by
  have ih:=Q2D hp hs r h.tail;have hd:=h.head;have hB:0 < B:=by omega
  show ((r.headD 0*B+d) / p) % B+B*val B (back B p r)=(d+B*val B r) / p;rw[ih];have e1:val B r=p*(val B r / p)+val B r % p:=(Nat.div_add_mod _ _).symm;have ht:=Nat.mod_lt (val B r) hp;have e2:=Yb B r;generalize val B r / p=q at*;generalize val B r % p=t at*;generalize val B r.tail=v at*;generalize r.headD 0=r0 at*;generalize val B r=V at*;have e3:(d+B*V)=(d+B*t)+p*(B*q):=by
   rw[e1,Nat.mul_add,Nat.mul_left_comm];omega
  rw[e3,Nat.add_mul_div_left _ _ hp];have e4:(d+B*t) / p < B:=by
   rw[Nat.div_lt_iff_lt_mul hp];have:B*(t+1)<=B*p:=Nat.mul_le_mul_left _ ht;rw[Nat.mul_add,Nat.mul_one] at this;omega
  have e5:(r0*B+d)+p*(s*v*B)=(d+B*t)+p*(q*B):=by
   have h1:(r0+B*v)*B=(p*q+t)*B:=(by rw[<-e2,e1]);rw[Nat.add_mul,Nat.add_mul] at h1;have h2:B*v*B=p*(s*v*B):=(by rw[hs];simp only[Nat.mul_assoc]);have h3:p*q*B=p*(q*B):=Nat.mul_assoc _ _ _;rw[Nat.mul_comm B t];omega
  have e6:(r0*B+d) / p+s*v*B=(d+B*t) / p+q*B:=by
   have h1:=congrArg (· / p) e5;simpa only[Nat.add_mul_div_left _ _ hp] using h1
  have e7:((r0*B+d) / p) % B=(d+B*t) / p:=by
   have h1:=congrArg (· % B) e6;simp only[Nat.add_mul_mod_self_right] at h1;rw[h1,Nat.mod_eq_of_lt e4]
  rw[e7,Nat.add_comm]
def take (B q:Nat):List Nat->List Nat->Nat->Nat->List Nat × Nat
 | _, [],_,l=> ([],l)
 | [],x::xs,c,l=> ((x+B - c - l) % B::xs,if x < c+l then 1 else 0)
 | y::ys,x::xs,c,l=>
  let r:=take B q ys xs ((c+y*q) / B) (if x < (c+y*q) % B+l then 1 else 0)
  ((x+B - (c+y*q) % B - l) % B::r.1,r.2)
theorem UA (B q:Nat):∀ (ys xs:List Nat) (c l:Nat),(take B q ys xs c l).1.length=xs.length
 | [], [],_,_=> rfl
 | _::_, [],_,_=> rfl
 | [],x::xs,_,_=> rfl
 | y::ys,x::xs,c,l=> by simp only[take,eL_,UA B q ys xs]
theorem UB {B q:Nat} (hB:0 < B):∀ (ys xs:List Nat) (c l:Nat),Dig B xs->Dig B (take B q ys xs c l).1
 | [], [],_,_,h=> h
 | _::_, [],_,_,h=> h
 | [],x::xs,_,_,h=> Dig.cons (Nat.mod_lt _ hB) h.tail
 | y::ys,x::xs,c,l,h=> Dig.cons (Nat.mod_lt _ hB) (UB hB ys xs _ _ h.tail)
theorem DZ {x d l:Nat} (hx:x < B) (hd:d < B) (hl:l<=1):(x+B - d - l) % B+d+l=x+B*(if x < d+l then 1 else 0):=by
 by_cases h:x < d+l
 ·rw[if_pos h,Nat.mod_eq_of_lt (by omega)];omega
 ·rw[if_neg h];have:x+B - d - l=(x - d - l)+B:=by omega
  rw[this,Nat.add_mod_right,Nat.mod_eq_of_lt (by omega)];omega
theorem JU {c y:Nat} (hq:q < B) (hc:c < B) (hy:y < B):(c+y*q) / B < B:=by
 rw[Nat.div_lt_iff_lt_mul (by omega)];have h1:y*q<=(B - 1)*(B - 1):=Nat.mul_le_mul (by omega) (by omega);obtain ⟨m,rfl⟩:∃ m,B=m+1:=⟨B - 1,by omega⟩
 simp only[Nat.add_sub_cancel] at h1;rw[Nat.add_mul,Nat.mul_add];omega
theorem L0 {B q:Nat} (hB:0 < B) (hq:q < B):∀ (ys xs:List Nat) (c l:Nat),Dig B ys->Dig B xs->c < B->l<=1->ys.length < xs.length->
  (take B q ys xs c l).2<=1/\(take B q ys xs c l).1.drop (ys.length+1)=xs.drop (ys.length+1)/\
  val B ((take B q ys xs c l).1.take (ys.length+1))+val B ys*q+c+l=val B (xs.take (ys.length+1))+B ^ (ys.length+1)*(take B q ys xs c l).2
 | [], [],_,_,_,_,_,_,h=> absurd h (by simp)
 | y::ys, [],_,_,_,_,_,_,h=> absurd h (by simp)
 | [],x::xs,c,l,_,hx,hc,hl,_=> by
  have h1:=DZ hx.head hc hl;simp only[take,eU_,Nat.zero_add,List.drop_succ_cons,List.drop_zero,List.take_succ_cons,List.take_zero,val,Nat.mul_zero,Nat.add_zero,Nat.zero_mul,Nat.pow_one,true_and];refine ⟨by split <;> omega,by omega⟩
 | y::ys,x::xs,c,l,hy,hx,hc,hl,hlen=> by
  have hd:(c+y*q) % B < B:=Nat.mod_lt _ hB;have h1:=DZ hx.head hd hl;have h2:=JU hq hc hy.head;have h3:(if x < (c+y*q) % B+l then 1 else 0)<=1:=by split <;> omega
  obtain ⟨i1,i2,i3⟩:=L0 hB hq ys xs _ _ hy.tail hx.tail h2 h3 (by simpa using hlen);have h4:=Nat.mod_add_div (c+y*q) B;simp only[take,eL_,List.drop_succ_cons,List.take_succ_cons,val];refine ⟨i1,i2,?_⟩;generalize hl':(if x < (c+y*q) % B+l then 1 else 0)=l' at*;generalize hc':(c+y*q) / B=c' at*;generalize (c+y*q) % B=d at*;generalize take B q ys xs c' l'=r at*;have i4:=congrArg (B*·) i3;simp only[Nat.mul_add, <-Nat.mul_assoc] at i4;rw[Nat.pow_succ,Nat.mul_comm (B ^ (ys.length+1)) B,Nat.mul_assoc B,Nat.add_mul,Nat.mul_assoc B (val B ys)];rw[Nat.mul_assoc B (val B ys),Nat.mul_assoc B (B ^ (ys.length+1))] at i4;omega
def give (B:Nat):List Nat->List Nat->Nat->List Nat
 | _, [],_=> []
 | [],x::xs,c=> (x+c) % B::xs
 | y::ys,x::xs,c=> (x+y+c) % B::give B ys xs ((x+y+c) / B)
theorem Q2E (B:Nat):∀ (ys xs:List Nat) (c:Nat),(give B ys xs c).length=xs.length
 | [], [],_=> rfl
 | _::_, [],_=> rfl
 | [],x::xs,_=> rfl
 | y::ys,x::xs,c=> by simp only[give,eL_,Q2E B ys xs]
theorem Q2F {B:Nat} (hB:0 < B):∀ (ys xs:List Nat) (c:Nat),Dig B xs->Dig B (give B ys xs c)
 | [], [],_,h=> h
 | _::_, [],_,h=> h
 | [],x::xs,_,h=> Dig.cons (Nat.mod_lt _ hB) h.tail
 | y::ys,x::xs,c,h=> Dig.cons (Nat.mod_lt _ hB) (Q2F hB ys xs _ h.tail)
theorem Q2G {B:Nat} (hB:0 < B):∀ (ys xs:List Nat) (c:Nat),Dig B ys->Dig B xs->c<=1->ys.length < xs.length->
  (give B ys xs c).drop (ys.length+1)=xs.drop (ys.length+1)/\∃ l,l<=1/\
  val B ((give B ys xs c).take (ys.length+1))+B ^ (ys.length+1)*l=val B (xs.take (ys.length+1))+val B ys+c
 | [], [],_,_,_,_,h=> absurd h (by simp)
 | y::ys, [],_,_,_,_,h=> absurd h (by simp)
 | [],x::xs,c,_,hx,hc,_=> by
  have h1:=hx.head;have h4:=Nat.mod_add_div (x+c) B;simp only[give,eU_,Nat.zero_add,List.drop_succ_cons,List.drop_zero,List.take_succ_cons,List.take_zero,val,Nat.mul_zero,Nat.add_zero,Nat.pow_one,true_and];refine ⟨(x+c) / B,?_,by omega⟩;have:(x+c) / B < 2:=(Nat.div_lt_iff_lt_mul hB).2 (by omega);omega
 | y::ys,x::xs,c,hy,hx,hc,hlen=> by
  have h1:=hx.head;have h2:=hy.head;have hc':(x+y+c) / B<=1:=by
   have:(x+y+c) / B < 2:=(Nat.div_lt_iff_lt_mul hB).2 (by omega);omega
  obtain ⟨i1,l,hl,i3⟩:=Q2G hB ys xs _ hy.tail hx.tail hc' (by simpa using hlen);have h4:=Nat.mod_add_div (x+y+c) B;simp only[give,eL_,List.drop_succ_cons,List.take_succ_cons,val];refine ⟨i1,l,hl,?_⟩;generalize (x+y+c) / B=c' at*;have i4:=congrArg (B*·) i3;simp only[Nat.mul_add, <-Nat.mul_assoc] at i4;rw[Nat.pow_succ,Nat.mul_comm (B ^ (ys.length+1)) B];omega
structure Guess (B W Y P g r:Nat):Prop where
 eq:g*(Y / P / B)+r=W / P / B
 ge:W / Y<=g
 lt:g < B
theorem Q4i (hP:0 < P) (hB:0 < B) (hW:W < Y*B) (hT:0 < Y / P / B):
  Guess B W Y P (if W / P / B / B < Y / P / B then W / P / B / (Y / P / B) else B - 1) (if W / P / B / B < Y / P / B then W / P / B % (Y / P / B) else W / P / B % B+Y / P / B):=by
 have hY:0 < Y:=by
  rcases Nat.eq_zero_or_pos Y with h | h
  ·rw[h] at hT;simp at hT
  ·exact h
 have hq:W / Y < B:=(Nat.div_lt_iff_lt_mul hY).2 (by rw[Nat.mul_comm];exact hW);have h1:W / Y*(Y / P / B)<=W / P / B:=by
  rw[Nat.div_div_eq_div_mul,Nat.div_div_eq_div_mul,Nat.le_div_iff_mul_le (Nat.mul_pos hP hB),Nat.mul_assoc];exact eE_ (Nat.mul_le_mul_left _ (Nat.div_mul_le_self _ _)) (Nat.div_mul_le_self _ _)
 by_cases h:W / P / B / B < Y / P / B
 ·rw[if_pos h,if_pos h];refine ⟨by rw[Nat.mul_comm];exact Nat.div_add_mod _ _,(Nat.le_div_iff_mul_le hT).2 h1,?_⟩;rw[Nat.div_lt_iff_lt_mul hT];have h2:=Nat.mod_add_div (W / P / B) B;have h3:=Nat.mod_lt (W / P / B) hB;have h4:B*(W / P / B / B+1)<=B*(Y / P / B):=Nat.mul_le_mul_left _ h;rw[Nat.mul_add,Nat.mul_one] at h4;omega
 ·rw[if_neg h,if_neg h];have h2:W / P / B / B<=Y / P / B:=by
   have h3:W / P / B / B=W / B / P / B:=by
    rw[Nat.div_div_eq_div_mul W P B,Nat.mul_comm P B, <-Nat.div_div_eq_div_mul W B P]
   rw[h3];refine Nat.div_le_div_right (Nat.div_le_div_right ?_);have:W / B < Y:=(Nat.div_lt_iff_lt_mul hB).2 hW;omega
  have h3:W / P / B / B=Y / P / B:=by omega
  refine ⟨?_,by omega,by omega⟩;have h4:=Nat.mod_add_div (W / P / B) B;rw[h3] at h4;obtain ⟨m,rfl⟩:∃ m,B=m+1:=⟨B - 1,by omega⟩
  rw[Nat.add_mul,Nat.one_mul] at h4;rw[Nat.add_sub_cancel];omega
theorem Q4j (hP:0 < P) (hB:0 < B) (h:Guess B W Y P g r) (hx:r*B+W / P % B < g*(Y / P % B)):0 < g/\Guess B W Y P (g - 1) (r+Y / P / B):=by
 have hg:0 < g:=by
  rcases Nat.eq_zero_or_pos g with h0 | h0
  ·rw[h0] at hx;simp at hx
  ·exact h0
 refine ⟨hg,?_,?_,by have:=h.lt;omega⟩
 ·have:=h.eq;obtain ⟨m,rfl⟩:∃ m,g=m+1:=⟨g - 1,by omega⟩
  rw[Nat.add_mul,Nat.one_mul] at this;rw[Nat.add_sub_cancel];omega
 ·have h1:¬ g<=W / Y:=fun hle=> by
   have h2:g*(Y / P)<=W / P:=by
    rw[Nat.le_div_iff_mul_le hP,Nat.mul_assoc];exact eE_ (Nat.mul_le_mul hle (Nat.div_mul_le_self _ _)) (Nat.div_mul_le_self _ _)
   have h3:=h.eq;have h4:=Nat.mod_add_div (Y / P) B;have h5:=Nat.mod_add_div (W / P) B;rw[<-h4,Nat.mul_add] at h2;have h6:g*(B*(Y / P / B))=B*(g*(Y / P / B)):=Nat.mul_left_comm _ _ _;have h7:=congrArg (B*·) h3;simp only[Nat.mul_add] at h7;rw[Nat.mul_comm r B] at hx;omega
  omega
theorem Q0h (hP:0 < P) (hB:0 < B) (hT:0 < Y / P / B) (h:Guess B W Y P g r) (hx:B<=r\/g*(Y / P % B)<=r*B+W / P % B):g<=W / Y+1:=by
 have hY:0 < Y:=by
  rcases Nat.eq_zero_or_pos Y with h | h
  ·rw[h] at hT;simp at hT
  ·exact h
 have hlt:=h.lt;have h3:=h.eq;rcases Nat.eq_zero_or_pos g with h0 | h0
 ·rw[h0];exact eV_ _
 ·obtain ⟨m,rfl⟩:∃ m,g=m+1:=⟨g - 1,by omega⟩
  refine Nat.succ_le_succ ((Nat.le_div_iff_mul_le hY).2 ?_);rcases hx with hx | hx
  ·have h4:Y < (Y / P / B+1)*(P*B):=by
    rw[Nat.div_div_eq_div_mul];exact (Nat.div_lt_iff_lt_mul (Nat.mul_pos hP hB)).1 (Nat.lt_succ_self _)
   have h5:(m+1)*Y<=(m+1)*((Y / P / B+1)*(P*B)):=Nat.mul_le_mul_left _ (by omega);have h6:(m+1)*(Y / P / B+1)<=W / P / B:=by
    rw[Nat.mul_add (m+1),Nat.mul_one];omega
   have h7:(m+1)*(Y / P / B+1)*(P*B)<=W / P / B*(P*B):=Nat.mul_le_mul_right _ h6;have h8:W / P / B*(P*B)<=W:=(by rw[Nat.div_div_eq_div_mul];exact Nat.div_mul_le_self _ _);rw[Nat.mul_assoc (m+1)] at h7;have h9:m*Y<=(m+1)*Y:=Nat.mul_le_mul_right _ (by omega);omega
  ·have h4:Y < (Y / P+1)*P:=(Nat.div_lt_iff_lt_mul hP).1 (Nat.lt_succ_self _);have h5:m*Y<=m*((Y / P+1)*P):=Nat.mul_le_mul_left _ (by omega);have h6:(m+1)*(Y / P)<=W / P:=by
    have e1:=Nat.mod_add_div (Y / P) B;have e2:=Nat.mod_add_div (W / P) B;have e3:(m+1)*(B*(Y / P / B))=B*((m+1)*(Y / P / B)):=Nat.mul_left_comm _ _ _;have e4:=congrArg (B*·) h3;simp only[Nat.mul_add B] at e4;rw[<-e1,Nat.mul_add (m+1)];rw[Nat.mul_comm r B] at hx;omega
   have h7:m<=Y / P:=by
    have e1:=Nat.mod_add_div (Y / P) B;have e2:B*1<=B*(Y / P / B):=Nat.mul_le_mul_left _ hT;omega
   have h8:m*(Y / P+1)<=W / P:=by
    rw[Nat.mul_add,Nat.mul_one];rw[Nat.add_mul,Nat.one_mul] at h6;omega
   have h9:m*(Y / P+1)*P<=W / P*P:=Nat.mul_le_mul_right _ h8;have h10:=Nat.div_mul_le_self W P;rw[Nat.mul_assoc] at h9;omega
def round (B g:Nat) (ys win:List Nat):List Nat × Nat:=
 if (take B g ys win 0 0).2=0 then ((take B g ys win 0 0).1,g) else (give B ys (take B g ys win 0 0).1 0,g - 1)
theorem Xv (B:Nat) (l:List Nat) (k:Nat) (hk:k<=l.length):val B l=val B (l.take k)+B ^ k*val B (l.drop k):=by
 have h:=Y7 B (l.take k) (l.drop k);rw[eW_,eN_,Nat.min_eq_left hk] at h;exact h
theorem Q4k (hB:2<=B) {ys win:List Nat} (hy:Dig B ys) (hw:Dig B win) (hlen:ys.length < win.length) (h0:0 < val B ys) (hlt:val B win < val B ys*B)
  (hg:g < B) (h1:val B win / val B ys<=g) (h2:g<=val B win / val B ys+1):
  (round B g ys win).2=val B win / val B ys/\val B (round B g ys win).1=val B win % val B ys/\Dig B (round B g ys win).1/\(round B g ys win).1.length=win.length:=by
 have hB0:0 < B:=by omega
 obtain ⟨t1,t2,t3⟩:=L0 hB0 hg ys win 0 0 hy hw hB0 (by omega) hlen;have td:=UB hB0 (q:=g) ys win 0 0 hw;have tl:=UA B g ys win 0 0;have hYP:val B ys < B ^ ys.length:=Xs hB hy;have hP:B ^ (ys.length+1)=B ^ ys.length*B:=Nat.pow_succ _ _;have hYB:val B ys*B<=B ^ ys.length*B:=Nat.mul_le_mul_right _ (by omega);have hsplit:=Xv B win (ys.length+1) (by omega);have hhi:val B (win.drop (ys.length+1))=0:=by
  rcases Nat.eq_zero_or_pos (val B (win.drop (ys.length+1))) with h | h
  ·exact h
  ·have:B ^ (ys.length+1)*1<=B ^ (ys.length+1)*val B (win.drop (ys.length+1)):=Nat.mul_le_mul_left _ h;omega
 rw[hhi,Nat.mul_zero,Nat.add_zero] at hsplit;rw[<-hsplit] at t3;have ht1:val B ((take B g ys win 0 0).1.take (ys.length+1)) < B ^ (ys.length+1):=by
  have:=Xs hB (td.take (ys.length+1));rw[eN_,tl,Nat.min_eq_left (by omega)] at this;exact this
 have hdm:=Nat.div_add_mod (val B win) (val B ys);have hml:=Nat.mod_lt (val B win) h0;have htv:=Xv B (take B g ys win 0 0).1 (ys.length+1) (by omega);rw[t2,hhi,Nat.mul_zero,Nat.add_zero] at htv;have hB1:0 < B ^ (ys.length+1):=Nat.pow_pos hB0;unfold round;generalize hQ:val B win / val B ys=Q at*;generalize hR:val B win % val B ys=R at*;rcases Nat.eq_or_lt_of_le h1 with hgq | hgq
 ·subst hgq;have hl0:(take B Q ys win 0 0).2=0:=by
   rcases Nat.eq_zero_or_pos (take B Q ys win 0 0).2 with h | h
   ·exact h
   ·have:(take B Q ys win 0 0).2=1:=(by omega);rw[this] at t3;omega
  rw[if_pos hl0];rw[hl0] at t3;refine ⟨rfl,?_,td,tl⟩;show val B (take B Q ys win 0 0).1=R;omega
 ·obtain rfl:g=Q+1:=by omega
  have hl1:(take B (Q+1) ys win 0 0).2=1:=by
   rcases Nat.eq_zero_or_pos (take B (Q+1) ys win 0 0).2 with h | h
   ·rw[h,Nat.mul_add] at t3;omega
   ·omega
  rw[if_neg (by omega)];rw[hl1,Nat.mul_add] at t3;obtain ⟨g1,l,g2,g3⟩:=Q2G hB0 ys (take B (Q+1) ys win 0 0).1 0 hy td (by omega) (by omega);have gd:=Q2F hB0 ys (take B (Q+1) ys win 0 0).1 0 td;have gl:=Q2E B ys (take B (Q+1) ys win 0 0).1 0;have ht2:val B ((give B ys (take B (Q+1) ys win 0 0).1 0).take (ys.length+1)) < B ^ (ys.length+1):=by
   have:=Xs hB (gd.take (ys.length+1));rw[eN_,gl,tl,Nat.min_eq_left (by omega)] at this;exact this
  have gv:=Xv B (give B ys (take B (Q+1) ys win 0 0).1 0) (ys.length+1) (by omega);rw[g1,t2,hhi,Nat.mul_zero,Nat.add_zero] at gv;refine ⟨by simp,?_,gd,gl.trans tl⟩;rw[gv];rcases Nat.eq_zero_or_pos l with h | h
  ·rw[h] at g3;omega
  ·obtain rfl:l=1:=(by omega);omega
structure Long (B X0:Nat) (ys:List Nat) (k:Nat) (X O:List Nat):Prop where
 dx:Dig B X
 do_:Dig B O
 len:X.length=O.length+ys.length
 kl:k<=O.length
 lt:val B (X.drop k) < val B ys
 eq:X0=val B X+B ^ k*(val B (O.drop k)*val B ys)
theorem Long.step (hB:2<=B) {ys:List Nat} (hy:Dig B ys) {k:Nat} {X O:List Nat} (h:Long B X0 ys (k+1) X O) {g:Nat} (hg:g < B)
  (h1:val B (X.drop k) / val B ys<=g) (h2:g<=val B (X.drop k) / val B ys+1):
  Long B X0 ys k (X.take k++(round B g ys (X.drop k)).1) (O.set k (round B g ys (X.drop k)).2):=by
 have hk:=h.kl;have hl:=h.len;have hkx:k < X.length:=by omega
 have h0:0 < val B ys:=by have:=h.lt;omega
 have hdrop:X.drop k=X[k]! ::X.drop (k+1):=by rw[getElem!_pos X k hkx,List.getElem_cons_drop]
 have hlt:val B (X.drop k) < val B ys*B:=by
  rw[hdrop];show X[k]! +B*val B (X.drop (k+1)) < _;have hd:=h.dx.get k hkx;have:B*(val B (X.drop (k+1))+1)<=B*val B ys:=Nat.mul_le_mul_left _ h.lt;rw[Nat.mul_add,Nat.mul_one] at this;rw[Nat.mul_comm (val B ys)];omega
 obtain ⟨r1,r2,r3,r4⟩:=Q4k hB hy (h.dx.drop k) (by rw[List.length_drop];omega) h0 hlt hg h1 h2;have hqB:val B (X.drop k) / val B ys < B:=(Nat.div_lt_iff_lt_mul h0).2 (by rw[Nat.mul_comm];exact hlt);have hdm:=Nat.div_add_mod (val B (X.drop k)) (val B ys);have hml:=Nat.mod_lt (val B (X.drop k)) h0;have htl:(X.take k).length=k:=by rw[eN_];omega
 refine ⟨(h.dx.take k).append r3,fun d hd=> ?_,?_,by rw[List.length_set];omega,?_,?_⟩
 ·rcases List.mem_or_eq_of_mem_set hd with hd | rfl
  ·exact h.do_ d hd
  ·rw[r1];exact hqB
 ·rw[eC_,htl,r4,List.length_drop,List.length_set];omega
 ·rw[List.drop_append_of_le_length (by omega),List.drop_of_length_le (by omega),List.nil_append,r2];exact hml
 ·have e1:=Xv B X k (by omega);have e2:val B (X.take k++(round B g ys (X.drop k)).1)=val B (X.take k)+B ^ k*(val B (X.drop k) % val B ys):=by
   rw[Y7,htl,r2]
  have e3:(O.set k (round B g ys (X.drop k)).2).drop k=(val B (X.drop k) / val B ys)::O.drop (k+1):=by
   rw[List.drop_eq_getElem_cons (by rw[List.length_set];omega),List.getElem_set_self,r1,List.drop_set_of_lt (by omega)]
  rw[e2,e3];show X0=_+B ^ k*((val B (X.drop k) / val B ys+B*val B (O.drop (k+1)))*val B ys);rw[h.eq,e1,Nat.pow_succ];generalize val B (X.drop k) / val B ys=Q at*;generalize val B (X.drop k) % val B ys=R at*;rw[<-hdm,Nat.add_mul,Nat.mul_add,Nat.mul_add,Nat.mul_comm (val B ys) Q];have e4:B ^ k*B*(val B (O.drop (k+1))*val B ys)=B ^ k*(B*val B (O.drop (k+1))*val B ys):=by simp only[Nat.mul_assoc]
  rw[e4];omega
theorem Long.done {ys X O:List Nat} (h:Long B X0 ys 0 X O):val B O=X0 / val B ys/\val B X=X0 % val B ys:=by
 have h1:=h.eq;have h2:=h.lt;simp only[List.drop_zero,Nat.pow_zero,Nat.one_mul] at h1 h2;have h0:0 < val B ys:=by omega
 rw[h1,Nat.add_mul_div_right _ _ h0,Nat.add_mul_mod_self_right,Nat.div_eq_of_lt h2,Nat.mod_eq_of_lt h2];exact ⟨by omega,rfl⟩
end Go.Proofs.YtiecccakcenobaaGreatDoor.Zp
namespace Go.Proofs.YtiecccakcenobaaGreatDoor
open Go.Proofs.Tryz
open Go.RowKit
variable {X l ys:List Nat} {E:List Value} {B R V Y at_ c cx d g i j n x y:Nat} {v:Value} {W w:World}
theorem Q5U {p:Nat} (h:l[j]? =some d):Zp.back B32 p (l.drop j)=(((l.drop (j+1)).headD 0*B32+d) / p) % B32::Zp.back B32 p (l.drop (j+1)):=by
 rw[X7 h];rfl
theorem Q5V (h:l[j]? =some d):(l.drop j).headD 0=d:=by rw[X7 h];rfl
theorem shl32 (c:Nat):IntKind.u64.wrap ((c:Int)*4294967296)=((c % B32*B32:Nat):Int):=by
 rw[IntKind.wrap_u64];have h:(4294967296:Int)=((4294967296:Nat):Int):=rfl;show _=((c % 4294967296*4294967296:Nat):Int)
 omega
def BkRel (w:World) (p:Nat) (l:List Nat) (k:Nat) (v6 v7:Value) (wr:World):Prop:=
 ∃ (j c:Nat) (i:Int),v6= .int .u64 (c:Int)/\v7= .int .i64 i/\i=(j:Int) - 1/\k=j/\j<=l.length/\c % B32=(l.drop j).headD 0/\
  wr.heap[w.heap.size]? =some (.cells (u32Cells (List.replicate j 0++Zp.back B32 p (l.drop j))).toArray 174 (0,0))/\Below w.heap.size w wr
theorem Q2H (h:RdU w v l) (hl:l.length<=1073741824) (hd:Zp.Dig B32 l) (n:Nat) (hn:n < 32):
  Calls prog 184 #[v,.int .i64 (n:Int)] w fun e w'=> ∃ v',e= .returned v'/\RdU w' v' (Zp.digs B32 (Zp.val B32 l / 2 ^ n))/\Below w.heap.size w w':=by
 obtain ⟨a0,c0,rfl,hc⟩:=h.form;obtain ⟨p,hp⟩:∃ p,2 ^ n=p:=⟨_,rfl⟩
 have hp0:0 < p:=by rw[<-hp];exact Nat.two_pow_pos n
 have hps:B32=p*2 ^ (32 - n):=by rw[<-hp, <-Nat.pow_add,show n+(32 - n)=32 from by omega]
 rw[hp];have HH:=h5_ h hd hp hp0 hps;have hl':(l.length:Int)<=1073741824:=by omega
 have hn0:(0:Int)<=(n:Int):=by omega
 have hn1:(n:Int) < 32:=by omega
 have hmk:∀ W:World,(Instr.makeSlice 25 (.int .i64 (l.length:Int)) (.int .i64 (l.length:Int))).run prog W= .ok (.slice (some ⟨W.heap.size,0,none⟩) l.length l.length) (W.alloc (.cells (u32Cells (List.replicate l.length 0)).toArray 174)):=fun W=> Y9 l.length l.length (rl_ _) hl _ _ rfl rfl W;clear h hd hp hp0 hps;go_in;go_wp2_with fail;clear hmk;go_loopg [6,7] l.length (fun k v6 v7 wr=> BkRel w p l k v6 v7 wr)
 case atStart=> exact ⟨l.length,0,_,rfl,rfl,rfl,rfl,rl_ _,by rw[List.drop_length];rfl,by rw[List.drop_length];exact (List.append_nil _).symm ▸ eD_ _ _,(eB_ _ _).alloc (rl_ _) _⟩
 case round=>
  obtain ⟨j,c,i,rfl,rfl,hi,hk,hj,hcm,hg,hbl⟩:=hrel;have HR:=h3_ hk hg hbl;clear hk hg hbl;cases j with
  | zero=>
   obtain rfl:i=-1:=(by omega);have hvb:=Zp.Q2D HH.d HH.E l HH.b;have hds:=Zp.Q2C (p:=p) (show 0 < B32 by decide) l;have hln:=Zp.back_len B32 p l;rw[List.drop_zero] at HR;obtain ⟨q,hq⟩:∃ q,Zp.back B32 p l=q:=⟨_,rfl⟩
   rw[hq] at HR hvb hds hln;have hrd:=Zb HR.b (c:=l.length) (by rw[List.replicate_zero,List.nil_append,hln];exact rl_ _);rw[List.replicate_zero,List.nil_append,hln] at hrd;have htr:=Xj (c:=l.length) (l:=q) (by rw[hln];exact hrd) (by rw[hln];exact hl);have HT:=h4_ htr hrd.trim hvb hds;rw[hln] at HT;clear htr hrd hvb hds hln hi hq hcm;go_wp2_with fail;refine HT.a.mono ?_;rintro e w2 ⟨rfl,rfl⟩;dsimp only;go_wp2_with fail;go_ret;refine ⟨_,rfl,?_,HR.C⟩;rw[<-HT.c, <-Zp.Xh (by decide) HT.D];exact HT.b
  | succ m=>
   obtain rfl:i=(m:Int):=(by omega);have hmx:(m:Int) < (l.length:Int):=(by omega);obtain ⟨d,hd1,hd2,hd3⟩:=QI HH.b m (by omega);obtain ⟨b1,o1,ex,hcx⟩:=(HH.a.below HR.C).cell (i:=m) (by omega);rw[hd1] at hcx;have hst:=Q5U (p:=p) hd2;obtain ⟨h0,hh0⟩:∃ h,(l.drop (m+1)).headD 0=h:=⟨_,rfl⟩
   rw[hh0] at hst hcm;have hhB:h0 < B32:=(by rw[<-hcm];exact Nat.mod_lt _ (by decide));obtain ⟨x,hx⟩:∃ x,h0*B32+d=x:=⟨_,rfl⟩
   have hxm:x < B32*B32:=by
    have h1:(h0+1)*B32<=B32*B32:=Nat.mul_le_mul_right _ hhB;rw[Nat.add_mul,Nat.one_mul] at h1;omega
   have hor:bits BinOp.or IntKind.u64 (IntKind.u64.wrap ((c:Int)*4294967296)) (IntKind.u64.wrap (d:Int))=(x:Int):=by
    have hrx:h0*B32 < B32*B32:=Nat.lt_of_le_of_lt (by rw[<-hx];exact Nat.le_add_right _ _) hxm;have hdx:d < B32*B32:=eI_ hd3 (by decide);rw[shl32,hcm,QA (n:=d) hdx,u64_or_nat _ _ hrx hdx,nat_join 32 _ _ (by show h0*4294967296 % 4294967296=0;omega) hd3,hx]
   have hxc:x % B32=d:=(by rw[<-hx];show (h0*4294967296+d) % 4294967296=d;have:d < 4294967296:=hd3;omega);obtain ⟨q,hq⟩:∃ q,x / p % B32=q:=⟨_,rfl⟩
   have hsr:(x:Int) / 2 ^ n=(x:Int) / (p:Int):=(by rw[<-HH.c,Int.natCast_pow];rfl);have hq2:(x:Int) / (p:Int) % 4294967296=(q:Int):=(by rw[<-Int.natCast_ediv, <-hq];show _=((x / p % 4294967296:Nat):Int);omega);have hcs:=Q3 HR.b m (filled2 (l:=Zp.back B32 p (l.drop (m+1))));have hfz:=Q6 HR.b m;rw[hx,hq] at hst;have HD:=h3_ hst hxc (Q5V hd2);clear hd1 hd2 hd3 hh0 hhB hi hx hxm hq hst hxc hcm;obtain rfl:=ex;go_wp2_with fail;go_roundg m
   case measure=> have:=HR.a;omega
   case rel=>
    refine ⟨m,x,_,rfl,rfl,rfl,rfl,by omega,by rw[HD.b,HD.C],?_,HR.C.setCell (by exact rl_ _) _⟩;have h2:=XK HR.b m q;rw[Q1H] at h2;rw[HD.a];exact h2
structure Only (g:Nat) (w W:World):Prop where
 os:W.os=w.os
 tape:W.tape=w.tape
 output:W.output=w.output
 size:W.heap.size=w.heap.size
 rest:∀ k,k≠g->W.heap[k]? =w.heap[k]?
theorem Only.refl (g:Nat) (w:World):Only g w w:=⟨rfl,rfl,rfl,rfl,fun _ _=> rfl⟩
theorem Only.setCell {g:Nat} {w W:World} (h:Only g w W) {cs:Array Value} {T:TypeId} (hg:W.heap[g]? =some (.cells cs T (0,0))) (j:Nat) (v:Value):Only g w (W.setCell ⟨g,j,none⟩ v):=by
 rw[setCell_eq_setRow W g j cs T (0,0) v hg];exact ⟨h.os,h.tape,h.output,by rw[QH,h.size],fun k hk=> by rw[Q8 hk];exact h.rest k hk⟩
theorem Only.below (h:Only g w W) (hB:B<=g):Below B w W:=⟨h.os,h.tape,h.output,Nat.le_of_eq h.size.symm,fun k hk=> h.rest k (by omega)⟩
theorem Only.cell {g:Nat} {w W:World} (h:Only g w W) {b o:Nat} (hb:b≠g):W.cell? ⟨b,o,none⟩=w.cell? ⟨b,o,none⟩:=by
 unfold World.cell?;rw[h.rest b hb]
def Row (g:Nat) (X:List Nat) (E:List Value) (W:World):Prop:=W.heap[g]? =some (.cells (u32Cells X++E).toArray 174 (0,0))
theorem Row.at (h:Row g X E W) {j d:Nat} (hj:X[j]? =some d):W.cell? ⟨g,j,none⟩=some (.int .u32 (d:Int)):=by
 have hl:j < X.length:=(List.getElem?_eq_some_iff.1 hj).1;refine Q3 h j ?_;rw[List.getElem?_toArray,eT_ (by rw[Y0];exact hl),Dd hl];have:X[j]! =d:=by rw[getElem!_pos X j hl];exact (List.getElem?_eq_some_iff.1 hj).2
 rw[this]
theorem Row.set {g:Nat} {X:List Nat} {E:List Value} {W:World} (h:Row g X E W) {j:Nat} (hj:j < X.length) (v:Nat):Row g (X.set j v) E (W.setCell ⟨g,j,none⟩ (.int .u32 (v:Int))):=by
 unfold Row at h |-;rw[Qx h];congr 2;rw[List.setIfInBounds_toArray,List.set_append_left _ _ (by rw[Y0];exact hj)];congr 2;simp[u32Cells,List.map_set]
theorem Q4L {done:List Nat} (hd:done.length=i) (hi:at_<=l.length) {x:Nat} (hx:l[at_+i]? =some x):
  (l.take at_++(done++l.drop (at_+i)))[at_+i]? =some x/\∀ v,(l.take at_++(done++l.drop (at_+i))).set (at_+i) v=l.take at_++((done++ [v])++l.drop (at_+(i+1))):=by
 have hdr:=X7 hx;have ht:(l.take at_).length=at_:=by rw[eN_];omega
 rw[hdr];refine ⟨?_,fun v=> ?_⟩
 ·rw[eO_ (by omega),eO_ (by omega),ht,hd,show at_+i - at_ - i=0 from by omega];rfl
 ·rw[Dk ht hd,Nat.add_assoc]
theorem Q5W {q l:Nat} (hx:X[at_+i]? =some x) (hy:ys[i]? =some y):
  Zp.take B32 q (ys.drop i) (X.drop (at_+i)) c l=((x+B32 - (c+y*q) % B32 - l) % B32::(Zp.take B32 q (ys.drop (i+1)) (X.drop (at_+(i+1))) ((c+y*q) / B32) (if x < (c+y*q) % B32+l then 1 else 0)).1,
   (Zp.take B32 q (ys.drop (i+1)) (X.drop (at_+(i+1))) ((c+y*q) / B32) (if x < (c+y*q) % B32+l then 1 else 0)).2):=by
 rw[X7 hx,X7 hy,Zp.take,Nat.add_assoc]
def TkRel (w:World) (g:Nat) (X:List Nat) (E:List Value) (ys:List Nat) (at_ q:Nat) (k:Nat) (v9 v10 v15:Value) (wr:World):Prop:=
 ∃ (i c l:Nat) (done:List Nat),v9= .int .u64 (c:Int)/\v10= .int .u32 (l:Int)/\v15= .int .i64 (i:Int)/\k=ys.length - i/\i<=ys.length/\c < B32/\l<=1/\done.length=i/\
  Row g (X.take at_++(done++X.drop (at_+i))) E wr/\(done++(Zp.take B32 q (ys.drop i) (X.drop (at_+i)) c l).1,(Zp.take B32 q (ys.drop i) (X.drop (at_+i)) c l).2)=Zp.take B32 q ys (X.drop at_) 0 0/\Only g w wr
theorem Q2I (hg:Row g X E w) (hX:X.length<=1073741824) {bY oY cY:Nat} {ys:List Nat}
  (hY:∀ (i d:Nat),ys[i]? =some d->w.cell? ⟨bY,oY+i,none⟩=some (.int .u32 (d:Int))) (hne:bY≠g) (at_:Nat) (hat:at_+ys.length < X.length) (hdX:Zp.Dig B32 X) (hdY:Zp.Dig B32 ys) (q:Nat) (hq:q < B32):
  Calls prog 182 #[.slice (some ⟨g,0,none⟩) X.length cx,.slice (some ⟨bY,oY,none⟩) ys.length cY,.int .i64 (at_:Int),.int .u64 (q:Int)] w fun e w'=>
   e= .returned (.bool (decide (0 < (Zp.take B32 q ys (X.drop at_) 0 0).2)))/\Row g (X.take at_++(Zp.take B32 q ys (X.drop at_) 0 0).1) E w'/\Only g w w':=by
 have HH:=h7_ hg hY hne hat hdX hdY hq;have hX':(X.length:Int)<=1073741824:=by omega
 have hY':(ys.length:Int)<=1073741824:=by omega
 have ha':(at_:Int)<=1073741824:=by omega
 clear hg hY hne hdX hdY hq;go_in;go_wp2_with fail;go_loopg [9,10,15] ys.length (fun k v9 v10 v15 wr=> TkRel w g X E ys at_ q k v9 v10 v15 wr)
 case atStart=> exact ⟨0,0,0, [],rfl,rfl,rfl,rfl,eV_ _,by decide,eV_ _,rfl,by rw[List.nil_append,Nat.add_zero,eW_];exact HH.a,rfl,Only.refl _ _⟩
 case round=>
  obtain ⟨i,c,l,done,rfl,rfl,rfl,hk,hi,hc,hl,hdl,hro,hgo,hon⟩:=hrel;have HR:=h7_ hk hc hl hdl hro hgo hon;clear hk hc hl hdl hro hgo hon;have hix:at_+i < X.length:=by have:=HH.d;omega
  obtain ⟨x,hx1,hx2,hx3⟩:=QI HH.e (at_+i) hix;obtain ⟨k,hkk⟩:∃ k,at_+i=k:=⟨_,rfl⟩
  have hki:(at_:Int)+(i:Int)=(k:Int):=by omega
  have hkx:(k:Int) < (X.length:Int):=by omega
  obtain ⟨ht1,ht2⟩:=Q4L HR.d (by omega) hx2;have hcx:=HR.e.at ht1;have hfz:=Q6 HR.e (at_+i);rw[hkk] at hcx hfz;by_cases hlt:i < ys.length
  ·have hlt':(i:Int) < (ys.length:Int):=(by omega);obtain ⟨y,hy1,hy2,hy3⟩:=QI HH.f i hlt;have hcy:=(HR.G.cell HH.c).trans (HH.b i y hy2);have hfit:c+y*q < B32*B32:=by
    have h1:=Zp.JU (B:=B32) HH.G HR.b hy3;rw[Nat.div_lt_iff_lt_mul (by decide)] at h1;exact h1
   obtain ⟨s,hs⟩:∃ s,c+y*q=s:=⟨_,rfl⟩
   have hw1:IntKind.u64.wrap (y:Int)=(y:Int):=QA (eI_ hy3 (by decide));have hw2:IntKind.u64.wrap ((y:Int)*(q:Int))=(y:Int)*(q:Int):=by
    have:=QA (n:=y*q) (by omega);rwa [Int.natCast_mul] at this
   have hw3:IntKind.u64.wrap ((c:Int)+(y:Int)*(q:Int))=(s:Int):=by
    have:=QA (n:=c+y*q) hfit;rw[hs] at this;rw[<-Int.natCast_mul, <-Int.natCast_add,hs];exact this
   obtain ⟨sl,hsl⟩:∃ sl,s % B32=sl:=⟨_,rfl⟩
   have hslB:sl < B32:=(by rw[<-hsl];exact Nat.mod_lt _ (by decide));have hm1:(s:Int) % 4294967296=(sl:Int):=(by rw[<-hsl];show _=((s % 4294967296:Nat):Int);omega);obtain ⟨d,hd⟩:∃ d,(x+B32 - sl - l) % B32=d:=⟨_,rfl⟩
   obtain ⟨r,hr⟩:∃ r:Nat,(if x < sl+l then 1 else 0)=r:=⟨_,rfl⟩
   have hst:=Q5W (q:=q) (c:=c) (l:=l) hx2 hy2;have hcB:=Zp.JU (B:=B32) HH.G HR.b hy3;rw[hs,hsl,hd,hr] at hst;rw[hs] at hcB;have hcall:=YQ x sl l hx3 hslB HR.c wr;rw[hd,hr] at hcall;have HQ:=h6_ hkk hst hcB hr ht2 hix;have HCA:=hd_ hcall;clear hx1 hx2 hx3 hy1 hy2 hy3 hfit hs hsl hslB hd hr hst hcB hcall hkk ht1 ht2 hix;go_wp2_with fail;refine HCA.o.mono ?_;rintro e w2 ⟨rfl,rfl⟩;dsimp only;go_wp2_with fail;go_roundg (ys.length - (i+1))
   case measure=> have:=HR.a;omega
   case rel=>
    refine ⟨i+1,s / B32,r,done++ [d],rfl,rfl,by go_num,rfl,by omega,HQ.c,by rw[<-HQ.d];split <;> omega,by simp[HR.d],?_,?_,HR.G.setCell HR.e _ _⟩
    ·have h2:=HR.e.set (j:=k) (by rw[<-HQ.a,eC_,eC_,eN_,List.length_drop,HR.d];have:=HQ.F;omega) d;have h3:=HQ.e d;rw[HQ.a] at h3;rw[HQ.a,h3] at h2;exact h2
    ·rw[<-HR.f,HQ.b,eQ_];rfl
  ·obtain rfl:ys.length=i:=(by omega);have hmB:(c:Int) % 4294967296=(c:Int):=by
    have:c < 4294967296:=HR.b;omega
   obtain ⟨d,hd⟩:∃ d,(x+B32 - c - l) % B32=d:=⟨_,rfl⟩
   obtain ⟨r,hr⟩:∃ r:Nat,(if x < c+l then 1 else 0)=r:=⟨_,rfl⟩
   have hcall:=YQ x c l hx3 HR.b HR.c wr;rw[hd,hr] at hcall;have hend:=HR.f;rw[List.drop_length,X7 hx2,Zp.take,hd,hr] at hend;have HQ:=h4_ hkk hend ht2 hix;have HCA:=hd_ hcall;clear hx1 hx2 hx3 hd hr hcall hkk ht1 ht2 hix hend;go_wp2_with fail;refine HCA.o.mono ?_;rintro e w2 ⟨rfl,rfl⟩;dsimp only;go_wp2_with fail;go_ret;refine ⟨?_,?_,HR.G.setCell HR.e _ _⟩
   ·rw[<-HQ.b];simp
   ·have h2:=HR.e.set (j:=k) (by rw[<-HQ.a,eC_,eC_,eN_,List.length_drop,HR.d];have:=HQ.D;omega) d;have h3:=HQ.c d;rw[HQ.a] at h3;rw[HQ.a,h3] at h2;rw[<-HQ.b];rw[eQ_] at h2;exact h2
theorem Q5X (hx:X[at_+i]? =some x) (hy:ys[i]? =some y):
  Zp.give B32 (ys.drop i) (X.drop (at_+i)) c=(x+y+c) % B32::Zp.give B32 (ys.drop (i+1)) (X.drop (at_+(i+1))) ((x+y+c) / B32):=by
 rw[X7 hx,X7 hy,Zp.give,Nat.add_assoc at_ i 1]
def GvRel (w:World) (g:Nat) (X:List Nat) (E:List Value) (ys:List Nat) (at_:Nat) (k:Nat) (v6 v11:Value) (wr:World):Prop:=
 ∃ (i c:Nat) (done:List Nat),v6= .int .u32 (c:Int)/\v11= .int .i64 (i:Int)/\k=ys.length - i/\i<=ys.length/\c<=1/\done.length=i/\
  Row g (X.take at_++(done++X.drop (at_+i))) E wr/\done++Zp.give B32 (ys.drop i) (X.drop (at_+i)) c=Zp.give B32 ys (X.drop at_) 0/\Only g w wr
theorem Q2J (hg:Row g X E w) (hX:X.length<=1073741824) {bY oY cY:Nat} {ys:List Nat}
  (hY:∀ (i d:Nat),ys[i]? =some d->w.cell? ⟨bY,oY+i,none⟩=some (.int .u32 (d:Int))) (hne:bY≠g) (at_:Nat) (hat:at_+ys.length < X.length) (hdX:Zp.Dig B32 X) (hdY:Zp.Dig B32 ys):
  Calls prog 183 #[.slice (some ⟨g,0,none⟩) X.length cx,.slice (some ⟨bY,oY,none⟩) ys.length cY,.int .i64 (at_:Int)] w fun e w'=>
   e= .returned (.tuple #[])/\Row g (X.take at_++Zp.give B32 ys (X.drop at_) 0) E w'/\Only g w w':=by
 have HH:=h6_ hg hY hne hat hdX hdY;have hX':(X.length:Int)<=1073741824:=by omega
 have hY':(ys.length:Int)<=1073741824:=by omega
 have ha':(at_:Int)<=1073741824:=by omega
 clear hg hY hne hdX hdY;go_in;go_wp2_with fail;go_loopg [6,11] ys.length (fun k v6 v11 wr=> GvRel w g X E ys at_ k v6 v11 wr)
 case atStart=> exact ⟨0,0, [],rfl,rfl,rfl,eV_ _,eV_ _,rfl,by rw[List.nil_append,Nat.add_zero,eW_];exact HH.a,rfl,Only.refl _ _⟩
 case round=>
  obtain ⟨i,c,done,rfl,rfl,hk,hi,hc,hdl,hro,hgo,hon⟩:=hrel;have HR:=h6_ hk hc hdl hro hgo hon;clear hk hc hdl hro hgo hon;have hix:at_+i < X.length:=by have:=HH.d;omega
  obtain ⟨x,hx1,hx2,hx3⟩:=QI HH.e (at_+i) hix;obtain ⟨k,hkk⟩:∃ k,at_+i=k:=⟨_,rfl⟩
  have hki:(at_:Int)+(i:Int)=(k:Int):=by omega
  have hkx:(k:Int) < (X.length:Int):=by omega
  obtain ⟨ht1,ht2⟩:=Q4L HR.c (by omega) hx2;have hcx:=HR.d.at ht1;have hfz:=Q6 HR.d (at_+i);rw[hkk] at hcx hfz;by_cases hlt:i < ys.length
  ·have hlt':(i:Int) < (ys.length:Int):=(by omega);obtain ⟨y,hy1,hy2,hy3⟩:=QI HH.F i hlt;have hcy:=(HR.F.cell HH.c).trans (HH.b i y hy2);obtain ⟨d,hd⟩:∃ d,(x+y+c) % B32=d:=⟨_,rfl⟩
   obtain ⟨r,hr⟩:∃ r:Nat,(x+y+c) / B32=r:=⟨_,rfl⟩
   have hr1:r<=1:=(by rw[<-hr];exact ZR hx3 hy3 HR.b);have hst:=Q5X (c:=c) hx2 hy2;rw[hd,hr] at hst;have hcall:=Yh x y c hx3 hy3 HR.b wr;rw[hd,hr] at hcall;have HQ:=h5_ hkk hst hr1 ht2 hix;have HCA:=hd_ hcall;clear hx1 hx2 hx3 hy1 hy2 hy3 hd hr hst hr1 hcall hkk ht1 ht2 hix;go_wp2_with fail;refine HCA.o.mono ?_;rintro e w2 ⟨rfl,rfl⟩;dsimp only;go_wp2_with fail;go_roundg (ys.length - (i+1))
   case measure=> have:=HR.a;omega
   case rel=>
    refine ⟨i+1,r,done++ [d],rfl,by go_num,rfl,by omega,HQ.c,by simp[HR.c],?_,?_,HR.F.setCell HR.d _ _⟩
    ·have h2:=HR.d.set (j:=k) (by rw[<-HQ.a,eC_,eC_,eN_,List.length_drop,HR.c];have:=HQ.E;omega) d;have h3:=HQ.d d;rw[HQ.a] at h3;rw[HQ.a,h3] at h2;exact h2
    ·rw[<-HR.e,HQ.b,eQ_];rfl
  ·obtain rfl:ys.length=i:=(by omega);obtain ⟨d,hd⟩:∃ d,(x+c) % B32=d:=⟨_,rfl⟩
   have hmB:((x:Int)+(c:Int)) % 4294967296=(d:Int):=(by rw[<-hd];show _=(((x+c) % 4294967296:Nat):Int);omega);have hend:=HR.e;rw[List.drop_length,X7 hx2,Zp.give,hd] at hend;have HQ:=h4_ hkk hend ht2 hix;clear hx1 hx2 hx3 hd hkk ht1 ht2 hix hend;go_wp2_with fail;go_end0;refine ⟨rfl,?_,HR.F.setCell HR.d _ _⟩;have h2:=HR.d.set (j:=k) (by rw[<-HQ.a,eC_,eC_,eN_,List.length_drop,HR.c];have:=HQ.D;omega) d;have h3:=HQ.c d;rw[HQ.a] at h3;rw[HQ.a,h3] at h2;rw[<-HQ.b];rw[eQ_] at h2;exact h2
theorem RdD.set (h:RdD w v l) (ha:LieAt B v) {g:Nat} (hg:g < B) {W:World} (hW:Only g w W):RdD W v l:=by
 obtain ⟨h1,a,c,rfl,hc,h2⟩:=h;refine ⟨h1,a,c,rfl,hc,?_⟩;rcases h2 with h2 | ⟨b,off,rfl,h3,h4⟩
 ·exact Or.inl h2
 ·rcases ha b off none _ _ rfl with h5 | h5
  ·refine Or.inr ⟨b,off,rfl,?_,Xi h4 (hW.rest b (by omega))⟩;rcases h3 with h3 | ⟨cs,h3⟩
   ·exact Or.inl h3
   ·exact Or.inr ⟨cs,(hW.rest b (by omega)).trans h3⟩
  ·refine Or.inr ⟨b,off,rfl,Or.inl h5,?_⟩;have:natCells l= []:=List.eq_nil_of_length_eq_zero (by rw[h1,h5]);rw[this];exact YL _ _ _
theorem LieAt.less2 {A:Nat} (h:LieAt B v) (hA:A<=B):LieAt A v:=fun b off i n c e=> (h b off i n c e).imp_left (eE_ hA)
theorem Q8R (d:Nat) (hY:0 < Y):(d+10*V) / Y=(d+10*(V % Y)) / Y+10*(V / Y)/\(d+10*V) % Y=(d+10*(V % Y)) % Y:=by
 have h:d+10*V=(d+10*(V % Y))+Y*(10*(V / Y)):=by
  have:=Nat.mod_add_div V Y;rw[Nat.mul_left_comm];omega
 rw[h];exact ⟨Nat.add_mul_div_left _ _ hY,Nat.add_mul_mod_self_left _ _ _⟩
theorem Q8J (hc:c*Y<=R) (h:R - c*Y < Y):R / Y=c/\R % Y=R - c*Y:=by
 have hY:0 < Y:=by omega
 have h1:R / Y=c:=by
  rw[Nat.div_eq_iff hY];have:(c+1)*Y=c*Y+Y:=by rw[Nat.add_mul,Nat.one_mul]
  omega
 refine ⟨h1,?_⟩;have:=Nat.mod_add_div R Y;rw[h1,Nat.mul_comm] at this;omega
theorem Q8K (hd:d < 10) (hY:0 < Y):d+10*(V % Y) < 10*Y:=by
 have:=Nat.mod_lt V hY;omega
theorem Q8n (hR:R < 10*Y) (hc:(c+1)*Y<=R):c+1 < 10:=Nat.lt_of_mul_lt_mul_right (Nat.lt_of_le_of_lt hc hR)
theorem Q8T {X:Nat} (h:X < 10*Y) (hl:(Zp.digs 10 Y).length<=n):(Zp.digs 10 X).length<=n+1:=by
 refine Zp.QR (by decide) _ _ (eI_ h ?_);have h1:=Zp.Xs (B:=10) (by decide) (Zp.Qo (B:=10) (by decide) Y);rw[Zp.Qi (by decide)] at h1;have h2:=Nat.pow_le_pow_right (n:=10) (by decide) hl;rw[Nat.pow_succ,Nat.mul_comm];exact Nat.mul_le_mul_right 10 (Nat.le_of_lt (eI_ h1 h2))
theorem rest_len {X:Nat} (h:X < 10*Y) (hl:(Zp.digs 10 Y).length<=1000000):(Zp.digs 10 X).length<=1000001:=Q8T h hl
theorem JV (h:y<=x):(Zp.digs 10 y).length<=(Zp.digs 10 x).length:=by
 have h1:=Zp.Xs (B:=10) (by decide) (Zp.Qo (B:=10) (by decide) x);rw[Zp.Qi (by decide)] at h1;exact Zp.QR (by decide) _ _ (Nat.lt_of_le_of_lt h h1)
theorem Q5Y (X Y:Nat):(X < Y/\Zp.ord X Y=-1)\/(Y<=X/\0<=Zp.ord X Y):=by
 unfold Zp.ord;by_cases h1:X < Y
 ·exact Or.inl ⟨h1,if_pos h1⟩
 ·rw[if_neg h1];refine Or.inr ⟨by omega,?_⟩;split <;> decide
theorem Q4M {z:Int} (h:Zn w v z) (hz:z=(n:Int)):∃ (s:Int) (a:Option Addr) (c:Nat),v= .agg #[.int .i64 s,.slice a (Zp.digs 10 n).length c]/\RdD w (.slice a (Zp.digs 10 n).length c) (Zp.digs 10 n):=by
 subst hz;obtain ⟨a,c,rfl,h2⟩:=h.form;have e:dg (n:Int)=Zp.digs 10 n:=by rw[dg,Int.natAbs_natCast]
 rw[e] at h2 |-;exact ⟨_,a,c,rfl,h2⟩
def RvOut (w:World) (x:List Nat) (Y:Nat) (e:Ending) (w':World):Prop:=∃ vq vr os,e= .returned (.tuple #[vq,vr])/\RdD w' vq os/\Zp.Dig 10 os/\os.length=x.length/\Zp.val 10 os=Zp.val 10 x / Y/\RdD w' vr (Zp.digs 10 (Zp.val 10 x % Y))/\Below w.heap.size w w'
def RvRel (w:World) (x:List Nat) (Y:Nat) (k:Nat) (v7 v8:Value) (wr:World):Prop:=
 ∃ (m:Nat) (os:List Nat),v8= .int .i64 ((m:Int) - 1)/\k=m/\m<=x.length/\RdD wr v7 (Zp.digs 10 (Zp.val 10 (x.drop m) % Y))/\LieAt (w.heap.size+1) v7/\os.length=x.length/\Zp.Dig 10 os/\(∀ j d,os[j]? =some d->j < m->d=0)/\Zp.val 10 os=10 ^ m*(Zp.val 10 (x.drop m) / Y)/\
  wr.heap[w.heap.size]? =some (.cells (natCells os).toArray 3 (0,0))/\Below w.heap.size w wr
def RuRel (w:World) (n R Y P:Nat) (i:Nat) (k:Nat) (v7:Value) (wr:World):Prop:=
 ∃ (c:Nat) (os:List Nat),k=10 - c/\c < 10/\c*Y<=R/\RdD wr v7 (Zp.digs 10 (R - c*Y))/\LieAt (w.heap.size+1) v7/\os.length=n/\Zp.Dig 10 os/\(∀ j d,os[j]? =some d->j < i->d=0)/\os[i]? =some c/\Zp.val 10 os=P+10 ^ i*c/\
  wr.heap[w.heap.size]? =some (.cells (natCells os).toArray 3 (0,0))/\Below w.heap.size w wr
theorem Q7v (l:List Nat):∀ u∈natCells l,u.oneCell'=true:=fun u hu=> by
 obtain ⟨d,_,rfl⟩:=List.mem_map.1 hu;rfl
theorem Q4N (s:Int) (a:Option Addr) (n c:Nat) (w:World):(Instr.field 48 (.agg #[.int .i64 s,.slice a n c]) 1).run prog w= .ok (.slice a n c) w:=by kernel_rfl
theorem J5 (h:RdD w v l):∃ a c,v= .slice a l.length c:=by
 obtain ⟨a,c,e,_⟩:=h.form;exact ⟨a,c,e⟩
theorem Ln {vx vy:Value} {x:List Nat} (hx:RdD w vx x) (hy:RdD w vy (Zp.digs 10 Y)) (hlx:x.length<=1000000) (hly:(Zp.digs 10 Y).length<=1000000) (hdx:Zp.Dig 10 x) (hY:0 < Y):
  Calls prog 76 #[vx,vy] w (RvOut w x Y):=by
 obtain ⟨ax,cx,rfl⟩:=J5 hx;obtain ⟨ay,cy,rfl⟩:=J5 hy;obtain ⟨ln,hln⟩:∃ n,(Zp.digs 10 Y).length=n:=⟨_,rfl⟩
 rw[hln] at hy |-;have HX:=h3_ hx hdx hlx;have HY:=h4_ hy hY hln hly;have hX':(x.length:Int)<=1000000:=by omega
 have hmk:∀ W:World,(Instr.makeSlice 46 (.int .i64 (x.length:Int)) (.int .i64 (x.length:Int))).run prog W= .ok (.slice (some ⟨W.heap.size,0,none⟩) x.length x.length) (W.alloc (.cells (natCells (List.replicate x.length 0)).toArray 3)):=fun W=> Q1D (n:=x.length) (c:=x.length) (rl_ _) (by omega) W;clear hx hy hlx hly hdx hY hln;go_in;go_wp2_with fail;clear hmk;go_loopg [7,8] x.length (fun k v7 v8 wr=> RvRel w x Y k v7 v8 wr)
 case atStart=>
  refine ⟨x.length,List.replicate x.length 0,rfl,rfl,rl_ _,?_,LieAt.nil _,by simp,fun d hd=> by rw[(List.mem_replicate.1 hd).2];decide,fun j d hj _=> (List.mem_replicate.1 (eP_ hj)).2,?_,eD_ _ _,(eB_ _ _).alloc (rl_ _) _⟩
  ·rw[List.drop_length];show RdD _ _ (Zp.digs 10 (0 % Y));rw[Nat.zero_mod,Zp.QG];exact RdD.nil _
  ·rw[List.drop_length];have h1:=Zp.Y8 (List.replicate x.length 0) (fun i h2=> by rw[getElem!_pos _ i h2,List.getElem_replicate]);rw[Zp.Xh (B:=10) (by decide) (fun d hd=> by rw[(List.mem_replicate.1 hd).2];decide),Zp.Xy (by decide)] at h1;rw[h1];show 0=10 ^ x.length*(0 / Y);rw[Nat.zero_div,Nat.mul_zero]
 case round=>
  obtain ⟨m,os,rfl,hk,hm,hv,hat,hol,hod,hoz,hov,hg,hb⟩:=hrel;have HR:=h9_ hk hol hod hoz hov hg hb hv hat;obtain ⟨a7,c7,rfl⟩:=J5 hv;obtain ⟨l7,hl7⟩:∃ n,(Zp.digs 10 (Zp.val 10 (x.drop m) % Y)).length=n:=⟨_,rfl⟩
  have HL:=hd_ hl7;rw[hl7];clear hk hv hat hol hod hoz hov hg hb hl7;rcases m with _ | i
  ·go_wp2_with fail;refine eG_ (results_tmp2 rfl _ _ _) rfl ?_;obtain ⟨q1,q2,q3,q4,q5,q6,q7,q8,q9⟩:=HR.o;rw[List.drop_zero] at q5 q8;rw[Nat.pow_zero,Nat.one_mul] at q5;have h1:=LL q6 (rl_ _);rw[q2] at h1;have h2:=HL.o;rw[List.drop_zero] at h2;rw[h2] at q8;exact ⟨_,_,os,rfl,h1,q3,q2,q5,q8,q7⟩
  ·rw[show (((i+1:Nat):Int) - 1)=(i:Int) from by omega];have hlt:(i:Int) < (x.length:Int):=(by omega);obtain ⟨d,hd1,hd2,hd3⟩:=QI HX.b i (by omega);obtain ⟨bx,ox,rfl,hcell⟩:=(HX.a.below HR.g).cell (i:=i) (by omega);rw[hd1] at hcell;obtain ⟨V,hV⟩:∃ V,Zp.val 10 (x.drop (i+1))=V:=⟨_,rfl⟩
   have hdr:=X5 (B:=10) hd2;rw[hV] at hdr;have h8:=HR.h;have hl:=HL.o;rw[hV] at h8 hl;obtain ⟨W1,hW1⟩:∃ W,wr.alloc (.cells #[.int .i64 (d:Int)] 3)=W:=⟨_,rfl⟩
   have hb1:Below wr.heap.size wr W1:=(by rw[<-hW1];exact (eB_ _ _).alloc (rl_ _) _);have ho1:W1.ownsRow wr.heap.size 3 1 (.slice (some ⟨wr.heap.size,0,none⟩) 1 1) 1 [.int .i64 (d:Int)]:=(by rw[<-hW1];exact World.ownsRow_lit (size:=1) wr #[.int .i64 (d:Int)] 1 (rl_ _) (by decide) rfl);have h81:RdB 3 W1 1 (.slice a7 l7 c7) l7 (natCells (Zp.digs 10 (V % Y))):=by
    have h1:=h8.below hb1;unfold RdD at h1;rw[hl] at h1;exact h1
   have hll:l7<=1000001:=(by rw[<-hl];exact rest_len (X:=V % Y) (eI_ (Nat.mod_lt V HY.b) (Nat.le_mul_of_pos_left Y (by decide))) HY.D);have HW:=hd_ hW1;have HO:=h9_ hb1 ho1 h81 hl hll hd2 hd3 hV hdr;have hs1:wr.heap.size<=W1.heap.size:=hb1.size;clear hd1 hd2 hd3 hV hdr h8 hl hW1 hb1 ho1 h81 hll;obtain ⟨i0,hi0,hz0,hz1,hz2⟩:=Qw XN.i;go_wp2_with (at_builtin;refine Q0c ?_);rw[HW.o];refine QN rfl _ _ 46 rfl wr.heap.size 3 i0 (.int .i64 0) 1 8 XN.u hi0 hz0 hz1 hz2 rfl (by decide) (.slice (some ⟨wr.heap.size,0,none⟩) 1 1) 1 [.int .i64 (d:Int)] rfl HO.b rfl HO.c (Q7v _) (by have:=HO.e;unfold maxLen;omega) (by have:=HO.e;omega) hs1 ?_;rintro a2 c2 w2 ho2 hg2 -;have HA:=h2_ ho2 hg2;clear ho2 hg2;obtain ⟨own2,hgr2⟩:=HA.o;have hb2:Below wr.heap.size wr w2:=HO.a.grown hgr2 hs1 (fun k hk=> by simp[Value.ownBlock] at hk;omega);have hrow:RdD w2 (.slice a2 (1+l7) c2) (d::Zp.digs 10 (V % Y)):=by
    refine U5 (n:=1+l7) (base:=wr.heap.size) ?_;exact own2
   have hat2:LieAt (w.heap.size+1) (.slice a2 (1+l7) c2):=(Q4C own2).less2 (Q4 HR.f);obtain ⟨R,hR⟩:∃ R,d+10*(V % Y)=R:=⟨_,rfl⟩
   have hR10:R < 10*Y:=(by rw[<-hR];exact Q8K HO.g HY.b);have hval:Zp.val 10 (d::Zp.digs 10 (V % Y))=R:=by
    show d+10*Zp.val 10 (Zp.digs 10 (V % Y))=R;rw[Zp.Qi (by decide),hR]
   simp only[Act.put,Array.set!_eq_setIfInBounds,List.setIfInBounds_toArray,List.set_cons_succ,List.set_cons_zero];go_wp2_with fail;refine eH_ (Dq hrow (by have h1:=HO.d;have h2:=HO.e;simp only[eL_];omega) (Zp.Dig.cons HO.g (Zp.Qo (by decide) _)) 1 (R:Int) (by rw[hval,Int.one_mul]) (Or.inl rfl)) ?_;rintro e w3 ⟨v3,rfl,hz3,hb3,hat3⟩;obtain ⟨s3,a3,c3,rfl,hr3⟩:=Q4M hz3 rfl;have hat3:=hat3 _ hat2 _ _ rfl;have hb03:Below wr.heap.size wr w3:=hb2.trans (hb3.mono hb2.size);have HM:=h5_ hr3 hat3 hb03 hR hR10;clear own2 hgr2 hb2 hrow hat2 hR hR10 hval hz3 hb3 hat3 hr3 hb03 HA;dsimp only;have hfd:=Q4N s3 a3 (Zp.digs 10 R).length c3;go_wp2_with fail;clear hfd;go_loopg [7] 10 (fun k v7 wr=> RuRel w x.length R Y (10 ^ (i+1)*(V / Y)) i k v7 wr)
   case atStart=>
    obtain ⟨q1,q2,q3,q4,q5,q6,q7,q8,q9⟩:=HR.o;obtain ⟨m1,m2,m3,m4,m5⟩:=HM.o;obtain ⟨o,ho⟩:∃ o,os[i]? =some o:=⟨_,eA_ (by omega)⟩
    obtain rfl:=q4 i o ho (Nat.lt_succ_self _);have hV:=HO.h;rw[hV] at q5;refine ⟨0,os,rfl,by decide,by rw[Nat.zero_mul];exact eV_ _,by rw[Nat.zero_mul,Nat.sub_zero];exact m1,m2,q2,q3,fun j d hj hi=> q4 j d hj (by omega),ho,by rw[Nat.mul_zero];exact q5,Q7 q6 m3,q7.trans (m3.mono q7.size)⟩
   case round=>
    obtain ⟨c,ot,hk,hc,hcR,hv,hat,hol,hod,hoz,hoi,hov,hg,hb⟩:=hrel;obtain ⟨X,hX⟩:∃ X,R - c*Y=X:=⟨_,rfl⟩
    rw[hX] at hv;have hXR:X < 10*Y:=(by have:=HM.E;omega);have hXl:(Zp.digs 10 X).length<=1000001:=rest_len hXR HY.D;obtain ⟨a8,c8,rfl⟩:=J5 hv;obtain ⟨l8,hl8⟩:∃ n,(Zp.digs 10 X).length=n:=⟨_,rfl⟩
    rw[hl8] at hat |-;rw[hl8] at hv;have HJ:=h14_ hk hol hod hoz hoi hov hg hb hv hat hcR hX hXl hl8;clear hk hol hod hoz hoi hov hg hb hv hat hcR hX hXR hXl hl8;go_wp2_with fail;refine eH_ (ZV HJ.i (HY.a.below HJ.h) (by have:=HJ.m;omega) (by have h2:=HY.D;omega)) ?_;rintro e w4 ⟨rfl,hb4⟩;obtain ⟨od,hod⟩:∃ o,Zp.ord X Y=o:=⟨_,rfl⟩
    have H4:=hd_ hb4;clear hb4;rw[hod];rcases Q5Y X Y with ⟨hc1,hc2⟩ | ⟨hc1,hc2⟩
    ·rw[hod] at hc2;subst hc2;have HC:=hd_ hc1;clear hc1 hod;dsimp only;go_wp2_with fail;go_roundg i
     case measure=> have:=HR.a;omega
     case rel=>
      obtain ⟨q1,q2,q3,q4,q5,q6,q7,q8,q9,q10,q11,q12,q13⟩:=HJ.o;have h1:=Q8J q11 (by rw[q12];exact HC.o);have h2:=Q8R (V:=V) d HY.b;rw[HM.d, <-HO.I] at h2;refine ⟨i,ot,by go_num,rfl,by omega,?_,q10,q2,q3,q4,?_,Q7 q7 H4.o,q8.trans (H4.o.mono q8.size)⟩
      ·rw[h2.2,h1.2,q12];exact q9.below H4.o
      ·rw[h2.1,h1.1,q6,Nat.mul_add,Nat.pow_succ,Nat.mul_assoc,Nat.add_comm]
    ·rw[hod] at hc2;have HC:=hd_ hc1;clear hc1 hod;dsimp only;go_wp2_with fail;refine eH_ (LQ (HJ.i.below H4.o) (HY.a.below (HJ.h.trans (H4.o.mono HJ.h.size))) (by have:=HJ.m;omega) (JV HC.o) (Zp.Qo (by decide) _) (Zp.Qo (by decide) _) (by rw[Zp.Qi (by decide),Zp.Qi (by decide)];exact HC.o)) ?_;rintro e w5 ⟨v5,l5,rfl,hr5,⟨hd5,hn5,hv5⟩,hb5,hat5⟩;rw[Zp.Qi (by decide),Zp.Qi (by decide)] at hv5;obtain ⟨a5,c5,rfl⟩:=J5 hr5;have H5:=h6_ hr5 hd5 hn5 hv5 hb5 hat5;clear hr5 hd5 hn5 hv5 hb5 hat5;dsimp only;go_wp2_with fail;refine eH_ (Dq H5.a (by have h1:=H5.c;have h2:=HJ.m;omega) H5.b 1 ((X - Y:Nat):Int) (by rw[H5.d,Int.one_mul]) (Or.inl rfl)) ?_;rintro e w6 ⟨v6,rfl,hz6,hb6,hat6⟩;obtain ⟨s6,a6,c6,rfl,hr6⟩:=Q4M hz6 rfl;have hbj:Below wr.heap.size wr w4:=H4.o;have hb46:Below w4.heap.size w4 w6:=H5.e.trans (hb6.mono H5.e.size);obtain ⟨q1,q2,q3,q4,q5,q6,q7,q8,q9,q10,q11,q12,q13⟩:=HJ.o;have hb6:Below w.heap.size w w6:=q8.trans ((H4.o.trans (hb46.mono H4.o.size)).mono q8.size);have hg6:=Q7 q7 (H4.o.trans (hb46.mono H4.o.size));have hsz:w.heap.size+1<=w4.heap.size:=eE_ (Q4 q7) H4.o.size;have hat6:=hat6 _ (H5.F.less2 hsz) _ _ rfl;have hcg:=ncell hg6 q5;have hfz:=Q6 hg6 i;have H6:=h4_ hr6 hat6 hg6 hb6;clear hz6 hb6 hb46 hbj hg6 hsz hat6 hr6 q1 q2 q3 q4 q5 q6 q7 q8 q9 q10 q11 q12 q13;dsimp only;have hfd:=Q4N s6 a6 (Zp.digs 10 (X - Y)).length c6;go_wp2_with fail;go_roundg (10 - (c+1))
     case measure=> have:=HJ.a;omega
     case rel=>
      obtain ⟨q1,q2,q3,q4,q5,q6,q7,q8,q9,q10,q11,q12,q13⟩:=HJ.o;obtain ⟨r1,r2,r3,r4⟩:=H6.o;have hcY:(c+1)*Y<=R:=by
       have:=HC.o;rw[Nat.add_mul,Nat.one_mul];omega
      have h9:=Q8n HM.E hcY;have hon:=(Only.refl w.heap.size w6).setCell r3 i (.int .i64 ((c:Int)+1));have hst:=Ji r3 i (c+1);refine ⟨c+1,ot.set i (c+1),rfl,h9,hcY,?_,r2,by rw[List.length_set];exact q2,?_,?_,?_,?_,hst,r4.setCell (rl_ _) _⟩
      ·have e:R - (c+1)*Y=X - Y:=(by rw[Nat.add_mul,Nat.one_mul];omega);rw[e];exact r1.set r2 (Nat.lt_succ_self _) hon
      ·intro z hz;rcases List.mem_or_eq_of_mem_set hz with hz | rfl
       ·exact q3 z hz
       ·exact h9
      ·intro j z hz hj;rw[List.getElem?_set_ne (by omega)] at hz;exact q4 j z hz hj
      ·rw[List.getElem?_set_self (by omega)]
      ·have h1:=GI (B:=10) ot i c 1 q5;rw[h1,q6,Nat.mul_add,Nat.mul_one,Nat.add_assoc]
theorem join32 {a:Nat} (ha:a < B32) (hd:d < B32):bits BinOp.or IntKind.u64 (IntKind.u64.wrap ((a:Int)*4294967296)) (d:Int)=((a*B32+d:Nat):Int):=by
 have h0:a*B32+d < B32*B32:=by
  have h1:(a+1)*B32<=B32*B32:=Nat.mul_le_mul_right _ ha;rw[Nat.add_mul,Nat.one_mul] at h1;omega
 have hm:a % B32=a:=Nat.mod_eq_of_lt ha;have hdB:d < B32*B32:=eI_ hd (by decide);have haB:a*B32 < B32*B32:=Nat.lt_of_le_of_lt (Nat.le_add_right _ _) h0;rw[shl32,hm,u64_or_nat _ _ haB hdB,nat_join 32 _ _ (by show a*4294967296 % 4294967296=0;omega) hd]
def GuRel (w:World) (W Y P:Nat) (k:Nat) (v11 v12:Value) (wr:World):Prop:=
 ∃ g r n:Nat,v11= .int .u64 (g:Int)/\v12= .int .u64 (r:Int)/\(k=n/\g<=n)/\Zp.Guess B32 W Y P g r/\r < B32+B32/\Below w.heap.size w wr
def GuOut (w:World) (W Y:Nat) (e:Ending) (w':World):Prop:=∃ g:Nat,e= .returned (.int .u64 (g:Int))/\g < B32/\W / Y<=g/\g<=W / Y+1/\Below w.heap.size w w'
theorem Q1c (w:World) {hi mid low top next W Y P:Nat} (h1:hi < B32) (h2:mid < B32) (h3:low < B32) (h4:top < B32) (h5:next < B32) (ht:0 < top) (hP:0 < P) (hW:W < Y*B32)
  (e1:W / P / B32=hi*B32+mid) (e2:W / P % B32=low) (e3:W / P / B32 / B32=hi) (e4:Y / P / B32=top) (e5:Y / P % B32=next):
  Calls prog 181 #[.int .u64 (hi:Int),.int .u64 (mid:Int),.int .u64 (low:Int),.int .u64 (top:Int),.int .u64 (next:Int)] w (GuOut w W Y):=by
 have hin:=Zp.Q4i (B:=B32) hP (by decide) hW (by rw[e4];exact ht);rw[e3,e4,e1,show (hi*B32+mid) % B32=mid from by show (hi*4294967296+mid) % 4294967296=mid;have:mid < 4294967296:=h2;omega] at hin;have HH:=h8_ h3 h4 h5 ht hP e2 e4 e5;have hj:=join32 h1 h2;obtain ⟨x,hx⟩:∃ x,hi*B32+mid=x:=⟨_,rfl⟩
 rw[hx] at hj hin;have ht':(0:Int) < (top:Int):=by omega
 have hr0:IntKind.u64.wrap ((mid:Int)+(top:Int))=((mid+top:Nat):Int):=by
  have hm:mid < 4294967296:=h2;have htp:top < 4294967296:=h4;have:=QA (n:=mid+top) (by show mid+top < 18446744073709551616;omega);rwa [Int.natCast_add] at this |-
 have hrb:mid+top < B32+B32:=by omega
 have hxb:x < B32*B32:=by
  have h1:(hi+1)*B32<=B32*B32:=Nat.mul_le_mul_right _ h1;rw[Nat.add_mul,Nat.one_mul] at h1;omega
 have hr2:x % top < B32+B32:=by have:=Nat.mod_lt x ht;omega
 clear h1 h2 h3 h4 h5 ht hP hW e1 e2 e3 e4 e5 hx;go_in;by_cases hlt:hi < top
 case' pos=>
  have hlt':(hi:Int) < (top:Int):=by omega
  rw[if_pos hlt,if_pos hlt] at hin;obtain ⟨g0,hg0⟩:∃ g,x / top=g:=⟨_,rfl⟩
  obtain ⟨r0,hr0'⟩:∃ r,x % top=r:=⟨_,rfl⟩
  have hdv:IntKind.u64.wrap ((x:Int) / (top:Int))=(g0:Int):=by
   rw[<-hg0, <-Int.natCast_ediv];exact QA (Nat.lt_of_le_of_lt (Nat.div_le_self _ _) hxb)
  have hmd:(x:Int) % (top:Int)=(r0:Int):=by rw[<-Int.natCast_emod,hr0']
  rw[hg0,hr0'] at hin;rw[hr0'] at hr2;have HI:=h3_ hin hr2 hmd;clear hin hr2 hlt hxb hrb hg0 hr0';go_wp2_with fail;go_quiet (fail);go_wp2_with fail
 case' neg=>
  have hlt':¬ (hi:Int) < (top:Int):=by omega
  rw[if_neg hlt,if_neg hlt] at hin;have HI:=h2_ hin hrb;clear hin hrb hlt hxb hr2;go_wp2_with fail
 all_goals
  go_loopg [11,12] B32 (fun k v11 v12 wr=> GuRel w W Y P k v11 v12 wr)
  case atStart=>
   first | exact ⟨B32 - 1,mid+top,_,rfl,rfl,⟨rfl,Nat.le_of_lt HI.a.lt⟩,HI.a,HI.B,eB_ _ _⟩ | (refine ⟨g0,r0,_,rfl,?_,⟨rfl,Nat.le_of_lt HI.a.lt⟩,HI.a,HI.b,Qf w _⟩;rw[HI.C])
  case round=>
   obtain ⟨g,r,n,rfl,rfl,hk,hgu,hr,hbl⟩:=hrel;obtain ⟨nx,hnx⟩:∃ n,g*next=n:=⟨_,rfl⟩
   have hnb:g*next < B32*B32:=Nat.lt_of_le_of_lt (Nat.mul_le_mul_left _ (Nat.le_of_lt HH.c)) (Nat.mul_lt_mul_of_pos_right hgu.lt (by decide))
   have hw1:IntKind.u64.wrap ((g:Int)*(next:Int))=(nx:Int):=by
    rw[<-hnx];have:=QA (n:=g*next) hnb;rwa [Int.natCast_mul] at this |-
   have HR:=h4_ hk hgu hbl hnx;clear hk hgu hbl hnx hnb;rcases eS_ r B32 with hrB | hrB
   ·have hrB':(r:Int) < 4294967296:=(by have:r < 4294967296:=hrB;omega);have hj2:=join32 hrB HH.a;obtain ⟨jn,hjn⟩:∃ j,r*B32+low=j:=⟨_,rfl⟩
    rw[hjn] at hj2;have hj3:bits BinOp.or IntKind.u64 ((r:Int)*4294967296) (low:Int)=(jn:Int):=by
     rw[<-hj2,shl32,Nat.mod_eq_of_lt hrB,Int.natCast_mul];rfl
    have HJ:=h2_ hjn hrB;clear hjn hrB;rcases eS_ jn nx with hgt | hgt
    ·have hgt':(jn:Int) < (nx:Int):=(by omega);have hs:=Zp.Q4j HH.e (B:=B32) (by decide) HR.b (by rw[HH.f,HH.H,HJ.a,HR.D];exact hgt);rw[HH.g] at hs;have hg1:IntKind.u64.wrap ((g:Int) - 1)=((g - 1:Nat):Int):=by
      have:=QA (n:=g - 1) (Nat.lt_of_le_of_lt (Nat.sub_le _ _) (eI_ HR.b.lt (Nat.le_mul_of_pos_left _ (by decide))));rwa [Int.natCast_sub hs.1] at this |-
     have hrt:IntKind.u64.wrap ((r:Int)+(top:Int))=((r+top:Nat):Int):=by
      have h1:r < 4294967296:=HJ.B;have h2:top < 4294967296:=HH.b;have:=QA (n:=r+top) (by show r+top < 18446744073709551616;omega);rwa [Int.natCast_add] at this |-
     have HS:=hd_ hs;clear hs hgt;go_wp2_with fail;go_roundg (n - 1)
     case measure=> have:=HR.a.1;have:=HR.a.2;have:=HS.a;omega
     case rel=> exact ⟨g - 1,r+top,_,rfl,rfl,⟨rfl,by have:=HR.a.2;omega⟩,HS.B,by have:=HJ.B;have:=HH.b;omega,HR.c⟩
    ·have hgt':¬ (jn:Int) < (nx:Int):=(by omega);have hend:=Zp.Q0h HH.e (B:=B32) (by decide) (by rw[HH.g];exact HH.d) HR.b (Or.inr (by rw[HH.f,HH.H,HJ.a,HR.D];exact hgt));have HE:=hd_ hend;clear hend hgt;go_wp2_with fail;go_ret;exact ⟨g,rfl,HR.b.lt,HR.b.ge,HE.o,HR.c⟩
   ·have hrB':¬ (r:Int) < 4294967296:=(by have:4294967296<=r:=hrB;omega);have hend:=Zp.Q0h HH.e (B:=B32) (by decide) (by rw[HH.g];exact HH.d) HR.b (Or.inl hrB);have HE:=hd_ hend;clear hend hrB;go_wp2_with fail;go_ret;exact ⟨g,rfl,HR.b.lt,HR.b.ge,HE.o,HR.c⟩
end Go.Proofs.YtiecccakcenobaaGreatDoor
namespace Go.Proofs.YtiecccakcenobaaGreatDoor.Zp
open Go.Proofs.Tryz
variable {Y:List Nat} {B:Nat}
theorem Zh (hB:2<=B) {l:List Nat} (h:Dig B l) (j:Nat) (hj:j<=l.length):val B l / B ^ j=val B (l.drop j):=by
 have h1:=Xs hB (h.take j);rw[eN_,Nat.min_eq_left hj] at h1;have hp:0 < B ^ j:=Nat.pow_pos (by omega);rw[Xv B l j hj,Nat.add_mul_div_left _ _ hp,Nat.div_eq_of_lt h1,Nat.zero_add]
theorem XV {l:List Nat} {j d:Nat} (h:l[j]? =some d):l.drop j=d::l.drop (j+1):=by
 obtain ⟨hj,rfl⟩:=List.getElem?_eq_some_iff.1 h;exact List.drop_eq_getElem_cons hj
theorem three {a b c:Nat} (hB:0 < B) (ha:a < B) (hb:b < B):(a+B*(b+B*c)) / B=c*B+b/\(a+B*(b+B*c)) % B=a/\(a+B*(b+B*c)) / B / B=c:=by
 have h1:(a+B*(b+B*c)) / B=b+B*c:=by rw[Nat.add_mul_div_left _ _ hB,Nat.div_eq_of_lt ha,Nat.zero_add]
 refine ⟨by rw[h1,Nat.mul_comm c,Nat.add_comm],by rw[Nat.add_mul_mod_self_left,Nat.mod_eq_of_lt ha],?_⟩;rw[h1,Nat.add_mul_div_left _ _ hB,Nat.div_eq_of_lt hb,Nat.zero_add]
theorem Q4l {X0:Nat} (hB:2<=B) {ys:List Nat} (hy:Dig B ys) {m:Nat} (hm:ys.length=m+2) {k:Nat} {X O:List Nat} (h:Long B X0 ys (k+1) X O) {hi mid low top next:Nat}
  (h0:X[k+m+2]? =some hi) (h1:X[k+m+1]? =some mid) (h2:X[k+m]? =some low) (h3:ys[m+1]? =some top) (h4:ys[m]? =some next):
  val B (X.drop k) < val B ys*B/\val B (X.drop k) / B ^ m / B=hi*B+mid/\val B (X.drop k) / B ^ m % B=low/\val B (X.drop k) / B ^ m / B / B=hi/\val B ys / B ^ m / B=top/\val B ys / B ^ m % B=next:=by
 have hB0:0 < B:=by omega
 have hkx:k < X.length:=by have:=(List.getElem?_eq_some_iff.1 h2).1;omega
 have hlt:val B (X.drop k) < val B ys*B:=by
  have hdrop:X.drop k=X[k]! ::X.drop (k+1):=by rw[getElem!_pos X k hkx,List.getElem_cons_drop]
  rw[hdrop];show X[k]! +B*val B (X.drop (k+1)) < _;have hd:=h.dx.get k hkx;have:B*(val B (X.drop (k+1))+1)<=B*val B ys:=Nat.mul_le_mul_left _ h.lt;rw[Nat.mul_add,Nat.mul_one] at this;rw[Nat.mul_comm (val B ys)];omega
 have hD:=h.dx.drop k;have hl0:=(List.getElem?_eq_some_iff.1 h0).1;have hlen:(X.drop k).length=X.length - k:=List.length_drop;have e1:=Zh hB hD m (by rw[hlen];omega);rw[List.drop_drop,XV h2,XV (j:=k+m+1) h1,XV (j:=k+m+1+1) h0] at e1;have hbig:=Zh hB hD (m+3) (by rw[hlen];omega);have hYB:=Xs hB hy;rw[hm] at hYB;have hz:val B (X.drop k) / B ^ (m+3)=0:=by
  refine Nat.div_eq_of_lt (eI_ hlt ?_);rw[Nat.pow_succ B (m+2)];exact Nat.mul_le_mul_right _ (Nat.le_of_lt hYB)
 rw[hz,List.drop_drop] at hbig;have e2:val B (X.drop k) / B ^ m=low+B*(mid+B*hi):=by
  rw[e1];show low+B*(mid+B*(hi+B*val B (X.drop (k+m+1+1+1))))=_;rw[show k+m+1+1+1=k+(m+3) from by omega, <-hbig,Nat.mul_zero,Nat.add_zero]
 have hlow:low < B:=h.dx low (eP_ h2);have hmid:mid < B:=h.dx mid (eP_ h1);obtain ⟨t1,t2,t3⟩:=three (c:=hi) hB0 hlow hmid;have f1:=Zh hB hy m (by omega);rw[XV h4,XV h3,List.drop_of_length_le (by omega)] at f1;have f2:val B ys / B ^ m=next+B*top:=by
  rw[f1];show next+B*(top+B*0)=_
  rw[Nat.mul_zero,Nat.add_zero]
 have hnext:next < B:=hy next (eP_ h4)
 refine ⟨hlt,by rw[e2];exact t1,by rw[e2];exact t2,by rw[e2];exact t3,?_,?_⟩
 ·rw[f2,Nat.add_mul_div_left _ _ hB0,Nat.div_eq_of_lt hnext,Nat.zero_add]
 ·rw[f2,Nat.add_mul_mod_self_left,Nat.mod_eq_of_lt hnext]
theorem shifted (hd:Dig B32 Y) {m d n:Nat} (hm:Y.length=m+1) (ht:Y[m]? =some d) (h0:d≠0) (hn:n=32 - Lib.bitLen d):
  Lib.bitLen d<=32/\n < 32/\(digs B32 (val B32 Y*2 ^ n)).length=m+1/\B32 ^ m<=val B32 Y*2 ^ n/\B32 ^ m<=val B32 Y:=by
 have hdB:d < B32:=hd d (eP_ ht);obtain ⟨hb0,b2,b1⟩:1<=Lib.bitLen d/\2 ^ (Lib.bitLen d - 1)<=d/\d < 2 ^ Lib.bitLen d:=Lib.bitLenAux_bounds 64 d (Nat.lt_trans hdB (by decide)) h0;have hbl:Lib.bitLen d<=32:=by
  rcases eS_ 32 (Lib.bitLen d) with h | h
  ·have h2:2 ^ 32<=2 ^ (Lib.bitLen d - 1):=Nat.pow_le_pow_right (by decide) (by omega);have h3:(2:Nat) ^ 32=B32:=(by decide);omega
  ·exact h
 have hn32:n < 32:=by omega
 have hp:(d+1)*2 ^ n<=B32:=by
  have h1:(d+1)*2 ^ n<=2 ^ Lib.bitLen d*2 ^ n:=Nat.mul_le_mul_right _ b1;rw[<-Nat.pow_add,show Lib.bitLen d+n=32 from by omega] at h1;exact h1
 have hv:=Xv B32 Y m (by omega);rw[XV ht,List.drop_of_length_le (by omega)] at hv;have hv2:val B32 Y=val B32 (Y.take m)+B32 ^ m*d:=by rw[hv];show _+B32 ^ m*(d+B32*0)=_;rw[Nat.mul_zero,Nat.add_zero]
 have htl:=Xs (B:=B32) (by decide) (hd.take m);rw[eN_,Nat.min_eq_left (by omega)] at htl;have hge:B32 ^ m<=val B32 Y:=by
  have:B32 ^ m*1<=B32 ^ m*d:=Nat.mul_le_mul_left _ (by omega);rw[Nat.mul_one] at this;omega
 have hge2:B32 ^ m<=val B32 Y*2 ^ n:=eE_ hge (Nat.le_mul_of_pos_right _ (Nat.two_pow_pos n));have hlt:val B32 Y*2 ^ n < B32 ^ (m+1):=by
  have h1:val B32 Y < B32 ^ m*(d+1):=by rw[hv2,Nat.mul_add,Nat.mul_one];omega
  have h2:val B32 Y*2 ^ n < B32 ^ m*(d+1)*2 ^ n:=Nat.mul_lt_mul_of_pos_right h1 (Nat.two_pow_pos n);rw[Nat.mul_assoc] at h2;rw[Nat.pow_succ];exact eI_ h2 (Nat.mul_le_mul_left _ hp)
 refine ⟨hbl,hn32,?_,hge2,hge⟩;have l1:=QR (B:=B32) (by decide) (m+1) _ hlt;rcases eS_ (digs B32 (val B32 Y*2 ^ n)).length (m+1) with h | h
 ·have h3:=Xs (B:=B32) (by decide) (Qo (B:=B32) (by decide) (val B32 Y*2 ^ n));rw[Qi (by decide)] at h3;have h4:B32 ^ (digs B32 (val B32 Y*2 ^ n)).length<=B32 ^ m:=Nat.pow_le_pow_right (by decide) (by omega);omega
 ·omega
theorem take_zero (hB:2<=B) {ys xs:List Nat} (hy:Dig B ys) (hx:Dig B xs) (hl:ys.length < xs.length):(take B 0 ys xs 0 0).2=0:=by
 obtain ⟨t1,_,t3⟩:=L0 (B:=B) (q:=0) (by omega) (by omega) ys xs 0 0 hy hx (by omega) (by omega) hl;have hd:=(UB (B:=B) (q:=0) (by omega) ys xs 0 0 hx).take (ys.length+1);have h1:=Xs hB hd;rw[eN_,UA,Nat.min_eq_left (by omega)] at h1;rcases Nat.eq_zero_or_pos (take B 0 ys xs 0 0).2 with h | h
 ·exact h
 ·exfalso;have h2:(take B 0 ys xs 0 0).2=1:=by omega
  rw[h2,Nat.mul_zero,Nat.mul_one] at t3;omega
theorem Q5Z {X:List Nat} (hx:Dig B32 X) {p m:Nat} (hp:0 < p) (hp2:p<=B32) (hl:(digs B32 (val B32 Y*p)).length=m+1) (hg:B32 ^ m<=val B32 Y) (hk:m<=X.length):
  Long B32 (val B32 X*p) (digs B32 (val B32 Y*p)) (X.length - m) (scale B32 p X 0) (List.replicate (X.length - m) 0):=by
 have hsl:=Yv B32 p X 0;have hds:=Z8 hp2 X 0 hx hp;have hvs:=Z7 B32 p X 0;rw[Nat.add_zero] at hvs;refine ⟨hds,fun d hd=> ?_,by rw[hsl,List.length_replicate,hl];omega,by rw[List.length_replicate];exact rl_ _,?_,?_⟩
 ·rw[List.eq_of_mem_replicate hd];decide
 ·rw[<-Zh (by decide) hds _ (by rw[hsl];omega),hvs,Qi (by decide),Nat.div_lt_iff_lt_mul (Nat.pow_pos (by decide))];have h1:=Xs (B:=B32) (by decide) hx;have h2:B32 ^ m*B32 ^ (X.length - m)=B32 ^ X.length:=by rw[<-Nat.pow_add,show m+(X.length - m)=X.length from by omega]
  have h3:B32 ^ m*B32 ^ (X.length - m)<=val B32 Y*B32 ^ (X.length - m):=Nat.mul_le_mul_right _ hg;rw[Nat.mul_right_comm];exact Nat.mul_lt_mul_of_pos_right (by omega) hp
 ·rw[hvs,List.drop_of_length_le (by rw[List.length_replicate];exact rl_ _)];show _=_+B32 ^ _*(0*_);rw[Nat.zero_mul,Nat.mul_zero,Nat.add_zero]
end Go.Proofs.YtiecccakcenobaaGreatDoor.Zp
namespace Go.Proofs.YtiecccakcenobaaGreatDoor
open Go.Proofs.Tryz
open Go.RowKit
variable {a b q r z:Int} {X:List Nat} {B g k x y:Nat} {va vb vx vy:Value} {W w:World}
theorem GL {c:Nat} {E:List Value} (h:Row g X E w) (hc:X.length<=c):RdU w (.slice (some ⟨g,0,none⟩) X.length c) X:=by
 have h1:=rdb1 (n:=X.length) (c:=c) h (by rw[eC_,Y0];omega) hc;rw[List.take_append_of_le_length (by rw[Y0];exact rl_ _),List.take_of_length_le (by rw[Y0];exact rl_ _)] at h1;exact h1
def DvOut (w:World) (x y:Nat) (e:Ending) (w':World):Prop:=∃ vq vr,e= .returned (.tuple #[vq,vr])/\RdU w' vq (Zp.digs B32 (x / y))/\RdU w' vr (Zp.digs B32 (x % y))/\Below w.heap.size w w'
structure LoI (w:World) (gx go gy:Nat) (X0:Nat) (Y1:List Nat) (E:List Value) (K kk:Nat) (X O:List Nat) (wr:World):Prop where
 x:Row gx X E wr
 o:Row go O [] wr
 l:Zp.Long B32 X0 Y1 kk X O
 k:O.length=K
 below:Below w.heap.size w wr
 gxl:w.heap.size<=gx
 gol:w.heap.size<=go
 ne:gx≠go
 y:∀ (i d:Nat),Y1[i]? =some d->wr.cell? ⟨gy,0+i,none⟩=some (.int .u32 (d:Int))
 ny:gy≠gx/\gy≠go
theorem Q2K {Y:List Nat} (hx:RdU w vx X) (hy:RdU w vy Y) (hdx:Zp.Dig B32 X) (hdy:Zp.Dig B32 Y) {m d:Nat} (hm:Y.length=m+2) (ht:Y[m+1]? =some d) (h0:d≠0) (hl:X.length<=1000000) (hle:Y.length<=X.length):
  Calls prog 141 #[vx,vy] w (DvOut w (Zp.val B32 X) (Zp.val B32 Y)):=by
 obtain ⟨ax,cx,rfl,hcx⟩:=hx.form;obtain ⟨ay,cy,rfl,hcy⟩:=hy.form;obtain ⟨n,hn⟩:∃ n,32 - Lib.bitLen d=n:=⟨_,rfl⟩
 obtain ⟨s1,s2,s3,s4,s5⟩:=Zp.shifted (m:=m+1) hdy hm ht h0 hn.symm;have hdB:d < B32:=hdy d (eP_ ht);obtain ⟨by_,oy,ey,hcy1⟩:=hy.cell (i:=m+1) (by omega);have hYd:Y[m+1]! =d:=by rw[getElem!_pos Y (m+1) (by omega)];exact (List.getElem?_eq_some_iff.1 ht).2
 rw[hYd] at hcy1;have hYl:(Y.length:Int)=(m:Int)+2:=by omega
 have hXl:(X.length:Int)<=1000000:=by omega
 have hml:(m:Int)<=1000000:=by omega
 have hYb:(Y.length:Int)<=1000000:=by omega
 obtain ⟨j1,hj1⟩:∃ j,m+1=j:=⟨_,rfl⟩
 have hj:(Y.length:Int) - 1=(j1:Int):=by omega
 rw[hj1] at hcy1;have hjl:(j1:Int) < (Y.length:Int):=by omega
 have hjb:(j1:Int)<=1000000:=by omega
 have hdn:(32:Int) - (Lib.bitLen d:Int)=(n:Int):=by omega
 obtain rfl:=ey;have HH:=h7_ hx hy hdx hdy hm (n5_ s1 s2 s3 s4 s5) hle;clear hx hy hdx hdy hm ht h0 s1 s2 s3 s4 s5 hle hYd hj1 hn hYl;go_in;go_wp2_with fail;refine eH_ (Tryz.bits_LeadingZeros32 (d:Int) w (by omega) (by have:d < 4294967296:=hdB;omega)) ?_;rintro e wz ⟨rfl,ew⟩;rw[ew,Int.toNat_natCast,hdn];clear ew;dsimp only;go_wp2_with fail;refine eH_ (Uz HH.a (by omega) HH.c n HH.f.2.1) ?_;rintro e w1 ⟨gx,c1,Ex,rfl,hgx,hc1,hrx,hb1⟩;have H1:=h4_ hgx hc1 hrx hb1;clear hgx hc1 hrx hb1;dsimp only;go_wp2_with fail;refine eH_ (Uz (HH.b.below H1.D) (by have:=HH.G;omega) HH.d n HH.f.2.1) ?_;rintro e w2 ⟨gy,c2,Ey,rfl,hgy,hc2,hry,hb2⟩;have hsl:=Zp.Yv B32 (2 ^ n) Y 0;have hyr:=GL (g:=gy) (c:=c2) hry (by rw[hsl];exact hc2);rw[<-hsl] at hc2 |-;have H2:=h5_ hgy hc2 hry hb2 hyr;clear hgy hc2 hry hb2 hyr hsl;dsimp only;go_wp2_with fail;refine eH_ (Xj H2.E (by rw[Zp.Yv];have:=HH.G;omega)) ?_;rintro e w3 ⟨rfl,rfl⟩;dsimp only;have hY1:Zp.trim (Zp.scale B32 (2 ^ n) Y 0)=Zp.digs B32 (Zp.val B32 Y*2 ^ n):=by
  rw[Zp.Xh (by decide) (Zp.Z8 (by have:=Nat.pow_le_pow_right (n:=2) (by omega) (show n<=32 by have:=HH.f.2.1;omega);exact this) Y 0 HH.d (Nat.two_pow_pos n)),Zp.Z7,Nat.add_zero]
 have hli:=Zp.Q5Z (p:=2 ^ n) (m:=m+1) HH.c (Nat.two_pow_pos n) (by have:=Nat.pow_le_pow_right (n:=2) (by omega) (show n<=32 by have:=HH.f.2.1;omega);exact this) HH.f.2.2.1 HH.f.2.2.2.2 (by have:=HH.e;have:=HH.G;omega);have hyc:=H2.E.trim;have hYlen:=HH.f.2.2.1;have hd1:=Zp.Qo (B:=B32) (by decide) (Zp.val B32 Y*2 ^ n);have hv1:=Zp.Qi (B:=B32) (by decide) (Zp.val B32 Y*2 ^ n);rw[hY1] at hyc |-;obtain ⟨Y1,hY1e⟩:∃ L,Zp.digs B32 (Zp.val B32 Y*2 ^ n)=L:=⟨_,rfl⟩
 rw[hY1e] at hyc hYlen hd1 hv1 hli |-;obtain ⟨K,hKe⟩:∃ K,X.length - (m+1)=K:=⟨_,rfl⟩
 rw[hKe] at hli;have hlX:=HH.G;have hlm:=HH.e;have hK:(X.length:Int)+1 - (Y1.length:Int)=(K:Int):=by omega
 have hKb:(K:Int)<=1000000:=by omega
 have hKn:K<=1000000:=by omega
 have hmx:max (K:Int) 0=(K:Int):=by omega
 have hYlb:(Y1.length:Int)<=1000000:=by omega
 have hmk:∀ W:World,(Instr.makeSlice 25 (.int .i64 (K:Int)) (.int .i64 (K:Int))).run prog W= .ok (.slice (some ⟨W.heap.size,0,none⟩) K K) (W.alloc (.cells (u32Cells (List.replicate K 0)).toArray 174)):=fun W=> Y9 K K (rl_ _) (by omega) _ _ rfl rfl W;obtain ⟨top,ht1,ht2,ht3⟩:=QI hd1 (m+1) (by omega);obtain ⟨next,hx1,hx2,hx3⟩:=QI hd1 m (by omega);have hY:∀ (i d:Nat),Y1[i]? =some d->w2.cell? ⟨gy,0+i,none⟩=some (.int .u32 (d:Int)):=by
  intro i d hi;have hil:=(List.getElem?_eq_some_iff.1 hi).1;obtain ⟨b,o,e,hc⟩:=hyc.cell hil;injection e with e;injection e with e1 e2;subst e1 e2;rw[show Y1[i]! =d from by rw[getElem!_pos Y1 i hil];exact (List.getElem?_eq_some_iff.1 hi).2] at hc;exact hc
 have htop0:0 < top:=by
  rcases Nat.eq_zero_or_pos top with h | h
  ·exfalso;have h1:=Zp.Zh (B:=B32) (by decide) hd1 (m+1) (by omega);rw[Zp.XV ht2,List.drop_of_length_le (by omega),h] at h1;have h2:Zp.val B32 Y1 / B32 ^ (m+1)=0:=h1;have h3:=HH.f.2.2.2.1;rw[<-hv1] at h3;have h4:1<=Zp.val B32 Y1 / B32 ^ (m+1):=(Nat.le_div_iff_mul_le (Nat.pow_pos (by decide))).2 (by omega);omega
  ·exact h
 have hct:w2.cell? ⟨gy,j1,none⟩=some (.int .u32 (top:Int)):=by have:=hY (m+1) top ht2;rw[Nat.zero_add,show m+1=j1 from by omega] at this;exact this
 have hcn:w2.cell? ⟨gy,m,none⟩=some (.int .u32 (next:Int)):=by have:=hY m next hx2;rw[Nat.zero_add] at this;exact this
 have hja:(Y1.length:Int) - 1=(j1:Int):=by omega
 have hjb':(Y1.length:Int) - 2=(m:Int):=by omega
 have hjal:(j1:Int) < (Y1.length:Int):=by omega
 have hjbl:(m:Int) < (Y1.length:Int):=by omega
 have hwt:IntKind.u64.wrap (top:Int)=(top:Int):=QA (eI_ ht3 (by decide));have hwn:IntKind.u64.wrap (next:Int)=(next:Int):=QA (eI_ hx3 (by decide));obtain ⟨W3,hW3⟩:∃ W,w2.alloc (.cells (u32Cells (List.replicate K 0)).toArray 174)=W:=⟨_,rfl⟩
 have hbx:=Qh (w:=w2) (u32Cells (List.replicate K 0)).toArray 174;rw[hW3] at hbx;have hct3:=(hbx.2.cell (Qd hct)).trans hct;have hcn3:=(hbx.2.cell (Qd hcn)).trans hcn;have HY:=h11_ hY (n5_ ht2 ht3 hx2 hx3 htop0) hli hd1 hv1 hbx hYlen hKe hlX hlm hKn;have HW3:=hd_ hW3;clear hY1 hli hyc hYlen hd1 hv1 hY1e hKe hKn ht1 ht2 ht3 hx1 hx2 hx3 hY htop0 hct hcn hbx hW3 hcy1 hlX hlm;go_wp2_with fail;rw[HW3.o];go_quiet (fail);obtain ⟨X0,hX0⟩:∃ v,Zp.val B32 X*2 ^ n=v:=⟨_,rfl⟩
 have hst:LoI w gx w2.heap.size gy X0 Y1 Ex K K (Zp.scale B32 (2 ^ n) X 0) (List.replicate K 0) (W3.drewN nq):=by
  have h13:Below w1.heap.size w1 W3:=H2.d.trans (HY.f.2.mono H2.d.size);have hw3:Below w.heap.size w W3:=H1.D.trans (h13.mono H1.D.size);have hgx:=Q4 H1.c;have hgy:=Q4 H2.c;refine ⟨Q7 H1.c (Yu h13 nq),?_,by rw[<-hX0];exact HY.c,List.length_replicate,Yu hw3 nq,H1.a,eE_ H1.D.size H2.d.size,?_,?_,?_,?_⟩
  ·unfold Row;rw[List.append_nil];exact HY.f.1
  ·have:=H2.d.size;omega
  ·intro i d hi;exact (HY.f.2.cell (Qd (HY.a i d hi))).trans (HY.a i d hi)
  ·have:=H2.a;omega
  ·omega
 have HST:=h2_ hst hX0;clear hst hX0 hmk hct3 hcn3;go_wp2_with fail;go_loopg [10] K (fun k v10 wr=> ∃ (kk:Nat) (i:Int) (Xc O:List Nat),v10= .int .i64 i/\i=(kk:Int) - 1/\k=kk/\LoI w gx w2.heap.size gy X0 Y1 Ex K kk Xc O wr)
 case atStart=> exact ⟨K,_,_,_,rfl,rfl,rfl,HST.a⟩
 case round=>
  obtain ⟨kk,i,Xc,O,rfl,hi,hk,hI⟩:=hrel;have HR:=h2_ hk hI;clear hk hI;have hXl2:Xc.length=X.length+1:=by have:=HR.B.l.len;have:=HR.B.k;have:=HY.g;have:=HY.h;have:=HY.i;have:=HY.j;omega
  have HXL:=hd_ hXl2;clear hXl2;cases kk with
  | zero=>
   obtain rfl:i=-1:=(by omega);have hdn2:=HR.B.l.done;have hOl:=HR.B.k;have htr:=Xj (c:=K) (GL HR.B.o (by rw[hOl];exact rl_ _)) (by rw[hOl];have:=HY.K;omega);have hbk:=Q2H (GL (c:=c1) HR.B.x (by rw[HXL.o];exact H1.b)) (by rw[HXL.o];omega) HR.B.l.dx n HH.f.2.1;have hq:=(GL (c:=K) HR.B.o (by rw[hOl];exact rl_ _)).trim;rw[hOl] at htr;rw[HXL.o] at hbk;have HE:=h4_ htr hbk hdn2 hq;clear htr hbk hdn2 hq hOl hi;go_wp2_with fail;refine HE.a.mono ?_;rintro e w6 ⟨rfl,rfl⟩;dsimp only;go_wp2_with fail;refine HE.b.mono ?_;rintro e w7 ⟨vr,rfl,hr7,hb7⟩;have H7:=h2_ hr7 hb7;clear hr7 hb7;dsimp only;go_wp2_with fail;go_ret2;have hp2:=Nat.two_pow_pos n;have e1:Zp.val B32 X / Zp.val B32 Y=Zp.val B32 O:=(by rw[HE.c.1,HY.e, <-HST.B,Nat.mul_div_mul_right _ _ hp2]);have e2:Zp.val B32 X % Zp.val B32 Y=Zp.val B32 Xc / 2 ^ n:=(by rw[HE.c.2,HY.e, <-HST.B,Nat.mul_mod_mul_right,Nat.mul_div_cancel _ hp2]);refine ⟨_,_,rfl,?_,by rw[e2];exact H7.a,HR.B.below.trans (H7.B.mono HR.B.below.size)⟩;rw[e1, <-Zp.Xh (B:=B32) (by decide) HR.B.l.do_];exact HE.D.below H7.B
  | succ a=>
   obtain rfl:i=(a:Int):=(by omega);have hkl:=HR.B.l.kl;have haK:a < K:=(by have:=HR.B.k;omega);have hKX:K+(m+2)=X.length+1:=(by have:=HR.B.l.len;have:=HR.B.k;have:=HXL.o;have:=HY.g;omega);obtain ⟨hi_,hh1,hh2,hh3⟩:=QI HR.B.l.dx (a+m+2) (by have:=HXL.o;omega);obtain ⟨mid,hm1,hm2,hm3⟩:=QI HR.B.l.dx (a+m+1) (by have:=HXL.o;omega);obtain ⟨low,hl1,hl2,hl3⟩:=QI HR.B.l.dx (a+m) (by have:=HXL.o;omega);have hw:=Zp.Q4l (B:=B32) (by decide) HY.d (m:=m) HY.g HR.B.l hh2 hm2 hl2 HY.b.1 HY.b.2.2.1;have c1':=HR.B.x.at hh2;have c2':=HR.B.x.at hm2;have c3':=HR.B.x.at hl2;have hw1:IntKind.u64.wrap (hi_:Int)=(hi_:Int):=QA (eI_ hh3 (by decide));have hw2:IntKind.u64.wrap (mid:Int)=(mid:Int):=QA (eI_ hm3 (by decide));have hw3:IntKind.u64.wrap (low:Int)=(low:Int):=QA (eI_ hl3 (by decide));obtain ⟨ja,hja'⟩:∃ j,a+m+2=j:=⟨_,rfl⟩
   obtain ⟨jb,hjb2⟩:∃ j,a+m+1=j:=⟨_,rfl⟩
   obtain ⟨jc,hjc⟩:∃ j,a+m=j:=⟨_,rfl⟩
   rw[hja'] at c1';rw[hjb2] at c2';rw[hjc] at c3';have hYm:=HY.g;have i1:(a:Int)+(Y1.length:Int)=(ja:Int):=(by omega);have i2:(ja:Int) - 1=(jb:Int):=(by omega);have i3:(ja:Int) - 2=(jc:Int):=(by omega);have b1:(ja:Int) < (X.length:Int)+1:=(by omega);have b2:(jb:Int) < (X.length:Int)+1:=(by omega);have b3:(jc:Int) < (X.length:Int)+1:=(by omega);have b4:(a:Int) < (K:Int):=(by omega);have b5:(ja:Int)<=1000001:=(by omega);have b6:(jb:Int)<=1000001:=(by omega);have b7:(jc:Int)<=1000001:=(by omega);have hwa:IntKind.i64.wrap (ja:Int)=(ja:Int):=(by rw[IntKind.wrap_i64];omega);have hwb:IntKind.i64.wrap (jb:Int)=(jb:Int):=(by rw[IntKind.wrap_i64];omega);have hwc:IntKind.i64.wrap (jc:Int)=(jc:Int):=(by rw[IntKind.wrap_i64];omega);have HS:=ck3_ c1' c2' c3';have HQ:=h4_ hw hh3 hm3 hl3;clear hw hh1 hh2 hh3 hm1 hm2 hm3 hl1 hl2 hl3 c1' c2' c3' hi hkl hja' hjb2 hjc hYm hKX haK;go_wp2_with fail;refine rh_ (s:=HS) (p:=((eB_ _ _).drew)) (h:=fun hHeld=> ?_);simp only[List.size_toArray,eL_,eU_];refine tk_ 0 rfl ?_;refine tk_ 1 rfl ?_;refine tk_ 2 rfl ?_;refine tk_ 3 rfl ?_;refine tk_ 4 rfl ?_;refine tk_ 5 rfl ?_;refine tk_ 6 rfl ?_;refine tk_ 7 rfl ?_;refine tk_ 8 rfl ?_;refine tk_ 9 rfl ?_;refine tk_ 10 rfl ?_;refine tk_ 11 rfl ?_;refine tk_ 12 rfl ?_;refine tk_ 13 rfl ?_;refine tk_ 14 rfl ?_;refine tk_ 15 rfl ?_;refine tk_ 16 rfl ?_;refine tk_ 17 rfl ?_;refine tk_ 18 rfl ?_;(try simp only[Act.put,gP_]);refine rd_ 19 rfl (fun KK hKK=> ?_);simp only[gA_];go_simp;have hbD:=(eB_ wr.heap.size wr).drew;refine eH_ (Q1c wr.drew (P:=B32 ^ m) HQ.b HQ.c HQ.D HY.b.2.1 HY.b.2.2.2.1 HY.b.2.2.2.2 (Nat.pow_pos (by decide)) HQ.a.1 HQ.a.2.1 HQ.a.2.2.1 HQ.a.2.2.2.1 HQ.a.2.2.2.2.1 HQ.a.2.2.2.2.2) ?_;rintro r w5 ⟨g,rfl,hg1,hg2,hg3,hc5⟩;have hb5:=hbD.trans (hc5.mono hbD.size);have H5:=h4_ hg1 hg2 hg3 hb5;clear hg1 hg2 hg3 hc5 hbD hb5;dsimp only;refine hKK.out _ _ (HS.o _ H5.D) (fun hHeld=> ?_);clear hKK KK;(try simp only[Act.put,sA_]);refine tk_ 20 rfl ?_;(try simp only[Act.put,gP_]);refine wpAnyH_done (by kernel_rfl) ?_ _
   (try dsimp only);clear hHeld;have hr5:Row gx Xc Ex w5:=Q7 HR.B.x H5.D;have hy5:∀ (i d:Nat),Y1[i]? =some d->w5.cell? ⟨gy,0+i,none⟩=some (.int .u32 (d:Int)):=fun i d hi=> (H5.D.cell (Qd (HR.B.y i d hi))).trans (HR.B.y i d hi);have ho5:Row w2.heap.size O [] w5:=Q7 HR.B.o H5.D;have hYm:=HY.g;have hlim:=HY.K;have htk:=Q2I (cx:=c1) (cY:=c2) hr5 (by have:=HXL.o;omega) hy5 HR.B.ny.1 a (by have:=HR.B.l.len;have:=HR.B.l.kl;omega) HR.B.l.dx HY.d g H5.a;have hstp:=HR.B.l.step (by decide) HY.d H5.a H5.b H5.c;unfold Zp.round at hstp;have hdT:=Zp.UB (B:=B32) (q:=g) (by decide) Y1 (Xc.drop a) 0 0 (HR.B.l.dx.drop a);have hlT:=Zp.UA B32 g Y1 (Xc.drop a) 0 0;have hz:g=0->(Zp.take B32 g Y1 (Xc.drop a) 0 0).2=0:=fun h=> (by rw[h];exact Zp.take_zero (by decide) HY.d (HR.B.l.dx.drop a) (by rw[List.length_drop];have:=HR.B.l.len;have:=HR.B.l.kl;omega));obtain ⟨⟨T1,tc⟩,hT⟩:∃ q,Zp.take B32 g Y1 (Xc.drop a) 0 0=q:=⟨_,rfl⟩
   rw[hT] at htk hstp hdT hlT hz;dsimp only at htk hstp hdT hlT hz;have HZ:=hd_ hz;rw[HXL.o] at htk;have HTK:=hd_ htk;have HSP:=h3_ hstp hdT hlT;have H5b:=h2_ hy5 ho5;have hgm:(g:Int) % 4294967296=(g:Int):=(by have:g < 4294967296:=H5.a;omega);clear htk hstp hdT hlT hr5 hy5 ho5 hYm hlim hT hz;go_wp2_with fail;refine HTK.o.mono ?_;rintro e w6 ⟨rfl,hr6,hon6⟩;have hy6:∀ (i d:Nat),Y1[i]? =some d->w6.cell? ⟨gy,0+i,none⟩=some (.int .u32 (d:Int)):=fun i d hi=> (hon6.cell HR.B.ny.1).trans (H5b.a i d hi);have ho6:Row w2.heap.size O [] w6:=(hon6.rest _ HR.B.ne.symm).trans H5b.B;have hb6:Below w.heap.size w w6:=(HR.B.below.trans (H5.D.mono HR.B.below.size)).trans (hon6.below HR.B.gxl);have H6:=h4_ hr6 hy6 ho6 hb6;clear hr6 hy6 ho6 hb6 hon6;dsimp only;have haO:a < O.length:=(by have:=HR.B.l.kl;omega);obtain ⟨od,ho1,ho2,ho3⟩:=QI HR.B.l.do_ a haO;by_cases htc:tc=0
   ·subst htc;have hd0:decide (0 < 0)=false:=rfl;rw[if_pos rfl] at HSP;have hcs:=H6.c.at ho2;have hfz:=Q6 H6.c a;clear ho1 ho2 ho3;go_wp2_with fail;go_roundg a
    case measure=> have:=HR.a;omega
    case rel=>
     have hon:Only w2.heap.size w6 (w6.setCell ⟨w2.heap.size,a,none⟩ (.int .u32 (g:Int))):=(Only.refl _ _).setCell H6.c _ _;refine ⟨a,_,Xc.take a++T1,O.set a g,rfl,rfl,rfl,(hon.rest _ HR.B.ne).trans H6.a,H6.c.set haO g,HSP.a,by rw[List.length_set];exact HR.B.k,H6.D.trans (hon.below HR.B.gol),HR.B.gxl,HR.B.gol,HR.B.ne,fun i d hi=> (hon.cell HR.B.ny.2).trans (H6.b i d hi),HR.B.ny⟩
   ·have htp:0 < tc:=(by omega);rw[if_neg htc] at HSP;have hg0:1<=g:=by
     rcases Nat.eq_zero_or_pos g with h | h
     ·exact absurd (HZ.o h) htc
     ·exact h
    obtain ⟨g2,hg2⟩:∃ v,g - 1=v:=⟨_,rfl⟩
    have hgw:IntKind.u64.wrap ((g:Int) - 1)=(g2:Int):=by
     have e:((g:Int) - 1)=((g - 1:Nat):Int):=(by omega);rw[e,QA (n:=g - 1) (Nat.lt_of_le_of_lt (Nat.sub_le _ _) (eI_ H5.a (Nat.le_mul_of_pos_left _ (by decide)))),hg2]
    have hgm2:(g2:Int) % 4294967296=(g2:Int):=(by have:g < 4294967296:=H5.a;omega);rw[hg2] at HSP;have hta:(Xc.take a).length=a:=(by rw[eN_];have:=HR.B.l.len;have:=HR.B.k;have:=HXL.o;have:=HR.B.l.kl;omega);have hlen2:(Xc.take a++T1).length=X.length+1:=(by rw[eC_,hta,HSP.C,List.length_drop,HXL.o];have:=HR.B.l.len;have:=HXL.o;have:=HR.B.l.kl;omega);have hgv:=Q2J (cx:=c1) (cY:=c2) H6.a (by rw[hlen2];omega) H6.b HR.B.ny.1 a (by rw[hlen2];have:=HR.B.l.len;have:=HXL.o;have:=HR.B.l.kl;omega) ((HR.B.l.dx.take a).append HSP.b) HY.d;rw[hlen2,List.take_append_of_le_length (by rw[hta];exact rl_ _),List.take_of_length_le (by rw[hta];exact rl_ _),List.drop_append_of_le_length (by rw[hta];exact rl_ _),List.drop_of_length_le (by rw[hta];exact rl_ _),List.nil_append] at hgv;have HGV:=hd_ hgv;have HO2:=hd_ ho2;clear ho1 ho2 ho3 hgv hta hlen2 hg2 hg0;go_wp2_with fail;refine HGV.o.mono ?_;rintro e w7 ⟨rfl,hr7,hon7⟩;have hy7:∀ (i d:Nat),Y1[i]? =some d->w7.cell? ⟨gy,0+i,none⟩=some (.int .u32 (d:Int)):=fun i d hi=> (hon7.cell HR.B.ny.1).trans (H6.b i d hi);have ho7:Row w2.heap.size O [] w7:=(hon7.rest _ HR.B.ne.symm).trans H6.c;have hb7:Below w.heap.size w w7:=H6.D.trans (hon7.below HR.B.gxl);have hcs:=ho7.at HO2.o;have hfz:=Q6 ho7 a;have H7:=h4_ hr7 hy7 ho7 hb7;clear hr7 hy7 ho7 hb7 hon7;dsimp only;go_wp2_with fail;go_roundg a
    case measure=> have:=HR.a;omega
    case rel=>
     have hon:Only w2.heap.size w7 (w7.setCell ⟨w2.heap.size,a,none⟩ (.int .u32 (g2:Int))):=(Only.refl _ _).setCell H7.c _ _;refine ⟨a,_,Xc.take a++Zp.give B32 Y1 T1 0,O.set a g2,rfl,rfl,rfl,(hon.rest _ HR.B.ne).trans H7.a,H7.c.set haO g2,HSP.a,by rw[List.length_set];exact HR.B.k,H7.D.trans (hon.below HR.B.gol),HR.B.gxl,HR.B.gol,HR.B.ne,fun i d hi=> (hon.cell HR.B.ny.2).trans (H7.b i d hi),HR.B.ny⟩
theorem Q0i {m:Nat} (h:(Zp.digs B32 y).length=m+1):∃ d,(Zp.digs B32 y)[m]? =some d/\d≠0:=by
 have hd:=Zp.Qo (B:=B32) (by decide) y;obtain ⟨d,h1,h2,h3⟩:=QI hd m (by omega);refine ⟨d,h2,fun h0=> ?_⟩;have h4:=Zp.Zh (B:=B32) (by decide) hd m (by omega);rw[Zp.XV h2,List.drop_of_length_le (by omega),h0,Zp.Qi (by decide)] at h4;have h5:y / B32 ^ m=0:=h4;have h6:=Zp.ZH (B:=B32) (by decide) m y (by omega);have h7:1<=y / B32 ^ m:=(Nat.le_div_iff_mul_le (Nat.pow_pos (by decide))).2 (by omega);omega
theorem Jo (h:y<=x):(Zp.digs B32 y).length<=(Zp.digs B32 x).length:=by
 have h1:=Zp.Xs (B:=B32) (by decide) (Zp.Qo (B:=B32) (by decide) x);rw[Zp.Qi (by decide)] at h1;exact Zp.QR (by decide) _ _ (Nat.lt_of_le_of_lt h h1)
theorem Q7w (h:(Zp.digs B32 y).length=1):Zp.digs B32 y= [y]/\y < B32/\0 < y:=by
 have hd:=Zp.Qo (B:=B32) (by decide) y;have hv:=Zp.Qi (B:=B32) (by decide) y;obtain ⟨d,h2,h0⟩:=Q0i (m:=0) h;cases he:Zp.digs B32 y with
 | nil=> rw[he] at h;simp at h
 | cons a r=>
  rw[he] at h h2 hv hd;have hr:r= []:=by simpa using h
  subst hr;have ha:a=y:=hv;simp at h2;subst ha;exact ⟨rfl,hd.head,by omega⟩
theorem Lo (hx:RdU w vx (Zp.digs B32 x)) (hy:RdU w vy (Zp.digs B32 y)) (h0:y≠0) (hlx:(Zp.digs B32 x).length<=1000000) (hly:(Zp.digs B32 y).length<=1000000):
  Calls prog 107 #[vx,vy] w (DvOut w x y):=by
 have hvx:=Zp.Qi (B:=B32) (by decide) x;have hvy:=Zp.Qi (B:=B32) (by decide) y;have hdx:=Zp.Qo (B:=B32) (by decide) x;have hdy:=Zp.Qo (B:=B32) (by decide) y;have hmono:y<=x->(Zp.digs B32 y).length<=(Zp.digs B32 x).length:=Jo;have hone:(Zp.digs B32 y).length=1->Zp.digs B32 y= [y]/\y < B32/\0 < y:=Q7w;have hlast:∀ m,(Zp.digs B32 y).length=m+1->∃ d,(Zp.digs B32 y)[m]? =some d/\d≠0:=fun m h=> Q0i h;have hnil:(Zp.digs B32 y).length≠0:=fun h=> h0 ((Zp.Xy (B:=B32) (by decide)).1 (List.length_eq_zero_iff.1 h));have hcmp:=fun (W:World) (hb:Below w.heap.size w W)=> ZS (hx.below hb) (hy.below hb) (by omega) (by omega);obtain ⟨X,hX⟩:∃ X,Zp.digs B32 x=X:=⟨_,rfl⟩
 obtain ⟨Y,hY⟩:∃ Y,Zp.digs B32 y=Y:=⟨_,rfl⟩
 rw[hX] at hx hlx hvx hdx hmono;rw[hY] at hy hly hvy hdy hmono hone hlast hnil;obtain ⟨ax,cx,rfl,hcx⟩:=hx.form;obtain ⟨ay,cy,rfl,hcy⟩:=hy.form;have hlx':(X.length:Int)<=1000000:=by omega
 have hly':(Y.length:Int)<=1000000:=by omega
 have HH:=h11_ hx hy hcmp hvx hvy hdx hdy hmono hone hlast hX;clear hx hy hcmp hvx hvy hdx hdy hmono hone hlast hX hY;go_in;go_wp2_with fail;refine eH_ (HH.c w (eB_ _ _)) ?_;rintro e w1 ⟨rfl,hb1⟩;have H1:=hd_ hb1;clear hb1;by_cases hlt:x < y
 ·have ho:Zp.ord x y=-1:=by unfold Zp.ord;rw[if_pos hlt]
  rw[ho];have HL:=hd_ hlt;clear hlt ho;dsimp only;go_wp2_with fail;go_ret2;refine ⟨_,_,rfl,?_,?_,H1.o⟩
  ·rw[Nat.div_eq_of_lt HL.o,Zp.QG];exact RdB.nil _ _ _
  ·rw[Nat.mod_eq_of_lt HL.o,HH.K];exact HH.a.below H1.o
 ·obtain ⟨o,ho⟩:∃ o,Zp.ord x y=o:=⟨_,rfl⟩
  have ho2:¬ o < 0:=by rw[<-ho];unfold Zp.ord;rw[if_neg hlt];split <;> omega
  rw[ho];have HL:=hd_ (Nat.le_of_not_lt hlt);clear hlt ho;dsimp only;by_cases h1:Y.length=1
  ·obtain ⟨e1,e2,e3⟩:=HH.i h1;subst e1;obtain ⟨bY,oY,eY,hcY⟩:=(HH.b.below H1.o).cell (i:=0) (by simp);obtain rfl:=eY;rw[Nat.add_zero] at hcY;have hcY':w1.cell? ⟨bY,oY,none⟩=some (.int .u32 (y:Int)):=hcY;have hwy:IntKind.u64.wrap (y:Int)=(y:Int):=QA (eI_ e2 (by decide));have HO:=h2_ e2 e3;clear e2 e3 h1 hcY h0 hnil;go_wp2_with fail;refine eH_ (Ub (HH.a.below H1.o) (by omega) HH.f y HO.B (Nat.le_of_lt HO.a)) ?_;rintro e w2 ⟨v2,rfl,hr2,hb2⟩;rw[HH.d] at hr2 |-;have H2:=h2_ hr2 hb2;clear hr2 hb2;dsimp only;go_wp2_with fail;refine eH_ (Zr (x % y) (eI_ (Nat.mod_lt _ HO.B) (eE_ (Nat.le_of_lt HO.a) (by decide))) w2) ?_;rintro e w3 ⟨v3,rfl,hr3,hb3⟩;have H3:=h2_ hr3 hb3;clear hr3 hb3;dsimp only;go_wp2_with fail;go_ret2;exact ⟨_,_,rfl,H2.a.below H3.B,H3.a,H1.o.trans ((H2.B.trans (H3.B.mono H2.B.size)).mono H1.o.size)⟩
  ·have h1':¬ (Y.length:Int)=1:=(by omega);obtain ⟨m,hm⟩:∃ m,Y.length=m+2:=⟨Y.length - 2,by omega⟩
   obtain ⟨d,hd1,hd2⟩:=HH.j (m+1) hm;have HM:=h3_ hm hd1 hd2;clear hm hd1 hd2 h1 h0 hnil;go_wp2_with fail;refine eH_ (Q2K (HH.a.below H1.o) (HH.b.below H1.o) HH.f HH.g HM.a HM.b HM.C (by omega) (HH.h HL.o)) ?_;rintro e w2 ⟨vq,vr,rfl,hq,hr,hb2⟩;rw[HH.d,HH.e] at hq hr;have H2:=h3_ hq hr hb2;clear hq hr hb2;dsimp only;go_wp2_with fail;go_ret2;exact ⟨_,_,rfl,H2.a,H2.b,H1.o.trans (H2.C.mono H1.o.size)⟩
theorem Q7x (hb:b≠0) (h:a=q*b+r) (h0:0<=r) (h1:r < (b.natAbs:Int)):a / b=q/\a % b=r:=by
 have hr:r / b=0:=by
  rcases Int.lt_or_lt_of_ne hb with hb | hb
  ·have e:r / b=-(r / -b):=(by rw[Int.ediv_neg];omega);rw[e,Int.ediv_eq_zero_of_lt h0 (by omega)];rfl
  ·exact Int.ediv_eq_zero_of_lt h0 (by omega)
 have hq:a / b=q:=by rw[h,Int.add_comm,Int.add_mul_ediv_right _ _ hb,hr,Int.zero_add]
 refine ⟨hq,?_⟩;rw[Int.emod_def,hq,h,Int.mul_comm b q];omega
def q0 (a b:Int):Int:=if (decide (a < 0)) !=decide (b < 0) then -((a.natAbs / b.natAbs:Nat):Int) else ((a.natAbs / b.natAbs:Nat):Int)
theorem Q8L (a b:Int):(q0 a b).natAbs<=a.natAbs:=by
 unfold q0;have:=Nat.div_le_self a.natAbs b.natAbs;split
 ·rw[Int.natAbs_neg,Int.natAbs_natCast];exact this
 ·rw[Int.natAbs_natCast];exact this
theorem Q0j {a b:Int} (hb:b≠0) (h:¬ (a < 0/\a.natAbs % b.natAbs≠0)):a / b=q0 a b/\a % b=((a.natAbs % b.natAbs:Nat):Int):=by
 have hB:0 < b.natAbs:=Int.natAbs_pos.2 hb;have hdm:=Nat.div_add_mod a.natAbs b.natAbs;have hlt:=Nat.mod_lt a.natAbs hB;unfold q0;generalize hQ:a.natAbs / b.natAbs=Q at*;generalize hR:a.natAbs % b.natAbs=R at*;have hP:((b.natAbs*Q:Nat):Int)+R=a.natAbs:=by exact_mod_cast hdm
 rw[Int.natCast_mul] at hP;refine Q7x hb ?_ (by omega) (by omega);by_cases ha:a < 0
 ·have hR0:R=0:=by
   rcases Nat.eq_zero_or_pos R with h1 | h1
   ·exact h1
   ·exact absurd ⟨ha,by omega⟩ h
  subst hR0;have ea:(a.natAbs:Int)=-a:=by omega
  by_cases hb0:b < 0
  ·have eb:(b.natAbs:Int)=-b:=(by omega);rw[ea,eb,Int.neg_mul] at hP;simp only[ha,hb0,decide_true,bne_self_eq_false,Bool.false_eq_true,if_false];rw[Int.mul_comm];omega
  ·have eb:(b.natAbs:Int)=b:=(by omega);rw[ea,eb] at hP;simp only[ha,hb0,decide_true,decide_false,Bool.bne_false,if_true];rw[Int.neg_mul,Int.mul_comm];omega
 ·have ea:(a.natAbs:Int)=a:=by omega
  by_cases hb0:b < 0
  ·have eb:(b.natAbs:Int)=-b:=(by omega);rw[ea,eb,Int.neg_mul] at hP;simp only[ha,hb0,decide_true,decide_false,Bool.bne_true,Bool.not_false,if_true];rw[Int.neg_mul,Int.mul_comm];omega
  ·have eb:(b.natAbs:Int)=b:=(by omega);rw[ea,eb] at hP;simp only[ha,hb0,decide_false,bne_self_eq_false,Bool.false_eq_true,if_false];rw[Int.mul_comm];omega
theorem Q2L {a b:Int} (hb:b≠0) (ha:a < 0) (h:a.natAbs % b.natAbs≠0):a / b=q0 a b+ -(if b < 0 then -1 else 1)/\a % b=(b.natAbs:Int) - ((a.natAbs % b.natAbs:Nat):Int):=by
 have hB:0 < b.natAbs:=Int.natAbs_pos.2 hb;have hdm:=Nat.div_add_mod a.natAbs b.natAbs;have hlt:=Nat.mod_lt a.natAbs hB;unfold q0;generalize hQ:a.natAbs / b.natAbs=Q at*;generalize hR:a.natAbs % b.natAbs=R at*;have hP:((b.natAbs*Q:Nat):Int)+R=a.natAbs:=by exact_mod_cast hdm
 rw[Int.natCast_mul] at hP;refine Q7x hb ?_ (by omega) (by omega);have ea:(a.natAbs:Int)=-a:=by omega
 by_cases hb0:b < 0
 ·have eb:(b.natAbs:Int)=-b:=by omega
  rw[ea,eb,Int.neg_mul] at hP;simp only[ha,hb0,decide_true,bne_self_eq_false,Bool.false_eq_true,if_false,if_true];rw[eb,Int.add_mul,Int.mul_comm];omega
 ·have eb:(b.natAbs:Int)=b:=by omega
  rw[ea,eb] at hP;simp only[ha,hb0,decide_true,decide_false,Bool.bne_false,if_true,if_false];rw[eb,Int.add_mul,Int.neg_mul,Int.mul_comm];omega
namespace Tp
end Tp
theorem QK {v:Value} (h:Num w v z):∃ b a c,v= .agg #[.bool b,.slice a (wd z).length c]/\Num w (.agg #[.bool b,.slice a (wd z).length c]) z:=by
 obtain ⟨s,rfl,h⟩:=h;obtain ⟨a,c,rfl⟩:=RdS.form h;exact ⟨_,a,c,rfl,⟨_,rfl,h⟩⟩
namespace Tp
end Tp
theorem Q8o {n:Nat} (h:n < 10 ^ k):(Zp.dec n).length<=k+1:=by
 unfold Zp.dec;split
 ·simp
 ·rw[List.length_map,List.length_reverse];have:=Zp.QR (B:=10) (by decide) k n h;omega
theorem Q0k (h:Bd k z):(Zp.text z).length<=k+2:=by
 have h1:=Q8o h;unfold Zp.text;split
 ·simp only[eL_];omega
 ·omega
theorem Q60 {t:Tp.T} {K:Nat} (h:Sm K t) (hn:NmB B t.l):(Tp.text t).length<=K*(K+B+4)+(K+2):=by
 have key:∀ l:Tp.L,(∀ p∈l,Bd K p.2)->NmB B l->(l.flatMap fun p=> Zp.text p.2++([42]++(p.1++ [43]))).length<=l.length*(K+B+4):=by
  intro l
  induction l with
  | nil=> intro _ _;simp
  | cons p r ih=>
   intro h1 h2;have i1:=ih (fun q hq=> h1 q (eR_ _ hq)) fun q hq=> h2 q (eR_ _ hq);have i2:=Q0k (h1 p (eX_ ..));have i3:=h2 p (eX_ ..);rw[List.flatMap_cons,eC_,eL_,Nat.add_mul];simp only[eC_,eL_,eU_] at i1 |-;omega
 have k1:=key t.l h.l hn;have k2:=Q0k h.rest;have k3:t.l.length*(K+B+4)<=K*(K+B+4):=Nat.mul_le_mul_right _ h.len;unfold Tp.text;rw[eC_];omega
theorem Q7y {B:Nat}:∀ (ps:List (Tp.Nm × Int)) {t:Tp.T},(∀ p∈ps,p.1.length<=B)->NmB B t.l->NmB B (Tp.sum t ps).l
 | [],_,_,h=> h
 | p::r,t,hp,h=> by
  have h1:NmB B (Tp.add t (Tp.name p.1) p.2).l:=NmB.addL (B:=B) p.2 (u:= [(p.1,1)]) (l:=t.l) h fun q hq=> by rw[List.mem_singleton.1 hq];exact hp p (eX_ ..)
  exact Q7y r (fun q hq=> hp q (eR_ _ hq)) h1
theorem Yx {W':World} {b o:Nat} (h:W.heap[b]? =W'.heap[b]?):W.cell? ⟨b,o,none⟩=W'.cell? ⟨b,o,none⟩:=by
 unfold World.cell?;rw[h]
def DmOut (w:World) (q r:Int) (e:Ending) (w':World):Prop:=∃ vq vr,e= .returned (.tuple #[vq,vr,.int .i64 0])/\Num w' vq q/\Num w' vr r/\Below w.heap.size w w'
theorem GM:(wd z).length=0↔z=0:=by rw[List.length_eq_zero_iff,wd,Zp.Xy (by decide),Int.natAbs_eq_zero]
theorem Q2M {x y:Int} (h:x.natAbs<=y.natAbs):(wd x).length<=(wd y).length:=Jo h
theorem L3 {g2:Nat} {cs cs2:Array Value} {x0 x1 y0 y1:Value} (hg:W.heap[g]? =some (.cells cs 27 (0,0))) (hg2:W.heap[g2]? =some (.cells cs2 27 (0,0))) (hne:g2≠g) (hs:cs.size=2) (hs2:cs2.size=2) (nq:Num W (.agg #[x0,x1]) q) (nr:Num W (.agg #[y0,y1]) r) (hb:Below B w W) (hB:B<=g) (hB2:B<=g2):
  ∃ W',((((W.setCell ⟨g,0,none⟩ x0).setCell ⟨g,1,none⟩ x1).setCell ⟨g2,0,none⟩ y0).setCell ⟨g2,1,none⟩ y1).drew=W'/\W'.heap[g]? =some (.cells #[x0,x1] 27 (0,0))/\W'.heap[g2]? =some (.cells #[y0,y1] 27 (0,0))/\Num W' (.agg #[x0,x1]) q/\Num W' (.agg #[y0,y1]) r/\Below B w W':=by
 have h2:(W.setRow g #[x0,x1]).heap[g2]? =some (.cells cs2 27 (0,0)):=by rw[Q8 hne];exact hg2
 refine ⟨_,rfl,?_⟩;rw[YD hg hs,YD h2 hs2];have hf:=(Qe (vs:= #[x0,x1]) hg).trans (Qe (vs:= #[y0,y1]) h2);exact ⟨by show ((W.setRow g #[x0,x1]).setRow g2 #[y0,y1]).heap[g]? =_;rw[Q8 (fun h=> hne h.symm)];exact Qb hg,Qb h2,(nq.frt hf (by decide)).below (eB_ _ _).drew,(nr.frt hf (by decide)).below (eB_ _ _).drew,(Q9 (Q9 hb hB _) hB2 _).drew⟩
theorem ck4_ {x0 x1 x2 x3 o0 o1 o2 o3:Nat} {u0 u1 u2 u3:Value} (h0:w.cell? ⟨x0,o0,none⟩=some u0) (h1:w.cell? ⟨x1,o1,none⟩=some u1) (h2:w.cell? ⟨x2,o2,none⟩=some u2) (h3:w.cell? ⟨x3,o3,none⟩=some u3):Hid (∀ W,Below w.heap.size w W->W.cell? ⟨x0,o0,none⟩=some u0/\W.cell? ⟨x1,o1,none⟩=some u1/\W.cell? ⟨x2,o2,none⟩=some u2/\W.cell? ⟨x3,o3,none⟩=some u3):=hd_ fun W b=> ⟨(b.cell (Qd h0)).trans h0,(b.cell (Qd h1)).trans h1,(b.cell (Qd h2)).trans h2,(b.cell (Qd h3)).trans h3⟩
theorem Z4 (ha:Num w va a) (hb:Num w vb b) (h0:b≠0) (hla:(wd a).length<=1000000) (hlb:(wd b).length<=1000000):
  Calls prog 75 #[va,vb] w (DmOut w (a / b) (a % b)):=by
 obtain ⟨aa,ca,rfl,hra⟩:=ha.form;obtain ⟨ab,cb,rfl,hrb⟩:=hb.form;obtain ⟨na,hna⟩:∃ c,decide (a < 0)=c:=⟨_,rfl⟩
 obtain ⟨nb,hnb⟩:∃ c,decide (b < 0)=c:=⟨_,rfl⟩
 rw[hna] at ha |-;rw[hnb] at hb |-;have hlb0:(wd b).length≠0:=fun h=> h0 (GM.1 h);have hlb1:¬ ((wd b).length:Int)=0:=by omega
 have hbx:=box4 w #[.bool na,.slice aa (wd a).length ca] 27 #[.bool nb,.slice ab (wd b).length cb] 27 #[.bool false,.slice none 0 0] 27 #[.bool false,.slice none 0 0] 27;obtain ⟨V,hV⟩:∃ V,(((w.alloc (.cells #[.bool na,.slice aa (wd a).length ca] 27)).alloc (.cells #[.bool nb,.slice ab (wd b).length cb] 27)).alloc (.cells #[.bool false,.slice none 0 0] 27)).alloc (.cells #[.bool false,.slice none 0 0] 27)=V:=⟨_,rfl⟩
 rw[hV] at hbx;have HV:=hd_ hV;have HB:=hd_ hbx;have HH:=h9_ ha hb hra hrb h0 hla hlb hna hnb;have a1:=Q3 hbx.1 1 rfl;have b1:=Q3 hbx.2.1 1 rfl;clear ha hb hra hrb h0 hla hlb hna hnb hV hbx hlb0;go_in;go_wp2_with fail;rw[HV.o];refine eH_ (Lo (x:=a.natAbs) (y:=b.natAbs) (HH.c.below HB.e) (HH.d.below HB.e) (by have:=HH.e;omega) HH.f HH.g) ?_;rintro e w1 ⟨vq,vr,rfl,hq,hr,hb1⟩;obtain ⟨aq,cq,rfl,hcq⟩:=hq.form;obtain ⟨ar,cr,rfl,hcr⟩:=hr.form;have hlq:(Zp.digs B32 (a.natAbs / b.natAbs)).length<=1000000:=eE_ (Jo (Nat.div_le_self _ _)) HH.f;have hlr:(Zp.digs B32 (a.natAbs % b.natAbs)).length<=1000000:=eE_ (Jo (Nat.mod_le _ _)) HH.f;have hA1:=Q7 HB.a hb1;have hB1:=Q7 HB.b hb1;have a0:=Q3 hA1 0 rfl;have b0:=Q3 hB1 0 rfl;have mkS:∀ W:World,(W.heap[w.heap.size]? =w1.heap[w.heap.size]? /\W.heap[w.heap.size+1]? =w1.heap[w.heap.size+1]?)->W.cell? ⟨w.heap.size,0,none⟩=some (.bool na)/\W.cell? ⟨w.heap.size+1,0,none⟩=some (.bool nb):=fun W hb=> ⟨(Yx hb.1).trans a0,(Yx hb.2).trans b0⟩;have mkK:∀ W:World,Below w1.heap.size w1 W->W.heap[w.heap.size]? =w1.heap[w.heap.size]? /\W.heap[w.heap.size+1]? =w1.heap[w.heap.size+1]? :=fun W hb=> ⟨hb.block _ (Q4 hA1),hb.block _ (Q4 hB1)⟩;have HK:=hd_ mkK;have HS:=hd_ mkS;have H1:=h5_ hq hr hb1 hlq hlr;clear mkS mkK a0 b0 a1 b1 hA1 hB1 hq hr hb1 hlq hlr hcq hcr;dsimp only;go_wp2_with fail;refine rh_ (s:=HS) (p:=(HK.o _ (eB_ _ _).drew)) (h:=fun hHeld=> ?_);simp only[List.size_toArray,eL_,eU_];refine tk_ 0 rfl ?_;refine tk_ 1 rfl ?_;refine tk_ 2 rfl ?_;refine tk_ 3 rfl ?_;refine tk_ 4 rfl ?_;refine tk_ 5 rfl ?_;refine tk_ 8 rfl ?_;try simp only[Act.put,gP_]
 refine rd_ 6 rfl (fun KK hKK=> ?_);simp only[gA_];go_simp;have hbD:=(eB_ w1.heap.size w1).drew;refine eH_ (YW (H1.a.below hbD) (eE_ H1.d (by decide))) ?_;rintro r w2 ⟨v2,rfl,hr2,hc2⟩;have hb2:=hbD.trans (hc2.mono hbD.size);clear hc2;dsimp only;refine hKK.out _ _ (HS.o _ (HK.o _ hb2)) (fun hHeld=> ?_);clear hKK KK;try simp only[Act.put,sA_]
 refine rd_ 7 rfl (fun KK hKK=> ?_);simp only[gA_];go_simp;refine eH_ (QZ hr2 (eE_ H1.d (by decide)) (Zp.Qo (by decide) _) (na !=nb) (q0 a b) (by unfold q0;rw[HH.h,HH.I,Zp.Qi (by decide)])) ?_;rintro r w3 ⟨v3,rfl,hn3,hc3⟩;have hb3:=hb2.trans (hc3.mono hb2.size);have H3:=hd_ hn3;clear hc3 hn3 hr2 hb2;dsimp only;refine hKK.out _ _ (HS.o _ (HK.o _ hb3)) (fun hHeld=> ?_);clear hKK KK;try simp only[Act.put,sA_]
 refine rd_ 9 rfl (fun KK hKK=> ?_);simp only[gA_];go_simp;refine eH_ (Xj (H1.b.below hb3) (eE_ H1.E (by decide))) ?_;rintro r w4 ⟨rfl,rfl⟩;dsimp only;refine hKK.out _ _ (HS.o _ (HK.o _ hb3)) (fun hHeld=> ?_);clear hKK KK;try simp only[Act.put,sA_]
 have hr4:=(H1.b.below hb3).trim;rw[Zp.Q4T (by decide)] at hr4 |-;refine rd_ 10 rfl (fun KK hKK=> ?_);simp only[gA_];go_simp;refine eH_ (YW hr4 (eE_ H1.E (by decide))) ?_;rintro r w5 ⟨v5,rfl,hr5,hc5⟩;have hb5:=hb3.trans (hc5.mono hb3.size);have H5:=hd_ (H3.o.below hc5);clear hc5 hr4 hb3;dsimp only;refine hKK.out _ _ (HS.o _ (HK.o _ hb5)) (fun hHeld=> ?_);clear hKK KK;try simp only[Act.put,sA_]
 refine rd_ 11 rfl (fun KK hKK=> ?_);simp only[gA_];go_simp;refine eH_ (QZ hr5 (eE_ H1.E (by decide)) (Zp.Qo (by decide) _) false ((a.natAbs % b.natAbs:Nat):Int) (by rw[Zp.Qi (by decide)];rfl)) ?_;rintro r w6 ⟨v6,rfl,hn6,hc6⟩;have hb6:=hb5.trans (hc6.mono hb5.size);have H6:=h3_ (H5.o.below hc6) hn6 hb6;clear hc6 hn6 hr5 hb5;dsimp only;refine hKK.out _ _ (HS.o _ (HK.o _ hb6)) (fun hHeld=> ?_);clear hKK KK;try simp only[Act.put,sA_]
 obtain ⟨hnq,hnr,hbw⟩:=H6.o;obtain ⟨bq,a7,c7,rfl,hnq⟩:=QK hnq;obtain ⟨br,a8,c8,rfl,hnr⟩:=QK hnr;obtain ⟨lr,hlr⟩:∃ l,(wd ((a.natAbs % b.natAbs:Nat):Int)).length=l:=⟨_,rfl⟩
 rw[hlr] at hnr |-;have hV6:Below V.heap.size V w6:=H1.c.trans (hbw.mono H1.c.size);have hw6:Below w.heap.size w w6:=HB.e.trans (hV6.mono HB.e.size);have r2:=Q7 HB.c hV6;have r3:=Q7 HB.d hV6;have rA:=Q7 HB.a hV6;have rB:=Q7 HB.b hV6;have hk6:=HK.o _ hbw;clear hbw;have r3b:(w6.setRow (w.heap.size+1+1) #[.bool bq,.slice a7 (wd (q0 a b)).length c7]).heap[w.heap.size+1+1+1]? =some (.cells #[.bool false,.slice none 0 0] 27 (0,0)):=by rw[Q8 (by omega)];exact r3
 refine rd_ 12 rfl (fun KK hKK=> ?_);simp only[gA_];refine Qs _ _ _ rfl 27 (w.heap.size+1+1) #[.bool false,.slice none 0 0] #[.bool bq,.slice a7 (wd (q0 a b)).length c7] rfl r2 rfl rfl Qq (by simp[Value.oneCell']) ?_;refine hKK.out _ _ (HS.o _ ⟨by rw[Q8 (by omega)];exact hk6.1,by rw[Q8 (by omega)];exact hk6.2⟩) (fun hHeld=> ?_);clear hKK KK;try simp only[Act.put,sA_]
 refine rd_ 13 rfl (fun KK hKK=> ?_);simp only[gA_];refine Qs _ _ _ rfl 27 (w.heap.size+1+1+1) #[.bool false,.slice none 0 0] #[.bool br,.slice a8 lr c8] rfl r3b rfl rfl Qq (by simp[Value.oneCell']) ?_;refine hKK.out _ _ (HS.o _ ⟨by rw[Q8 (by omega),Q8 (by omega)];exact hk6.1,by rw[Q8 (by omega),Q8 (by omega)];exact hk6.2⟩) (fun hHeld=> ?_);clear hKK KK;try simp only[Act.put,sA_]
 refine wpAnyH_done (by kernel_rfl) ?_ _
 (try dsimp only);clear hk6;obtain ⟨W7,hW7⟩:∃ W,(w6.setRow (w.heap.size+1+1) #[.bool bq,.slice a7 (wd (q0 a b)).length c7]).setRow (w.heap.size+1+1+1) #[.bool br,.slice a8 lr c8]=W:=⟨_,rfl⟩
 have q2:W7.heap[w.heap.size+1+1]? =some (.cells #[.bool bq,.slice a7 (wd (q0 a b)).length c7] 27 (0,0)):=by rw[<-hW7,Q8 (by omega)];exact Qb r2
 have q3:W7.heap[w.heap.size+1+1+1]? =some (.cells #[.bool br,.slice a8 lr c8] 27 (0,0)):=by rw[<-hW7];exact Qb r3b
 have qA:W7.heap[w.heap.size]? =some (.cells #[.bool na,.slice aa (wd a).length ca] 27 (0,0)):=by rw[<-hW7,Q8 (by omega),Q8 (by omega)];exact rA
 have qB:W7.heap[w.heap.size+1]? =some (.cells #[.bool nb,.slice ab (wd b).length cb] 27 (0,0)):=by rw[<-hW7,Q8 (by omega),Q8 (by omega)];exact rB
 have fr:FrT [27] w6 W7:=by rw[<-hW7];exact (Qe r2).trans (Qe r3b)
 have hb7:Below w.heap.size w W7:=by rw[<-hW7];exact Q9 (Q9 hw6 (by omega) _) (by omega) _
 rw[hW7];have hnb7:Num W7 (.agg #[.bool nb,.slice ab (wd b).length cb]) b:=((HH.b.below HB.e).below hV6).frt fr (by decide);have H7:=h5_ (n4_ qA qB q2 q3) (hnq.frt fr (by decide)) (hnr.frt fr (by decide)) hb7 hnb7;have a0:=Q3 qA 0 rfl;have x1:=Q3 q3 1 rfl;clear hnq hnr hV6 hw6 r2 r3 r3b rA rB hW7 q2 q3 qA qB fr hb7 hnb7;have hdiv:= @Q0j a b HH.e;have hdiv2:= @Q2L a b HH.e;have HD:=h2_ hdiv hdiv2;have HLR:=hd_ hlr;clear hdiv hdiv2 hlr;cases na with
 | false=>
  have HX:=hd_ (HD.a (fun h=> by have:=HH.h;rw[eM_ h.1] at this;cases this));clear x1;have fz2:=Q6 H7.a.2.2.1 0;have fz3:=Q6 H7.a.2.2.1 1;have fz4:=Q6 H7.a.2.2.2 0;have fz5:=Q6 H7.a.2.2.2 1;have p0:=Q3 H7.a.2.2.1 0 rfl;have p1:=Q3 H7.a.2.2.1 1 rfl;have p2:=Q3 H7.a.2.2.2 0 rfl;have p3:=Q3 H7.a.2.2.2 1 rfl;go_wp2_with fail;go_region;obtain ⟨W9,hW9,g2,g3,n2,n3,hb9⟩:=L3 H7.a.2.2.1 H7.a.2.2.2 (by omega) rfl rfl H7.b H7.c H7.d (show w.heap.size<=w.heap.size+1+1 by omega) (show w.heap.size<=w.heap.size+1+1+1 by omega);rw[hW9];have HG:=h5_ g2 g3 n2 n3 hb9;clear hW9 g2 g3 n2 n3 hb9 fz2 fz3 fz4 fz5 p0 p1 p2 p3;go_wp2_with fail;refine eG_ (QF rfl _ _ (w.heap.size+1+1) (w.heap.size+1+1+1) _ _ _ _ _ _ _ _ rfl rfl HG.a HG.b underlying27 rfl Qq underlying27 rfl Qq rfl) rfl ?_;refine ⟨_,_,rfl,?_,?_,HG.E⟩
  ·rw[HX.a];exact HG.c
  ·rw[HX.B];exact HG.d
 | true=>
  have ha0:a < 0:=of_decide_eq_true HH.h;by_cases hr0:a.natAbs % b.natAbs=0
  ·have HX:=hd_ (HD.a (fun h=> h.2 hr0));obtain rfl:lr=0:=(by rw[<-HLR.o];exact GM.2 (by rw[hr0];rfl));clear hr0 ha0;have fz2:=Q6 H7.a.2.2.1 0;have fz3:=Q6 H7.a.2.2.1 1;have fz4:=Q6 H7.a.2.2.2 0;have fz5:=Q6 H7.a.2.2.2 1;have p0:=Q3 H7.a.2.2.1 0 rfl;have p1:=Q3 H7.a.2.2.1 1 rfl;have p2:=Q3 H7.a.2.2.2 0 rfl;have p3:=Q3 H7.a.2.2.2 1 rfl;go_wp2_with fail;go_region;obtain ⟨W9,hW9,g2,g3,n2,n3,hb9⟩:=L3 H7.a.2.2.1 H7.a.2.2.2 (by omega) rfl rfl H7.b H7.c H7.d (show w.heap.size<=w.heap.size+1+1 by omega) (show w.heap.size<=w.heap.size+1+1+1 by omega);rw[hW9];have HG:=h5_ g2 g3 n2 n3 hb9;clear hW9 g2 g3 n2 n3 hb9 fz2 fz3 fz4 fz5 p0 p1 p2 p3;go_wp2_with fail;refine eG_ (QF rfl _ _ (w.heap.size+1+1) (w.heap.size+1+1+1) _ _ _ _ _ _ _ _ rfl rfl HG.a HG.b underlying27 rfl Qq underlying27 rfl Qq rfl) rfl ?_;refine ⟨_,_,rfl,?_,?_,HG.E⟩
   ·rw[HX.a];exact HG.c
   ·rw[HX.B];exact HG.d
  ·have HX:=hd_ (HD.B ha0 hr0);have hl1:(0:Int) < (lr:Int):=(by have h1:lr≠0:=fun h=> hr0 (by have:=GM.1 (HLR.o.trans h);omega);omega);have hl2:0 < lr:=(by omega);clear ha0 hr0;go_wp2_with fail;clear a0 x1 hl1 hl2;have b0:=Q3 H7.a.2.1 0 rfl;have b1:=Q3 H7.a.2.1 1 rfl;have x0:=Q3 H7.a.2.2.2 0 rfl;have x1:=Q3 H7.a.2.2.2 1 rfl;have HS6:=ck4_ b0 b1 x0 x1;clear b0 b1 x0 x1;refine rq_ (s:=HS6) (p:=((eB_ _ _).drew)) (h:=fun hHeld=> ?_);simp only[lA_];refine tk_ 0 rfl ?_;refine tk_ 2 rfl ?_;(try simp only[Act.put,gP_]);refine rd_ 1 rfl (fun KK hKK=> ?_);simp only[gA_];go_simp;have hbD:=(eB_ W7.heap.size W7).drew;refine eH_ (Dh (H7.E.below hbD) (eE_ HH.g (by decide))) ?_;rintro r w8 ⟨v8,rfl,hn8,hc8⟩;have hb8:=hbD.trans (hc8.mono hbD.size);clear hc8;dsimp only;refine hKK.out _ _ (HS6.o _ hb8) (fun hHeld=> ?_);clear hKK KK;(try simp only[Act.put,sA_]);refine rd_ 3 rfl (fun KK hKK=> ?_);simp only[gA_];go_simp;refine eH_ (Q3u hn8 (H7.c.below hb8) (eE_ (Q2M (by omega)) (eE_ HH.g (by decide))) (eE_ (Q2M (y:=a) (by have:=Nat.mod_le a.natAbs b.natAbs;omega)) (eE_ HH.f (by decide)))) ?_;rintro r w9 ⟨v9,rfl,hn9,hc9⟩;have hb9:=hb8.trans (hc9.mono hb8.size);obtain ⟨b9,a9,c9,rfl,hn9⟩:=QK hn9;obtain ⟨l9,hl9⟩:∃ l,(wd ((b.natAbs:Int) - ((a.natAbs % b.natAbs:Nat):Int))).length=l:=⟨_,rfl⟩
   rw[hl9] at hn9 |-;clear hl9;clear hc9 hn8 hb8;dsimp only;refine hKK.out _ _ (HS6.o _ hb9) (fun hHeld=> ?_);clear hKK KK;(try simp only[Act.put,sA_]);have r3:=Q7 H7.a.2.2.2 hb9;have r2:=Q7 H7.a.2.2.1 hb9;have rB:=Q7 H7.a.2.1 hb9;clear hHeld;refine wpAnyH_done (by kernel_rfl) ?_ _;unfold PeelQ;dsimp only;refine Qs _ _ _ rfl 27 (w.heap.size+1+1+1) #[.bool br,.slice a8 lr c8] #[.bool b9,.slice a9 l9 c9] rfl r3 rfl rfl Qq (by simp[Value.oneCell']) ?_;obtain ⟨W10,hW10⟩:∃ W,w9.setRow (w.heap.size+1+1+1) #[.bool b9,.slice a9 l9 c9]=W:=⟨_,rfl⟩
   have q3:W10.heap[w.heap.size+1+1+1]? =some (.cells #[.bool b9,.slice a9 l9 c9] 27 (0,0)):=(by rw[<-hW10];exact Qb r3);have q2:W10.heap[w.heap.size+1+1]? =some (.cells #[.bool bq,.slice a7 (wd (q0 a b)).length c7] 27 (0,0)):=(by rw[<-hW10,Q8 (by omega)];exact r2);have qB:W10.heap[w.heap.size+1]? =some (.cells #[.bool nb,.slice ab (wd b).length cb] 27 (0,0)):=(by rw[<-hW10,Q8 (by omega)];exact rB);have fr:FrT [27] w9 W10:=(by rw[<-hW10];exact Qe r3);have hb10:Below w.heap.size w W10:=(by rw[<-hW10];exact Q9 (H7.d.trans (hb9.mono H7.d.size)) (by omega) _);rw[hW10];have H10:=h6_ q3 q2 (hn9.frt fr (by decide)) ((H7.b.below hb9).frt fr (by decide)) ((H7.E.below hb9).frt fr (by decide)) hb10;have b0:=Q3 qB 0 rfl;have b1:=Q3 qB 1 rfl;have x0:=Q3 q2 0 rfl;have x1:=Q3 q2 1 rfl;have HS7:=ck4_ b0 b1 x0 x1;clear b0 b1 x0 x1 hn9 hb9 r3 r2 rB hW10 q3 q2 qB fr hb10;go_simp;go_wp2_with fail;refine rq_ (s:=HS7) (p:=((eB_ _ _).drew)) (h:=fun hHeld=> ?_);simp only[lA_];refine tk_ 0 rfl ?_;refine tk_ 1 rfl ?_;(try simp only[Act.put,gP_]);refine rd_ 2 rfl (fun KK hKK=> ?_);simp only[gA_];go_simp;have hbD:=(eB_ W10.heap.size W10).drew;refine eH_ (Xb (H10.e.below hbD)) ?_;rintro r w11 ⟨rfl,hc11⟩;have hb11:=hbD.trans (hc11.mono hbD.size);clear hc11;have hsb:=UV b;dsimp only;refine hKK.out _ _ (HS7.o _ hb11) (fun hHeld=> ?_);clear hKK KK;(try simp only[Act.put,sA_]);have hng:IntKind.i64.wrap (-sgn b)=-sgn b:=(by rw[IntKind.wrap_i64];omega);refine tk_ 3 rfl ?_;(try simp only[Act.put,gP_]);refine rd_ 4 rfl (fun KK hKK=> ?_);simp only[gA_];go_simp
   (try rw[hng]);clear hng;refine eH_ (QM (-sgn b) (by omega) (by omega) w11) ?_;rintro r w12 ⟨v12,rfl,hn12,hc12⟩;have hb12:=hb11.trans (hc12.mono hb11.size);clear hc12 hb11;dsimp only;refine hKK.out _ _ (HS7.o _ hb12) (fun hHeld=> ?_);clear hKK KK;(try simp only[Act.put,sA_]);refine rd_ 5 rfl (fun KK hKK=> ?_);simp only[gA_];go_simp;refine eH_ (Zs (H10.d.below hb12) hn12 (eE_ (Q2M (Q8L a b)) (eE_ HH.f (by decide))) (by refine eE_ (Zp.QR (by decide) 1 _ ?_) (by decide);show (-sgn b).natAbs < 4294967296 ^ 1;omega)) ?_;rintro r w13 ⟨v13,rfl,hn13,hc13⟩;have hb13:=hb12.trans (hc13.mono hb12.size);obtain ⟨b13,a13,c13,rfl,hn13⟩:=QK hn13;clear hc13 hn12 hb12;dsimp only;refine hKK.out _ _ (HS7.o _ hb13) (fun hHeld=> ?_);clear hKK KK;(try simp only[Act.put,sA_]);have r3:=Q7 H10.a hb13;have r2:=Q7 H10.b hb13;clear hHeld hsb;refine wpAnyH_done (by kernel_rfl) ?_ _;unfold PeelQ;dsimp only;refine Qs _ _ _ rfl 27 (w.heap.size+1+1) #[.bool bq,.slice a7 (wd (q0 a b)).length c7] #[.bool b13,.slice a13 (wd (q0 a b+ -sgn b)).length c13] rfl r2 rfl rfl Qq (by simp[Value.oneCell']) ?_;obtain ⟨W14,hW14⟩:∃ W,w13.setRow (w.heap.size+1+1) #[.bool b13,.slice a13 (wd (q0 a b+ -sgn b)).length c13]=W:=⟨_,rfl⟩
   have q2:W14.heap[w.heap.size+1+1]? =some (.cells #[.bool b13,.slice a13 (wd (q0 a b+ -sgn b)).length c13] 27 (0,0)):=(by rw[<-hW14];exact Qb r2);have q3:W14.heap[w.heap.size+1+1+1]? =some (.cells #[.bool b9,.slice a9 l9 c9] 27 (0,0)):=(by rw[<-hW14,Q8 (by omega)];exact r3);have fr:FrT [27] w13 W14:=(by rw[<-hW14];exact Qe r2);have hb14:Below w.heap.size w W14:=(by rw[<-hW14];exact Q9 (H10.F.trans (hb13.mono H10.F.size)) (by omega) _);rw[hW14];have H14:=h5_ q2 q3 (hn13.frt fr (by decide)) ((H10.c.below hb13).frt fr (by decide)) hb14;clear hn13 hb13 r3 r2 hW14 q3 q2 fr hb14;go_simp;have fz2:=Q6 H14.a 0;have fz3:=Q6 H14.a 1;have fz4:=Q6 H14.b 0;have fz5:=Q6 H14.b 1;have p0:=Q3 H14.a 0 rfl;have p1:=Q3 H14.a 1 rfl;have p2:=Q3 H14.b 0 rfl;have p3:=Q3 H14.b 1 rfl;go_wp2_with fail;go_region;obtain ⟨W9,hW9,g2,g3,n2,n3,hb9⟩:=L3 H14.a H14.b (by omega) rfl rfl H14.c H14.d H14.E (show w.heap.size<=w.heap.size+1+1 by omega) (show w.heap.size<=w.heap.size+1+1+1 by omega);rw[hW9];have HG:=h5_ g2 g3 n2 n3 hb9;clear hW9 g2 g3 n2 n3 hb9 fz2 fz3 fz4 fz5 p0 p1 p2 p3;go_wp2_with fail;refine eG_ (QF rfl _ _ (w.heap.size+1+1) (w.heap.size+1+1+1) _ _ _ _ _ _ _ _ rfl rfl HG.a HG.b underlying27 rfl Qq underlying27 rfl Qq rfl) rfl ?_;have es:sgn b=if b < 0 then -1 else 1:=(by unfold sgn;have:=HH.e;split <;> (first | rfl | (split <;> omega)));refine ⟨_,_,rfl,?_,?_,HG.E⟩
   ·rw[HX.a, <-es];exact HG.c
   ·rw[HX.B];exact HG.d
theorem Q2N (a b:Int):Nat.gcd b.natAbs (a % b).natAbs=Nat.gcd a.natAbs b.natAbs:=by
 have e:=Int.mul_ediv_add_emod a b;refine Nat.dvd_antisymm (Nat.dvd_gcd ?_ (Nat.gcd_dvd_left _ _)) (Nat.dvd_gcd (Nat.gcd_dvd_right _ _) ?_)
 ·refine Int.ofNat_dvd_left.1 ?_;have h:((Nat.gcd b.natAbs (a % b).natAbs:Nat):Int)∣b*(a / b)+a % b:=Int.dvd_add (Int.dvd_mul_of_dvd_left (Int.ofNat_dvd_left.2 (Nat.gcd_dvd_left _ _))) (Int.ofNat_dvd_left.2 (Nat.gcd_dvd_right _ _));rw[e] at h;exact h
 ·refine Int.ofNat_dvd_left.1 ?_;rw[Int.emod_def];exact Int.dvd_sub (Int.ofNat_dvd_left.2 (Nat.gcd_dvd_left _ _)) (Int.dvd_mul_of_dvd_left (Int.ofNat_dvd_left.2 (Nat.gcd_dvd_right _ _)))
theorem UC (a:Int) {b:Int} (h:b≠0):(a % b).natAbs < b.natAbs:=by
 have h1:=Int.emod_nonneg a h;rcases Int.lt_or_lt_of_ne h with hb | hb
 ·have h2:=Int.emod_lt_of_pos a (show 0 < -b by omega);rw[Int.emod_neg] at h2;omega
 ·have h2:=Int.emod_lt_of_pos a hb;omega
theorem Ym:sgn z=0↔z=0:=by unfold sgn;split <;> (try split) <;> omega
structure GcI (w:World) (G:Nat) (x y:Int) (X Y:Array Value) (wr:World):Prop where
 rx:wr.heap[w.heap.size]? =some (.cells X 27 (0,0))
 ry:wr.heap[w.heap.size+1]? =some (.cells Y 27 (0,0))
 rz:wr.heap[w.heap.size+1+1]? =some (.cells #[.bool false,.slice none 0 0] 27 (0,0))
 nx:Num wr (.agg X) x
 ny:Num wr (.agg Y) y
 g:Nat.gcd x.natAbs y.natAbs=G
 lx:(wd x).length<=1000000
 ly:(wd y).length<=1000000
 below:Below w.heap.size w wr
theorem Q2O (ha:Num w va a) (hb:Num w vb b) (hla:(wd a).length<=1000000) (hlb:(wd b).length<=1000000):
  Calls prog 106 #[va,vb] w fun e w'=> ∃ v,e= .returned v/\Num w' v ((Nat.gcd a.natAbs b.natAbs:Nat):Int)/\Below w.heap.size w w':=by
 obtain ⟨na,aa,ca,rfl,ha⟩:=QK ha;obtain ⟨nb,ab,cb,rfl,hb⟩:=QK hb;have hbx:=box3 w #[.bool na,.slice aa (wd a).length ca] 27 #[.bool nb,.slice ab (wd b).length cb] 27 #[.bool false,.slice none 0 0] 27;obtain ⟨V,hV⟩:∃ V,((w.alloc (.cells #[.bool na,.slice aa (wd a).length ca] 27)).alloc (.cells #[.bool nb,.slice ab (wd b).length cb] 27)).alloc (.cells #[.bool false,.slice none 0 0] 27)=V:=⟨_,rfl⟩
 rw[hV] at hbx;have HV:=hd_ hV;obtain ⟨G,hG⟩:∃ G,Nat.gcd a.natAbs b.natAbs=G:=⟨_,rfl⟩
 rw[hG];have h0:GcI w G a b #[.bool na,.slice aa (wd a).length ca] #[.bool nb,.slice ab (wd b).length cb] V:=⟨hbx.1,hbx.2.1,hbx.2.2.1,ha.below hbx.2.2.2,hb.below hbx.2.2.2,hG,hla,hlb,hbx.2.2.2⟩
 have H0:=hd_ h0;clear h0 ha hb hla hlb hV hbx hG;go_in;go_wp2_with fail;rw[HV.o];go_loopg [] b.natAbs (fun k wr=> ∃ (x y:Int) (xb:Bool) (xa:Option Addr) (xc:Nat) (yb:Bool) (ya:Option Addr) (yc:Nat),k=y.natAbs/\GcI w G x y #[.bool xb,.slice xa (wd x).length xc] #[.bool yb,.slice ya (wd y).length yc] wr)
 case atStart=> exact ⟨a,b,_,_,_,_,_,_,rfl,H0.o⟩
 case round=>
  obtain ⟨x,y,xb,xa,xc,yb,ya,yc,hk,hI⟩:=hrel;have HR:=h2_ hk hI;have x0:=Q3 hI.rx 0 rfl;have x1:=Q3 hI.rx 1 rfl;have y0:=Q3 hI.ry 0 rfl;have y1:=Q3 hI.ry 1 rfl;clear hk hI;go_wp2_with fail;refine eH_ (Xb HR.B.ny) ?_;rintro r w2 ⟨rfl,hb2⟩;have hX:=Q7 HR.B.rx hb2;have hY:=Q7 HR.B.ry hb2;have hZ:=Q7 HR.B.rz hb2;have H2:=h4_ hX hY hZ hb2;clear x0 x1 y0 y1;have x0:=Q3 hX 0 rfl;have x1:=Q3 hX 1 rfl;have y0:=Q3 hY 0 rfl;have y1:=Q3 hY 1 rfl;clear hX hY hZ hb2;by_cases hy0:y=0
  ·subst hy0;rw[show sgn 0=0 from rfl];dsimp only;go_wp2_with fail;refine eH_ (Dh (HR.B.nx.below H2.D) (eE_ HR.B.lx (by decide))) ?_;rintro r w3 ⟨v3,rfl,hn3,hb3⟩;obtain ⟨b3,a3,c3,rfl,hn3⟩:=QK hn3;have hZ3:=Q7 H2.c hb3;have hg:=HR.B.g;rw[Int.natAbs_zero,Nat.gcd_zero_right] at hg;rw[hg] at hn3 |-;have H3:=h3_ hZ3 hn3 (HR.B.below.trans ((H2.D.trans (hb3.mono H2.D.size)).mono HR.B.below.size));clear hZ3 hn3 hb3 hg x0 x1 y0 y1;dsimp only;go_wp2_with (refine Qc rfl 27 _ _ rfl 27 (w.heap.size+1+1) #[.bool false,.slice none 0 0] #[.bool b3,.slice a3 (wd (G:Int)).length c3] rfl H3.a rfl rfl Qq (by simp[Value.oneCell']) ?_);refine eG_ (eY_ rfl _ _ (w.heap.size+1+1) _ _ _ _ rfl (Qb H3.a) underlying27 rfl Qq) rfl ?_;exact ⟨_,rfl,H3.b.frt (Qe H3.a) (by decide),Q9 H3.C (Nat.le_succ_of_le (Nat.le_succ _)) _⟩
  ·have hs0:¬ sgn y=0:=fun h=> hy0 (Ym.1 h);obtain ⟨sy,hsy⟩:∃ s,sgn y=s:=⟨_,rfl⟩
   rw[hsy] at hs0 |-;have HY:=hd_ hy0;clear hy0 hsy;dsimp only;go_wp2_with fail;refine eH_ (Z4 (HR.B.nx.below H2.D) (HR.B.ny.below H2.D) HY.o HR.B.lx HR.B.ly) ?_;rintro r w3 ⟨v5,v6,rfl,hn5,hn6,hb3⟩;obtain ⟨b5,a5,c5,rfl,hn5⟩:=QK hn5;obtain ⟨b6,a6,c6,rfl,hn6⟩:=QK hn6;have hx5:=Qh (w:=w3) #[.bool b5,.slice a5 (wd (x / y)).length c5] 27;obtain ⟨W5,hW5⟩:∃ W,w3.alloc (.cells #[.bool b5,.slice a5 (wd (x / y)).length c5] 27)=W:=⟨_,rfl⟩
   rw[hW5] at hx5;have hx6:=Qh (w:=W5) #[.bool b6,.slice a6 (wd (x % y)).length c6] 27;obtain ⟨W6,hW6⟩:∃ W,W5.alloc (.cells #[.bool b6,.slice a6 (wd (x % y)).length c6] 27)=W:=⟨_,rfl⟩
   rw[hW6] at hx6;have HW5:=hd_ hW5;have HW6:=hd_ hW6;have hs5:W5.heap.size=w3.heap.size+1:=(by rw[<-hW5, <-Q5]);have h36:Below w3.heap.size w3 W6:=hx5.2.trans (hx6.2.mono hx5.2.size);have h26:Below w2.heap.size w2 W6:=hb3.trans (h36.mono hb3.size);have hX6:=Q7 H2.a h26;have hY6:=Q7 H2.b h26;have hZ6:=Q7 H2.c h26;have hwW6:Below w.heap.size w W6:=HR.B.below.trans ((H2.D.trans (h26.mono H2.D.size)).mono HR.B.below.size);have hlt6:=Q4 H2.c;have hge:=hb3.size;have hx6r:W6.heap[w3.heap.size+1]? =some (.cells #[.bool b6,.slice a6 (wd (x % y)).length c6] 27 (0,0)):=(by rw[<-hs5];exact hx6.1);have H6:=h8_ hX6 hY6 hZ6 hx6r hwW6 ((HR.B.ny.below H2.D).below h26) ((hn6.below hx5.2).below hx6.2) (show w.heap.size+1+1 < w3.heap.size by omega);have y0':=Q3 hY6 0 rfl;have y1':=Q3 hY6 1 rfl;have r0':=Q3 hx6r 0 rfl;have r1':=Q3 hx6r 1 rfl;have mkS:∀ W:World,(W.heap[w.heap.size+1]? =W6.heap[w.heap.size+1]? /\W.heap[w3.heap.size+1]? =W6.heap[w3.heap.size+1]?)->W.cell? ⟨w.heap.size+1,0,none⟩=some (.bool yb)/\W.cell? ⟨w.heap.size+1,1,none⟩=some (.slice ya (wd y).length yc)/\W.cell? ⟨w3.heap.size+1,0,none⟩=some (.bool b6)/\W.cell? ⟨w3.heap.size+1,1,none⟩=some (.slice a6 (wd (x % y)).length c6):=fun W hb=> ⟨(Yx hb.1).trans y0',(Yx hb.1).trans y1',(Yx hb.2).trans r0',(Yx hb.2).trans r1'⟩;have HS:=hd_ mkS;clear hn5 hn6 hb3 hx5 hx6 hW5 hW6 hs5 h36 h26 hX6 hY6 hZ6 hwW6 hlt6 hge hx6r y0' y1' r0' r1' mkS x0 x1 y0 y1;dsimp only;go_wp2_with (first | (refine Qa rfl 27 _ _ rfl 27 #[.bool false,.slice none 0 0] #[.bool b5,.slice a5 (wd (x / y)).length c5] rfl rfl rfl Qq (by simp[Value.oneCell']) ?_;rw[HW5.o]) | (refine Qa rfl 27 _ _ rfl 27 #[.bool false,.slice none 0 0] #[.bool b6,.slice a6 (wd (x % y)).length c6] rfl rfl rfl Qq (by simp[Value.oneCell']) ?_;rw[HW6.o]) | (refine Qc rfl 27 _ _ rfl 27 w3.heap.size #[.bool false,.slice none 0 0] #[.bool b5,.slice a5 (wd (x / y)).length c5] rfl (by assumption) rfl rfl Qq (by simp[Value.oneCell']) ?_));rw[HW5.o,HW6.o];refine rq_ (s:=HS) (p:=⟨rfl,rfl⟩) (h:=fun hHeld=> ?_);simp only[lA_];refine tk_ 0 rfl ?_;(try simp only[Act.put,gP_]);refine wpAnyH_ready (rs:= [1,2]) (by kernel_rfl) (by simp) ?_;refine AllReadyH.cons rfl (fun KK hKK=> ?_) (AllReadyH.cons rfl (fun KK hKK=> ?_) AllReadyH.nil);obtain ⟨k0,k1,k2,k3⟩:=hHeld;simp only[gA_];go_simp;refine hKK.out _ _ ⟨k0,k1,k2,k3⟩ (fun _=> ?_);clear hKK KK k0 k1 k2 k3;(try simp only[Act.put,sA_]);refine rd_ 2 rfl (fun KK hKK=> ?_);simp only[gA_];refine Qs _ _ _ rfl 27 w.heap.size #[.bool xb,.slice xa (wd x).length xc] #[.bool yb,.slice ya (wd y).length yc] rfl (show W6.drew.heap[w.heap.size]? =some (.cells #[.bool xb,.slice xa (wd x).length xc] 27 (0,0)) from H6.a) rfl rfl Qq (by simp[Value.oneCell']) ?_;refine hKK.out _ _ (HS.o _ ⟨by rw[Q8 (by omega)];rfl,by rw[Q8 (by have:=H6.H;omega)];rfl⟩) (fun hHeld=> ?_);clear hKK KK;(try simp only[Act.put,sA_]);rotate_left;simp only[gA_];refine Qs _ _ _ rfl 27 w.heap.size #[.bool xb,.slice xa (wd x).length xc] #[.bool yb,.slice ya (wd y).length yc] rfl (show W6.drew.heap[w.heap.size]? =some (.cells #[.bool xb,.slice xa (wd x).length xc] 27 (0,0)) from H6.a) rfl rfl Qq (by simp[Value.oneCell']) ?_;refine hKK.out _ _ (HS.o _ ⟨by rw[Q8 (by omega)];rfl,by rw[Q8 (by have:=H6.H;omega)];rfl⟩) (fun hHeld2=> ?_);clear hKK KK;(try simp only[Act.put,sA_]);obtain ⟨k0,k1,k2,k3⟩:=hHeld2;refine rd_ 1 rfl (fun KK hKK=> ?_);simp only[gA_];go_simp;refine hKK.out _ _ (⟨k0,k1,k2,k3⟩) (fun hHeld=> ?_);clear hKK KK;(try simp only[Act.put,sA_]);clear k0 k1 k2 k3
   all_goals (
    have h3:(W6.drew.setRow w.heap.size #[.bool yb,.slice ya (wd y).length yc]).heap[w.heap.size+1]? =some (.cells #[.bool yb,.slice ya (wd y).length yc] 27 (0,0)):=(by rw[Q8 (by omega)];exact H6.b);refine wpAnyH_done (by kernel_rfl) ?_ _;unfold PeelQ;dsimp only;refine Qs _ _ _ rfl 27 (w.heap.size+1) #[.bool yb,.slice ya (wd y).length yc] #[.bool b6,.slice a6 (wd (x % y)).length c6] rfl h3 rfl rfl Qq (by simp[Value.oneCell']) ?_;have hf:FrT [27] W6.drew ((W6.drew.setRow w.heap.size #[.bool yb,.slice ya (wd y).length yc]).setRow (w.heap.size+1) #[.bool b6,.slice a6 (wd (x % y)).length c6]):=(Qe (show W6.drew.heap[w.heap.size]? =some (.cells #[.bool xb,.slice xa (wd x).length xc] 27 (0,0)) from H6.a)).trans (Qe h3);have hI:GcI w G y (x % y) #[.bool yb,.slice ya (wd y).length yc] #[.bool b6,.slice a6 (wd (x % y)).length c6] ((W6.drew.setRow w.heap.size #[.bool yb,.slice ya (wd y).length yc]).setRow (w.heap.size+1) #[.bool b6,.slice a6 (wd (x % y)).length c6]):=⟨by rw[Q8 (by omega)];exact Qb (show W6.drew.heap[w.heap.size]? =some (.cells #[.bool xb,.slice xa (wd x).length xc] 27 (0,0)) from H6.a),Qb h3,by rw[Q8 (by omega),Q8 (by omega)];exact H6.c,(H6.f.below (eB_ _ _).drew).frt hf (by decide),(H6.g.below (eB_ _ _).drew).frt hf (by decide),by rw[Q2N];exact HR.B.g,HR.B.ly,eE_ (Q2M (Nat.le_of_lt (UC x HY.o))) HR.B.ly,Q9 (Q9 H6.e.drew (rl_ _) _) (Nat.le_succ _) _⟩
    have HI:=hd_ hI;clear hI hf h3;go_simp;go_wp2_with fail;go_roundg (x % y).natAbs
    case measure=> have:=HR.a;have:=UC x HY.o;omega
    case rel=> exact ⟨y,x % y,_,_,_,_,_,_,rfl,HI.o⟩)
end Go.Proofs.YtiecccakcenobaaGreatDoor
