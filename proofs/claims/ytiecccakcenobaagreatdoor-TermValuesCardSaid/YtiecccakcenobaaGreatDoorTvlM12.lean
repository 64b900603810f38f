/- TermValues: plain: t -/
import Derived.Test.YtiecccakcenobaaGreatDoorTvlM11
set_option linter.all false
set_option maxRecDepth 100000
set_option maxHeartbeats 64000000
namespace Go.Proofs.YtiecccakcenobaaGreatDoor
open Go.Proofs.Tryz
open Go.RowKit
variable {held:Bool} {acc n sg z:Int} {K M N b g i:Nat} {P:Nat→Prop} {m ml:Tp.L} {t:Tp.T} {s v:Value} {W8 w wq:World}
theorem Q12 {a p:Int} (ha:Bd (N+i) a) (hp:Bd N p):Bd (N+(i+1)) (a+p):=by
 unfold Bd at ha hp ⊢;have h1:10 ^ N≤10 ^ (N+i):=Nat.pow_le_pow_right (by decide) (by omega);rw[←Nat.add_assoc,Nat.pow_succ];omega
theorem Q6Q {fn:Func} {cs:Array Value} {tmps:Array Value} {p u:Tmp} (h:fn.results= #[.cell p 27,.tmp u]) (hp:tmps.getD p undef= .pointer (some ⟨g,0,none⟩)) (hg:w.heap[g]? =some (.cells cs 27 (0,0))) (hs:cs.size=2) {x:Value} (hx:tmps.getD u undef=x):
  (results fn tmps).run prog w= .ok (.tuple #[.agg cs,x]) w:=
 QZ h _ _ g _ _ _ _ hp hg underlying27 rfl (by rw[hs];exact QX) hx
def EvOut (o:Option Int) (w:World) (r:Ending) (w':World):Prop:=∃ v,r= .returned (.tuple #[v,.int .i64 (if o.isSome then 0 else 31)])∧Num w' v (o.getD 0)∧Below w.heap.size w w'
structure EvI (w w1:World) (t:Tp.T) (ml:Tp.L) (N:Nat) (i:Nat) (acc:Int) (b:Bool) (s:Value) (wr:World):Prop where
 row:wr.heap[w.heap.size+2]? =some (.cells #[.bool b,s] 27 (0,0))
 num:Num wr (.agg #[.bool b,s]) acc
 ev:Tp.evG ml (t.l.drop i) acc=Tp.ev ml t
 bd:Bd (N+i) acc
 frt:FrT [27] w1 wr
 res:wr.heap[w.heap.size+1]? =some (.cells #[.bool false,.slice none 0 0] 27 (0,0))
 below:Below w.heap.size w wr
 size:w1.heap.size≤wr.heap.size
theorem XD (h:Num w v z):∃ b a c,v= .agg #[.bool b,.slice a (wd z).length c]∧Num w (.agg #[.bool b,.slice a (wd z).length c]) z:=by
 obtain ⟨s,rfl,h⟩:=h;obtain ⟨a,c,rfl⟩:=RdS.form h;exact ⟨_,a,c,rfl,⟨_,rfl,h⟩⟩
theorem YR {vt:Value} {m:Nat} (ht:Tm w vt t) (hm:MapR w m ml) (hr:Tp.Rise ml) (hml:ml.length≤1073741824) {K M:Nat} (st:Sm K t) (sm:∀ x,Bd M (Tp.look ml x)) (hK:K+M+K≤1000000):
  Calls prog 23 #[vt,.pointer (some ⟨m,0,none⟩)] w (EvOut (Tp.ev ml t) w):=by
 obtain ⟨bt,at_,ct,pt,rfl,ht⟩:=Ql ht;have hlen:(t.l.length:Int)≤1000000:=by have:=st.len;omega
 have hbx:=box3 w #[.bool bt,.slice at_ (wd t.rest).length ct,.pointer pt] 38 #[.bool false,.slice none 0 0] 27 #[.bool bt,.slice at_ (wd t.rest).length ct] 27;obtain ⟨V,hV⟩:∃ V,((w.alloc (.cells #[.bool bt,.slice at_ (wd t.rest).length ct,.pointer pt] 38)).alloc (.cells #[.bool false,.slice none 0 0] 27)).alloc (.cells #[.bool bt,.slice at_ (wd t.rest).length ct] 27)=V:=⟨_,rfl⟩
 rw[hV] at hbx;have HV:=hd_ hV;have HH:=h7_ ht hm hr hml st sm hK;have hnt:Num V (.agg #[.bool bt,.slice at_ (wd t.rest).length ct]) t.rest:=Tm.num (ht.below hbx.2.2.2);have HB:=h2_ hbx hnt;have a0:=Q3 hbx.1 0 rfl;have a1:=Q3 hbx.1 1 rfl;have a2:=Q3 hbx.1 2 rfl;clear ht hm hr hml st sm hK hbx hV hnt;go_in;go_wp2_with (refine Q8 rfl 27 _ _ rfl 27 #[.bool false,.slice none 0 0] #[.bool bt,.slice at_ (wd t.rest).length ct] rfl rfl rfl QX (by simp[Value.oneCell']) ?_);rw[HV.o];refine (XR (HH.a.below HB.a.2.2.2) (by omega)).mono ?_;rintro e w1 ⟨pv,ss,rfl,hw,ho,hb⟩;obtain ⟨ap,cp,rfl⟩:=Qi ho;have hrp:RdP w1 (.slice ap t.l.length cp) t.l:=⟨ss,hw,RdB.own ho⟩
 have h1:Below w.heap.size w w1:=HB.a.2.2.2.trans (hb.mono HB.a.2.2.2.size);have HP:=h5_ hrp h1 (Q7 HB.a.2.1 hb) (Q7 HB.a.2.2.1 hb) (HB.B.below hb);clear hrp h1 hb hw ho a0 a1 a2;obtain ⟨N,hN⟩:∃ N,K+M=N:=⟨_,rfl⟩
 have HNN:=hd_ hN;clear hN;dsimp only;go_wp2_with fail;go_loopg [16] t.l.length (fun gk v16 wr=> ∃ (i:Nat) (acc:Int) (b:Bool) (a':Option Addr) (c':Nat),v16= .int .i64 (i:Int)∧gk=t.l.length - i∧i≤t.l.length∧EvI w w1 t ml N i acc b (.slice a' (wd acc).length c') wr)
 case atStart=> exact ⟨0,t.rest,bt,at_,ct,rfl,rfl,eV_ _,HP.d,HP.E,rfl,HH.e.rest.mono (by have:=HNN.o;omega),FrT.of (eB_ _ _),HP.c,HP.b,rl_ _⟩
 case round=>
  obtain ⟨i,acc,b,ac,cc,rfl,hgk,hi,hI⟩:=hrel;have HR:=h2_ hgk hI;have g0:=Q3 hI.row 0 rfl;have g1:=Q3 hI.row 1 rfl;clear hgk;by_cases hlt:i < t.l.length
  ·have hlt':(i:Int) < (t.l.length:Int):=(by omega);obtain ⟨p,hp⟩:∃ p,t.l[i]? =some p:=⟨_,eA_ hlt⟩
   have hrow:RdP wr (.slice ap t.l.length cp) t.l:=by
    obtain ⟨ss,q1,q2⟩:=HP.a;exact ⟨ss,q1.keep fun s ws h=> RdB.frt h hI.frt (by decide),q2.frt hI.frt (by decide)⟩
   obtain ⟨bp,off,s,ea,c0,c1,c2,hs⟩:=hrow.at hp;obtain rfl:=ea;obtain ⟨aw,cw,rfl,_⟩:=hs.form;obtain ⟨np,hnp⟩:∃ b,decide (p.2 < 0)=b:=⟨_,rfl⟩
   have hnum:Num wr (.agg #[.bool np,.slice aw (wd p.2).length cw]) p.2:=⟨_,by rw[hnp],hs⟩
   rw[hnp] at c1;have hev:=hI.ev;rw[List.drop_eq_getElem_cons hlt,(List.getElem?_eq_some_iff.1 hp).2,Tp.evG] at hev;have hx1:=Qh (w:=wr) #[.string ⟨p.1.toArray⟩,.bool np,.slice aw (wd p.2).length cw] 112;obtain ⟨W5,hW5⟩:∃ W,wr.alloc (.cells #[.string ⟨p.1.toArray⟩,.bool np,.slice aw (wd p.2).length cw] 112)=W:=⟨_,rfl⟩
   rw[hW5] at hx1;have HQ:=h6_ hp (hnum.below hx1.2) hev hx1.2 hx1.1 hW5;have d0:=Q3 hx1.1 0 rfl;clear hp hs hrow hnp hnum hev hI hx1 hW5 g0 g1;go_wp2_with fail;rw[HQ.F];have hm5:MapR W5 m ml:=HH.b.below (HR.B.below.trans (HQ.d.mono HR.B.below.size));refine eH_ (Z5 hm5 HH.c HH.d p.1) ?_;rintro r w6 ⟨vv,rfl,hv,hb6⟩;obtain ⟨bv,av,cv,rfl,hv⟩:=XD hv;obtain ⟨hh,hhh⟩:∃ b,Tp.has ml p.1=b:=⟨_,rfl⟩
   rw[hhh];have hx6:=Qh (w:=w6) #[.bool bv,.slice av (wd (Tp.look ml p.1)).length cv] 27;obtain ⟨W6,hW6⟩:∃ W,w6.alloc (.cells #[.bool bv,.slice av (wd (Tp.look ml p.1)).length cv] 27)=W:=⟨_,rfl⟩
   rw[hW6] at hx6;have hb56:Below W5.heap.size W5 W6:=hb6.trans (hx6.2.mono hb6.size);have hbr6:Below wr.heap.size wr W6:=HQ.d.trans (hb56.mono HQ.d.size);have k0:=Q3 hx6.1 0 rfl;have k1:=Q3 hx6.1 1 rfl;have hg6:=Q7 HR.B.row hbr6;have k2:=Q3 hg6 0 rfl;have k3:=Q3 hg6 1 rfl;have hp6:=Q7 HQ.e hb56;have k4:=Q3 hp6 1 rfl;have k5:=Q3 hp6 2 rfl;have mkS:∀ W:World,Below W6.heap.size W6 W→W.cell? ⟨w6.heap.size,0,none⟩=some (.bool bv)∧W.cell? ⟨w6.heap.size,1,none⟩=some (.slice av (wd (Tp.look ml p.1)).length cv)∧W.cell? ⟨w.heap.size+2,0,none⟩=some (.bool b)∧W.cell? ⟨w.heap.size+2,1,none⟩=some (.slice ac (wd acc).length cc)∧W.cell? ⟨wr.heap.size,1,none⟩=some (.bool np)∧W.cell? ⟨wr.heap.size,2,none⟩=some (.slice aw (wd p.2).length cw):=fun W hb=> ⟨(hb.cell (Q9 k0)).trans k0,(hb.cell (Q9 k1)).trans k1,(hb.cell (Q9 k2)).trans k2,(hb.cell (Q9 k3)).trans k3,(hb.cell (Q9 k4)).trans k4,(hb.cell (Q9 k5)).trans k5⟩;have HS:=hd_ mkS;have H6:=h8_ (hv.below hx6.2) hbr6 (HQ.b.below hb56) (HR.B.num.below hbr6) (Q7 HR.B.res hbr6) hg6 hhh hW6;clear hv hb6 hhh hx6 hW6 hb56 hbr6 hg6 hp6 mkS hm5 d0 k0 k1 k2 k3 k4 k5;dsimp only;cases hh with
   | false=>
    have HE:=hd_ (show Tp.ev ml t=none from by rw[←HQ.c,if_neg (by rw[H6.g];decide)]);have hw6:Below w.heap.size w W6:=HR.B.below.trans (H6.b.mono HR.B.below.size);have HW6:=hd_ hw6;clear hw6;go_wp2_with (first | (refine Q8 rfl 27 _ _ rfl 27 #[.bool false,.slice none 0 0] #[.bool bv,.slice av (wd (Tp.look ml p.1)).length cv] rfl rfl rfl QX (by simp[Value.oneCell']) ?_;rw[H6.H]) | (refine Qf rfl 27 _ _ rfl 27 (w.heap.size+1) #[.bool false,.slice none 0 0] #[.bool false,.slice none 0 0] rfl H6.e rfl rfl QX (by simp[Value.oneCell']) ?_));refine eG_ (Q6Q rfl rfl (Qc H6.e) rfl rfl) rfl ?_;exact ⟨_,by rw[HE.o];rfl,by rw[HE.o];exact Num.zero _,Qd HW6.o (Nat.le_succ _) _⟩
   | true=>
    have hev2:Tp.evG ml (t.l.drop (i+1)) (acc+Tp.look ml p.1*p.2)=Tp.ev ml t:=(by rw[←HQ.c,if_pos (by rw[H6.g])]);have HE:=hd_ hev2;clear hev2;go_wp2_with (refine Q8 rfl 27 _ _ rfl 27 #[.bool false,.slice none 0 0] #[.bool bv,.slice av (wd (Tp.look ml p.1)).length cv] rfl rfl rfl QX (by simp[Value.oneCell']) ?_);rw[H6.H];refine QM (S:=(fun w'=> w'.cell? ⟨w6.heap.size,0,none⟩=some (.bool bv)∧w'.cell? ⟨w6.heap.size,1,none⟩=some (.slice av (wd (Tp.look ml p.1)).length cv)∧w'.cell? ⟨w.heap.size+2,0,none⟩=some (.bool b)∧w'.cell? ⟨w.heap.size+2,1,none⟩=some (.slice ac (wd acc).length cc)∧w'.cell? ⟨wr.heap.size,1,none⟩=some (.bool np)∧w'.cell? ⟨wr.heap.size,2,none⟩=some (.slice aw (wd p.2).length cw))) (by simp) (by kernel_rfl) (by kernel_rfl) (HS.o _ ((eB_ _ _).drew)) (fun hHeld=> ?_);simp only[lA_];refine tk_ 0 rfl ?_;(try simp only[Act.put,gP_]);refine tk_ 1 rfl ?_;(try simp only[Act.put,gP_]);refine tk_ 2 rfl ?_;(try simp only[Act.put,gP_]);refine tk_ 3 rfl ?_;(try simp only[Act.put,gP_]);refine rd_ 4 rfl (fun KK hKK=> ?_);simp only[gA_];go_simp;have hbD:=(eB_ W6.heap.size W6).drew;have bx:Bd N (Tp.look ml p.1):=(HH.f p.1).mono (by have:=HNN.o;omega);have by_:Bd N p.2:=(HH.e.l p (eP_ HQ.a)).mono (by have:=HNN.o;omega);refine eH_ (Yb (H6.a.below hbD) (H6.c.below hbD) bx by_ (by have:=HNN.o;have:=HH.G;omega)) ?_;rintro r w7 ⟨v7,rfl,hn7,hc7⟩;obtain ⟨b7,a7,c7,rfl,hn7⟩:=XD hn7;have hb7:=hbD.trans (hc7.mono hbD.size);clear hc7 hbD bx by_;dsimp only;refine hKK.out _ _ (HS.o _ hb7) (fun hHeld=> ?_);clear hKK KK;(try simp only[Act.put,sA_]);have hx8:=Qh (w:=w7) #[.bool b7,.slice a7 (wd (Tp.look ml p.1*p.2)).length c7] 27;have hb8:=hb7.trans (hx8.2.mono hb7.size);refine rd_ 5 rfl (fun KK hKK=> ?_);simp only[gA_];go_simp;refine hKK.out _ _ (HS.o _ hb8) (fun hHeld=> ?_);clear hKK KK;(try simp only[Act.put,sA_]);refine rd_ 6 rfl (fun KK hKK=> ?_);simp only[gA_];go_simp;have bx:Bd (N+i) acc:=HR.B.bd;have by_:Bd N (Tp.look ml p.1*p.2):=(by rw[←HNN.o,Nat.add_comm];exact Bd.mul (HH.f p.1) (HH.e.l p (eP_ HQ.a)) (rl_ _));have hKK2:N+i≤1000000:=(by have:=HNN.o;have:=HH.G;have:=HH.e.len;omega);refine eH_ (Xg (H6.d.below hb8) hx8.1 (hn7.below hx8.2) bx (by_.mono (Nat.le_add_right _ _)) hKK2) ?_;rintro r w9 ⟨v9,rfl,hn9,hc9⟩;obtain ⟨b9,a9,c9,rfl,hn9⟩:=XD hn9;have hb9:=hb8.trans (hc9.mono hb8.size);have hbd:=Q12 bx by_;clear hc9 by_ bx hKK2 hx8 hn7;dsimp only;refine hKK.out _ _ (HS.o _ hb9) (fun hHeld=> ?_);clear hKK KK;(try simp only[Act.put,sA_]);have hrow9:=Q7 H6.f hb9;have hres9:=Q7 H6.e hb9;have hbr9:Below wr.heap.size wr w9:=H6.b.trans (hb9.mono H6.b.size);refine wpAnyH_done (by kernel_rfl) ?_ _;unfold PeelQ;dsimp only;refine Xc _ _ _ rfl 27 (w.heap.size+2) #[.bool b,.slice ac (wd acc).length cc] #[.bool b9,.slice a9 (wd (acc+Tp.look ml p.1*p.2)).length c9] rfl hrow9 rfl rfl QX (by simp[Value.oneCell']) ?_;have hI2:EvI w w1 t ml N (i+1) (acc+Tp.look ml p.1*p.2) b9 (.slice a9 (wd (acc+Tp.look ml p.1*p.2)).length c9) (w9.setRow (w.heap.size+2) #[.bool b9,.slice a9 (wd (acc+Tp.look ml p.1*p.2)).length c9]):=⟨Qc hrow9,hn9.frt (Qg hrow9) (by decide),HE.o,hbd,(HR.B.frt.trans (FrT.of hbr9)).trans (Qg hrow9),by rw[Qa (by omega)];exact hres9,Qd (HR.B.below.trans (hbr9.mono HR.B.below.size)) (by omega) _,by rw[QD];exact eE_ HR.B.size hbr9.size⟩
    have HI:=hd_ hI2;clear hI2 hrow9 hres9 hbr9 hbd hn9 hb9 hb8 hb7;go_simp;go_wp2_with fail;go_roundg (t.l.length - (i+1))
    case measure=> have:=HR.a;omega
    case rel=> exact ⟨i+1,_,_,_,_,by go_num,rfl,by omega,HI.o⟩
  ·obtain rfl:t.l.length=i:=(by omega);have hev:=hI.ev;rw[List.drop_length,Tp.evG] at hev;have HE:=hd_ hev;have HRES:=hd_ hI.res;have hb9:=Qd hI.below (Nat.le_succ w.heap.size) #[.bool b,.slice ac (wd acc).length cc];have HB9:=h2_ hb9 (hI.num.frt (Qg (vs:= #[.bool b,.slice ac (wd acc).length cc]) hI.res) (by decide));clear hlt hI hev hb9;go_wp2_with (refine Qf rfl 27 _ _ rfl 27 (w.heap.size+1) #[.bool false,.slice none 0 0] #[.bool b,.slice ac (wd acc).length cc] rfl HRES.o rfl rfl QX (by simp[Value.oneCell']) ?_);refine eG_ (Q6Q rfl rfl (Qc HRES.o) rfl rfl) rfl ?_;exact ⟨_,by rw[←HE.o];rfl,by rw[←HE.o];exact HB9.B,HB9.a⟩
theorem Ur {w:World} {b K:Nat}:∀ (css:List (List Value)) {off i:Nat} {c:List Value},(∀ c∈css,c.length=K)→w.rangeAt b off css.flatten→css[i]? =some c→w.rangeAt b (off+i*K) c
 | [],off,i,c,_,_,hi=> by simp at hi
 | c0::css,off,0,c,hc,h,hi=> by
  simp only[eZ_,Option.some.injEq] at hi;subst hi;intro j v hj;have:=h j v (by rw[List.flatten_cons,eT_ (List.getElem?_eq_some_iff.1 hj).1];exact hj);simpa using this
 | c0::css,off,i+1,c,hc,h,hi=> by
  have h8:=hc c0 (eX_ ..);have h2:w.rangeAt b (off+K) css.flatten:=by
   intro j v hj;have:=h (K+j) v (by rw[List.flatten_cons,eO_ (by omega),h8,Nat.add_sub_cancel_left];exact hj);rw[←Nat.add_assoc] at this;exact this
  have:=Ur css (off:=off+K) (fun c hc'=> hc c (eR_ _ hc')) h2 (by simpa using hi);rw[show off+(i+1)*K=off+K+i*K from by rw[Nat.add_mul];omega];exact this
theorem Q6R {α:Type} {f:α→List Value} (hf:∀ x,(f x).length=K) {l:List α} {a:Option Addr} {n c:Nat} (h:RdS w P K (.slice a n c) l.length (l.flatMap f)) {i:Nat} {x:α} (hi:l[i]? =some x):
  ∃ b off,a=some ⟨b,off,none⟩∧w.rangeAt b (off+i*K) (f x):=by
 obtain ⟨_,a',c',e,_,h4⟩:=h;injection e with e1 e2 e3;subst e1;have hlt:=(List.getElem?_eq_some_iff.1 hi).1;rcases h4 with ⟨_,h4⟩ | ⟨b,off,rfl,h5,h6⟩
 ·omega
 ·refine ⟨b,off,rfl,Ur (l.map f) (fun c hc=> ?_) (by rw[←List.flatMap_def];exact h6) (by rw[List.getElem?_map,hi];rfl)⟩;obtain ⟨y,_,rfl⟩:=List.mem_map.1 hc;exact hf y
theorem Fits.nm {ps:List (Tp.Nm × Int)} (h:Fits n ps):NmB 40 (Tp.sum ⟨[],n⟩ ps).l:=Q6J ps (fun p hp=> (h.2.2.2 p hp).1) fun p hp=> by cases hp
namespace Tp
def vmapF (l:L) (m:L):L:=l.foldl (fun m p=> ins m p.1 p.2) m
def vmap (l:L):L:=vmapF l []
theorem Q3O (l:L) (p:Nm × Int) (m:L):vmapF (l++ [p]) m=ins (vmapF l m) p.1 p.2:=by
 unfold vmapF;rw[List.foldl_append];rfl
theorem Q5g {l:L} {p:Nm × Int} (h:l[i]? =some p):vmap (l.take (i+1))=ins (vmap (l.take i)) p.1 p.2:=by
 rw[List.take_add_one,h];exact Q3O _ p []
theorem DZ:∀ (l:L) {m:L},Rise m→Rise (vmapF l m)
 | [],_,h=> h
 | p::l,_,h=> DZ l (GO h p.1 p.2)
theorem Q05 (l:L):Rise (vmap l):=DZ l Rise.nil
theorem Q06:∀ (l m:L),(vmapF l m).length≤l.length+m.length
 | [],m=> by simp[vmapF]
 | p::l,m=> by
  have h1:vmapF (p::l) m=vmapF l (ins m p.1 p.2):=rfl;have h2:=Q06 l (ins m p.1 p.2);have h3:=Q0s m p.1 p.2;rw[h1,eL_];omega
theorem Q2u (l:L):(vmap l).length≤l.length:=Q06 l []
theorem Q2v {K:Nat}:∀ (l:L) {m:L},(∀ p∈l,Bd K p.2)→(∀ x,Bd K (look m x))→∀ x,Bd K (look (vmapF l m) x)
 | [],_,_,h=> h
 | p::l,m,hl,h=> Q2v l (m:=ins m p.1 p.2) (fun q hq=> hl q (eR_ _ hq)) fun x=> by
  rw[JL];split
  ·exact hl p eX_
  ·exact h x
theorem Q7J {l:L} (h:∀ p∈l,Bd K p.2) (x:Nm):Bd K (look (vmap l) x):=Q2v l h (fun y=> by rw[JK];exact Bd.zero K) x
end Tp
theorem Q6S {m:Tp.L} {M K N:Nat} (hm:∀ x,Bd M (Tp.look m x)) (hN:M+K≤N):∀ (l:Tp.L) (i:Nat) (a:Int) {r:Int},(∀ p∈l,Bd K p.2)→Bd (N+i) a→Tp.evG m l a=some r→Bd (N+(i+l.length)) r
 | [],i,a,r,_,ha,h=> by
  rw[Tp.evG] at h;injection h with h;subst h;exact ha.mono (by simp)
 | p::l,i,a,r,hp,ha,h=> by
  rw[Tp.evG] at h;split at h
  ·have h1:Bd N (Tp.look m p.1*p.2):=Bd.mul (hm p.1) (hp p eX_) hN;have h2:=Q6S hm hN l (i+1) _ (fun q hq=> hp q (eR_ _ hq)) (Q12 ha h1) h;exact h2.mono (by simp only[eL_];omega)
  ·cases h
theorem Q7L (hm:∀ x,Bd M (Tp.look m x)) {t:Tp.T} (st:Sm K t) {r:Int} (h:Tp.ev m t=some r):Bd (M+K+K) r:=
 (Q6S hm (rl_ _) t.l 0 t.rest st.l (st.rest.mono (by omega)) h).mono (by have:=st.len;omega)
theorem Q7Z (hm:∀ x,Bd M (Tp.look m x)) {k:Int} (hk:Bd M k) (s x:Tp.Nm):Bd M (Tp.look (Tp.ins m s k) x):=by
 rw[Tp.JL];split
 ·exact hk
 ·exact hm x
theorem Q07 (h:Zn w v z):∃ g a c,v= .agg #[.int .i64 g,.slice a (dg z).length c]∧Zn w (.agg #[.int .i64 g,.slice a (dg z).length c]) z:=by
 obtain ⟨a,c,rfl,h1⟩:=h.form;exact ⟨_,a,c,rfl,⟨_,rfl,h1⟩⟩
structure WtI (W8:World) (g:Nat) (t:Tp.T) (ml:Tp.L) (i:Nat) (acc:Int) (b:Bool) (sg:Int) (s:Value) (wq:World):Prop where
 row:wq.heap[g]? =some (.cells #[.int .i64 sg,s] 48 (0,0))
 num:Zn wq (.agg #[.int .i64 sg,s]) acc
 want:Tp.want ml (t.l.drop i) (acc,b)=Tp.want ml t.l (t.rest,true)
 bd:Bd (1013+i) acc
 below:Below g W8 wq
 size:W8.heap.size≤wq.heap.size
theorem WtI.step {b:Bool} (h:WtI W8 g t ml i acc b sg s wq) {p:Tp.Nm × Int} (hp:t.l[i]? =some p) (st:Sm 1000 t) (sm:∀ x,Bd 13 (Tp.look ml x)) {W:World} (hb:Below wq.heap.size wq W) (sg2:Int) (s2:Value) (hz:Zn W (.agg #[.int .i64 sg2,s2]) (acc+p.2*Tp.look ml p.1)):
  WtI W8 g t ml (i+1) (acc+p.2*Tp.look ml p.1) (b && Tp.has ml p.1) sg2 s2 (W.setRow g #[.int .i64 sg2,s2]):=by
 have hr:=Q7 h.row hb;have hlt:i < t.l.length:=(List.getElem?_eq_some_iff.1 hp).1;have hw:=h.want;rw[List.drop_eq_getElem_cons hlt,(List.getElem?_eq_some_iff.1 hp).2,Tp.want] at hw;have hbg:Below g W8 W:=h.below.trans (hb.mono (Nat.le_of_lt (Q4 h.row)));exact ⟨Qc hr,hz.frt (Qg hr) (by decide),hw,Q12 h.bd (Bd.mul (st.l p (eP_ hp)) (sm p.1) (by omega)),Qd hbg (rl_ _) _,by rw[QD];exact eE_ h.size hb.size⟩
theorem Q6T {b:Bool} (h:WtI W8 g t ml t.l.length acc b sg s wq):Tp.ev ml t=if b then some acc else none:=by
 have hw:=h.want;rw[List.drop_length,Tp.want] at hw;rw[Tp.Q7I, ←hw]
theorem Q6U (h:Bd 13 z):(Zp.dec z.natAbs).length≤60:=by
 have h1:z.natAbs < 10 ^ 13:=h;have:=Q47 h1;omega
theorem Zb {W W':World} {o:Nat} (h:W.heap[b]? =W'.heap[b]?):W.cell? ⟨b,o,none⟩=W'.cell? ⟨b,o,none⟩:=by
 unfold World.cell?;rw[h]
namespace Zp
theorem Q2w {d:Nat} (h:d < 10):((48+d).toUInt8).toNat=48+d:=by
 show (48+d) % 256=48+d;omega
theorem Zw (n:Nat):(dec n).all isDig=true:=by
 unfold dec;split
 ·rfl
 ·rw[List.all_eq_true];intro c hc;obtain ⟨d,hd,rfl⟩:=List.mem_map.1 hc;have h1:d < 10:=QA (B:=10) (by decide) n d (List.mem_reverse.1 hd);unfold isDig;rw[Q2w h1];simp;omega
theorem GJ (n:Nat):num (dec n)=n:=by
 rw[ZI _ (Zw n)];unfold dec;split
 ·rename_i h;rw[h];rfl
 ·simp only[←List.map_reverse,List.reverse_reverse,List.map_map];have:(digs 10 n).map ((fun c:UInt8=> c.toNat - 48) ∘ fun d=> (48+d).toUInt8)=digs 10 n:=by
   conv=> rhs;rw[←List.map_id (digs 10 n)]
   refine List.map_congr_left fun d hd=> ?_;have h1:d < 10:=QA (B:=10) (by decide) n d hd;show ((48+d).toUInt8).toNat - 48=d;rw[Q2w h1];omega
  rw[this,Qx (by decide)]
theorem Q08 {n:Nat} (h:(dec n).head? =some 48):(dec n).length=1:=by
 by_cases hn:n=0
 ·subst hn;rfl
 ·obtain ⟨c,r,hcr,_⟩:=Q14 n;rw[hcr] at h;have hc:c=48:=by simpa using h
  subst hc;have hlen:(digs 10 n).length=r.length+1:=by
   have:=congrArg List.length hcr;unfold dec at this;rw[if_neg hn,List.length_map,List.length_reverse,eL_] at this;exact this
  have h1:=ZA (B:=10) (by decide) r.length n (by omega);have hd:=Zw n;rw[hcr] at hd;have h2:num (48::r)=n:=by rw[←hcr];exact GJ n
  have h3:num (48::r)=num r:=rfl;have h4:r.all isDig=true:=by
   rw[List.all_cons,Bool.and_eq_true] at hd;exact hd.2
  have h5:=Zz (B:=10) (by decide) (GD h4);rw[←ZI r h4,List.length_map,List.length_reverse] at h5;omega
theorem Q2x (hl:(dec z.natAbs).length≤60):(parse (text z)).1=z:=by
 obtain ⟨c,r,hcr,h1,h2⟩:=Q14 z.natAbs;have hm:minusOf (dec z.natAbs)=false:=by
  rw[hcr];unfold minusOf;simp;intro e;rw[e] at h1;exact absurd h1 (by decide)
 by_cases h0:z < 0
 ·have ht:text z=45::dec z.natAbs:=by unfold text;rw[if_pos h0]
  rw[ht];have hm2:minusOf (45::dec z.natAbs)=true:=rfl;have hr:restOf (45::dec z.natAbs)=dec z.natAbs:=by unfold restOf;rw[if_pos hm2];rfl
  unfold parse;rw[hr,if_neg (by omega),if_neg ?_,if_pos hm2]
  ·show -(num (dec z.natAbs):Int)=z;rw[GJ];omega
  ·rw[not_or,not_or];refine ⟨by rw[hcr];simp,by rw[Zw];simp,?_⟩;rintro ⟨e,-⟩;have hlen:=Q08 e;have hz:dec z.natAbs= [48]:=by
    rw[hcr] at e hlen ⊢;have hc:c=48:=(by simpa using e);have hrn:r= []:=(by simpa using hlen);rw[hc,hrn]
   have hn:=GJ z.natAbs;rw[hz] at hn;have:num [48]=0:=rfl;omega
 ·have ht:text z=dec z.natAbs:=by unfold text;rw[if_neg h0]
  rw[ht];have hr:restOf (dec z.natAbs)=dec z.natAbs:=by unfold restOf;rw[if_neg (by rw[hm];simp)]
  unfold parse;rw[hr,if_neg (by omega),if_neg ?_,if_neg (by rw[hm];simp)]
  ·show (num (dec z.natAbs):Int)=z;rw[GJ];omega
  ·rw[not_or,not_or];refine ⟨by rw[hcr];simp,by rw[Zw];simp,?_⟩;rintro ⟨e,h | h⟩
   ·rw[Q08 e] at h;omega
   ·rw[hm] at h;cases h
end Zp
theorem Q2y {Q:Nat→Prop} {vp vq:Value} {ps qs:List (Tp.Nm × Int)} {m:Int} (h:RdS w P 2 vp ps.length (ptCells ps)) (hP:∀ k,P k→k < w.heap.size) (hn1: -9223372036854775808≤n) (hn2:n≤9223372036854775807)
  (k:RdS w Q 2 vq qs.length (ptCells qs)) (hQ:∀ k,Q k→k < w.heap.size) (hm1: -9223372036854775808≤m) (hm2:m≤9223372036854775807) {R:Nat→Prop} {vv:Value} {vs:List (Tp.Nm × Int)} (hv:RdS w R 2 vv vs.length (ptCells vs)) (hR:∀ k,R k→k < w.heap.size) (s:List UInt8):
  Calls prog 5 #[.agg #[vp,.int .i64 n],.string ⟨s.toArray⟩,.agg #[vq,.int .i64 m],vv] w fun r w'=> r= .returned (.bool true)∧Below w.heap.size w w':=by
 obtain ⟨a,c,rfl⟩:=h.form;obtain ⟨a2,c2,rfl⟩:=k.form;obtain ⟨a3,c3,rfl⟩:=hv.form;have hbx:=box2 w #[.slice a ps.length c,.int .i64 n] 56 #[.slice a2 qs.length c2,.int .i64 m] 56;obtain ⟨V,hV⟩:∃ V,(w.alloc (.cells #[.slice a ps.length c,.int .i64 n] 56)).alloc (.cells #[.slice a2 qs.length c2,.int .i64 m] 56)=V:=⟨_,rfl⟩
 have HVV:=hd_ hV;rw[hV] at hbx;have HM:Hid (∀ W,Below V.heap.size V W→W.heap[w.heap.size]? =some (.cells #[.slice a ps.length c,.int .i64 n] 56 (0,0))∧W.heap[w.heap.size+1]? =some (.cells #[.slice a2 qs.length c2,.int .i64 m] 56 (0,0))∧Below w.heap.size w W):=fun W hb=> ⟨Q7 hbx.1 hb,Q7 hbx.2.1 hb,hbx.2.2.trans (hb.mono hbx.2.2.size)⟩;have HB1:Hid (∀ W,Below V.heap.size V W→Calls prog 14 #[.agg #[.slice a ps.length c,.int .i64 n]] W (BothOut ps n W)):=fun W hb=> DW (h.keep (Keeps.of (HM W hb).2.2 hP)) (fun k hk=> eI_ (hP k hk) (HM W hb).2.2.size) hn1 hn2;have HB2:Hid (∀ W,Below V.heap.size V W→Calls prog 14 #[.agg #[.slice a2 qs.length c2,.int .i64 m]] W (BothOut qs m W)):=fun W hb=> DW (k.keep (Keeps.of (HM W hb).2.2 hQ)) (fun k hk=> eI_ (hQ k hk) (HM W hb).2.2.size) hm1 hm2;have HVL:Hid (∀ W,Below V.heap.size V W→∀ (i:Nat) (p:Tp.Nm × Int),vs[i]? =some p→∃ b off,a3=some ⟨b,off,none⟩∧W.rangeAt b (off+i*2) [.string ⟨p.1.toArray⟩,.int .i64 p.2]):=fun W hb i p hi=> Q6R (f:=fun p:Tp.Nm × Int=> [.string ⟨p.1.toArray⟩,.int .i64 p.2]) (fun _=> rfl) (hv.keep (Keeps.of (HM W hb).2.2 hR)) hi;clear h hP hn1 hn2 k hQ hm1 hm2 hbx hV hv hR;go_in;go_wp2_with fail;rw[HVV.o];refine eH_ (Lh V) ?_;rintro r w1 ⟨rfl,hb1⟩;have HA:=hd_ hb1;have s0:=Q3 (HM.o _ hb1).1 0 rfl;have s1:=Q3 (HM.o _ hb1).1 1 rfl;clear hb1;dsimp only;go_wp2_with fail;refine eH_ (HB1.o w1 HA.o) ?_;rintro r w2 ⟨vt,vx,ok1,t,x,rfl,ht,hx,hb2,hok1⟩;obtain ⟨b1,x1,c1,o1,rfl,ht⟩:=Ql ht;obtain ⟨an,cn,af,cf,s6,ad,cd,rfl,hx⟩:=Xa hx;have hbx:=box2 w2 #[.bool b1,.slice x1 (wd t.rest).length c1,.pointer o1] 38 #[.slice an x.l.length cn,.slice af x.l.length cf,.int .i64 s6,.slice ad (dg x.rest).length cd] 50;obtain ⟨V2,hV2⟩:∃ V,(w2.alloc (.cells #[.bool b1,.slice x1 (wd t.rest).length c1,.pointer o1] 38)).alloc (.cells #[.slice an x.l.length cn,.slice af x.l.length cf,.int .i64 s6,.slice ad (dg x.rest).length cd] 50)=V:=⟨_,rfl⟩
 have HV2:=hd_ hV2;rw[hV2] at hbx;have hV3:Below V.heap.size V V2:=(HA.o.trans (hb2.mono HA.o.size)).trans (hbx.2.2.mono (eE_ HA.o.size hb2.size));have H2:=h6_ hbx.1 hbx.2.1 (ht.below hbx.2.2) (hx.below hbx.2.2) hV3 hok1;have u0:=Q3 (HM.o _ hV3).2.1 0 rfl;have u1:=Q3 (HM.o _ hV3).2.1 1 rfl;rw[←hV2] at u0 u1;clear s0 s1 ht hx hb2 hok1 hbx hV2 hV3;dsimp only;go_wp2_with (first | refine Q8 rfl 38 _ _ rfl 38 #[.bool false,.slice none 0 0,.pointer none] #[.bool b1,.slice x1 (wd t.rest).length c1,.pointer o1] rfl rfl rfl QF (by simp[Value.oneCell']) ?_ | refine Qf rfl 50 _ _ rfl 50 _ #[.slice none 0 0,.slice none 0 0,.int .i64 0,.slice none 0 0] #[.slice an x.l.length cn,.slice af x.l.length cf,.int .i64 s6,.slice ad (dg x.rest).length cd] rfl (eD_ _ _) rfl rfl QI (by simp[Value.oneCell']) ?_);rw[HV2.o];clear u0 u1;refine eH_ (HB2.o V2 H2.e) ?_;rintro r w3 ⟨vu,vy,ok2,u,y,rfl,hu,hy,hb3,hok2⟩;obtain ⟨b2,x2,c2',o2,rfl,hu⟩:=Ql hu;obtain ⟨an2,cn2,af2,cf2,s7,ad2,cd2,rfl,hy⟩:=Xa hy;have hbx:=box2 w3 #[.bool b2,.slice x2 (wd u.rest).length c2',.pointer o2] 38 #[.slice an2 y.l.length cn2,.slice af2 y.l.length cf2,.int .i64 s7,.slice ad2 (dg y.rest).length cd2] 50;obtain ⟨V4,hV4⟩:∃ V,(w3.alloc (.cells #[.bool b2,.slice x2 (wd u.rest).length c2',.pointer o2] 38)).alloc (.cells #[.slice an2 y.l.length cn2,.slice af2 y.l.length cf2,.int .i64 s7,.slice ad2 (dg y.rest).length cd2] 50)=V:=⟨_,rfl⟩
 have HV4:=hd_ hV4;rw[hV4] at hbx;have hb24:Below V2.heap.size V2 V4:=hb3.trans (hbx.2.2.mono hb3.size);have hV5:Below V.heap.size V V4:=H2.e.trans (hb24.mono H2.e.size);have H4:=h8_ (n4_ (Q7 H2.a hb24) (Q7 H2.b hb24) (H2.c.below hb24) (H2.d.below hb24)) hbx.1 hbx.2.1 (hu.below hbx.2.2) (hy.below hbx.2.2) hV5 H2.F hok2;clear hu hy hb3 hok2 hbx hV4 hb24 hV5;dsimp only;cases ok1 with
 | false=>
  go_wp2_with (first | refine Q8 rfl 38 _ _ rfl 38 #[.bool false,.slice none 0 0,.pointer none] #[.bool b2,.slice x2 (wd u.rest).length c2',.pointer o2] rfl rfl rfl QF (by simp[Value.oneCell']) ?_ | refine Qf rfl 50 _ _ rfl 50 _ #[.slice none 0 0,.slice none 0 0,.int .i64 0,.slice none 0 0] #[.slice an2 y.l.length cn2,.slice af2 y.l.length cf2,.int .i64 s7,.slice ad2 (dg y.rest).length cd2] rfl (eD_ _ _) rfl rfl QI (by simp[Value.oneCell']) ?_);go_ret;rw[HV4.o];exact ⟨rfl,(HM.o _ H4.f).2.2⟩
 | true=>
 cases ok2 with
 | false=>
  go_wp2_with (first | refine Q8 rfl 38 _ _ rfl 38 #[.bool false,.slice none 0 0,.pointer none] #[.bool b2,.slice x2 (wd u.rest).length c2',.pointer o2] rfl rfl rfl QF (by simp[Value.oneCell']) ?_ | refine Qf rfl 50 _ _ rfl 50 _ #[.slice none 0 0,.slice none 0 0,.int .i64 0,.slice none 0 0] #[.slice an2 y.l.length cn2,.slice af2 y.l.length cf2,.int .i64 s7,.slice ad2 (dg y.rest).length cd2] rfl (eD_ _ _) rfl rfl QI (by simp[Value.oneCell']) ?_);go_ret;rw[HV4.o];exact ⟨rfl,(HM.o _ H4.f).2.2⟩
 | true=>
 by_cases hv12:12 < vs.length
 ·have hv13:(12:Int) < (vs.length:Int):=by omega
  go_wp2_with (first | refine Q8 rfl 38 _ _ rfl 38 #[.bool false,.slice none 0 0,.pointer none] #[.bool b2,.slice x2 (wd u.rest).length c2',.pointer o2] rfl rfl rfl QF (by simp[Value.oneCell']) ?_ | refine Qf rfl 50 _ _ rfl 50 _ #[.slice none 0 0,.slice none 0 0,.int .i64 0,.slice none 0 0] #[.slice an2 y.l.length cn2,.slice af2 y.l.length cf2,.int .i64 s7,.slice ad2 (dg y.rest).length cd2] rfl (eD_ _ _) rfl rfl QI (by simp[Value.oneCell']) ?_);go_ret;rw[HV4.o];exact ⟨rfl,(HM.o _ H4.f).2.2⟩
 have hv13:¬ (12:Int) < (vs.length:Int):=by omega
 have HV12:=hd_ hv12;clear hv12;by_cases hs40:40 < s.length
 ·have hs41:(40:Int) < (s.length:Int):=by omega
  go_wp2_with (first | refine Q8 rfl 38 _ _ rfl 38 #[.bool false,.slice none 0 0,.pointer none] #[.bool b2,.slice x2 (wd u.rest).length c2',.pointer o2] rfl rfl rfl QF (by simp[Value.oneCell']) ?_ | refine Qf rfl 50 _ _ rfl 50 _ #[.slice none 0 0,.slice none 0 0,.int .i64 0,.slice none 0 0] #[.slice an2 y.l.length cn2,.slice af2 y.l.length cf2,.int .i64 s7,.slice ad2 (dg y.rest).length cd2] rfl (eD_ _ _) rfl rfl QI (by simp[Value.oneCell']) ?_);go_ret;rw[HV4.o];exact ⟨rfl,(HM.o _ H4.f).2.2⟩
 ·have hs41:¬ (40:Int) < (s.length:Int):=by omega
  have HS:=hd_ hs40;clear hs40;go_wp2_with (first | refine Q8 rfl 38 _ _ rfl 38 #[.bool false,.slice none 0 0,.pointer none] #[.bool b2,.slice x2 (wd u.rest).length c2',.pointer o2] rfl rfl rfl QF (by simp[Value.oneCell']) ?_ | refine Qf rfl 50 _ _ rfl 50 _ #[.slice none 0 0,.slice none 0 0,.int .i64 0,.slice none 0 0] #[.slice an2 y.l.length cn2,.slice af2 y.l.length cf2,.int .i64 s7,.slice ad2 (dg y.rest).length cd2] rfl (eD_ _ _) rfl rfl QI (by simp[Value.oneCell']) ?_);rw[HV4.o];refine eH_ (Gf s (by have:=HS.o;omega) V4) ?_;rintro r w5 ⟨bn,rfl,rfl⟩;dsimp only;cases bn with
  | false=>
   go_wp2_with fail;go_ret;exact ⟨rfl,(HM.o _ H4.f).2.2⟩
  | true=>
   obtain ⟨e1,e2,f1⟩:=H4.g (by trivial);obtain ⟨e3,e4,f2⟩:=H4.H (by trivial);replace e2:=e2.symm;replace e4:=e4.symm;subst e2 e4;have hk1:Sm 1000 t∧Tp.Ok t.l∧NmB 40 t.l:=(by rw[e1];exact ⟨(Fits.sm f1).1,(Fits.sm f1).2,Fits.nm f1⟩);have hk2:Sm 1000 u∧Tp.Ok u.l∧NmB 40 u.l:=(by rw[e3];exact ⟨(Fits.sm f2).1,(Fits.sm f2).2,Fits.nm f2⟩);have HK:=h2_ hk1 hk2;have hvl:(vs.length:Int)≤12:=(by omega);clear e1 f1 e3 f2 hk1 hk2;have HW5:=hd_ (eB_ w5.heap.size w5);go_wp2_with fail;refine eH_ (Yi w5) ?_;rintro r w6 ⟨rfl,hmo,hb6,hlt6⟩;have H6:=h3_ hmo hb6 hlt6;clear hmo hb6 hlt6;dsimp only;go_wp2_with fail;go_loopg [72] vs.length (fun gk v72 wr=> ∃ i:Nat,v72= .int .i64 (i:Int)∧gk=vs.length - i∧i≤vs.length∧MapO w5.heap.size (fun k=> w5.heap.size≤k) wr w5.heap.size (Tp.vmap (vs.take i))∧Below w5.heap.size w5 wr∧w5.heap.size < wr.heap.size∧∀ p∈vs.take i,-1099511627776≤p.2∧p.2≤1099511627776)
   case atStart=> exact ⟨0,rfl,rfl,eV_ _,H6.a,H6.b,H6.C,fun p hp=> by simp at hp⟩
   case round=>
    obtain ⟨i,rfl,hgk,hi,hmo,hbw,hlt5,hall⟩:=hrel;have HR:=h5_ hgk hmo hbw hlt5 hall;clear hgk hmo hbw hlt5 hall;have hVw:Below V.heap.size V wr:=H4.f.trans (HR.c.mono H4.f.size);have HVW:=hd_ hVw;clear hVw;by_cases hlt:i < vs.length
    ·have hlt':(i:Int) < (vs.length:Int):=(by omega);obtain ⟨p,hp⟩:∃ k,vs[i]? =some k:=⟨_,eA_ hlt⟩
     obtain ⟨bk,off,q1,hr⟩:=HVL.o wr HVW.o i p hp;subst q1;have HG:=hd_ hr;have hx1:=Qh (w:=wr) #[.string ⟨p.1.toArray⟩,.int .i64 p.2] 67;obtain ⟨W1,hW1⟩:∃ W,wr.alloc (.cells #[.string ⟨p.1.toArray⟩,.int .i64 p.2] 67)=W:=⟨_,rfl⟩
     rw[hW1] at hx1;have HW1:=hd_ hW1;have d0:=Q3 hx1.1 0 rfl;have d1:=Q3 hx1.1 1 rfl;have HX1:=h2_ hp hx1.2;have HXB:=hd_ hx1.1;clear hr hp hx1 hW1;rcases Int.lt_or_le p.2 (-1099511627776) with hlo | hlo
     ·have ha:decide (p.2 < -1099511627776)=true:=eM_ hlo;clear hlo;go_wp2_with (first
       | (refine wpList_load_mid rfl 67 _ rfl bk (off+i*2) rfl _ _ HG.o underlying67 rfl rfl ?_)
       | (refine Q8 rfl 67 _ _ rfl 67 #[.string ⟨#[]⟩,.int .i64 0] #[.string ⟨p.1.toArray⟩,.int .i64 p.2] rfl rfl rfl (by kernel_rfl) (by simp[Value.oneCell']) ?_;rw[HW1.o]))
      go_ret;exact ⟨rfl,(HM.o _ (HVW.o.trans (HX1.B.mono HVW.o.size))).2.2⟩
     ·have ha:decide (p.2 < -1099511627776)=false:=eK_ (by omega);rcases Int.lt_or_le 1099511627776 p.2 with hhi | hhi
      ·have hb:decide (1099511627776 < p.2)=true:=eM_ hhi;clear hlo hhi;go_wp2_with (first
        | (refine wpList_load_mid rfl 67 _ rfl bk (off+i*2) rfl _ _ HG.o underlying67 rfl rfl ?_)
        | (refine Q8 rfl 67 _ _ rfl 67 #[.string ⟨#[]⟩,.int .i64 0] #[.string ⟨p.1.toArray⟩,.int .i64 p.2] rfl rfl rfl (by kernel_rfl) (by simp[Value.oneCell']) ?_;rw[HW1.o]))
       go_ret;exact ⟨rfl,(HM.o _ (HVW.o.trans (HX1.B.mono HVW.o.size))).2.2⟩
      ·have hb:decide (1099511627776 < p.2)=false:=eK_ (by omega);have HLH:=h2_ hlo hhi;clear hlo hhi;go_wp2_with (first
        | (refine wpList_load_mid rfl 67 _ rfl bk (off+i*2) rfl _ _ HG.o underlying67 rfl rfl ?_)
        | (refine Q8 rfl 67 _ _ rfl 67 #[.string ⟨#[]⟩,.int .i64 0] #[.string ⟨p.1.toArray⟩,.int .i64 p.2] rfl rfl rfl (by kernel_rfl) (by simp[Value.oneCell']) ?_;rw[HW1.o]))
       have mkS:∀ W:World,Below W1.heap.size W1 W→W.cell? ⟨wr.heap.size,0,none⟩=some (.string ⟨p.1.toArray⟩)∧W.cell? ⟨wr.heap.size,1,none⟩=some (.int .i64 p.2):=fun W hb=> ⟨(hb.cell (Q9 d0)).trans d0,(hb.cell (Q9 d1)).trans d1⟩;have HS:=hd_ mkS;clear mkS d0 d1;refine wp_region_held_drew (S:=fun w'=> w'.cell? ⟨wr.heap.size,0,none⟩=some (.string ⟨p.1.toArray⟩)∧w'.cell? ⟨wr.heap.size,1,none⟩=some (.int .i64 p.2)) (by kernel_rfl) (HS.o _ ((eB_ _ _).drew)) (fun hHeld=> ?_);simp only[List.size_toArray,eL_,eU_];refine tk_ 0 rfl ?_;(try simp only[Act.put,gP_]);refine tk_ 1 rfl ?_;(try simp only[Act.put,gP_]);refine tk_ 2 rfl ?_;(try simp only[Act.put,gP_]);refine tk_ 3 rfl ?_;(try simp only[Act.put,gP_]);refine tk_ 4 rfl ?_;(try simp only[Act.put,gP_]);refine rd_ 5 rfl (fun KK hKK=> ?_);simp only[gA_];go_simp;have hbD:=(eB_ W1.heap.size W1).drew;refine eH_ (QY p.2 (by have:=HLH.a;omega) (by have:=HLH.B;omega) _) ?_;rintro r w7 ⟨v7,rfl,hn7,hb7⟩;replace hb7:=hbD.trans (hb7.mono hbD.size);dsimp only;refine hKK.out _ _ (HS.o _ hb7) (fun hHeld=> ?_);clear hKK KK;(try simp only[Act.put,sA_]);have hbr7:Below wr.heap.size wr w7:=HX1.B.trans (hb7.mono HX1.B.size);have hmo7:=HR.b.past hbr7;have hbox7:=Q7 HXB.o hb7;have H7:=h4_ hn7 hbr7 hmo7 hbox7;clear hn7 hbr7 hmo7 hb7 hbD hbox7;refine rd_ 6 rfl (fun KK hKK=> ?_);simp only[gA_];go_simp;refine eH_ (Z6 H7.c (fun k hk=> eE_ (eE_ (Nat.le_of_lt HR.d) H7.b.size) hk) (Tp.Q05 _) (by have:=Tp.Q2u (vs.take i);rw[eN_] at this;omega) (Nat.le_of_lt (eI_ HR.d H7.b.size)) p.1 H7.a) ?_;rintro r w8 ⟨rfl,hmo8,hfr8⟩;rw[←Tp.Q5g HX1.a] at hmo8;have hb8:Below w5.heap.size w5 w8:=HR.c.trans ((H7.b.mono HR.c.size).trans (hfr8.below (rl_ _) (fun k hk=> hk) (eE_ (Nat.le_of_lt HR.d) H7.b.size)));have hbox8:=hfr8.cells H7.D (by have:=HR.d;omega) (by decide);have e0:=Q3 hbox8 0 rfl;have e1:=Q3 hbox8 1 rfl;dsimp only;refine hKK.out _ _ (⟨e0,e1⟩) (fun hHeld=> ?_);clear hKK KK;(try simp only[Act.put,sA_]);have H8:=h3_ hmo8 hb8 (eI_ (eI_ HR.d H7.b.size) hfr8.size);clear hmo8 hb8 hfr8 hbox8 e0 e1;refine wpAnyH_done (by kernel_rfl) ?_ _
       (try dsimp only);go_wp2_with fail;go_roundg (vs.length - (i+1))
       case measure=> have:=HR.a;omega
       case rel=> exact ⟨i+1,by go_num,rfl,by omega,H8.a,H8.b,H8.C,fun q hq=> by
         rw[List.take_add_one,HX1.a] at hq;rcases List.mem_append.1 hq with hq | hq
         ·exact HR.E q hq
         ·rw[List.mem_singleton.1 hq];exact ⟨HLH.a,HLH.B⟩⟩
    ·obtain rfl:vs.length=i:=(by omega);have hml:=HR.b;rw[List.take_length] at hml;have hall:=HR.E;rw[List.take_length] at hall;have HML:=h2_ hml hall;clear hlt hi hml hall;obtain ⟨wA,rfl⟩:∃ w4,w4=wr:=⟨wr,rfl⟩
     obtain ⟨ml,hml0⟩:∃ l,Tp.vmap vs=l:=⟨_,rfl⟩
     have hm1:MapO w5.heap.size (fun k=> w5.heap.size≤k) wA w5.heap.size ml:=(by rw[←hml0];exact HML.a);have hm2:Tp.Rise ml:=(by rw[←hml0];exact Tp.Q05 vs);have hm3:ml.length≤12:=(by rw[←hml0];have:=Tp.Q2u vs;omega);have hm4:∀ x,Bd 13 (Tp.look ml x):=(by rw[←hml0];exact Tp.Q7J (fun p hp=> Q01 (HML.B p hp).1 (HML.B p hp).2));have HMQ:=h4_ hm1 hm2 hm3 hm4;clear hm1 hm2 hm3 hm4 hml0;have hbt:=Q7 H4.a.1 HR.c;have p0:=Q3 hbt 0 rfl;have p1:=Q3 hbt 1 rfl;have p2:=Q3 hbt 2 rfl;clear hbt;go_wp2_with fail;refine eH_ (YR (H4.a.2.2.1.below HR.c) HMQ.a.read HMQ.b (by have:=HMQ.c;omega) (K:=1000) (M:=13) HK.a.1 HMQ.D (by decide)) ?_;rintro r w7 ⟨v7,rfl,hn7,hb7⟩;obtain ⟨ec,hec⟩:∃ c:Int,(if (Tp.ev ml t).isSome=true then 0 else 31)=c:=⟨_,rfl⟩
     obtain ⟨zv,hzv⟩:∃ z,(Tp.ev ml t).getD 0=z:=⟨_,rfl⟩
     rw[hec];rw[hzv] at hn7;obtain ⟨b7,a7,c7,rfl,hn7⟩:=XD hn7;have hx7:=Qh (w:=w7) #[.bool b7,.slice a7 (wd zv).length c7] 27;obtain ⟨W7,hW7⟩:∃ W,w7.alloc (.cells #[.bool b7,.slice a7 (wd zv).length c7] 27)=W:=⟨_,rfl⟩
     rw[hW7] at hx7;have HW7:=hd_ hW7;clear hW7;have hx8:=Qh (w:=W7) #[.int .i64 s6,.slice ad (dg t.rest).length cd] 48;obtain ⟨W8,hW8⟩:∃ W,W7.alloc (.cells #[.int .i64 s6,.slice ad (dg t.rest).length cd] 48)=W:=⟨_,rfl⟩
     rw[hW8] at hx8;have HW8:=hd_ hW8;clear hW8;have h7:Below wA.heap.size wA W7:=hb7.trans (hx7.2.mono hb7.size);have h57:Below w5.heap.size w5 W7:=HR.c.trans (h7.mono HR.c.size);have h58:Below w5.heap.size w5 W8:=h57.trans (hx8.2.mono h57.size);have hb7x:=Q7 H4.a.2.1 h57;have hb8x:=Q7 H4.a.2.1 h58;have y2:=Q3 hb7x 2 rfl;have y3:=Q3 hb7x 3 rfl;have y0:=Q3 hb8x 0 rfl;have H7:=h8_ (hn7.below hx7.2) h7 h57 h58 (an_ hx7.1 hx8.1) (HMQ.a.past h7) hec hzv;have hzn:=(H4.a.2.2.2.zn.below h58)
     have HZN:=hd_ hzn;have HX8:=hd_ hx8.2;clear hn7 hb7 hx7 hx8 h7 h57 h58 hb7x hb8x hec hzv p0 p1 p2 hzn;have htl:(t.l.length:Int)≤1000:=(by have:=HK.a.1.len;omega);dsimp only;go_wp2_with (first | (refine Q8 rfl 27 _ _ rfl 27 #[.bool false,.slice none 0 0] #[.bool b7,.slice a7 (wd zv).length c7] rfl rfl rfl QX (by simp[Value.oneCell']) ?_;rw[HW7.o]) | (refine Q8 rfl 48 _ _ rfl 48 #[.int .i64 0,.slice none 0 0] #[.int .i64 s6,.slice ad (dg t.rest).length cd] rfl rfl rfl Jz (by simp[Value.oneCell']) ?_;rw[HW8.o]));clear y0 y2 y3;go_loopg [21,103] t.l.length (fun gk v21 v103 wr=> ∃ (i:Nat) (acc:Int) (b:Bool) (sg:Int) (a':Option Addr) (c':Nat),v21= .bool b∧v103= .int .i64 (i:Int)∧gk=t.l.length - i∧i≤t.l.length∧WtI W8 W7.heap.size t ml i acc b sg (.slice a' (dg acc).length c') wr)
     case atStart=> exact ⟨0,t.rest,true,s6,ad,cd,rfl,rfl,rfl,eV_ _,H7.e.2,HZN.o,rfl,HK.a.1.rest.mono (by omega),eB_ _ _,rl_ _⟩
     case round=>
      obtain ⟨i,acc,b,sg,aa,ca,rfl,rfl,hgk,hi,hI⟩:=hrel;have hWq:Below W7.heap.size W7 wr:=HX8.o.trans hI.below;have h5q:Below w5.heap.size w5 wr:=H7.c.trans (hWq.mono H7.c.size);have HRq:=h4_ hgk hI hWq h5q;have HMR:=hd_ (H7.f.past hWq);clear hgk hWq h5q;by_cases hlt:i < t.l.length
      ·have hlt2:(i:Int) < (t.l.length:Int):=(by omega);obtain ⟨p,hp⟩:∃ p,t.l[i]? =some p:=⟨_,eA_ hlt⟩
       obtain ⟨bn,on,bf,of_,sp,e1,e2,p00,p10,p20,hd0⟩:=H4.a.2.2.2.at hp;subst e1 e2;have hb5w:=HRq.D;have P0:=(hb5w.cell (Q9 p00)).trans p00;have P1:=(hb5w.cell (Q9 p10)).trans p10;have P2:=(hb5w.cell (Q9 p20)).trans p20;have hd:=hd0.below hb5w;have hbf:=Q9 p10;obtain ⟨ap,cp,rfl,_⟩:=hd.form;have hfz:Zn wr (.agg #[.int .i64 (sgn p.2),.slice ap (dg p.2).length cp]) p.2:=⟨_,rfl,hd⟩
       have hcp:=fun W (hb:Below wr.heap.size wr W)=> an_ ((hb.cell (Q9 P1)).trans P1) ((hb.cell (Q9 P2)).trans P2);have HP:=h4_ hp hfz hcp hbf;clear hp hd hd0 hfz hcp P1 P2 hI p00 p10 p20 hb5w hbf;go_wp2_with fail;refine eH_ (Z5 HMR.o.read HMQ.b (by have:=HMQ.c;omega) p.1) ?_;rintro r w9 ⟨v9,rfl,hn9,hb9⟩;obtain ⟨b9,a9,c9,rfl,hn9⟩:=XD hn9;obtain ⟨hh,hhh⟩:∃ b,Tp.has ml p.1=b:=⟨_,rfl⟩
       rw[hhh];have hx9:=Qh (w:=w9) #[.bool b9,.slice a9 (wd (Tp.look ml p.1)).length c9] 27;obtain ⟨W9,hW9⟩:∃ W,w9.alloc (.cells #[.bool b9,.slice a9 (wd (Tp.look ml p.1)).length c9] 27)=W:=⟨_,rfl⟩
       rw[hW9] at hx9;have HW9:=hd_ hW9;clear hW9;have k0:=Q3 hx9.1 0 rfl;have k1:=Q3 hx9.1 1 rfl;have hbq9:Below wr.heap.size wr W9:=hb9.trans (hx9.2.mono hb9.size);have H9:=h3_ (hn9.below hx9.2) hbq9 hhh;clear hn9 hb9 hx9 hbq9 hhh P0;dsimp only;go_wp2_with (refine Q8 rfl 27 _ _ rfl 27 #[.bool false,.slice none 0 0] #[.bool b9,.slice a9 (wd (Tp.look ml p.1)).length c9] rfl rfl rfl QX (by simp[Value.oneCell']) ?_;rw[HW9.o]);clear k0 k1;refine eH_ (Xu H9.a (HMQ.D p.1) (by decide)) ?_;rintro r w10 ⟨rfl,hb10⟩;have H10:=hd_ (H9.b.trans (hb10.mono H9.b.size));clear hb10;dsimp only;go_wp2_with fail;refine eH_ (Q0A (Zp.text (Tp.look ml p.1)) (by have:=Q5a (HMQ.D p.1);omega) w10) ?_;rintro r w11 ⟨⟨v11,rfl,hz11⟩,hb11⟩;rw[Zp.Q2x (Q6U (HMQ.D p.1))] at hz11;obtain ⟨pc,hpc⟩:∃ c,(Zp.parse (Zp.text (Tp.look ml p.1))).2=c:=⟨_,rfl⟩
       rw[hpc];obtain ⟨g11,a11,c11,rfl,hz11⟩:=Q07 hz11;have hx11:=Qh (w:=w11) #[.int .i64 g11,.slice a11 (dg (Tp.look ml p.1)).length c11] 48;obtain ⟨W11,hW11⟩:∃ W,w11.alloc (.cells #[.int .i64 g11,.slice a11 (dg (Tp.look ml p.1)).length c11] 48)=W:=⟨_,rfl⟩
       rw[hW11] at hx11;have HW11:=hd_ hW11;clear hW11;have m0:=Q3 hx11.1 0 rfl;have m1:=Q3 hx11.1 1 rfl;have hbqE:Below wr.heap.size wr w11:=H10.o.trans (hb11.mono H10.o.size);have hbq:Below wr.heap.size wr W11:=hbqE.trans (hx11.2.mono hbqE.size);have hgq:=Q7 HRq.b.row hbq;have hxq:=Q7 H4.a.2.1 (HRq.D.trans (hbq.mono HRq.D.size));have x1:=Q3 hxq 1 rfl;have f0:=(HP.c _ hbq).1;have f1:=(HP.c _ hbq).2;have hGl:W7.heap.size < wr.heap.size:=Q4 HRq.b.row;have h5G:=H7.c.size;have hxl:w2.heap.size+1 < w5.heap.size:=Q4 H4.a.2.1;have hwl:=hbqE.size;have mkS:∀ W:World,(∀ k,k < W11.heap.size→k≠W7.heap.size→W.heap[k]? =W11.heap[k]?)→W.cell? ⟨w2.heap.size+1,1,none⟩=some (.slice (some ⟨bf,of_,none⟩) t.l.length cf)∧W.cell? ⟨bf,of_+i*2,none⟩=some (.int .i64 (sgn p.2))∧W.cell? ⟨bf,of_+i*2+1,none⟩=some (.slice ap (dg p.2).length cp)∧W.cell? ⟨w11.heap.size,0,none⟩=some (.int .i64 g11)∧W.cell? ⟨w11.heap.size,1,none⟩=some (.slice a11 (dg (Tp.look ml p.1)).length c11):=fun W hb=> ⟨(Zb (hb _ (Q9 x1) (by omega))).trans x1,(Zb (hb _ (Q9 f0) (by have:=HP.D;omega))).trans f0,(Zb (hb _ (Q9 f1) (by have:=HP.D;omega))).trans f1,(Zb (hb _ (Q9 m0) (by omega))).trans m0,(Zb (hb _ (Q9 m1) (by omega))).trans m1⟩;have HS:=hd_ mkS;have H11:=h5_ (hz11.below hx11.2) (HP.b.below hbq) (HRq.b.num.below hbq) hbq hgq;clear hz11 hb11 hx11 hbqE hbq hgq hxq mkS x1 f0 f1 m0 m1 hpc hGl h5G hxl hwl;dsimp only;go_wp2_with (refine Q8 rfl 48 _ _ rfl 48 #[.int .i64 0,.slice none 0 0] #[.int .i64 g11,.slice a11 (dg (Tp.look ml p.1)).length c11] rfl rfl rfl Jz (by simp[Value.oneCell']) ?_;rw[HW11.o]);refine wp_region_held_drew (S:=fun w'=> w'.cell? ⟨w2.heap.size+1,1,none⟩=some (.slice (some ⟨bf,of_,none⟩) t.l.length cf)∧w'.cell? ⟨bf,of_+i*2,none⟩=some (.int .i64 (sgn p.2))∧w'.cell? ⟨bf,of_+i*2+1,none⟩=some (.slice ap (dg p.2).length cp)∧w'.cell? ⟨w11.heap.size,0,none⟩=some (.int .i64 g11)∧w'.cell? ⟨w11.heap.size,1,none⟩=some (.slice a11 (dg (Tp.look ml p.1)).length c11)) (by kernel_rfl) (HS.o _ (fun k hk _=> rfl)) (fun hHeld=> ?_);simp only[List.size_toArray,eL_,eU_];refine tk_ 1 rfl ?_;(try simp only[Act.put,gP_]);refine tk_ 2 rfl ?_;(try simp only[Act.put,gP_]);refine tk_ 3 rfl ?_;(try simp only[Act.put,gP_]);refine tk_ 4 rfl ?_;(try simp only[Act.put,gP_]);refine tk_ 5 rfl ?_;(try simp only[Act.put,gP_]);refine tk_ 6 rfl ?_;(try simp only[Act.put,gP_]);refine tk_ 9 rfl ?_;(try simp only[Act.put,gP_]);have hbD:=(eB_ W11.heap.size W11).drew;refine wpAnyH_ready (rs:= [0,7]) (by kernel_rfl) (by simp) ?_;refine AllReadyH.cons rfl (fun KK hKK=> ?_) (AllReadyH.cons rfl (fun KK hKK=> ?_) AllReadyH.nil);have hgD:=Q7 H11.E hbD;have q0:=Q3 hgD 0 rfl;have q1:=Q3 hgD 1 rfl;simp only[gA_];go_simp;refine hKK.out _ _ hHeld (fun _=> ?_);clear hKK KK q0 q1 hgD;(try simp only[Act.put,sA_]);refine rd_ 7 rfl (fun KK hKK=> ?_);simp only[gA_];go_simp;refine eH_ (JB (H11.b.below hbD) (H11.a.below hbD) (eE_ (HK.a.1.l p (eP_ HP.a)).len10 (by decide)) (eE_ (HMQ.D p.1).len10 (by decide))) ?_;rintro r w12 ⟨v12,rfl,hz12,hc12⟩;have hb12:=hbD.trans (hc12.mono hbD.size);dsimp only;refine hKK.out _ _ (HS.o _ (fun k hk _=> hb12.block k hk)) (fun hHeld=> ?_);clear hKK KK;(try simp only[Act.put,sA_]);rotate_left;simp only[gA_];go_simp;refine eH_ (JB (H11.b.below hbD) (H11.a.below hbD) (eE_ (HK.a.1.l p (eP_ HP.a)).len10 (by decide)) (eE_ (HMQ.D p.1).len10 (by decide))) ?_;rintro r w12 ⟨v12,rfl,hz12,hc12⟩;have hb12:=hbD.trans (hc12.mono hbD.size);dsimp only;refine hKK.out _ _ (HS.o _ (fun k hk _=> hb12.block k hk)) (fun hHeld2=> ?_);clear hKK KK;(try simp only[Act.put,sA_]);have hgD:=Q7 H11.E hb12;have q0:=Q3 hgD 0 rfl;have q1:=Q3 hgD 1 rfl;refine rd_ 0 rfl (fun KK hKK=> ?_);simp only[gA_];go_simp;refine hKK.out _ _ (hHeld2) (fun hHeld=> ?_);clear hKK KK;(try simp only[Act.put,sA_]);clear q0 q1 hgD
       all_goals (
        refine rd_ 8 rfl (fun KK hKK=> ?_);simp only[gA_];go_simp;have hbm:Bd 1013 (p.2*Tp.look ml p.1):=Bd.mul (HK.a.1.l p (eP_ HP.a)) (HMQ.D p.1) (by decide);refine eH_ (Dm (H11.c.below hb12) hz12 (eE_ HRq.b.bd.len10 (by omega)) (eE_ hbm.len10 (by decide))) ?_;rintro r w13 ⟨v13,rfl,hz13,hc13⟩;have hb13:=hb12.trans (hc13.mono hb12.size);obtain ⟨g13,a13,c13,rfl,hz13⟩:=Q07 hz13;have hbq13:Below wr.heap.size wr w13:=H11.d.trans (hb13.mono H11.d.size);have hst:=HRq.b.step HP.a HK.a.1 HMQ.D hbq13 g13 _ hz13;have hg13:=Q7 H11.E hb13;rw[H9.C] at hst;have H13:=h3_ hst hg13 hb13;clear hc13 hbm hz12 hb12 hz13 hbq13 hst hg13 hb13 hc12;dsimp only;refine hKK.out _ _ (HS.o _ (fun k hk _=> H13.C.block k hk)) (fun hHeld=> ?_);clear hKK KK;(try simp only[Act.put,sA_]);refine tk_ 10 rfl ?_;(try simp only[Act.put,gP_]);cases b with
        | false=>
         refine wpAnyH_take (i:=11) (v:=undef) rfl (by kernel_rfl) (by kernel_rfl) (by kernel_rfl) (fun _ _ _ h=> h) (Or.inr ⟨by rfl,rfl⟩) (by assumption) ?_
         (try simp only[gA_]);(try simp only[Act.put,sA_]);refine tk_ 12 rfl ?_;(try simp only[Act.put,gP_]);refine rd_ 13 rfl (fun KK hKK=> ?_);simp only[gA_];refine Xc _ _ _ rfl 48 W7.heap.size #[.int .i64 sg,.slice aa (dg acc).length ca] #[.int .i64 g13,.slice a13 (dg (acc+p.2*Tp.look ml p.1)).length c13] rfl H13.b rfl rfl Jz (by simp[Value.oneCell']) ?_;refine hKK.out _ _ (HS.o _ (fun k hk hne=> by rw[Qa hne];exact H13.C.block k hk)) (fun hHeld=> ?_);clear hKK KK;(try simp only[Act.put,sA_]);refine tk_ 14 rfl ?_;(try simp only[Act.put,gP_]);refine wpAnyH_done (by kernel_rfl) ?_ _
         (try dsimp only);go_wp2_with fail;go_roundg (t.l.length - (i+1))
         case measure=> have:=HRq.a;omega
         case rel=> exact ⟨i+1,_,_,_,_,_,rfl,by go_num,rfl,by omega,H13.a⟩
        | true=>
         refine tk_ 11 rfl ?_;(try simp only[Act.put,gP_]);refine tk_ 12 rfl ?_;(try simp only[Act.put,gP_]);refine rd_ 13 rfl (fun KK hKK=> ?_);simp only[gA_];refine Xc _ _ _ rfl 48 W7.heap.size #[.int .i64 sg,.slice aa (dg acc).length ca] #[.int .i64 g13,.slice a13 (dg (acc+p.2*Tp.look ml p.1)).length c13] rfl H13.b rfl rfl Jz (by simp[Value.oneCell']) ?_;refine hKK.out _ _ (HS.o _ (fun k hk hne=> by rw[Qa hne];exact H13.C.block k hk)) (fun hHeld=> ?_);clear hKK KK;(try simp only[Act.put,sA_]);refine tk_ 14 rfl ?_;(try simp only[Act.put,gP_]);refine wpAnyH_done (by kernel_rfl) ?_ _
         (try dsimp only);go_wp2_with fail;go_roundg (t.l.length - (i+1))
         case measure=> have:=HRq.a;omega
         case rel=> exact ⟨i+1,_,_,_,_,_,rfl,by go_num,rfl,by omega,H13.a⟩)
      ·obtain rfl:t.l.length=i:=(by omega);have HEV:=hd_ (Q6T hI);have HAC:=hd_ hI.bd;have HNQ:=hd_ hI.num;have g0:=Q3 hI.row 0 rfl;have g1:=Q3 hI.row 1 rfl;have hb18:=Q7 H7.e.1 HRq.c;have h0:=Q3 hb18 0 rfl;have h1:=Q3 hb18 1 rfl;have HN7:=hd_ (H7.a.below HRq.c);clear hlt hi hI hb18;cases b with
       | false=>
        obtain rfl:ec=31:=(by rw[←H7.g,HEV.o];rfl);obtain rfl:zv=0:=(by rw[←H7.H,HEV.o];rfl);go_wp2_with fail;refine eH_ (YJ HN7.o) ?_;rintro r w14 ⟨rfl,hb14⟩;have H14:=hd_ hb14;clear hb14;rw[show sgn 0=0 from rfl];dsimp only;go_wp2_with fail;go_ret;exact ⟨rfl,(HM.o _ (H4.f.trans ((HRq.D.trans (H14.o.mono HRq.D.size)).mono H4.f.size))).2.2⟩
       | true=>
        obtain rfl:ec=0:=(by rw[←H7.g,HEV.o];rfl);obtain rfl:zv=acc:=(by rw[←H7.H,HEV.o];rfl);have mkS:∀ W:World,Below wr.heap.size wr W→W.cell? ⟨W7.heap.size,0,none⟩=some (.int .i64 sg)∧W.cell? ⟨W7.heap.size,1,none⟩=some (.slice aa (dg zv).length ca)∧W.cell? ⟨w7.heap.size,0,none⟩=some (.bool b7)∧W.cell? ⟨w7.heap.size,1,none⟩=some (.slice a7 (wd zv).length c7):=fun W hb=> ⟨(hb.cell (Q9 g0)).trans g0,(hb.cell (Q9 g1)).trans g1,(hb.cell (Q9 h0)).trans h0,(hb.cell (Q9 h1)).trans h1⟩;have HS:=hd_ mkS;clear mkS;go_wp2_with fail;refine wp_region_held_drew (S:=fun w'=> w'.cell? ⟨W7.heap.size,0,none⟩=some (.int .i64 sg)∧w'.cell? ⟨W7.heap.size,1,none⟩=some (.slice aa (dg zv).length ca)∧w'.cell? ⟨w7.heap.size,0,none⟩=some (.bool b7)∧w'.cell? ⟨w7.heap.size,1,none⟩=some (.slice a7 (wd zv).length c7)) (by kernel_rfl) (HS.o _ ((eB_ _ _).drew)) (fun hHeld=> ?_);simp only[List.size_toArray,eL_,eU_];refine tk_ 0 rfl ?_;(try simp only[Act.put,gP_]);refine tk_ 1 rfl ?_;(try simp only[Act.put,gP_]);refine tk_ 2 rfl ?_;(try simp only[Act.put,gP_]);refine tk_ 3 rfl ?_;(try simp only[Act.put,gP_]);refine tk_ 5 rfl ?_;(try simp only[Act.put,gP_]);refine rd_ 4 rfl (fun KK hKK=> ?_);simp only[gA_];go_simp;have hbD:=(eB_ wr.heap.size wr).drew;refine eH_ (Xu (HN7.o.below hbD) HAC.o (by omega)) ?_;rintro r w15 ⟨rfl,hc15⟩;have hb15:=hbD.trans (hc15.mono hbD.size);clear hc15 hbD;dsimp only;refine hKK.out _ _ (HS.o _ hb15) (fun hHeld=> ?_);clear hKK KK;(try simp only[Act.put,sA_]);refine rd_ 6 rfl (fun KK hKK=> ?_);simp only[gA_];go_simp;refine eH_ (Q0z (HNQ.o.below hb15) (eE_ HAC.o.len10 (by omega))) ?_;rintro r w16 ⟨rfl,hc16⟩;have hb16:=hb15.trans (hc16.mono hb15.size);clear hc16 hb15;dsimp only;refine hKK.out _ _ (HS.o _ hb16) (fun hHeld=> ?_);clear hKK KK;(try simp only[Act.put,sA_]);refine tk_ 7 rfl ?_;(try simp only[Act.put,gP_]);refine tk_ 8 rfl ?_;(try simp only[Act.put,gP_]);have h5w:Below w5.heap.size w5 w16:=HRq.D.trans (hb16.mono HRq.D.size);have hmw:=HMR.o.past hb16;have H16:=h2_ h5w hmw;have hbu:=Q7 H4.b h5w;have p0:=Q3 hbu 0 rfl;have p1:=Q3 hbu 1 rfl;have p2:=Q3 hbu 2 rfl;clear hb16 h5w hmw hbu hHeld;refine wpAnyH_done (by kernel_rfl) ?_ _
        (try dsimp only);go_wp2_with fail;refine eH_ (YR (H4.d.below H16.a) H16.B.read HMQ.b (by have:=HMQ.c;omega) (K:=1000) (M:=13) HK.b HMQ.D (by decide)) ?_;rintro r w20 ⟨v20,rfl,hn20,hb20⟩;obtain ⟨eu,heu⟩:∃ c:Int,(if (Tp.ev ml u).isSome=true then 0 else 31)=c:=⟨_,rfl⟩
        obtain ⟨zu,hzu⟩:∃ z,(Tp.ev ml u).getD 0=z:=⟨_,rfl⟩
        rw[heu];rw[hzu] at hn20;obtain ⟨b20,a20,c20,rfl,hn20⟩:=XD hn20;have hx20:=Qh (w:=w20) #[.bool b20,.slice a20 (wd zu).length c20] 27;obtain ⟨W20,hW20⟩:∃ W,w20.alloc (.cells #[.bool b20,.slice a20 (wd zu).length c20] 27)=W:=⟨_,rfl⟩
        rw[hW20] at hx20;have HW20:=hd_ hW20;clear hW20;have hb6:Below w16.heap.size w16 W20:=hb20.trans (hx20.2.mono hb20.size);have h520:Below w5.heap.size w5 W20:=H16.a.trans (hb6.mono H16.a.size);have hby:=Q7 H4.c h520;have hbt:=Q7 H4.a.1 h520;have hbu:=Q7 H4.b h520;have y0:=Q3 hby 0 rfl;have p0:=Q3 hbt 0 rfl;have p1:=Q3 hbt 1 rfl;have p2:=Q3 hbt 2 rfl;have r0:=Q3 hbu 0 rfl;have r1:=Q3 hbu 1 rfl;have r2:=Q3 hbu 2 rfl;have H20:=h5_ (hn20.below hx20.2) h520 hx20.1 (H16.B.past hb6) hb20.size;clear hn20 hb20 hx20 hb6 h520 hby hbt hbu g0 g1 h0 h1;dsimp only;cases hev:Tp.ev ml u with
        | none=>
         obtain rfl:eu=31:=(by rw[←heu,hev];rfl);have hul:(0:Int) < (u.l.length:Int):=(by have:=List.length_pos_iff.2 (Tp.Q4a hev);omega);have hul2:0 < u.l.length:=List.length_pos_iff.2 (Tp.Q4a hev);clear heu hzu hev;go_wp2_with (refine Q8 rfl 27 _ _ rfl 27 #[.bool false,.slice none 0 0] #[.bool b20,.slice a20 (wd zu).length c20] rfl rfl rfl QX (by simp[Value.oneCell']) ?_;rw[HW20.o]);go_ret;exact ⟨rfl,(HM.o _ (H4.f.trans (H20.b.mono H4.f.size))).2.2⟩
        | some k=>
         obtain rfl:eu=0:=(by rw[←heu,hev];rfl);obtain rfl:zu=k:=(by rw[←hzu,hev];rfl);obtain ⟨rr,hr1,hr2⟩:=Tp.Q7Y (s:=s) HK.a.2.1 HK.c HEV.o hev;have hku:=Q7L HMQ.D HK.b hev;have HKU:=h3_ hr1 hr2 hku;clear heu hzu hev hr1 hr2 hku;go_wp2_with (refine Q8 rfl 27 _ _ rfl 27 #[.bool false,.slice none 0 0] #[.bool b20,.slice a20 (wd zu).length c20] rfl rfl rfl QX (by simp[Value.oneCell']) ?_;rw[HW20.o]);refine eH_ (Q3j (H4.a.2.2.1.below H20.b) (H4.d.below H20.b) HK.a.2.1 HK.c.rise HK.a.1 HK.b (by decide) (by decide) s) ?_;rintro r w21 ⟨v21,rfl,m21,hb21⟩;have hm21:=H20.d.past hb21;clear p0 p1 p2 r0 r1 r2 y0;dsimp only;go_wp2_with fail;refine eH_ (YR m21 hm21.read HMQ.b (by have:=HMQ.c;omega) (K:=4010) (M:=13) (Q6K HK.a.1 HK.a.2.1 HK.b HK.c.rise s) HMQ.D (by decide)) ?_;rintro r w22 ⟨v22,rfl,hn22,hb22⟩;rw[HKU.a] at hn22 ⊢;replace hn22:Num w22 v22 rr:=hn22;obtain ⟨b22,a22,c22,rfl,hn22⟩:=XD hn22;have hx22:=Qh (w:=w22) #[.bool b22,.slice a22 (wd rr).length c22] 27;obtain ⟨W22,hW22⟩:∃ W,w22.alloc (.cells #[.bool b22,.slice a22 (wd rr).length c22] 27)=W:=⟨_,rfl⟩
         rw[hW22] at hx22;have HW22:=hd_ hW22;clear hW22;have hbE:Below W20.heap.size W20 w22:=hb21.trans (hb22.mono hb21.size);have hb6:Below W20.heap.size W20 W22:=hbE.trans (hx22.2.mono hbE.size);have hm22:=H20.d.past hb6;have hbk:=Q7 H20.c hb6;have k0:=Q3 hbk 0 rfl;have k1:=Q3 hbk 1 rfl;have h522:Below w5.heap.size w5 W22:=H20.b.trans (hb6.mono H20.b.size);have hlt22:w5.heap.size < w22.heap.size:=(by have:=hbE.size;have:=Q4 H20.c;have:=H16.a.size;have:=H20.E;omega);have H22:=h6_ (hn22.below hx22.2) (H20.a.below hb6) hm22 h522 hx22.1 hlt22;clear m21 hb21 hm21 hn22 hb22 hx22 hbE hb6 hm22 hbk h522 hlt22;dsimp only;go_wp2_with (refine Q8 rfl 27 _ _ rfl 27 #[.bool false,.slice none 0 0] #[.bool b22,.slice a22 (wd rr).length c22] rfl rfl rfl QX (by simp[Value.oneCell']) ?_;rw[HW22.o]);refine eH_ (Z6 H22.c (fun k hk=> eE_ H22.d.size hk) HMQ.b (by have:=HMQ.c;omega) H22.d.size s H22.b) ?_;rintro r w23 ⟨rfl,hmo,hfr⟩;have hb23:Below w5.heap.size w5 w23:=H22.d.trans (hfr.below (rl_ _) (fun k hk=> hk) H22.d.size);have hn23:=H22.c.num hfr H22.a;have hbr:=hfr.cells H22.e (by have:=H22.F;omega) (by decide);have hbt:=Q7 H4.a.1 hb23;have p0:=Q3 hbt 0 rfl;have p1:=Q3 hbt 1 rfl;have p2:=Q3 hbt 2 rfl;have H23:=h4_ hmo hb23 hn23 hbr;clear hmo hfr hb23 hn23 hbr hbt k0 k1;dsimp only;go_wp2_with fail;refine eH_ (YR (H4.a.2.2.1.below H23.b) H23.a.read (Tp.GO HMQ.b s zu) (by have:=HMQ.c;have:=Q0s ml s zu;omega) (K:=1000) (M:=2013) HK.a.1 (Q7Z (fun x=> (HMQ.D x).mono (by decide)) HKU.C s) (by decide)) ?_;rintro r w26 ⟨v26,rfl,hn26,hb26⟩;rw[HKU.b] at hn26 ⊢;replace hn26:Num w26 v26 rr:=hn26;obtain ⟨b26,a26,c26,rfl,hn26⟩:=XD hn26;have hx26:=Qh (w:=w26) #[.bool b26,.slice a26 (wd rr).length c26] 27;obtain ⟨W26,hW26⟩:∃ W,w26.alloc (.cells #[.bool b26,.slice a26 (wd rr).length c26] 27)=W:=⟨_,rfl⟩
         rw[hW26] at hx26;have HW26:=hd_ hW26;clear hW26;have hb6:Below w23.heap.size w23 W26:=hb26.trans (hx26.2.mono hb26.size);have hb30:=Q7 H23.D hb6;have q0:=Q3 hb30 0 rfl;have q1:=Q3 hb30 1 rfl;have q2:=Q3 hx26.1 0 rfl;have q3:=Q3 hx26.1 1 rfl;have hrb:Bd 8033 rr:=Q7L HMQ.D (Q6K HK.a.1 HK.a.2.1 HK.b HK.c.rise s) HKU.a;have H26:=h4_ (hn26.below hx26.2) (H23.c.below hb6) (H23.b.trans (hb6.mono H23.b.size)) hrb;clear hn26 hb26 hx26 hb6 hb30 hrb p0 p1 p2;dsimp only;go_wp2_with (refine Q8 rfl 27 _ _ rfl 27 #[.bool false,.slice none 0 0] #[.bool b26,.slice a26 (wd rr).length c26] rfl rfl rfl QX (by simp[Value.oneCell']) ?_;rw[HW26.o]);refine eH_ (Q38 H26.b H26.a (eE_ H26.D.len (by decide)) (eE_ H26.D.len (by decide))) ?_;rintro r w27 ⟨rfl,hb27⟩;rw[show icmp rr rr=0 from by unfold icmp;rw[if_neg (Int.lt_irrefl _),if_pos rfl]];have H27:=hd_ hb27;clear hb27;dsimp only;go_wp2_with fail;go_ret;exact ⟨rfl,(HM.o _ (H4.f.trans ((H26.c.trans (H27.o.mono H26.c.size)).mono H4.f.size))).2.2⟩
open Go.ChangeShapes Go.WideShapes Go.ChangeAt Go.RowKit Go.Deep Go.Joins
theorem Q2z {H:Type} {enc:TypeId × Value→H} {r:Reach} {b0:Nat} {d:DataW H} {p:List MemPlace} (hv:Value.okWide prog w r b0 54 v) (h:DataW.Trod enc prog w 0 (fun _=> true) held 54 v d p):
  ∃ l:List (Tp.Nm × Int),RdS w (fun k=> k < w.heap.size) 2 v l.length (ptCells l):=by
 obtain ⟨fuel,hf⟩:=h;have hc:Cell.okWide prog w r b0 54 v:=by
  unfold Value.okWide at hv;rw[underlying54] at hv;exact hv
 have h1:∃ a n c,v= .slice a n c:=by
  have hc2:=hc;unfold Cell.okWide at hc2;rw[underlying54] at hc2;simp only[Cell.ok,underlying54] at hc2;cases v with
  | slice a n c=> exact ⟨a,n,c,rfl⟩
  | _=> exact hc2.elim
 obtain ⟨a,n,c,rfl⟩:=h1;exact DV hf fun a' n' c' e=> by
  injection e with e1 e2 e3;subst e1;exact Gm underlying54 hc
open Go.ChangeShapes Go.WideShapes Go.ChangeAt Go.RowKit Go.Deep
theorem Zc {H:Type} {enc:TypeId × Value→H} {P:Program} {base:Nat} {spare:Nat→Bool} {args:Array Value} {ds:List (DataW H)} {ps:List MemPlace} (h:DataW.TrodAll enc P w base spare held (#[56,9,56,54]:Array TypeId).toList args.toList ds ps):
  ∃ v0 v1 v2 v3 d0 d1 d2 d3 p0 p1 p2 p3,DataW.Trod enc P w base spare held 56 v0 d0 p0∧DataW.Trod enc P w base spare held 9 v1 d1 p1∧DataW.Trod enc P w base spare held 56 v2 d2 p2∧DataW.Trod enc P w base spare held 54 v3 d3 p3∧args= #[v0,v1,v2,v3]∧ds= [d0,d1,d2,d3]:=by
 obtain ⟨v0,ls0,d0,es0,p0,q0,e0,f0,_,h0,h⟩:=trodAll_cons h;obtain ⟨v1,ls1,d1,es1,p1,q1,e1,f1,_,h1,h⟩:=trodAll_cons h;obtain ⟨v2,ls2,d2,es2,p2,q2,e2,f2,_,h2,h⟩:=trodAll_cons h;obtain ⟨v3,ls3,d3,es3,p3,q3,e3,f3,_,h3,h⟩:=trodAll_cons h;obtain ⟨e,f,_⟩:=trodAll_nil h;refine ⟨v0,v1,v2,v3,d0,d1,d2,d3,p0,p1,p2,p3,h0,h1,h2,h3,?_,?_⟩
 ·apply Array.toList_inj.1;rw[e0,e1,e2,e3,e]
 ·rw[f0,f1,f2,f3,f]
theorem Gx {H:Type} {enc:TypeId × Value→H} (W:World) (args:Array Value) (ds:List (DataW H)):
  LawWalk enc prog 5 Tryz.f5 W args ds:=by
 intro base hval p hA hlt;have hA':DataW.TrodAll enc prog W 0 (fun _=> true) true Tryz.f5.params.toList args.toList ds p:=hA;rw[Tryz.params5] at hA' hval;obtain ⟨v0,v1,v2,v3,d0,d1,d2,d3,p0,p1,p2,p3,h0,h1,h2,h3,hargs,hds⟩:=Zc hA';have g0:=hval 0 56 v0 rfl (by rw[hargs];rfl);have g1:=hval 1 9 v1 rfl (by rw[hargs];rfl);have g2:=hval 2 56 v2 rfl (by rw[hargs];rfl);have g3:=hval 3 54 v3 rfl (by rw[hargs];rfl);obtain ⟨vp0,n0,ps0,rfl,hp0,ha0,hb0⟩:=Q2q g0 h0;obtain ⟨s1,rfl,_,_⟩:=Go.ChangeMaps.open_string underlying9 g1 h1;obtain ⟨vp2,n2,ps2,rfl,hp2,ha2,hb2⟩:=Q2q g2 h2;obtain ⟨ps3,hp3⟩:=Q2z g3 h3;rw[hargs];exact Q2y hp0 (fun k hk=> hk) ha0 hb0 hp2 (fun k hk=> hk) ha2 hb2 hp3 (fun k hk=> hk) s1.data.toList
theorem JI (os:Os) (started:os.Started) (H:Type) (enc:TypeId × Value→H):
  ReturnsInHanded {} Tryz.checked os 5 .any (fun w args=> (Rows.termValuesSpec.pre enc prog Tryz.f5 Rows.termValuesRow.domain false w args∧laidMetH prog theLaid w)∧sizedMet enc prog Tryz.f5 (OpenSpec.ofChange Rows.termValuesSpec) false w args)
   (Rows.termValuesSpec.post enc prog Tryz.f5 false true false false):=by
 refine returnsInHanded_of_change_and (C:=Tryz.checked) (X:=fun w _=> laidMetH prog theLaid w) (fun _ _ _ hh h=> h.of_heap hh) own started (by kernel_rfl) Tryz.func5
  (ChangeSpec.witness_shaped (enc:=enc) (C:=Tryz.checked) (os:=os) (X:=fun w _=> laidMetH prog theLaid w) false (World.laidAll prog os theLaid) #[.agg #[.slice none 0 0,.int .i64 0],.string ⟨#[]⟩,.agg #[.slice none 0 0,.int .i64 0],.slice none 0 0] 8 (World.laidAll_os _ _ _)
   (World.shaped_of_ZipB (by kernel_rfl) (by kernel_rfl)) (by kernel_rfl) (by kernel_rfl) (by kernel_rfl) (by rw[Q3I];exact Q6I os _)) ?_
 intro W base args ds gs before hval hW _ _ _ _;have hA:=hW;obtain ⟨p,q,hA,_⟩:=hA;have hA':DataW.TrodAll enc prog W 0 (fun _=> true) true Tryz.f5.params.toList args.toList ds p:=hA;rw[Tryz.params5] at hA';obtain ⟨v0,v1,v2,v3,d0,d1,d2,d3,p0,p1,p2,p3,h0,h1,h2,h3,hargs,hds⟩:=Zc hA';subst hds;exact Q0Z (s:=Rows.termValuesSpec) laidOut (by kernel_rfl) rfl underlying4 rfl ⟨rfl,rfl,rfl⟩ hval hW (Gx W _ _)
theorem Gy:Rows.TermValuesSaid:=
 OpenClaim.holds_of_wide 5 Tryz.f5 rfl rfl rfl rfl rfl rfl rfl ⟨rfl,rfl,rfl,rfl,rfl⟩ rfl rfl rfl rfl rfl (by kernel_rfl) Tryz.func5 (by kernel_rfl)
  (of_decide_eq_true (by kernel_rfl)) (by unfold Func.isWrapper;first | (rw[if_pos (by decide+kernel)];kernel_rfl) | (rw[if_neg (by decide+kernel)];exact ⟨rfl,rfl⟩))
  (fun os started H enc _=> JI os started H enc)
theorem term_values:Rows.TermValuesCardSaid:=
 Claim7.holds_tied_plain_at .later [] [.data,.data,.data,.data,.pinned] true (true, "1767b20c967919e07a4a4d1553bb054857694d9f9e3c2f504ec77a018f485c03") false Gy (fun _ h=> by cases h) (by kernel_rfl) (fun _ h=> by cases h) termValues_row_tie rfl ⟨rfl,rfl⟩ (by kernel_rfl) rfl
  (fun f fn hf hfn=> by
   obtain rfl:f=5:=Option.some.inj ((show prog.funcNamed "touchstone/touchstonelaw13.TermValues" =some 5 by kernel_rfl).symm.trans hf) |>.symm;obtain rfl:fn=Tryz.f5:=(Option.some.inj (Tryz.func5.symm.trans hfn)).symm;exact ⟨by kernel_rfl,fun j t ht=> by
    rw[Tryz.params5] at ht;have hm:t∈ [56,9,56,54]:=(by simpa using Array.mem_of_getElem? ht);have hall:([56,9,56,54].all fun u=> !prog.wantsStandIn u)=true:=(by kernel_rfl);exact (show prog.wantsStandIn t=false by simpa using List.all_eq_true.1 hall t hm)⟩)
  (by kernel_rfl)
end Go.Proofs.YtiecccakcenobaaGreatDoor
