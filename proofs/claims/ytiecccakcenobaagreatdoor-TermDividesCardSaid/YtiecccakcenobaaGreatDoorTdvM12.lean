/- TermDivides: for every sum and every number the law returns true. Condition: the listed package-level variables are laid as the program's text lays them (the card ties them). -/
import Derived.Test.YtiecccakcenobaaGreatDoorTdvM11
set_option linter.all false
set_option maxRecDepth 100000
set_option maxHeartbeats 64000000
namespace Go.Proofs.YtiecccakcenobaaGreatDoor
open Go.Proofs.Tryz
open Go.RowKit
variable {cs:Array Value} {a b n x z:Int} {zs:List Int} {K g i m o0 o1 o2 o3 o4 x0 x1 x2 x3 x4:Nat} {P:Program} {l:Tp.L} {t:Tp.T} {u0 u1 u2 u3 u4 v va vb vn vt:Value} {w wP wr:World}
theorem JE {fn:Func} {p q:Tmp} {ty ty2:TypeId} (h:fn.results= #[.cell p ty,.cell q ty2]) (tmps:Array Value) (w:World) (g g2:Nat) (t t2:TypeId) (cs cs2:Array Value) (fr fr2:Nat × Nat) (d d2:TypeDesc)
  (hp:tmps.getD p undef= .pointer (some ⟨g,0,none⟩)) (hq:tmps.getD q undef= .pointer (some ⟨g2,0,none⟩)) (hg:w.heap[g]? =some (.cells cs t fr)) (hg2:w.heap[g2]? =some (.cells cs2 t2 fr2))
  (hu:P.underlying ty=some d) (hd:(match d with | .struct _ | .array _ _=> true | _=> false)=true) (hi:(P.info? ty).map (·.size)=some cs.size)
  (hu2:P.underlying ty2=some d2) (hd2:(match d2 with | .struct _ | .array _ _=> true | _=> false)=true) (hi2:(P.info? ty2).map (·.size)=some cs2.size):
  (results fn tmps).run P w= .ok (.tuple #[.agg cs,.agg cs2]) w:=by
 have hp':tmps[p]?.getD undef= .pointer (some ⟨g,0,none⟩):=by simpa using hp
 have hq':tmps[q]?.getD undef= .pointer (some ⟨g2,0,none⟩):=by simpa using hq
 simp[results,h,hp',hq',asAddr,run_loadVar_row w g t ty cs fr d hg hu hd hi,run_loadVar_row w g2 t2 ty2 cs2 fr2 d2 hg2 hu2 hd2 hi2]
def r0 (a b:Int):Int:=sgn a*((a.natAbs % b.natAbs:Nat):Int)
theorem Q61 (hb:b≠0) (h:¬ sgn (r0 a b) < 0):a % b=r0 a b:=by
 have h1:=Q0j (a:=a) hb;unfold r0 at*;generalize a.natAbs % b.natAbs=R at*;have hz:a=0->R=0->True:=fun _ _=> trivial;rcases X2 a with ⟨ha,hs⟩ | ⟨ha,hs⟩ | ⟨ha,hs⟩
 ·rw[hs,Int.zero_mul,ha,Int.zero_emod]
 ·rw[hs,Int.one_mul];exact (h1 (fun h=> by omega)).2
 ·rw[hs] at h |-;have:R=0:=by
   rcases Nat.eq_zero_or_pos R with h2 | h2
   ·exact h2
   ·refine absurd ?_ h;unfold sgn;rw[if_pos (by omega)];decide
  rw[(h1 (fun h2=> h2.2 this)).2,this];rfl
theorem Q7z (hb:b≠0) (h:sgn (r0 a b) < 0):a % b=r0 a b+((b.natAbs:Nat):Int):=by
 have h1:=Q2L (a:=a) hb;have h2:r0 a b < 0:=by
  rcases X2 (r0 a b) with h3 | h3 | h3 <;> omega
 unfold r0 at*;generalize a.natAbs % b.natAbs=R at*;rcases X2 a with ⟨ha,hs⟩ | ⟨ha,hs⟩ | ⟨ha,hs⟩
 ·rw[hs] at h2;omega
 ·rw[hs] at h2;omega
 ·rw[hs] at h2 |-;rw[(h1 ha (by omega)).2];omega
theorem Yp (h:Zn w v z):∃ (s:Int) (a:Option Addr) (l c:Nat),v= .agg #[.int .i64 s,.slice a l c]/\s=sgn z/\l=(dg z).length/\Zn w (.agg #[.int .i64 s,.slice a l c]) z:=by
 obtain ⟨a,c,rfl,_⟩:=h.form;exact ⟨_,a,_,c,rfl,rfl,rfl,h⟩
theorem Q8M (a b:Int):(r0 a b).natAbs<=a.natAbs:=by
 unfold r0;rw[Int.natAbs_mul,Int.natAbs_natCast];have h1:(sgn a).natAbs<=1:=by have:=UV a;omega
 have h2:=Nat.mod_le a.natAbs b.natAbs;have h3:=Nat.mul_le_mul h1 h2;omega
theorem Q4O {W:World} {g2 B:Nat} {cs2:Array Value} {x0 x1 y0 y1:Value} {q r:Int} (hg:W.heap[g]? =some (.cells cs 48 (0,0))) (hg2:W.heap[g2]? =some (.cells cs2 48 (0,0))) (hne:g2≠g) (hs:cs.size=2) (hs2:cs2.size=2) (nq:Zn W (.agg #[x0,x1]) q) (nr:Zn W (.agg #[y0,y1]) r) (hb:Below B w W) (hB:B<=g) (hB2:B<=g2):
  ∃ W',((((W.setCell ⟨g,0,none⟩ x0).setCell ⟨g,1,none⟩ x1).setCell ⟨g2,0,none⟩ y0).setCell ⟨g2,1,none⟩ y1).drew=W'/\W'.heap[g]? =some (.cells #[x0,x1] 48 (0,0))/\W'.heap[g2]? =some (.cells #[y0,y1] 48 (0,0))/\Zn W' (.agg #[x0,x1]) q/\Zn W' (.agg #[y0,y1]) r/\Below B w W':=by
 have h2:(W.setRow g #[x0,x1]).heap[g2]? =some (.cells cs2 48 (0,0)):=by rw[Q8 hne];exact hg2
 refine ⟨_,rfl,?_⟩;rw[YD hg hs,YD h2 hs2];have hf:=(Qe (vs:= #[x0,x1]) hg).trans (Qe (vs:= #[y0,y1]) h2);exact ⟨by show ((W.setRow g #[x0,x1]).setRow g2 #[y0,y1]).heap[g]? =_;rw[Q8 (fun h=> hne h.symm)];exact Qb hg,Qb h2,(nq.frt hf (by decide)).below (eB_ _ _).drew,(nr.frt hf (by decide)).below (eB_ _ _).drew,(Q9 (Q9 hb hB _) hB2 _).drew⟩
theorem ZD {y:Int} (h:x.natAbs<=y.natAbs):(dg x).length<=(dg y).length:=JV h
def RmOut (w:World) (r:Int) (e:Ending) (w':World):Prop:=∃ vq vr q,e= .returned (.tuple #[vq,vr])/\Zn w' vq q/\Zn w' vr r/\Below w.heap.size w w'
theorem JF (ha:Zn w va a) (hb:Zn w vb b) (h0:b≠0) (hla:(dg a).length<=1000000) (hlb:(dg b).length<=1000000):
  Calls prog 35 #[va,vb] w (RmOut w (a % b)):=by
 obtain ⟨aa,ca,rfl,hra⟩:=ha.form;obtain ⟨ab,cb,rfl,hrb⟩:=hb.form;have hba:=UV a;have hbb:=UV b;obtain ⟨sa,hsa⟩:∃ s,sgn a=s:=⟨_,rfl⟩
 obtain ⟨sb,hsb⟩:∃ s,sgn b=s:=⟨_,rfl⟩
 rw[hsa] at ha hba |-;rw[hsb] at hb hbb |-;have hss:sa*sb=1\/sa*sb=-1\/a.natAbs / b.natAbs=0:=by
  rw[<-hsa, <-hsb];rcases X2 a with ⟨h1,h2⟩ | ⟨h1,h2⟩ | ⟨h1,h2⟩
  ·rw[h1];exact Or.inr (Or.inr (Nat.zero_div _))
  ·rcases X2 b with h3 | h3 | h3
   ·exact absurd h3.1 h0
   ·rw[h2,h3.2];exact Or.inl rfl
   ·rw[h2,h3.2];exact Or.inr (Or.inl rfl)
  ·rcases X2 b with h3 | h3 | h3
   ·exact absurd h3.1 h0
   ·rw[h2,h3.2];exact Or.inr (Or.inl rfl)
   ·rw[h2,h3.2];exact Or.inl rfl
 have hs2:sa=1\/sa=-1\/a.natAbs % b.natAbs=0:=by
  rw[<-hsa];rcases X2 a with ⟨h1,h2⟩ | ⟨h1,h2⟩ | ⟨h1,h2⟩
  ·rw[h1];exact Or.inr (Or.inr (Nat.zero_mod _))
  ·exact Or.inl h2
  ·exact Or.inr (Or.inl h2)
 obtain ⟨ss,hse⟩:∃ s:Int,sa*sb=s:=⟨_,rfl⟩
 have hsw:ss=1\/ss=-1\/ss=0:=by
  have h1:sa=-1\/sa=0\/sa=1:=by omega
  rw[<-hse];rcases h1 with rfl | rfl | rfl <;> omega
 rw[hse] at hss;have hrz:r0 a b=sa*((a.natAbs % b.natAbs:Nat):Int):=by unfold r0;rw[hsa]
 have hqa:(ss*((a.natAbs / b.natAbs:Nat):Int)).natAbs<=a.natAbs:=by
  rw[Int.natAbs_mul,Int.natAbs_natCast];have h3:=Nat.mul_le_mul (show ss.natAbs<=1 by omega) (Nat.div_le_self a.natAbs b.natAbs);omega
 have hbx:=box4 w #[.int .i64 sa,.slice aa (dg a).length ca] 48 #[.int .i64 sb,.slice ab (dg b).length cb] 48 #[.int .i64 0,.slice none 0 0] 48 #[.int .i64 0,.slice none 0 0] 48;obtain ⟨V,hV⟩:∃ V,(((w.alloc (.cells #[.int .i64 sa,.slice aa (dg a).length ca] 48)).alloc (.cells #[.int .i64 sb,.slice ab (dg b).length cb] 48)).alloc (.cells #[.int .i64 0,.slice none 0 0] 48)).alloc (.cells #[.int .i64 0,.slice none 0 0] 48)=V:=⟨_,rfl⟩
 rw[hV] at hbx;have HV:=hd_ hV;have HB:=hd_ hbx;have HH:=h9_ hra hrb h0 hla hlb hss hs2 hrz hqa;have hsb1: -1<=ss:=by omega
 have hsb2:ss<=1:=by omega
 have a0:=Q3 hbx.1 0 rfl;have a1:=Q3 hbx.1 1 rfl;have b0:=Q3 hbx.2.1 0 rfl;have b1:=Q3 hbx.2.1 1 rfl;clear ha hb hra hrb h0 hla hlb hss hs2 hrz hqa hV hbx hsw hsa hsb;go_in;go_wp2_with fail;rw[HV.o];refine eH_ (Ln (Y:=b.natAbs) (HH.a.below HB.e) (HH.b.below HB.e) HH.d HH.e (Yo a) (Int.natAbs_pos.2 HH.c)) ?_;rintro e w1 ⟨v1,v1r,os,rfl,hq,hqd,hql,hqv,hr,hb1⟩;rw[XR] at hqv hr;have hA1:=Q7 HB.a hb1;have hB1:=Q7 HB.b hb1;have H1:=h6_ hq hqd hql hqv hr hb1;clear a0 a1 b0 b1;have a0:=Q3 hA1 0 rfl;have b0:=Q3 hB1 0 rfl;clear hq hqd hql hqv hr hb1 hA1 hB1;dsimp only;go_wp2_with fail;refine eH_ (X4 H1.a (by rw[H1.c];exact eE_ HH.d (by decide)) H1.b ss (ss*((a.natAbs / b.natAbs:Nat):Int)) (by rw[H1.d]) (by rw[H1.d];exact HH.f)) ?_;rintro e w2 ⟨v2,rfl,hn2,hb2⟩;obtain ⟨sq,aq,lq,cq,rfl,-,-,hn2⟩:=Yp hn2;have hx2:=Qh (w:=w2) #[.int .i64 sq,.slice aq lq cq] 48;obtain ⟨W2,hW2⟩:∃ W,w2.alloc (.cells #[.int .i64 sq,.slice aq lq cq] 48)=W:=⟨_,rfl⟩
 rw[hW2] at hx2;have HW2:=hd_ hW2;have h12:Below w1.heap.size w1 W2:=hb2.trans (hx2.2.mono hb2.size);have h1V:Below V.heap.size V W2:=H1.F.trans (h12.mono H1.F.size);have hA2:=Q7 HB.a h1V;have H2:=h5_ (hn2.below hx2.2) hx2.1 h12 h1V (by have:=HB.F;have:=H1.F.size;have:=hb2.size;omega:w.heap.size+4<=w2.heap.size);clear a0 b0;have a0:=Q3 hA2 0 rfl;clear hn2 hb2 hx2 hW2 h12 h1V hA2;dsimp only;go_wp2_with (refine Qa rfl 48 _ _ rfl 48 #[.int .i64 0,.slice none 0 0] #[.int .i64 sq,.slice aq lq cq] rfl rfl rfl X1 (by simp[Value.oneCell']) ?_;rw[HW2.o]);refine eH_ (X4 (H1.e.below H2.c) (eE_ (JV (Nat.mod_le _ _)) (eE_ HH.d (by decide))) (Zp.Qo (by decide) _) sa (r0 a b) (by rw[Zp.Qi (by decide)];exact HH.h) (by rw[Zp.Qi (by decide)];exact HH.g)) ?_;rintro e w3 ⟨v3,rfl,hn3,hb3⟩;obtain ⟨sr,ar,lr,cr,rfl,hsr,-,hn3⟩:=Yp hn3;have HSR:=hd_ hsr;clear hsr;have hx3:=Qh (w:=w3) #[.int .i64 sr,.slice ar lr cr] 48;obtain ⟨W3,hW3⟩:∃ W,w3.alloc (.cells #[.int .i64 sr,.slice ar lr cr] 48)=W:=⟨_,rfl⟩
 rw[hW3] at hx3;have HW3:=hd_ hW3;have h23:Below W2.heap.size W2 W3:=hb3.trans (hx3.2.mono hb3.size);have hV3:Below V.heap.size V W3:=H2.d.trans (h23.mono H2.d.size);have hq3:=Q7 H2.b h23;have q2:=Q7 HB.c hV3;have q3:=Q7 HB.d hV3;have qB:=Q7 HB.b hV3;have hlt2:w.heap.size+4<=w2.heap.size:=H2.E;have hlt3:w2.heap.size < w3.heap.size:=eI_ (Q4 H2.b) hb3.size;have H3:=h11_ (H2.a.below h23) (hn3.below hx3.2) hq3 hx3.1 q2 q3 qB (HB.e.trans (hV3.mono HB.e.size)) hlt2 hlt3 hV3;have r0_:=Q3 hx3.1 0 rfl;clear a0 hn3 hb3 hx3 hW3 h23 hV3 hq3 q2 q3 qB;dsimp only;by_cases hneg:sr < 0
 ·have hd:decide (sr < 0)=true:=eM_ hneg;go_wp2_with (refine Qa rfl 48 _ _ rfl 48 #[.int .i64 0,.slice none 0 0] #[.int .i64 sr,.slice ar lr cr] rfl rfl rfl X1 (by simp[Value.oneCell']) ?_;rw[HW3.o]);have b1:=Q3 H3.g 1 rfl;have r1_:=Q3 H3.d 1 rfl;have HS5:=ck3_ b1 r0_ r1_;clear b1 r0_ r1_ hd;refine rp_ (s:=HS5) (p:=((eB_ _ _).drew)) (h:=fun hHeld=> ?_);simp only[lA_];refine tk_ 0 rfl ?_;refine tk_ 1 rfl ?_;refine tk_ 2 rfl ?_;try simp only[Act.put,gP_]
  refine rd_ 3 rfl (fun KK hKK=> ?_);simp only[gA_];go_simp;have hbD:=(eB_ W3.heap.size W3).drew;have hV3:Below V.heap.size V W3.drew:=H3.K.trans (hbD.mono H3.K.size);refine eH_ (X4 ((HH.b.below HB.e).below hV3) (eE_ HH.e (by decide)) (Yo b) 1 ((b.natAbs:Nat):Int) (by rw[XR,Int.one_mul]) (Or.inl rfl)) ?_;rintro r w5 ⟨v5,rfl,hn5,hc5⟩;have hb5:=hbD.trans (hc5.mono hbD.size);clear hc5 hV3;dsimp only;refine hKK.out _ _ (HS5.o _ hb5) (fun hHeld=> ?_);clear hKK KK;try simp only[Act.put,sA_]
  refine rd_ 4 rfl (fun KK hKK=> ?_);simp only[gA_];go_simp;refine eH_ (JN (H3.b.below hb5) hn5 (eE_ (ZD (Q8M a b)) (eE_ HH.d (by decide))) (eE_ (ZD (y:=b) (by omega)) (eE_ HH.e (by decide)))) ?_;rintro r w6 ⟨v6,rfl,hn6,hc6⟩;have hb6:=hb5.trans (hc6.mono hb5.size);obtain ⟨s6,a6,l6,c6,rfl,-,-,hn6⟩:=Yp hn6;clear hc6 hn5 hb5 hbD;dsimp only;refine hKK.out _ _ (HS5.o _ hb6) (fun hHeld=> ?_);clear hKK KK;try simp only[Act.put,sA_]
  have r9:=Q7 H3.d hb6;have q8:=Q7 H3.c hb6;have p2:=Q7 H3.e hb6;have p3:=Q7 H3.f hb6;have qB:=Q7 H3.g hb6;have hlt3:=H3.j;have hlt2:=H3.i;clear hHeld;refine wpAnyH_done (by kernel_rfl) ?_ _;unfold PeelQ;dsimp only;refine Qs _ _ _ rfl 48 w3.heap.size #[.int .i64 sr,.slice ar lr cr] #[.int .i64 s6,.slice a6 l6 c6] rfl r9 rfl rfl X1 (by simp[Value.oneCell']) ?_;obtain ⟨W7,hW7⟩:∃ W,w6.setRow w3.heap.size #[.int .i64 s6,.slice a6 l6 c6]=W:=⟨_,rfl⟩
  have k9:W7.heap[w3.heap.size]? =some (.cells #[.int .i64 s6,.slice a6 l6 c6] 48 (0,0)):=by rw[<-hW7];exact Qb r9
  have k8:W7.heap[w2.heap.size]? =some (.cells #[.int .i64 sq,.slice aq lq cq] 48 (0,0)):=by rw[<-hW7,Q8 (by omega)];exact q8
  have k2:W7.heap[w.heap.size+1+1]? =some (.cells #[.int .i64 0,.slice none 0 0] 48 (0,0)):=by rw[<-hW7,Q8 (by omega)];exact p2
  have k3:W7.heap[w.heap.size+1+1+1]? =some (.cells #[.int .i64 0,.slice none 0 0] 48 (0,0)):=by rw[<-hW7,Q8 (by omega)];exact p3
  have kB:W7.heap[w.heap.size+1]? =some (.cells #[.int .i64 sb,.slice ab (dg b).length cb] 48 (0,0)):=by rw[<-hW7,Q8 (by omega)];exact qB
  have fr:FrT [48] w6 W7:=by rw[<-hW7];exact Qe r9
  have hb7:Below w.heap.size w W7:=by rw[<-hW7];exact Q9 (H3.h.trans (hb6.mono H3.h.size)) (by omega) _
  rw[hW7];have H7:=h7_ k9 k8 k2 k3 (hn6.frt fr (by decide)) ((H3.a.below hb6).frt fr (by decide)) hb7;have b0:=Q3 kB 0 rfl;have q0_:=Q3 k8 0 rfl;have q1_:=Q3 k8 1 rfl;have HS6:=ck3_ b0 q0_ q1_;clear b0 q0_ q1_ hn6 hb6 r9 q8 p2 p3 qB hW7 k9 k8 k2 k3 kB fr hb7 hlt2 hlt3;have hng:IntKind.i64.wrap (-sb)=-sb:=by rw[IntKind.wrap_i64];omega
  go_simp;go_wp2_with fail;refine rp_ (s:=HS6) (p:=((eB_ _ _).drew)) (h:=fun hHeld=> ?_);simp only[lA_];refine tk_ 0 rfl ?_;refine tk_ 1 rfl ?_;refine tk_ 2 rfl ?_;refine tk_ 3 rfl ?_;try simp only[Act.put,gP_]
  refine rd_ 4 rfl (fun KK hKK=> ?_);simp only[gA_];go_simp
  (try rw[hng]);clear hng;have hbD:=(eB_ W7.heap.size W7).drew;refine eH_ (YU (-sb) (by omega) (by omega) W7.drew) ?_;rintro r w8 ⟨v8,rfl,hn8,hc8⟩;have hb8:=hbD.trans (hc8.mono hbD.size);clear hc8;dsimp only;refine hKK.out _ _ (HS6.o _ hb8) (fun hHeld=> ?_);clear hKK KK;try simp only[Act.put,sA_]
  refine rd_ 5 rfl (fun KK hKK=> ?_);simp only[gA_];go_simp;refine eH_ (JN (H7.f.below hb8) hn8 (eE_ (ZD HH.I) (eE_ HH.d (by decide))) (by refine eE_ (Zp.QR (by decide) 1 _ ?_) (by decide);omega)) ?_;rintro r w9 ⟨v9,rfl,hn9,hc9⟩;have hb9:=hb8.trans (hc9.mono hb8.size);obtain ⟨s9,a9,l9,c9,rfl,-,-,hn9⟩:=Yp hn9;clear hc9 hn8 hb8 hbD;dsimp only;refine hKK.out _ _ (HS6.o _ hb9) (fun hHeld=> ?_);clear hKK KK;try simp only[Act.put,sA_]
  have r9:=Q7 H7.a hb9;have q8:=Q7 H7.b hb9;have p2:=Q7 H7.c hb9;have p3:=Q7 H7.d hb9;have hlt3:=H3.j;have hlt2:=H3.i;clear hHeld;refine wpAnyH_done (by kernel_rfl) ?_ _;unfold PeelQ;dsimp only;refine Qs _ _ _ rfl 48 w2.heap.size #[.int .i64 sq,.slice aq lq cq] #[.int .i64 s9,.slice a9 l9 c9] rfl q8 rfl rfl X1 (by simp[Value.oneCell']) ?_;obtain ⟨WA,hWA⟩:∃ W,w9.setRow w2.heap.size #[.int .i64 s9,.slice a9 l9 c9]=W:=⟨_,rfl⟩
  have k8:WA.heap[w2.heap.size]? =some (.cells #[.int .i64 s9,.slice a9 l9 c9] 48 (0,0)):=by rw[<-hWA];exact Qb q8
  have k9:WA.heap[w3.heap.size]? =some (.cells #[.int .i64 s6,.slice a6 l6 c6] 48 (0,0)):=by rw[<-hWA,Q8 (by omega)];exact r9
  have k2:WA.heap[w.heap.size+1+1]? =some (.cells #[.int .i64 0,.slice none 0 0] 48 (0,0)):=by rw[<-hWA,Q8 (by omega)];exact p2
  have k3:WA.heap[w.heap.size+1+1+1]? =some (.cells #[.int .i64 0,.slice none 0 0] 48 (0,0)):=by rw[<-hWA,Q8 (by omega)];exact p3
  have fr:FrT [48] w9 WA:=by rw[<-hWA];exact Qe q8
  have hbA:Below w.heap.size w WA:=by rw[<-hWA];exact Q9 (H7.G.trans (hb9.mono H7.G.size)) (by omega) _
  rw[hWA];have HA:=h7_ k8 k9 k2 k3 (hn9.frt fr (by decide)) ((H7.e.below hb9).frt fr (by decide)) hbA;clear hn9 hb9 r9 q8 p2 p3 hWA k8 k9 k2 k3 fr hbA hlt2 hlt3;go_simp;have q0_:=Q3 HA.a 0 rfl;have q1_:=Q3 HA.a 1 rfl;have r0_:=Q3 HA.b 0 rfl;have r1_:=Q3 HA.b 1 rfl;have fz2:=Q6 HA.c 0;have fz3:=Q6 HA.c 1;have fz4:=Q6 HA.d 0;have fz5:=Q6 HA.d 1;have p0:=Q3 HA.c 0 rfl;have p1:=Q3 HA.c 1 rfl;have p2:=Q3 HA.d 0 rfl;have p3:=Q3 HA.d 1 rfl;go_wp2_with fail;go_region;obtain ⟨W9,hW9,g2,g3,n2,n3,hb9⟩:=Q4O HA.c HA.d (by omega) rfl rfl HA.e HA.f HA.G (show w.heap.size<=w.heap.size+1+1 by omega) (show w.heap.size<=w.heap.size+1+1+1 by omega);rw[hW9];have HE:=h5_ g2 g3 n2 n3 hb9;clear hW9 g2 g3 n2 n3 hb9 q0_ q1_ r0_ r1_ fz2 fz3 fz4 fz5 p0 p1 p2 p3;go_wp2_with fail;refine eG_ (JE rfl _ _ (w.heap.size+1+1) (w.heap.size+1+1+1) _ _ _ _ _ _ _ _ rfl rfl HE.a HE.b underlying48 rfl X1 underlying48 rfl X1) rfl ?_;have hmod:=Q7z HH.c (by rw[<-HSR.o];exact hneg);refine ⟨_,_,_,rfl,HE.c,?_,HE.E⟩;rw[hmod];exact HE.d
 ·have hd:decide (sr < 0)=false:=eK_ hneg;have q0_:=Q3 H3.c 0 rfl;have q1_:=Q3 H3.c 1 rfl;have r0_:=Q3 H3.d 0 rfl;have r1_:=Q3 H3.d 1 rfl;have fz2:=Q6 H3.e 0;have fz3:=Q6 H3.e 1;have fz4:=Q6 H3.f 0;have fz5:=Q6 H3.f 1;have p0:=Q3 H3.e 0 rfl;have p1:=Q3 H3.e 1 rfl;have p2:=Q3 H3.f 0 rfl;have p3:=Q3 H3.f 1 rfl;go_wp2_with (refine Qa rfl 48 _ _ rfl 48 #[.int .i64 0,.slice none 0 0] #[.int .i64 sr,.slice ar lr cr] rfl rfl rfl X1 (by simp[Value.oneCell']) ?_;rw[HW3.o]);go_region;obtain ⟨W9,hW9,g2,g3,n2,n3,hb9⟩:=Q4O H3.e H3.f (by omega) rfl rfl H3.a H3.b H3.h (show w.heap.size<=w.heap.size+1+1 by omega) (show w.heap.size<=w.heap.size+1+1+1 by omega);rw[hW9];have HE:=h5_ g2 g3 n2 n3 hb9;clear hW9 g2 g3 n2 n3 hb9 q0_ q1_ r0_ r1_ fz2 fz3 fz4 fz5 p0 p1 p2 p3;go_wp2_with fail;refine eG_ (JE rfl _ _ (w.heap.size+1+1) (w.heap.size+1+1+1) _ _ _ _ _ _ _ _ rfl rfl HE.a HE.b underlying48 rfl X1 underlying48 rfl X1) rfl ?_;have hmod:=Q61 HH.c (by rw[<-HSR.o];omega);refine ⟨_,_,_,rfl,HE.c,?_,HE.E⟩;rw[hmod];exact HE.d
structure GzI (w:World) (G:Nat) (x y:Int) (X Y:Array Value) (wr:World):Prop where
 rx:wr.heap[w.heap.size]? =some (.cells X 48 (0,0))
 ry:wr.heap[w.heap.size+1]? =some (.cells Y 48 (0,0))
 rz:wr.heap[w.heap.size+1+1]? =some (.cells #[.int .i64 0,.slice none 0 0] 48 (0,0))
 nx:Zn wr (.agg X) x
 ny:Zn wr (.agg Y) y
 g:Nat.gcd x.natAbs y.natAbs=G
 lx:(dg x).length<=1000000
 ly:(dg y).length<=1000000
 below:Below w.heap.size w wr
theorem L4 (ha:Zn w va a) (hb:Zn w vb b) (hla:(dg a).length<=1000000) (hlb:(dg b).length<=1000000):
  Calls prog 32 #[va,vb] w fun e w'=> ∃ v,e= .returned v/\Zn w' v ((Nat.gcd a.natAbs b.natAbs:Nat):Int)/\Below w.heap.size w w':=by
 obtain ⟨sx,ax,lx,cx,rfl,hsx,-,ha⟩:=Yp ha;obtain ⟨sy,ay,ly,cy,rfl,hsy,-,hb⟩:=Yp hb;have hbx:=box3 w #[.int .i64 sx,.slice ax lx cx] 48 #[.int .i64 sy,.slice ay ly cy] 48 #[.int .i64 0,.slice none 0 0] 48;obtain ⟨V,hV⟩:∃ V,((w.alloc (.cells #[.int .i64 sx,.slice ax lx cx] 48)).alloc (.cells #[.int .i64 sy,.slice ay ly cy] 48)).alloc (.cells #[.int .i64 0,.slice none 0 0] 48)=V:=⟨_,rfl⟩
 rw[hV] at hbx;have HV:=hd_ hV;obtain ⟨G,hG⟩:∃ G,Nat.gcd a.natAbs b.natAbs=G:=⟨_,rfl⟩
 rw[hG];have h0:GzI w G a b #[.int .i64 sx,.slice ax lx cx] #[.int .i64 sy,.slice ay ly cy] V:=⟨hbx.1,hbx.2.1,hbx.2.2.1,ha.below hbx.2.2.2,hb.below hbx.2.2.2,hG,hla,hlb,hbx.2.2.2⟩
 have H0:=h2_ h0 hsy;clear h0 ha hb hla hlb hV hbx hG hsx hsy;go_in;go_wp2_with fail;rw[HV.o];go_loopg [] b.natAbs (fun k wr=> ∃ (x y:Int) (sx:Int) (ax:Option Addr) (lx cx:Nat) (sy:Int) (ay:Option Addr) (ly cy:Nat),k=y.natAbs/\sy=sgn y/\GzI w G x y #[.int .i64 sx,.slice ax lx cx] #[.int .i64 sy,.slice ay ly cy] wr)
 case atStart=> exact ⟨a,b,_,_,_,_,_,_,_,_,rfl,H0.B,H0.a⟩
 case round=>
  obtain ⟨x,y,sx,ax,lx,cx,sy,ay,ly,cy,hk,hsy,hI⟩:=hrel;have HR:=h3_ hk hI hsy;have x0:=Q3 hI.rx 0 rfl;have x1:=Q3 hI.rx 1 rfl;have y0:=Q3 hI.ry 0 rfl;have y1:=Q3 hI.ry 1 rfl;have hy0:sy=0↔y=0:=by rw[hsy];exact Ym
  clear hk hI hsy;by_cases hs0:sy=0
  ·have HY:=hd_ (hy0.1 hs0);clear hy0;subst hs0;go_wp2_with fail;have hg:=HR.b.g;rw[HY.o,Int.natAbs_zero,Nat.gcd_zero_right] at hg;obtain ⟨ax2,cx2,ex,hxr⟩:=HR.b.nx.form;injection ex with ex;simp only[Array.mk.injEq,List.cons.injEq,Value.slice.injEq,Value.int.injEq,and_true,true_and] at ex;obtain ⟨_,rfl,rfl,rfl⟩:=ex;refine eH_ (X4 hxr (eE_ HR.b.lx (by decide)) (Yo x) 1 ((G:Nat):Int) (by rw[XR,hg,Int.one_mul]) (Or.inl rfl)) ?_;rintro r w3 ⟨v3,rfl,hn3,hb3⟩;obtain ⟨s3,a3,l3,c3,rfl,-,-,hn3⟩:=Yp hn3;have hZ3:=Q7 HR.b.rz hb3;have H3:=h3_ hZ3 hn3 (HR.b.below.trans (hb3.mono HR.b.below.size));clear hZ3 hn3 hb3 hg x0 x1 y0 y1 hxr;dsimp only;go_wp2_with (refine Qc rfl 48 _ _ rfl 48 (w.heap.size+1+1) #[.int .i64 0,.slice none 0 0] #[.int .i64 s3,.slice a3 l3 c3] rfl H3.a rfl rfl X1 (by simp[Value.oneCell']) ?_);refine eG_ (eY_ rfl _ _ (w.heap.size+1+1) _ _ _ _ rfl (Qb H3.a) underlying48 rfl X1) rfl ?_;exact ⟨_,rfl,H3.b.frt (Qe H3.a) (by decide),Q9 H3.C (Nat.le_succ_of_le (Nat.le_succ _)) _⟩
  ·have HY:=hd_ (fun h=> hs0 (hy0.2 h));clear hy0;go_wp2_with fail;refine eH_ (JF HR.b.nx HR.b.ny HY.o HR.b.lx HR.b.ly) ?_;rintro r w3 ⟨v5,v6,q,rfl,hn5,hn6,hb3⟩;obtain ⟨s5,a5,l5,c5,rfl,-,-,hn5⟩:=Yp hn5;obtain ⟨s6,a6,l6,c6,rfl,hs6,-,hn6⟩:=Yp hn6;have hx5:=Qh (w:=w3) #[.int .i64 s5,.slice a5 l5 c5] 48;obtain ⟨W5,hW5⟩:∃ W,w3.alloc (.cells #[.int .i64 s5,.slice a5 l5 c5] 48)=W:=⟨_,rfl⟩
   rw[hW5] at hx5;have hx6:=Qh (w:=W5) #[.int .i64 s6,.slice a6 l6 c6] 48;obtain ⟨W6,hW6⟩:∃ W,W5.alloc (.cells #[.int .i64 s6,.slice a6 l6 c6] 48)=W:=⟨_,rfl⟩
   rw[hW6] at hx6;have HW5:=hd_ hW5;have HW6:=hd_ hW6;have hs5:W5.heap.size=w3.heap.size+1:=(by rw[<-hW5, <-Q5]);have h36:Below w3.heap.size w3 W6:=hx5.2.trans (hx6.2.mono hx5.2.size);have h26:Below wr.heap.size wr W6:=hb3.trans (h36.mono hb3.size);have hX6:=Q7 HR.b.rx h26;have hY6:=Q7 HR.b.ry h26;have hZ6:=Q7 HR.b.rz h26;have hwW6:Below w.heap.size w W6:=HR.b.below.trans (h26.mono HR.b.below.size);have hlt6:=Q4 HR.b.rz;have hge:=hb3.size;have hx6r:W6.heap[w3.heap.size+1]? =some (.cells #[.int .i64 s6,.slice a6 l6 c6] 48 (0,0)):=(by rw[<-hs5];exact hx6.1);have H6:=h7_ hX6 hY6 hZ6 hwW6 (HR.b.ny.below h26) ((hn6.below hx5.2).below hx6.2) (show w.heap.size+1+1 < w3.heap.size by omega);have hx6s:(W6.setRow w.heap.size #[.int .i64 sy,.slice ay ly cy]).heap[w3.heap.size+1]? =some (.cells #[.int .i64 s6,.slice a6 l6 c6] 48 (0,0)):=(by rw[Q8 (by omega)];exact hx6r);have hYs:(W6.setRow w.heap.size #[.int .i64 sy,.slice ay ly cy]).heap[w.heap.size+1]? =some (.cells #[.int .i64 sy,.slice ay ly cy] 48 (0,0)):=(by rw[Q8 (by omega)];exact hY6);have HK:=h3_ hx6s hYs hs6;have y0':=Q3 hY6 0 rfl;have y1':=Q3 hY6 1 rfl;have r0':=Q3 hx6s 0 rfl;have r1':=Q3 hx6s 1 rfl;clear hn5 hn6 hb3 hx5 hx6 hW5 hW6 hs5 h36 h26 hX6 hY6 hZ6 hwW6 hlt6 hge hx6r x0 x1 y0 y1 hx6s hYs hs6;rw[<-HW6.o, <-HW5.o] at y0' y1';dsimp only;go_wp2_with (first | (refine Qa rfl 48 _ _ rfl 48 #[.int .i64 0,.slice none 0 0] #[.int .i64 s5,.slice a5 l5 c5] rfl rfl rfl X1 (by simp[Value.oneCell']) ?_;rw[HW5.o]) | (refine Qa rfl 48 _ _ rfl 48 #[.int .i64 0,.slice none 0 0] #[.int .i64 s6,.slice a6 l6 c6] rfl rfl rfl X1 (by simp[Value.oneCell']) ?_;rw[HW6.o]) | (refine Qc rfl 48 _ _ rfl 48 w3.heap.size #[.int .i64 0,.slice none 0 0] #[.int .i64 s5,.slice a5 l5 c5] rfl (by assumption) rfl rfl X1 (by simp[Value.oneCell']) ?_) | (rw[HW5.o,HW6.o];refine Qc rfl 48 _ _ rfl 48 w.heap.size #[.int .i64 sx,.slice ax lx cx] #[.int .i64 sy,.slice ay ly cy] rfl H6.a rfl rfl X1 (by simp[Value.oneCell']) ?_) | (refine Qc rfl 48 _ _ rfl 48 (w.heap.size+1) #[.int .i64 sy,.slice ay ly cy] #[.int .i64 s6,.slice a6 l6 c6] rfl HK.b rfl rfl X1 (by simp[Value.oneCell']) ?_));go_roundg (x % y).natAbs
   case measure=> have:=HR.a;have:=UC x HY.o;omega
   case rel=>
    have hf:FrT [48] W6 ((W6.setRow w.heap.size #[.int .i64 sy,.slice ay ly cy]).setRow (w.heap.size+1) #[.int .i64 s6,.slice a6 l6 c6]):=(Qe H6.a).trans (Qe HK.b);refine ⟨y,x % y,_,_,_,_,_,_,_,_,rfl,HK.C,⟨?_,Qb HK.b,?_,H6.e.frt hf (by decide),H6.f.frt hf (by decide),by rw[Q2N];exact HR.b.g,HR.b.ly,eE_ (ZD (Nat.le_of_lt (UC x HY.o))) HR.b.ly,Q9 (Q9 H6.d (rl_ _) _) (Nat.le_succ _) _⟩⟩
    ·rw[Q8 (by omega)];exact Qb H6.a
    ·rw[Q8 (by omega),Q8 (by omega)];exact H6.c
def gcdL (zs:List Int) (g:Nat):Nat:=zs.foldl (fun g z=> Nat.gcd z.natAbs g) g
theorem Q8p (hz:(wd z).length<=1000000) (hg:(wd (g:Int)).length<=1000000):(wd ((Nat.gcd z.natAbs g:Nat):Int)).length<=1000000:=by
 by_cases h:z=0
 ·rw[h,Int.natAbs_zero,Nat.gcd_zero_left];exact hg
 ·refine eE_ (Q2M ?_) hz;rw[Int.natAbs_natCast];exact Nat.gcd_le_left _ (Int.natAbs_pos.2 h)
structure GdI (w:World) (zs:List Int) (i:Nat) (g:Nat) (G:Array Value) (wr:World):Prop where
 row:wr.heap[w.heap.size+1]? =some (.cells G 27 (0,0))
 res:wr.heap[w.heap.size]? =some (.cells #[.bool false,.slice none 0 0] 27 (0,0))
 num:Num wr (.agg G) (g:Int)
 gd:gcdL (zs.drop i) g=gcdL zs 0
 l:(wd (g:Int)).length<=1000000
 below:Below w.heap.size w wr
theorem Q4m {vs:Value} (hs:RdNs2 w vs zs) (hl:zs.length<=1000000) (hb:∀ z∈zs,(wd z).length<=1000000):
  Calls prog 74 #[vs] w fun e w'=> ∃ v,e= .returned v/\Num w' v ((gcdL zs 0:Nat):Int)/\Below w.heap.size w w':=by
 obtain ⟨av,cv,rfl,hcv⟩:=hs.form;have hl':(zs.length:Int)<=1000000:=by omega
 have hbx:=box2 w #[.bool false,.slice none 0 0] 27 #[.bool false,.slice none 0 0] 27;obtain ⟨V,hV⟩:∃ V,(w.alloc (.cells #[.bool false,.slice none 0 0] 27)).alloc (.cells #[.bool false,.slice none 0 0] 27)=V:=⟨_,rfl⟩
 rw[hV] at hbx;have h0:GdI w zs 0 0 #[.bool false,.slice none 0 0] V:=⟨hbx.2.1,hbx.1,Num.zero _,rfl,by show (wd 0).length<=_;rw[Q4F];simp,hbx.2.2⟩
 have HV:=hd_ hV;have HH:=h3_ hs hb h0;clear hs hb h0 hV hbx;go_in;go_wp2_with fail;rw[HV.o];go_loopg [8] zs.length (fun k v8 wr=> ∃ (i g:Nat) (gb:Bool) (ga:Option Addr) (gc:Nat),v8= .int .i64 (i:Int)/\k=zs.length - i/\i<=zs.length/\GdI w zs i g #[.bool gb,.slice ga (wd (g:Int)).length gc] wr)
 case atStart=> exact ⟨0,0,false,none,0,rfl,rfl,eV_ _,by have e:(wd ((0:Nat):Int)).length=0:=GM.2 rfl;rw[e];exact HH.C⟩
 case round=>
  obtain ⟨i,g,gb,ga,gc,rfl,hk,hi,hI⟩:=hrel;have HR:=h2_ hk hI;have g0:=Q3 hI.row 0 rfl;have g1:=Q3 hI.row 1 rfl;have gl:=Qd g0;clear hk hI;by_cases hlt:i < zs.length
  ·have hlt':(i:Int) < (zs.length:Int):=(by omega);obtain ⟨z,hz⟩:∃ z,zs[i]? =some z:=⟨_,eA_ hlt⟩
   obtain ⟨bv,ov,az,cz,ev,q0,q1,hnz⟩:=(HH.a.below HR.B.below).at hz;obtain ⟨nz,hnz2⟩:∃ b,decide (z < 0)=b:=⟨_,rfl⟩
   rw[hnz2] at q0 hnz;have HZ:=h3_ hz hnz (HH.b z (eP_ hz));obtain rfl:=ev;clear hz hnz hnz2;go_wp2_with fail;have hba:Below wr.heap.size wr (wr.alloc (.cells #[.bool nz,.slice az (wd z).length cz] 27)):=(eB_ _ _).alloc (rl_ _) _;refine eH_ (Q2O (HZ.out.2.1.below hba) (HR.B.num.below hba) HZ.out.2.2 HR.B.l) ?_;rintro e w3 ⟨v3,rfl,hn3,hb3⟩;rw[Int.natAbs_natCast] at hn3;obtain ⟨b3,a3,c3,rfl,hn3⟩:=QK hn3;have hb4:=hba.trans (hb3.mono hba.size);have hr3:=Q7 HR.B.row hb4;have hgd:gcdL (zs.drop (i+1)) (Nat.gcd z.natAbs g)=gcdL zs 0:=by
    rw[<-HR.B.gd,List.drop_eq_getElem_cons hlt,(List.getElem?_eq_some_iff.1 HZ.out.1).2];rfl
   have H3:=h4_ hr3 hn3 hb4 hgd;clear hba hn3 hb3 hb4 hr3 hgd g0 g1 q0 q1;dsimp only;go_wp2_with (refine Qc rfl 27 _ _ rfl 27 (w.heap.size+1) #[.bool gb,.slice ga (wd (g:Int)).length gc] #[.bool b3,.slice a3 (wd ((Nat.gcd z.natAbs g:Nat):Int)).length c3] rfl H3.a rfl rfl Qq (by simp[Value.oneCell']) ?_);go_roundg (zs.length - (i+1))
   case measure=> have:=HR.a;omega
   case rel=> exact ⟨i+1,_,_,_,_,by go_num,rfl,by omega,Qb H3.a,by rw[Q8 (by omega)];exact Q7 HR.B.res H3.c,H3.b.frt (Qe H3.a) (by decide),H3.D,Q8p HZ.out.2.2 HR.B.l,Q9 (HR.B.below.trans (H3.c.mono HR.B.below.size)) (Nat.le_succ _) _⟩
  ·obtain rfl:zs.length=i:=(by omega);have hg:=HR.B.gd;rw[List.drop_length] at hg;have HG:=hd_ (show g=gcdL zs 0 from hg);clear hg hlt hi;go_wp2_with (refine Qc rfl 27 _ _ rfl 27 w.heap.size #[.bool false,.slice none 0 0] #[.bool gb,.slice ga (wd (g:Int)).length gc] rfl HR.B.res rfl rfl Qq (by simp[Value.oneCell']) ?_);refine eG_ (eY_ rfl _ _ w.heap.size _ _ _ _ rfl (Qb HR.B.res) underlying27 rfl Qq) rfl ?_;exact ⟨_,rfl,by rw[<-HG.o];exact HR.B.num.frt (Qe HR.B.res) (by decide),Q9 HR.B.below (rl_ _) _⟩
theorem Q2P:∀ {zs:List Int} {ss:List Value} {z:Int} {s:Value},zs[ss.length]? =some z->zs.zip (ss++ [s])=zs.zip ss++ [(z,s)]
 | [],ss,z,s,h=> by simp at h
 | a::zs, [],z,s,h=> by
  have e:a=z:=by simpa using h
  subst e;simp
 | a::zs,b::ss,z,s,h=> by
  have h2:zs[ss.length]? =some z:=by simpa using h
  rw[List.cons_append,List.zip_cons_cons,List.zip_cons_cons,Q2P h2];rfl
structure CmI (w w1:World) (zs:List Int) (i:Nat) (v3:Value) (ss:List Value) (wr:World):Prop where
 len:ss.length=i
 rd:∀ (j:Nat) (z:Int) (s:Value),zs[j]? =some z->ss[j]? =some s->RdU wr s (wd z)
 own:wr.ownsRow w1.heap.size 27 2 v3 i ((zs.zip ss).flatMap nzCells)
 res:wr.heap[w.heap.size+1]? =some (.cells #[.bool false,.slice none 0 0] 27 (0,0))
 below:Below w1.heap.size w1 wr
theorem Lp (ht:Tm w vt t) {K:Nat} (st:Sm K t) (hK:K<=1000000):
  Calls prog 33 #[vt] w fun e w'=> ∃ v,e= .returned v/\Num w' v ((gcdL (t.l.map Prod.snd) 0:Nat):Int)/\Below w.heap.size w w':=by
 obtain ⟨bt,at_,ct,pt,rfl,ht⟩:=Ql ht;have hlen:(t.l.length:Int)<=1000000:=by have:=st.len;omega
 have hbx:=box2 w #[.bool bt,.slice at_ (wd t.rest).length ct,.pointer pt] 38 #[.bool false,.slice none 0 0] 27;obtain ⟨V,hV⟩:∃ V,(w.alloc (.cells #[.bool bt,.slice at_ (wd t.rest).length ct,.pointer pt] 38)).alloc (.cells #[.bool false,.slice none 0 0] 27)=V:=⟨_,rfl⟩
 rw[hV] at hbx;have HV:=hd_ hV;have HH:=h3_ ht st hK;have HB:=hd_ hbx;obtain ⟨i0,hi0,hz0,hz1,hz2⟩:=Qw (P:=prog) (t:=27) (z:=some (.agg #[.bool false,.slice none 0 0])) (n:=2) (m:=32) (by kernel_rfl);have HI0:=h4_ hi0 hz0 hz1 hz2;have a0:=Q3 hbx.1 0 rfl;have a1:=Q3 hbx.1 1 rfl;have a2:=Q3 hbx.1 2 rfl;clear ht st hK hbx hV hi0 hz0 hz1 hz2;go_in;go_wp2_with fail;rw[HV.o];refine eH_ (XC (HH.a.below HB.C) (by have:=HH.b.len;have:=HH.C;omega)) ?_;rintro e w1 ⟨pv,ss0,rfl,hw,ho,hb⟩;obtain ⟨ap,cp,rfl⟩:=Qj ho;have hrp:RdP w1 (.slice ap t.l.length cp) t.l:=⟨ss0,hw,RdB.own ho⟩
 have hres:=Q7 HB.b hb;have h1:Below w.heap.size w w1:=HB.C.trans (hb.mono HB.C.size);obtain ⟨zs,hzs⟩:∃ zs,t.l.map Prod.snd=zs:=⟨_,rfl⟩
 have HP:=h5_ hrp hres h1 hzs (Q4 hres);clear hrp hres h1 hzs hw ho hb a0 a1 a2;dsimp only;go_wp2_with fail;go_loopg [3,9] t.l.length (fun k v3 v9 wr=> ∃ (i:Nat) (a3:Option Addr) (c3:Nat) (ss:List Value),v3= .slice a3 i c3/\v9= .int .i64 (i:Int)/\k=t.l.length - i/\i<=t.l.length/\CmI w w1 zs i (.slice a3 i c3) ss wr)
 case atStart=> exact ⟨0,none,0, [],rfl,rfl,rfl,eV_ _,rfl,fun j z s _ h=> by simp at h,by rw[List.zip_nil_right];exact World.ownsRow_nil _ _ _ _,HP.b,eB_ _ _⟩
 case round=>
  obtain ⟨i,a3,c3,ss,rfl,rfl,hk,hi,hI⟩:=hrel;have HR:=h2_ hk hI;clear hk hI;by_cases hlt:i < t.l.length
  ·have hlt':(i:Int) < (t.l.length:Int):=(by omega);obtain ⟨p,hp⟩:∃ p,t.l[i]? =some p:=⟨_,eA_ hlt⟩
   obtain ⟨bp,off,s,ea,c0,c1,c2,hs⟩:=(HP.a.below HR.B.below).at hp;obtain rfl:=ea;obtain ⟨aw,cw,rfl,_⟩:=hs.form;obtain ⟨np,hnp⟩:∃ b,decide (p.2 < 0)=b:=⟨_,rfl⟩
   rw[hnp] at c1;have hx1:=Qh (w:=wr) #[.string ⟨p.1.toArray⟩,.bool np,.slice aw (wd p.2).length cw] 112;obtain ⟨W5,hW5⟩:∃ W,wr.alloc (.cells #[.string ⟨p.1.toArray⟩,.bool np,.slice aw (wd p.2).length cw] 112)=W:=⟨_,rfl⟩
   rw[hW5] at hx1;have hzi:zs[i]? =some p.2:=(by rw[<-HP.d,List.getElem?_map,hp];rfl);have hown5:=Qk HR.B.own (fun k hk=> hx1.2.block k (HR.B.own.lt k hk).2);have hs5:W5.heap.size=wr.heap.size+1:=(by rw[<-hW5, <-Q5]);have HQ:=h6_ hzi hs hnp hx1.2 hown5 hs5;have HW5:=hd_ hW5;have hw15:w1.heap.size<=W5.heap.size:=eE_ HR.B.below.size hx1.2.size;have hin:i<=1073741824:=(by omega);clear hp hs hnp hx1 hW5 hzi hown5 hs5;go_wp2_with (first | (at_builtin;rw[HW5.o];refine Yz rfl _ _ 144 rfl w1.heap.size 27 27 i0 (.agg #[.bool false,.slice none 0 0]) 2 32 underlying144 HI0.a HI0.b HI0.c HI0.D rfl (by decide) _ i _ rfl HQ.e (W5.heap.size) 1 [.bool np,.slice aw (wd p.2).length cw] (by rw[HQ.F];rfl) rfl rfl (by simp[Value.oneCell']) hin (by decide) hw15 ?_;intro v7 w7 hown7 hg7;have H7:=h2_ hown7 hg7;clear hown7 hg7));obtain ⟨a7,c7,rfl⟩:=Qj H7.a;go_roundg (t.l.length - (i+1))
   case measure=> have:=HR.a;omega
   case rel=>
    have hoa:=HQ.e.alloc (.cells #[.bool np,.slice aw (wd p.2).length cw] 27);have hfr:FrT [27] _ w7:=Zd hoa H7.B eX_;have hbe:Below w1.heap.size _ w7:=Yj hoa H7.B (by rw[<-Q5];omega);have hba:Below wr.heap.size wr (W5.alloc (.cells #[.bool np,.slice aw (wd p.2).length cw] 27)):=HQ.d.trans (((eB_ _ _).alloc (rl_ _) _).mono HQ.d.size);have hbw:Below w1.heap.size wr w7:=(hba.mono HR.B.below.size).trans hbe;refine ⟨i+1,a7,c7,ss++ [.slice aw (wd p.2).length cw],rfl,by go_num,rfl,by omega,by rw[eC_,HR.B.len];rfl,fun j z s hz hs=> ?_,?_,(hbw.block _ HP.E).trans HR.B.res,HR.B.below.trans hbw⟩
    ·rcases eS_ j i with hj | hj
     ·rw[eT_ (by rw[HR.B.len];exact hj)] at hs;exact RdB.frt ((HR.B.rd j z s hz hs).below hba) hfr (by decide)
     ·have hji:j=i:=(by have:=(List.getElem?_eq_some_iff.1 hs).1;rw[eC_,HR.B.len] at this;simp at this;omega);subst hji;rw[eO_ (by rw[HR.B.len];exact rl_ _),HR.B.len,Nat.sub_self] at hs;have e1:s= .slice aw (wd p.2).length cw:=(by simpa using hs.symm);have e2:z=p.2:=(by rw[HQ.a] at hz;exact (Option.some.inj hz).symm);subst e1 e2;exact RdB.frt (RdU.below HQ.b hba) hfr (by decide)
    ·have h7:=H7.a;rw[Q2P (z:=p.2) (by rw[HR.B.len];exact HQ.a),List.flatMap_append];show w7.ownsRow _ _ _ _ _ (_++ [.bool (decide (p.2 < 0)),.slice aw (wd p.2).length cw]);rw[HQ.c];exact h7
  ·obtain rfl:t.l.length=i:=(by omega);have hzl:zs.length=t.l.length:=(by rw[<-HP.d,List.length_map]);have hrd:RdNs2 wr (.slice a3 t.l.length c3) zs:=⟨ss,by rw[HR.B.len,hzl],HR.B.rd,by rw[hzl];exact RdB.own HR.B.own⟩
   have hbz:∀ z∈zs,(wd z).length<=1000000:=fun z hz=> by
    rw[<-HP.d] at hz;obtain ⟨p,hp,rfl⟩:=List.mem_map.1 hz;exact eE_ (HH.b.l p hp).len HH.C
   have HZ:=h3_ hrd hbz (show zs.length<=1000000 by omega);clear hrd hbz hzl hlt hi;go_wp2_with fail;refine eH_ (Q4m HZ.out.1 HZ.out.2.2 HZ.out.2.1) ?_;rintro e w8 ⟨v8,rfl,hn8,hb8⟩;obtain ⟨b8,a8,c8,rfl,hn8⟩:=QK hn8;have hr8:=Q7 HR.B.res hb8;have H8:=h3_ hr8 hn8 (HP.c.trans ((HR.B.below.trans (hb8.mono HR.B.below.size)).mono HP.c.size));clear hr8 hn8 hb8;dsimp only;go_wp2_with (refine Qc rfl 27 _ _ rfl 27 (w.heap.size+1) #[.bool false,.slice none 0 0] #[.bool b8,.slice a8 (wd ((gcdL zs 0:Nat):Int)).length c8] rfl H8.a rfl rfl Qq (by simp[Value.oneCell']) ?_);refine eG_ (eY_ rfl _ _ (w.heap.size+1) _ _ _ _ rfl (Qb H8.a) underlying27 rfl Qq) rfl ?_;exact ⟨_,rfl,by rw[HP.d];exact H8.b.frt (Qe H8.a) (by decide),Q9 H8.C (Nat.le_succ _) _⟩
def dvF (n:Int) (p:Tp.Nm × Int):Tp.Nm × Int:=(p.1,p.2 / n)
def dvT (t:Tp.T) (n:Int):Tp.T:=⟨t.l.map (dvF n),t.rest / n⟩
def dvX (n:Int) (l:Tp.L):Bool:=l.all fun p=> decide (p.2 % n=0)
def DdOut (w:World) (t:Tp.T) (n:Int) (e:Ending) (w':World):Prop:=
 ∃ v,e= .returned (.tuple #[v,.int .i64 (if (decide (t.rest % n=0) && dvX n t.l)=true then 0 else 12)])/\Tm w' v (if (decide (t.rest % n=0) && dvX n t.l)=true then dvT t n else Tp.zero)/\Below w.heap.size w w'
theorem Q4P (z:Int):(sgn z==0)=decide (z=0):=by
 by_cases h:z=0
 ·rw[eM_ h,h];rfl
 ·rw[eK_ h];exact beq_false_of_ne (fun h2=> h (Ym.1 h2))
theorem Q4Q {s:Tp.Nm} (v:Int) (h:∀ p∈l,p.1 < s):Tp.ins l s v=l++ [(s,v)]:=by
 have h1:=Tp.J9 (b:= []) (k:=s) (v:=v) h;rw[List.append_nil] at h1;exact h1
theorem Q4R (hr:Tp.Rise t.l) {n:Int} {i:Nat} {p:Tp.Nm × Int} (hp:t.l[i]? =some p):Tp.ins ((t.l.take i).map (dvF n)) p.1 (p.2 / n)=(t.l.take (i+1)).map (dvF n):=by
 rw[Q4Q]
 ·rw[List.take_add_one,hp,List.map_append];rfl
 ·intro q hq;obtain ⟨q2,h2,rfl⟩:=List.mem_map.1 hq;exact (LO hr hp).1 q2 h2
theorem L5:∀ {l:Tp.L},Tp.Rise l->Tp.Rise (l.map (dvF n)):=fun h=> List.Pairwise.map _ (fun _ _ h=> h) h
theorem Q2Q (h:Tp.Rise l) (i:Nat):Tp.Rise (l.take i):=List.Pairwise.sublist (List.take_sublist i l) h
theorem Q7A {p:Tp.Nm × Int} (hp:l[i]? =some p):dvX n (l.take (i+1))=(dvX n (l.take i) && decide (p.2 % n=0)):=by
 unfold dvX;rw[List.take_add_one,hp,List.all_append];simp
theorem FrM.old (h:FrM (fun k=> wP.heap.size<=k) m wP wr) {k:Nat} (hk:k < wP.heap.size) (hm:k≠m):wr.heap[k]? =wP.heap[k]? :=h.block k hk hm fun ⟨q,_⟩=> by omega
theorem FrM.keepT (h:FrM (fun k=> wP.heap.size<=k) m wP wr) {mc:Array Value} (hm:wP.heap[m]? =some (.cells mc 126 (0,0))) {T:TypeId} (hT:T≠126):Keeps (Bk T wP) wP wr:=by
 rintro k ⟨cs,hk⟩;refine h.old (Q4 hk) ?_;rintro rfl;rw[hm] at hk;injection hk with hk;injection hk with _ e _;exact hT e.symm
theorem Q4n {fn:Func} {tmps:Array Value} {p u:Tmp} (h:fn.results= #[.cell p 38,.tmp u]) (hp:tmps.getD p undef= .pointer (some ⟨g,0,none⟩)) (hg:w.heap[g]? =some (.cells cs 38 (0,0))) (hs:cs.size=3) {x:Value} (hx:tmps.getD u undef=x):
  (results fn tmps).run prog w= .ok (.tuple #[.agg cs,x]) w:=
 Xk h _ _ g _ _ _ _ hp hg underlying38 rfl (by rw[hs];exact Qy) hx
theorem L6 (w:World):Calls prog 20 #[] w fun e w'=> e= .returned (.pointer (some ⟨w.heap.size,0,none⟩))/\w'.heap[w.heap.size]? =some (.cells #[.slice none 0 0] 126 (0,0))/\Below w.heap.size w w':=by
 go_in;go_wp2_with fail;go_ret;exact ⟨rfl,eD_ _ _,(eB_ _ _).alloc (rl_ _) _⟩
theorem Lq (ht:Tm w vt t) (hn:Num w vn n) (h0:n≠0) (hr:Tp.Rise t.l) {K:Nat} (st:Sm K t) (hK:K<=900000) (hln:(wd n).length<=1000000):
  Calls prog 34 #[vt,vn] w (DdOut w t n):=by
 obtain ⟨bt,at_,ct,pt,rfl,ht⟩:=Ql ht;obtain ⟨nb,na,nc,rfl,hn⟩:=QK hn;have hlen:(t.l.length:Int)<=900000:=by have:=st.len;omega
 have hbx:=box3 w #[.bool bt,.slice at_ (wd t.rest).length ct,.pointer pt] 38 #[.bool nb,.slice na (wd n).length nc] 27 #[.bool false,.slice none 0 0,.pointer none] 38;obtain ⟨V,hV⟩:∃ V,((w.alloc (.cells #[.bool bt,.slice at_ (wd t.rest).length ct,.pointer pt] 38)).alloc (.cells #[.bool nb,.slice na (wd n).length nc] 27)).alloc (.cells #[.bool false,.slice none 0 0,.pointer none] 38)=V:=⟨_,rfl⟩
 rw[hV] at hbx;have HV:=hd_ hV;have hs0:¬ sgn n=0:=fun h=> h0 (Ym.1 h);have hlr:(wd t.rest).length<=1000000:=eE_ st.rest.len (by omega);have HH:=h8_ ht hn h0 hr st hK hln hlr;have HB:=hd_ hbx;have a0:=Q3 hbx.1 0 rfl;have a1:=Q3 hbx.1 1 rfl;have a2:=Q3 hbx.1 2 rfl;have n0:=Q3 hbx.2.1 0 rfl;have n1:=Q3 hbx.2.1 1 rfl;clear ht hn h0 hr st hK hln hlr hV hbx a0 a1 a2;go_in;go_wp2_with fail;rw[HV.o];refine eH_ (Xb (HH.b.below HB.D)) ?_;rintro r w2 ⟨rfl,hb2⟩;have hA2:=Q7 HB.a hb2;have hB2:=Q7 HB.b hb2;have H2:=hd_ hb2;clear n0 n1;have a0:=Q3 hA2 0 rfl;have a1:=Q3 hA2 1 rfl;have n0:=Q3 hB2 0 rfl;have n1:=Q3 hB2 1 rfl;obtain ⟨sn,hsn⟩:∃ s,sgn n=s:=⟨_,rfl⟩
 rw[hsn] at hs0 |-;have hs1:(sn==0)=false:=beq_false_of_ne hs0;clear hb2 hsn hA2 hB2;dsimp only;go_wp2_with fail;have hV2:Below w.heap.size w w2:=HB.D.trans (H2.o.mono HB.D.size);refine eH_ (Z4 ((HH.a.below hV2).num) (HH.b.below hV2) HH.c HH.H HH.g) ?_;rintro r w3 ⟨v5,v6,rfl,hn5,hn6,hb3⟩;obtain ⟨b5,a5,c5,rfl,hn5⟩:=QK hn5;obtain ⟨b6,a6,c6,rfl,hn6⟩:=QK hn6;have hx5:=Qh (w:=w3) #[.bool b5,.slice a5 (wd (t.rest / n)).length c5] 27;obtain ⟨W5,hW5⟩:∃ W,w3.alloc (.cells #[.bool b5,.slice a5 (wd (t.rest / n)).length c5] 27)=W:=⟨_,rfl⟩
 rw[hW5] at hx5;have hx6:=Qh (w:=W5) #[.bool b6,.slice a6 (wd (t.rest % n)).length c6] 27;obtain ⟨W6,hW6⟩:∃ W,W5.alloc (.cells #[.bool b6,.slice a6 (wd (t.rest % n)).length c6] 27)=W:=⟨_,rfl⟩
 rw[hW6] at hx6;have HW5:=hd_ hW5;have HW6:=hd_ hW6;have hs5:W5.heap.size=w3.heap.size+1:=by rw[<-hW5, <-Q5]
 have h36:Below w3.heap.size w3 W6:=hx5.2.trans (hx6.2.mono hx5.2.size);have hw3:Below w.heap.size w w3:=hV2.trans (hb3.mono hV2.size);have hw6:Below w.heap.size w W6:=hw3.trans (h36.mono hw3.size);have hV6:Below V.heap.size V W6:=H2.o.trans ((hb3.trans (h36.mono hb3.size)).mono H2.o.size);have hx5r:=Q7 hx5.1 hx6.2;have hx6r:W6.heap[w3.heap.size+1]? =some (.cells #[.bool b6,.slice a6 (wd (t.rest % n)).length c6] 27 (0,0)):=by rw[<-hs5];exact hx6.1
 have q0:=Q3 hx5r 0 rfl;have q1:=Q3 hx5r 1 rfl;have r0:=Q3 hx6r 0 rfl;have r1:=Q3 hx6r 1 rfl;have HS:=ck4_ q0 q1 r0 r1;have H6:=h4_ hw6 hV6 ((hn5.below hx5.2).below hx6.2) ((hn6.below hx5.2).below hx6.2);clear hn5 hn6 hb3 hx5 hx6 hW5 hW6 hs5 h36 hw3 hw6 hV6 hx5r hx6r q0 q1 r0 r1 a0 a1 n0 n1 hV2;dsimp only;go_wp2_with (first | (refine Qa rfl 27 _ _ rfl 27 #[.bool false,.slice none 0 0] #[.bool b5,.slice a5 (wd (t.rest / n)).length c5] rfl rfl rfl Qq (by simp[Value.oneCell']) ?_;rw[HW5.o]) | (refine Qa rfl 27 _ _ rfl 27 #[.bool false,.slice none 0 0] #[.bool b6,.slice a6 (wd (t.rest % n)).length c6] rfl rfl rfl Qq (by simp[Value.oneCell']) ?_;rw[HW6.o]) | (refine Qc rfl 27 _ _ rfl 27 w3.heap.size #[.bool false,.slice none 0 0] #[.bool b5,.slice a5 (wd (t.rest / n)).length c5] rfl (by assumption) rfl rfl Qq (by simp[Value.oneCell']) ?_));rw[HW5.o,HW6.o];obtain ⟨dz,hdz⟩:∃ c,decide (t.rest % n=0)=c:=⟨_,rfl⟩
 have HDZ:=hd_ hdz;have hse:(sgn (t.rest % n)==0)=dz:=by rw[<-hdz];exact Q4P _
 clear hdz;go_cut [9,10] from 28 to 33 (fun v9 v10 wc=> ∃ g m:Nat,v9= .pointer (some ⟨g,0,none⟩)/\v10= .bool dz/\wc.heap[g]? =some (.cells #[.bool b5,.slice a5 (wd (t.rest / n)).length c5,.pointer (some ⟨m,0,none⟩)] 38 (0,0))/\wc.heap[m]? =some (.cells #[.slice none 0 0] 126 (0,0))/\Below W6.heap.size W6 wc/\W6.heap.size<=g/\W6.heap.size<=m)
 case first=>
  refine rh_ (s:=HS) (p:=((eB_ _ _).drew)) (h:=fun hHeld=> ?_);simp only[List.size_toArray,eL_,eU_];refine tk_ 0 rfl ?_;refine tk_ 3 rfl ?_;try simp only[Act.put,gP_]
  have hbD:=(eB_ W6.heap.size W6).drew;refine wpAnyH_ready (rs:= [1,6]) (by kernel_rfl) (by simp) ?_;refine AllReadyH.cons rfl (fun KK hKK=> ?_) (AllReadyH.cons rfl (fun KK hKK=> ?_) AllReadyH.nil);simp only[gA_];go_simp;refine eH_ (L6 W6.drew) ?_;rintro r w8 ⟨rfl,hm8,hc8⟩;have hb8:=hbD.trans (hc8.mono hbD.size);dsimp only;refine hKK.out _ _ (HS.o _ hb8) (fun _=> ?_);clear hKK KK;try simp only[Act.put,sA_]
  refine tk_ 2 rfl ?_;try simp only[Act.put,gP_]
  refine wpAnyH_ready (rs:= [4,6]) (by kernel_rfl) (by simp) ?_;refine AllReadyH.cons rfl (fun KK hKK=> ?_) (AllReadyH.cons rfl (fun KK hKK=> ?_) AllReadyH.nil);simp only[gA_];go_simp;refine eH_ (Xb (H6.D.below hb8)) ?_;rintro r w9 ⟨rfl,hc9⟩;have hb9:=hb8.trans (hc9.mono hb8.size);dsimp only;refine hKK.out _ _ (HS.o _ hb9) (fun _=> ?_);clear hKK KK;try simp only[Act.put,sA_]
  refine tk_ 5 rfl ?_;try simp only[Act.put,gP_]
  have hba:=hb9.alloc hb9.size (.cells #[.bool false,.slice none 0 0,.pointer none] 38);refine rd_ 6 rfl (fun KK hKK=> ?_);simp only[gA_];go_simp;refine hKK.out _ _ (HS.o _ hba) (fun hHeld=> ?_);clear hKK KK;try simp only[Act.put,sA_]
  have HF:=h6_ (eD_ w9 (.cells #[.bool false,.slice none 0 0,.pointer none] 38)) (Q7 (Q7 hm8 hc9) ((eB_ _ _).alloc (rl_ _) (.cells #[.bool false,.slice none 0 0,.pointer none] 38))) hba hb9.size hbD.size (Nat.ne_of_gt (eI_ (Q4 hm8) hc9.size));clear hm8 hc8 hb8 hc9 hb9 hba;rotate_left;simp only[gA_];have hba:=hb8.alloc hb8.size (.cells #[.bool false,.slice none 0 0,.pointer none] 38);go_simp;refine hKK.out _ _ (HS.o _ hba) (fun _=> ?_);clear hKK KK;try simp only[Act.put,sA_]
  refine rd_ 4 rfl (fun KK hKK=> ?_);simp only[gA_];go_simp;refine eH_ (Xb (H6.D.below hba)) ?_;rintro r w9 ⟨rfl,hc9⟩;have hb9:=hba.trans (hc9.mono hba.size);dsimp only;refine hKK.out _ _ (HS.o _ hb9) (fun hHeld=> ?_);clear hKK KK;try simp only[Act.put,sA_]
  refine tk_ 5 rfl ?_;try simp only[Act.put,gP_]
  have HF:=h6_ (Q7 (eD_ w8 (.cells #[.bool false,.slice none 0 0,.pointer none] 38)) hc9) (Q7 (Q7 hm8 ((eB_ _ _).alloc (rl_ _) (.cells #[.bool false,.slice none 0 0,.pointer none] 38))) hc9) hb9 hb8.size hbD.size (Nat.ne_of_gt (Q4 hm8));clear hm8 hc8 hb8 hc9 hb9 hba;rotate_left;simp only[gA_];have hba:=hbD.alloc hbD.size (.cells #[.bool false,.slice none 0 0,.pointer none] 38);go_simp;refine hKK.out _ _ (HS.o _ hba) (fun _=> ?_);clear hKK KK;try simp only[Act.put,sA_]
  refine rd_ 1 rfl (fun KK hKK=> ?_);simp only[gA_];go_simp;refine eH_ (L6 (W6.drew.alloc (.cells #[.bool false,.slice none 0 0,.pointer none] 38))) ?_;rintro r w8 ⟨rfl,hm8,hc8⟩;have hb8:=hba.trans (hc8.mono hba.size);dsimp only;refine hKK.out _ _ (HS.o _ hb8) (fun hHeld=> ?_);clear hKK KK;try simp only[Act.put,sA_]
  refine tk_ 2 rfl ?_;try simp only[Act.put,gP_]
  refine rd_ 4 rfl (fun KK hKK=> ?_);simp only[gA_];go_simp;refine eH_ (Xb (H6.D.below hb8)) ?_;rintro r w9 ⟨rfl,hc9⟩;have hb9:=hb8.trans (hc9.mono hb8.size);dsimp only;refine hKK.out _ _ (HS.o _ hb9) (fun hHeld=> ?_);clear hKK KK;try simp only[Act.put,sA_]
  refine tk_ 5 rfl ?_;try simp only[Act.put,gP_]
  have hs8:(W6.drew.alloc (.cells #[.bool false,.slice none 0 0,.pointer none] 38)).heap.size=W6.heap.size+1:=by rw[<-Q5];rfl
  have hm9:=Q7 hm8 hc9;rw[hs8] at hm9;have HF:=h6_ (Q7 (Q7 (eD_ W6.drew (.cells #[.bool false,.slice none 0 0,.pointer none] 38)) hc8) hc9) hm9 hb9 hbD.size (Nat.le_succ W6.heap.size) (Nat.ne_of_lt (Nat.lt_succ_self W6.heap.size));clear hm9 hs8;clear hm8 hc8 hb8 hc9 hb9 hba
  all_goals (
   refine rd_ 7 rfl (fun KK hKK=> ?_);simp only[gA_];refine Qs _ _ _ rfl 38 _ #[.bool false,.slice none 0 0,.pointer none] _ rfl HF.a rfl rfl Qy (by simp[Value.oneCell']) ?_;refine hKK.out _ _ (HS.o _ (Q9 HF.c HF.d _)) (fun hHeld=> ?_);clear hKK KK;(try simp only[Act.put,sA_]);refine tk_ 8 rfl ?_;(try simp only[Act.put,gP_]);refine wpAnyH_done (by kernel_rfl) ?_ _
   (try dsimp only);go_wp2_with fail;go_meet
   case rel=> exact ⟨_,_,rfl,rfl,Qb HF.a,(Q8 HF.F.symm).trans HF.b,Q9 HF.c HF.d _,HF.d,HF.e⟩)
 case rest=>
  obtain ⟨g,m,rfl,rfl,hg,hm,hbc,hgl,hml⟩:=hcut;obtain ⟨wC,rfl⟩:∃ w4,w4=wc:=⟨wc,rfl⟩
  have hgm:g≠m:=by rintro rfl;rw[hm] at hg;injection hg with hg;injection hg with _ e;exact absurd e (by decide)
  have hVc:Below V.heap.size V wC:=H6.b.trans (hbc.mono H6.b.size);have hAc:=Q7 HB.a hVc;have a0:=Q3 hAc 0 rfl;have a1:=Q3 hAc 1 rfl;have a2:=Q3 hAc 2 rfl;have HC:=h7_ hg hm hbc hgl hml hgm hVc;clear hg hm hbc hgl hml hgm hVc hAc;go_wp2_with fail;refine eH_ (XC (HH.a.below (HB.D.trans (HC.G.mono HB.D.size))) (by have:=HH.e.len;have:=HH.f;omega)) ?_;rintro e wP ⟨pv,ss,rfl,hw,ho,hbP⟩;obtain ⟨ap,cp,rfl⟩:=Qj ho;have hrb:=RdB.own ho;have hgP:=Q7 HC.a hbP;have hmP:=Q7 HC.b hbP;have hVP:Below V.heap.size V wP:=HC.G.trans (hbP.mono HC.G.size);have hBP:=Q7 HB.b hVP;have hZP:=Q7 HB.c hVP;have h6P:Below W6.heap.size W6 wP:=HC.c.trans (hbP.mono HC.c.size);have hwP:Below w.heap.size w wP:=HB.D.trans (hVP.mono HB.D.size);have hne1:w.heap.size+1≠m:=by have h1:=Q4 HB.b;have:=H6.b.size;have:=HC.e;omega
  have hne2:w.heap.size+1+1≠m:=by have h1:=Q4 HB.c;have:=H6.b.size;have:=HC.e;omega
  have hmo:MapO W6.heap.size (fun k=> wP.heap.size<=k) wP m []:=MapO.nil hmP HC.e _;have HP:=h10_ hw hrb hgP hmP hBP hZP h6P hwP hne1 hne2;have HMO:=hd_ hmo;clear hw ho hbP hrb hgP hmP hVP hBP hZP h6P hwP hmo hne1 hne2 a0 a1 a2;dsimp only;go_wp2_with fail;go_loopg [10,37] t.l.length (fun k v10 v37 wr=> ∃ (i:Nat) (b:Bool),v10= .bool b/\v37= .int .i64 (i:Int)/\k=t.l.length - i/\i<=t.l.length/\b=(dz && dvX n (t.l.take i))/\MapO W6.heap.size (fun k=> wP.heap.size<=k) wr m ((t.l.take i).map (dvF n))/\FrM (fun k=> wP.heap.size<=k) m wP wr)
  case atStart=> exact ⟨0,dz,rfl,rfl,rfl,eV_ _,by simp[dvX],HMO.o,FrM.refl _ _ _⟩
  case round=>
   obtain ⟨i,b,rfl,rfl,hk,hi,hbv,hmo,hfr⟩:=hrel;have hB:=(hfr.old (Q4 HP.e) HP.i).trans HP.e;have hG:=(hfr.old (Q4 HP.c) HC.f).trans HP.c;have hZ:=(hfr.old (Q4 HP.f) HP.J).trans HP.f;have HR:=h7_ hk hbv hmo hfr hB hG hZ;clear hk hbv hmo hfr;by_cases hlt:i < t.l.length
   ·have hlt2:(i:Int) < (t.l.length:Int):=(by omega);obtain ⟨p,hp⟩:∃ p,t.l[i]? =some p:=⟨_,eA_ hlt⟩
    have hkU:=HR.d.keepT HP.d (T:=174) (by decide);have hrow:RdP wr (.slice ap t.l.length cp) t.l:=⟨ss,HP.a.keep fun s ws h=> RdB.keep h hkU,HP.b.keep (HR.d.keepT HP.d (by decide))⟩
    obtain ⟨bp,off,s,ea,e0,e1,e2,hs⟩:=hrow.at hp;obtain rfl:=ea;obtain ⟨aw,cw,rfl,_⟩:=hs.form;obtain ⟨np,hnp⟩:∃ b,decide (p.2 < 0)=b:=⟨_,rfl⟩
    have hnum:Num wr (.agg #[.bool np,.slice aw (wd p.2).length cw]) p.2:=⟨_,by rw[hnp],hs⟩
    rw[hnp] at e1;have hx7:=Qh (w:=wr) #[.string ⟨p.1.toArray⟩,.bool np,.slice aw (wd p.2).length cw] 112;obtain ⟨W7,hW7⟩:∃ W,wr.alloc (.cells #[.string ⟨p.1.toArray⟩,.bool np,.slice aw (wd p.2).length cw] 112)=W:=⟨_,rfl⟩
    rw[hW7] at hx7;have HW7:=hd_ hW7;have hnn:Num wr (.agg #[.bool nb,.slice na (wd n).length nc]) n:=by
     have h1:=HH.b.below HP.h;exact HMO.o.num HR.d h1
    have n0:=Q3 hB 0 rfl;have n1:=Q3 hB 1 rfl;have nl:=Qd n0;have HQ:=h4_ hp (hnum.below hx7.2) (hnn.below hx7.2) hx7;clear hp hs hkU hrow hnp hnum hx7 hW7 hnn hB hG hZ;go_wp2_with fail;rw[HW7.o];refine eH_ (Z4 HQ.b HQ.c HH.c (eE_ (HH.e.l p (eP_ HQ.a)).len (by have:=HH.f;omega)) HH.g) ?_;rintro r w8 ⟨v8,v9,rfl,hn8,hn9,hb8⟩;obtain ⟨b8,a8,c8,rfl,hn8⟩:=QK hn8;obtain ⟨b9,a9,c9,rfl,hn9⟩:=QK hn9;have hx8:=Qh (w:=w8) #[.bool b8,.slice a8 (wd (p.2 / n)).length c8] 27;obtain ⟨W8,hW8⟩:∃ W,w8.alloc (.cells #[.bool b8,.slice a8 (wd (p.2 / n)).length c8] 27)=W:=⟨_,rfl⟩
    rw[hW8] at hx8;have hx9:=Qh (w:=W8) #[.bool b9,.slice a9 (wd (p.2 % n)).length c9] 27;obtain ⟨W9,hW9⟩:∃ W,W8.alloc (.cells #[.bool b9,.slice a9 (wd (p.2 % n)).length c9] 27)=W:=⟨_,rfl⟩
    rw[hW9] at hx9;have HW8:=hd_ hW8;have HW9:=hd_ hW9;have hs8:W8.heap.size=w8.heap.size+1:=(by rw[<-hW8, <-Q5]);have h89:Below w8.heap.size w8 W9:=hx8.2.trans (hx9.2.mono hx8.2.size);have h79:Below W7.heap.size W7 W9:=hb8.trans (h89.mono hb8.size);have hr9:Below wr.heap.size wr W9:=HQ.E.trans (h79.mono HQ.E.size);have h13:=Q7 hx8.1 hx9.2;have h14:W9.heap[w8.heap.size+1]? =some (.cells #[.bool b9,.slice a9 (wd (p.2 % n)).length c9] 27 (0,0)):=(by rw[<-hs8];exact hx9.1);have h12:=Q7 HQ.d h79;have hG9:=Q7 HR.f hr9;have x0:=Q3 h14 0 rfl;have x1:=Q3 h14 1 rfl;have y0:=Q3 h13 0 rfl;have y1:=Q3 h13 1 rfl;have z0:=Q3 h12 0 rfl;have u2:=Q3 hG9 2 rfl;rw[<-hW9, <-hW8] at x0 x1 y0 y1 z0 u2;have H9:=h6_ (hn8.below h89) (hn9.below h89) hr9 h13 h12 hG9;have hbv:=HR.b;have hbv2:=Q7A (n:=n) HQ.a;have hsr:=Q4P (p.2 % n);obtain ⟨dr,hdr⟩:∃ c,decide (p.2 % n=0)=c:=⟨_,rfl⟩
    rw[hdr] at hsr hbv2;have HBV:=h2_ hbv hbv2;clear hn8 hn9 hb8 hx8 hx9 hW8 hW9 hs8 h89 h79 hr9 n0 n1 nl e0 e1 e2 h13 h14 h12 hG9 hbv hbv2 hdr;dsimp only;cases b with
    | false=>
     go_wp2_with (first | (refine Qa rfl 27 _ _ rfl 27 #[.bool false,.slice none 0 0] #[.bool b8,.slice a8 (wd (p.2 / n)).length c8] rfl rfl rfl Qq (by simp[Value.oneCell']) ?_;rw[HW8.o]) | (refine Qa rfl 27 _ _ rfl 27 #[.bool false,.slice none 0 0] #[.bool b9,.slice a9 (wd (p.2 % n)).length c9] rfl rfl rfl Qq (by simp[Value.oneCell']) ?_) | (refine Qc rfl 27 _ _ rfl 27 w8.heap.size #[.bool false,.slice none 0 0] #[.bool b8,.slice a8 (wd (p.2 / n)).length c8] rfl (by assumption) rfl rfl Qq (by simp[Value.oneCell']) ?_));rw[HW8.o,HW9.o];have hmx:=HR.c.past (H9.c.trans ((eB_ W9.heap.size W9).mono H9.c.size));have hup:Up (fun k=> wP.heap.size<=k) W9:=fun k hk=> eE_ (eE_ HR.d.size H9.c.size) (eE_ (eB_ W9.heap.size W9).size hk);refine eH_ (Jj hmx hup (L5 (Q2Q HH.d i)) (by rw[List.length_map,eN_];omega) (eE_ (eE_ (eE_ HP.g.size HR.d.size) H9.c.size) (eB_ W9.heap.size W9).size) p.1 (H9.a.below (eB_ W9.heap.size W9))) ?_;rintro r w11 ⟨rfl,hm11,hf11⟩;rw[Q4R HH.d HQ.a] at hm11;have hf:FrM (fun k=> wP.heap.size<=k) m wP w11:=(HR.d.trans (FrM.of (H9.c.trans ((eB_ W9.heap.size W9).mono H9.c.size)))).trans hf11;have H11:=h2_ hm11 hf;clear hmx hup hm11 hf11 hf x0 x1 y0 y1 z0 u2;dsimp only;go_wp2_with fail;go_roundg (t.l.length - (i+1))
     case measure=> have:=HR.a;omega
     case rel=> exact ⟨i+1,false,rfl,by go_num,rfl,by omega,by rw[HBV.B, <-Bool.and_assoc, <-HBV.a];first | rfl | simp,H11.a,H11.B⟩
    | true=>
     go_wp2_with (first | (refine Qa rfl 27 _ _ rfl 27 #[.bool false,.slice none 0 0] #[.bool b8,.slice a8 (wd (p.2 / n)).length c8] rfl rfl rfl Qq (by simp[Value.oneCell']) ?_;rw[HW8.o]) | (refine Qa rfl 27 _ _ rfl 27 #[.bool false,.slice none 0 0] #[.bool b9,.slice a9 (wd (p.2 % n)).length c9] rfl rfl rfl Qq (by simp[Value.oneCell']) ?_) | (refine Qc rfl 27 _ _ rfl 27 w8.heap.size #[.bool false,.slice none 0 0] #[.bool b8,.slice a8 (wd (p.2 / n)).length c8] rfl (by assumption) rfl rfl Qq (by simp[Value.oneCell']) ?_));rw[HW8.o,HW9.o];rw[HW8.o,HW9.o] at x0 x1 y0 y1 z0 u2;refine eH_ (Xb H9.b) ?_;rintro r w10 ⟨rfl,hb10⟩;have k0:=(hb10.cell (Qd y0)).trans y0;have k1:=(hb10.cell (Qd y1)).trans y1;have k2:=(hb10.cell (Qd z0)).trans z0;have k3:=(hb10.cell (Qd u2)).trans u2;have H10:=hd_ hb10;clear hb10;dsimp only;go_wp2_with fail;have hmx:=HR.c.past (H9.c.trans (H10.o.mono H9.c.size));have hup:Up (fun k=> wP.heap.size<=k) w10:=fun k hk=> eE_ (eE_ HR.d.size H9.c.size) (eE_ H10.o.size hk);refine eH_ (Jj hmx hup (L5 (Q2Q HH.d i)) (by rw[List.length_map,eN_];omega) (eE_ (eE_ (eE_ HP.g.size HR.d.size) H9.c.size) H10.o.size) p.1 (H9.a.below H10.o)) ?_;rintro r w11 ⟨rfl,hm11,hf11⟩;rw[Q4R HH.d HQ.a] at hm11;have hf:FrM (fun k=> wP.heap.size<=k) m wP w11:=(HR.d.trans (FrM.of (H9.c.trans (H10.o.mono H9.c.size)))).trans hf11;have H11:=h2_ hm11 hf;clear hmx hup hm11 hf11 hf x0 x1 y0 y1 z0 u2 k0 k1 k2 k3;dsimp only;go_wp2_with fail;go_roundg (t.l.length - (i+1))
     case measure=> have:=HR.a;omega
     case rel=> exact ⟨i+1,dr,rfl,by go_num,rfl,by omega,by rw[HBV.B, <-Bool.and_assoc, <-HBV.a];first | rfl | simp,H11.a,H11.B⟩
   ·obtain rfl:t.l.length=i:=(by omega);have hbv:=HR.b;rw[List.take_length] at hbv;have hmo:=HR.c;rw[List.take_length] at hmo;have hq0:=HMO.o.num HR.d (H6.c.below HP.g);have hbel:Below w.heap.size w wr:=HP.h.trans (HR.d.below (eE_ H6.a.size HC.e) (fun k hk=> eE_ HP.h.size hk) HP.h.size);have HE:=h5_ hbv hmo hq0 hbel hZ;have g0:=Q3 hG 0 rfl;have g1:=Q3 hG 1 rfl;have g2:=Q3 hG 2 rfl;clear hbv hmo hq0 hbel hlt hi hB hG hZ;cases b with
    | false=>
     go_wp2_with (refine Qc rfl 38 _ _ rfl 38 (w.heap.size+1+1) #[.bool false,.slice none 0 0,.pointer none] #[.bool false,.slice none 0 0,.pointer none] rfl HE.E rfl rfl Qy (by simp[Value.oneCell']) ?_);refine eG_ (Q4n rfl rfl (Qb HE.E) rfl rfl) rfl ?_;unfold DdOut;rw[HDZ.o, <-HE.a];exact ⟨_,rfl,Tm.zero _,Q9 HE.d (Nat.le_succ_of_le (Nat.le_succ _)) _⟩
    | true=>
     go_wp2_with (refine Qc rfl 38 _ _ rfl 38 (w.heap.size+1+1) #[.bool false,.slice none 0 0,.pointer none] #[.bool b5,.slice a5 (wd (t.rest / n)).length c5,.pointer (some ⟨m,0,none⟩)] rfl HE.E rfl rfl Qy (by simp[Value.oneCell']) ?_);refine eG_ (Q4n rfl rfl (Qb HE.E) rfl rfl) rfl ?_;unfold DdOut;rw[HDZ.o, <-HE.a];exact ⟨_,rfl,Tm.of (t:=dvT t n) (HE.c.frt (Qe HE.E) (by decide)) (Or.inr ⟨m,rfl,HE.b.read.frt (Qe HE.E) (by decide) (by decide) (by decide)⟩),Q9 HE.d (Nat.le_succ_of_le (Nat.le_succ _)) _⟩
theorem Q0l (zs:List Int) (z:Int) (g:Nat):gcdL (zs++ [z]) g=Nat.gcd z.natAbs (gcdL zs g):=by
 unfold gcdL;rw[List.foldl_append];rfl
theorem Q62 (h:zs[i]? =some z):gcdL (zs.take (i+1)) 0=Nat.gcd (gcdL (zs.take i) 0) z.natAbs:=by
 rw[List.take_add_one,h,Option.toList_some,Q0l,Nat.gcd_comm]
theorem Q2R {d:Nat}:∀ (zs:List Int) (g:Nat),d∣gcdL zs g↔d∣g/\∀ z∈zs,d∣z.natAbs
 | [],g=> by simp[gcdL]
 | z::zs,g=> by
  have h:=Q2R (d:=d) zs (Nat.gcd z.natAbs g);have e:gcdL (z::zs) g=gcdL zs (Nat.gcd z.natAbs g):=rfl;rw[e,h,Nat.dvd_gcd_iff];constructor
  ·rintro ⟨⟨h1,h2⟩,h3⟩;exact ⟨h2,fun y hy=> by
    rcases List.mem_cons.1 hy with rfl | hy
    ·exact h1
    ·exact h3 y hy⟩
  ·rintro ⟨h1,h2⟩;exact ⟨⟨h2 z eX_,h1⟩,fun y hy=> h2 y (eR_ _ hy)⟩
theorem GN:x % n=0↔n.natAbs∣x.natAbs:=by
 rw[Int.natAbs_dvd_natAbs];exact ⟨Int.dvd_of_emod_eq_zero,Int.emod_eq_zero_of_dvd⟩
theorem Q2S (t:Tp.T) (n:Int):((Nat.gcd (gcdL (t.l.map Prod.snd) 0) t.rest.natAbs:Nat):Int) % n=0↔(decide (t.rest % n=0) && dvX n t.l)=true:=by
 rw[GN,Int.natAbs_natCast,Nat.dvd_gcd_iff,Q2R,Bool.and_eq_true,decide_eq_true_iff,GN,dvX,List.all_eq_true];constructor
 ·rintro ⟨⟨_,h1⟩,h2⟩;exact ⟨h2,fun p hp=> eM_ (GN.2 (h1 p.2 (List.mem_map.2 ⟨p,hp,rfl⟩)))⟩
 ·rintro ⟨h1,h2⟩;refine ⟨⟨Nat.dvd_zero _,fun z hz=> ?_⟩,h1⟩;obtain ⟨p,hp,rfl⟩:=List.mem_map.1 hz;exact GN.1 (of_decide_eq_true (h2 p hp))
theorem Q7B {n:Int}:∀ (l acc:Tp.L),Tp.Rise (acc++l)->Tp.NonZ l->(∀ p∈l,p.2 % n=0)->Tp.addL n acc (l.map (dvF n))=acc++l
 | [],acc,_,_,_=> by simp[Tp.addL]
 | p::l,acc,hr,hz,hd=> by
  have h1:∀ q∈acc,q.1 < p.1:=fun q hq=> (List.pairwise_append.1 hr).2.2 q hq p eX_;have h2:Tp.look acc p.1=0:=Tp.Xo fun q hq e=> Tp.XW _ (e ▸ h1 q hq);have h3:p.2 / n*n=p.2:=Int.ediv_mul_cancel (Int.dvd_of_emod_eq_zero (hd p eX_));have h4:Tp.addGo n acc (dvF n p)=acc++ [p]:=by
   unfold Tp.addGo dvF Tp.setz;simp only[h2,Int.zero_add,h3];rw[if_neg hz.head,Q4Q _ h1]
  have ih:=Q7B l (acc++ [p]) (by rw[eQ_];exact hr) hz.tail (fun q hq=> hd q (eR_ _ hq));show Tp.addL n (Tp.addGo n acc (dvF n p)) (l.map (dvF n))=_;rw[h4,ih,eQ_];rfl
theorem Q8q (ht:Tp.Ok t.l) (h:(decide (t.rest % n=0) && dvX n t.l)=true):Tp.add Tp.zero (dvT t n) n=t:=by
 rw[Bool.and_eq_true,decide_eq_true_iff,dvX,List.all_eq_true] at h;have h1:=Q7B (n:=n) t.l [] ht.rise ht.nonz fun p hp=> of_decide_eq_true (h.2 p hp);have h2:t.rest / n*n=t.rest:=Int.ediv_mul_cancel (Int.dvd_of_emod_eq_zero h.1);show (⟨Tp.addL n [] (t.l.map (dvF n)),0+t.rest / n*n⟩:Tp.T)=t;rw[h1,h2,Int.zero_add];rfl
theorem Q2T (h:x % n=0) (h0:n≠0):(x / n).natAbs<=x.natAbs:=by
 have h2:x / n*n=x:=Int.ediv_mul_cancel (Int.dvd_of_emod_eq_zero h);have h3:x.natAbs=(x / n).natAbs*n.natAbs:=by rw[<-Int.natAbs_mul,h2]
 rw[h3];exact Nat.le_mul_of_pos_right _ (Int.natAbs_pos.2 h0)
theorem Q8S (st:Sm K t) (h0:n≠0) (h:(decide (t.rest % n=0) && dvX n t.l)=true):Sm K (dvT t n):=by
 rw[Bool.and_eq_true,decide_eq_true_iff,dvX,List.all_eq_true] at h;refine ⟨fun p hp=> ?_,Nat.lt_of_le_of_lt (Q2T h.1 h0) st.rest,by show (t.l.map (dvF n)).length<=K;rw[List.length_map];exact st.len⟩;obtain ⟨q,hq,rfl⟩:=List.mem_map.1 hp;exact Nat.lt_of_le_of_lt (Q2T (of_decide_eq_true (h.2 q hq)) h0) (st.l q hq)
theorem Q4S (h:∀ z∈zs,Bd K z):Bd K ((gcdL zs 0:Nat):Int):=by
 have key:∀ (zs:List Int) (g:Nat),(∀ z∈zs,Bd K z)->Bd K (g:Int)->Bd K ((gcdL zs g:Nat):Int):=by
  intro zs
  induction zs with
  | nil=> intro g _ h;exact h
  | cons z zs ih=>
   intro g h1 h2;refine ih _ (fun y hy=> h1 y (eR_ _ hy)) ?_;have hz:=h1 z eX_;unfold Bd at*;rw[Int.natAbs_natCast] at*;show Nat.gcd z.natAbs g < 10 ^ K;by_cases h0:z=0
   ·rw[h0,Int.natAbs_zero,Nat.gcd_zero_left];exact h2
   ·exact Nat.lt_of_le_of_lt (Nat.gcd_le_left _ (Int.natAbs_pos.2 h0)) hz
 exact key zs 0 h (Bd.zero K)
theorem Q1d (ht:Tm w vt t) (hn:Num w vn 0):
  Calls prog 34 #[vt,vn] w fun e w'=> e= .returned (.tuple #[.agg #[.bool false,.slice none 0 0,.pointer none],.int .i64 13])/\Below w.heap.size w w':=by
 obtain ⟨bt,at_,ct,pt,rfl,-⟩:=Ql ht;obtain ⟨nb,na,nc,rfl,hn⟩:=QK hn;have hbx:=box3 w #[.bool bt,.slice at_ (wd t.rest).length ct,.pointer pt] 38 #[.bool nb,.slice na (wd 0).length nc] 27 #[.bool false,.slice none 0 0,.pointer none] 38;obtain ⟨V,hV⟩:∃ V,((w.alloc (.cells #[.bool bt,.slice at_ (wd t.rest).length ct,.pointer pt] 38)).alloc (.cells #[.bool nb,.slice na (wd 0).length nc] 27)).alloc (.cells #[.bool false,.slice none 0 0,.pointer none] 38)=V:=⟨_,rfl⟩
 rw[hV] at hbx;have HV:=hd_ hV;have HH:=h2_ hbx (hn.below hbx.2.2.2);have n0:=Q3 hbx.2.1 0 rfl;have n1:=Q3 hbx.2.1 1 rfl;clear hn hV hbx ht;go_in;go_wp2_with fail;rw[HV.o];refine eH_ (Xb HH.B) ?_;rintro r w2 ⟨rfl,hb2⟩;have hZ:=Q7 HH.a.2.2.1 hb2;have H2:=h2_ hZ (HH.a.2.2.2.trans (hb2.mono HH.a.2.2.2.size));clear n0 n1 hZ hb2;rw[show sgn 0=0 from rfl];dsimp only;go_wp2_with (refine Qc rfl 38 _ _ rfl 38 (w.heap.size+1+1) #[.bool false,.slice none 0 0,.pointer none] #[.bool false,.slice none 0 0,.pointer none] rfl H2.a rfl rfl Qy (by simp[Value.oneCell']) ?_);refine eG_ (Q4n rfl rfl (Qb H2.a) rfl rfl) rfl ?_;exact ⟨rfl,Q9 H2.B (Nat.le_succ_of_le (Nat.le_succ _)) _⟩
theorem Fits.nm2 {ps:List (Tp.Nm × Int)} (h:Fits n ps):NmB 40 (Tp.sum ⟨[],n⟩ ps).l:=Q7y ps (fun p hp=> (h.2.2.2 p hp).1) fun p hp=> by cases hp
def dvAll (t:Tp.T) (n:Int):Bool:=decide (t.rest % n=0) && dvX n t.l
def dvE (t:Tp.T) (n:Int):Int:=if n=0 then 13 else if dvAll t n=true then 0 else 12
def dvR (t:Tp.T) (n:Int):Tp.T:=if n=0 then Tp.zero else if dvAll t n=true then dvT t n else Tp.zero
theorem L7 (ht:Tm w vt t) (hn:Num w vn n) (hr:Tp.Rise t.l) (st:Sm 1000 t) (hln:(wd n).length<=1000000):
  Calls prog 34 #[vt,vn] w fun e w'=> ∃ (bu:Bool) (au:Option Addr) (lu cu:Nat) (ou:Option Addr),e= .returned (.tuple #[.agg #[.bool bu,.slice au lu cu,.pointer ou],.int .i64 (dvE t n)])/\Tm w' (.agg #[.bool bu,.slice au lu cu,.pointer ou]) (dvR t n)/\Below w.heap.size w w':=by
 by_cases h0:n=0
 ·subst h0;refine (Q1d ht hn).mono ?_;rintro e w' ⟨rfl,hb⟩;refine ⟨false,none,0,0,none,by unfold dvE;rw[if_pos rfl],?_,hb⟩;unfold dvR;rw[if_pos rfl];exact Tm.zero _
 ·refine (Lq ht hn h0 hr st (by decide) hln).mono ?_;rintro e w' ⟨v,rfl,hm,hb⟩;obtain ⟨bu,au,cu,ou,rfl,hm⟩:=Ql hm;obtain ⟨lu,hlu⟩:∃ l,(wd (if (decide (t.rest % n=0) && dvX n t.l)=true then dvT t n else Tp.zero).rest).length=l:=⟨_,rfl⟩
  rw[hlu] at hm |-;refine ⟨bu,au,lu,cu,ou,?_,?_,hb⟩
  ·unfold dvE dvAll;rw[if_neg h0]
  ·unfold dvR dvAll;rw[if_neg h0];exact hm
theorem Q0m:Tp.text Tp.zero= [48]:=by decide
theorem J6 (h1: -1099511627776<=n) (h2:n<=1099511627776):Bd 13 n:=Q0e h1 h2
theorem Q8r {x y sd:Value} {s6:Int} (h:Tz w (.agg #[x,y,.int .i64 s6,sd]) t):Zn w (.agg #[.int .i64 s6,sd]) t.rest:=by
 obtain ⟨vn,vf,sd2,ss,e,h2,_⟩:=h;injection e with e;simp only[Array.mk.injEq,List.cons.injEq,Value.int.injEq,and_true,true_and] at e;obtain ⟨_,_,rfl,rfl⟩:=e;exact ⟨_,rfl,h2⟩
theorem Q0n (h:Tm w v t) (ht:t=Tp.zero):Calls prog 11 #[v] w fun e w'=> e= .returned (.string ⟨#[48]⟩)/\Below w.heap.size w w':=by
 subst ht;have h1:=Yc h (K:=0) (Sm.zero.mono (eV_ _)) (by decide) (by rw[Q0m];decide);rw[Q0m] at h1;exact h1
theorem Q4o (ht:Tm w vt (dvT t n)) (hn:Num w vn n) (ot:Tp.Ok t.l) (st:Sm 1000 t) (sn:Bd 13 n) (h0:n≠0) (h:dvAll t n=true):
  Calls prog 37 #[vt,vn] w (TmOut w t):=by
 have h1:=Yi ht hn (L5 ot.rise) (Q8S st h0 h) (sn.mono (by decide)) (by decide);rwa [Q8q ot h] at h1
theorem ck5_ (h0:w.cell? ⟨x0,o0,none⟩=some u0) (h1:w.cell? ⟨x1,o1,none⟩=some u1) (h2:w.cell? ⟨x2,o2,none⟩=some u2) (h3:w.cell? ⟨x3,o3,none⟩=some u3) (h4:w.cell? ⟨x4,o4,none⟩=some u4):Hid (∀ W,Below w.heap.size w W->W.cell? ⟨x0,o0,none⟩=some u0/\W.cell? ⟨x1,o1,none⟩=some u1/\W.cell? ⟨x2,o2,none⟩=some u2/\W.cell? ⟨x3,o3,none⟩=some u3/\W.cell? ⟨x4,o4,none⟩=some u4):=hd_ fun W b=> ⟨(b.cell (Qd h0)).trans h0,(b.cell (Qd h1)).trans h1,(b.cell (Qd h2)).trans h2,(b.cell (Qd h3)).trans h3,(b.cell (Qd h4)).trans h4⟩
theorem ck6_ {x5 o5:Nat} {u5:Value} (h0:w.cell? ⟨x0,o0,none⟩=some u0) (h1:w.cell? ⟨x1,o1,none⟩=some u1) (h2:w.cell? ⟨x2,o2,none⟩=some u2) (h3:w.cell? ⟨x3,o3,none⟩=some u3) (h4:w.cell? ⟨x4,o4,none⟩=some u4) (h5:w.cell? ⟨x5,o5,none⟩=some u5):Hid (∀ W,Below w.heap.size w W->W.cell? ⟨x0,o0,none⟩=some u0/\W.cell? ⟨x1,o1,none⟩=some u1/\W.cell? ⟨x2,o2,none⟩=some u2/\W.cell? ⟨x3,o3,none⟩=some u3/\W.cell? ⟨x4,o4,none⟩=some u4/\W.cell? ⟨x5,o5,none⟩=some u5):=hd_ fun W b=> ⟨(b.cell (Qd h0)).trans h0,(b.cell (Qd h1)).trans h1,(b.cell (Qd h2)).trans h2,(b.cell (Qd h3)).trans h3,(b.cell (Qd h4)).trans h4,(b.cell (Qd h5)).trans h5⟩
theorem Q2U {P:Nat->Prop} {vp:Value} {ps:List (Tp.Nm × Int)} {m:Int} (h:RdS w P 2 vp ps.length (ptCells ps)) (hP:∀ k,P k->k < w.heap.size) (hm1: -9223372036854775808<=m) (hm2:m<=9223372036854775807) (n:Int) (hn1: -9223372036854775808<=n) (hn2:n<=9223372036854775807):
  Calls prog 6 #[.agg #[vp,.int .i64 m],.int .i64 n] w fun r w'=> r= .returned (.bool true)/\Below w.heap.size w w':=by
 obtain ⟨a,c,rfl⟩:=h.form;have hbx:=Qh (w:=w) #[.slice a ps.length c,.int .i64 m] 56;obtain ⟨V,hV⟩:∃ V,w.alloc (.cells #[.slice a ps.length c,.int .i64 m] 56)=V:=⟨_,rfl⟩
 have HVV:=hd_ hV;rw[hV] at hbx;have HM:Hid (∀ W,Below V.heap.size V W->W.heap[w.heap.size]? =some (.cells #[.slice a ps.length c,.int .i64 m] 56 (0,0))/\Below w.heap.size w W):=fun W hb=> ⟨Q7 hbx.1 hb,hbx.2.trans (hb.mono hbx.2.size)⟩;have HB1:Hid (∀ W,Below V.heap.size V W->Calls prog 14 #[.agg #[.slice a ps.length c,.int .i64 m]] W (BothOut ps m W)):=fun W hb=> Q4c (h.keep (Keeps.of (HM W hb).2 hP)) (fun k hk=> eI_ (hP k hk) (HM W hb).2.size) hm1 hm2;clear h hP hm1 hm2 hbx hV;go_in;go_wp2_with fail;rw[HVV.o];refine eH_ (Lm V) ?_;rintro r w1 ⟨rfl,hb1⟩;have HA:=hd_ hb1;have s0:=Q3 (HM.o _ hb1).1 0 rfl;have s1:=Q3 (HM.o _ hb1).1 1 rfl;clear hb1;dsimp only;go_wp2_with fail;refine eH_ (HB1.o w1 HA.o) ?_;rintro r w2 ⟨vt,vx,ok1,t,x,rfl,ht,hx,hb2,hok1⟩;clear s0 s1;obtain ⟨b1,x1,c1,o1,rfl,ht⟩:=Ql ht;obtain ⟨an,cn,af,cf,s6,ad,cd,rfl,hx⟩:=Xm hx;have hbx:=box2 w2 #[.bool b1,.slice x1 (wd t.rest).length c1,.pointer o1] 38 #[.slice an x.l.length cn,.slice af x.l.length cf,.int .i64 s6,.slice ad (dg x.rest).length cd] 50;obtain ⟨V2,hV2⟩:∃ V,(w2.alloc (.cells #[.bool b1,.slice x1 (wd t.rest).length c1,.pointer o1] 38)).alloc (.cells #[.slice an x.l.length cn,.slice af x.l.length cf,.int .i64 s6,.slice ad (dg x.rest).length cd] 50)=V:=⟨_,rfl⟩
 have HV2:=hd_ hV2;rw[hV2] at hbx;have hV3:Below V.heap.size V V2:=(HA.o.trans (hb2.mono HA.o.size)).trans (hbx.2.2.mono (eE_ HA.o.size hb2.size));have H2:=h6_ hbx.1 hbx.2.1 (ht.below hbx.2.2) (hx.below hbx.2.2) hV3 hok1;clear ht hx hb2 hok1 hbx hV2 hV3;dsimp only;cases ok1 with
 | false=>
  go_wp2_with (first | refine Qa rfl 38 _ _ rfl 38 #[.bool false,.slice none 0 0,.pointer none] #[.bool b1,.slice x1 (wd t.rest).length c1,.pointer o1] rfl rfl rfl Qy (by simp[Value.oneCell']) ?_ | refine Qc rfl 50 _ _ rfl 50 _ #[.slice none 0 0,.slice none 0 0,.int .i64 0,.slice none 0 0] #[.slice an t.l.length cn,.slice af t.l.length cf,.int .i64 s6,.slice ad (dg t.rest).length cd] rfl (eD_ _ _) rfl rfl X3 (by simp[Value.oneCell']) ?_);rw[HV2.o];go_ret;exact ⟨rfl,(HM.o _ H2.e).2⟩
 | true=>
 obtain ⟨e1,e2,f1⟩:=H2.F rfl;subst e2;have hk1:Sm 1000 x/\Tp.Ok x.l/\NmB 40 x.l:=by rw[e1];exact ⟨(Fits.sm f1).1,(Fits.sm f1).2,Fits.nm2 f1⟩
 have hlt:=Q60 hk1.1 hk1.2.2;have HK:=h2_ hk1 (show (Tp.text x).length<=1073741824 by omega);clear e1 f1 hk1 hlt;generalize x=t at*;by_cases hlo:n < -1099511627776
 ·
  go_wp2_with (first | refine Qa rfl 38 _ _ rfl 38 #[.bool false,.slice none 0 0,.pointer none] #[.bool b1,.slice x1 (wd t.rest).length c1,.pointer o1] rfl rfl rfl Qy (by simp[Value.oneCell']) ?_ | refine Qc rfl 50 _ _ rfl 50 _ #[.slice none 0 0,.slice none 0 0,.int .i64 0,.slice none 0 0] #[.slice an t.l.length cn,.slice af t.l.length cf,.int .i64 s6,.slice ad (dg t.rest).length cd] rfl (eD_ _ _) rfl rfl X3 (by simp[Value.oneCell']) ?_);rw[HV2.o];go_ret;exact ⟨rfl,(HM.o _ H2.e).2⟩
 by_cases hhi:1099511627776 < n
 ·
  go_wp2_with (first | refine Qa rfl 38 _ _ rfl 38 #[.bool false,.slice none 0 0,.pointer none] #[.bool b1,.slice x1 (wd t.rest).length c1,.pointer o1] rfl rfl rfl Qy (by simp[Value.oneCell']) ?_ | refine Qc rfl 50 _ _ rfl 50 _ #[.slice none 0 0,.slice none 0 0,.int .i64 0,.slice none 0 0] #[.slice an t.l.length cn,.slice af t.l.length cf,.int .i64 s6,.slice ad (dg t.rest).length cd] rfl (eD_ _ _) rfl rfl X3 (by simp[Value.oneCell']) ?_);rw[HV2.o];go_ret;exact ⟨rfl,(HM.o _ H2.e).2⟩
 have hx3:=Qh (w:=V2) #[.int .i64 0,.slice none 0 0] 48;obtain ⟨V3,hV3⟩:∃ V,V2.alloc (.cells #[.int .i64 0,.slice none 0 0] 48)=V:=⟨_,rfl⟩
 rw[hV3] at hx3;have HV3:=hd_ hV3;have hs2:V2.heap.size=w2.heap.size+1+1:=by rw[<-HV2.o, <-Q5, <-Q5]
 have HS2:=hd_ hs2;have HX3:=h2_ (show V3.heap[w2.heap.size+1+1]? =some (.cells #[.int .i64 0,.slice none 0 0] 48 (0,0)) by rw[<-hs2];exact hx3.1) hx3.2;have f1:=Q3 (Q7 H2.b hx3.2) 1 rfl;have hl':(t.l.length:Int)<=1000:=by have:=HK.a.1.len;omega
 clear hV3 hx3 hs2;rw[<-HV3.o, <-HV2.o] at f1;go_wp2_with (first | refine Qa rfl 38 _ _ rfl 38 #[.bool false,.slice none 0 0,.pointer none] #[.bool b1,.slice x1 (wd t.rest).length c1,.pointer o1] rfl rfl rfl Qy (by simp[Value.oneCell']) ?_ | refine Qc rfl 50 _ _ rfl 50 _ #[.slice none 0 0,.slice none 0 0,.int .i64 0,.slice none 0 0] #[.slice an t.l.length cn,.slice af t.l.length cf,.int .i64 s6,.slice ad (dg t.rest).length cd] rfl (eD_ _ _) rfl rfl X3 (by simp[Value.oneCell']) ?_ | refine Qa rfl 48 _ _ rfl 48 #[.int .i64 0,.slice none 0 0] #[.int .i64 0,.slice none 0 0] rfl rfl rfl X1 (by simp[Value.oneCell']) ?_);rw[HV2.o,HV3.o];clear f1;go_loopg [37] t.l.length (fun k v37 wr=> ∃ (i:Nat) (sg:Int) (ag:Option Addr) (lg cg:Nat),v37= .int .i64 (i:Int)/\k=t.l.length - i/\i<=t.l.length/\wr.heap[w2.heap.size+1+1]? =some (.cells #[.int .i64 sg,.slice ag lg cg] 48 (0,0))/\Zn wr (.agg #[.int .i64 sg,.slice ag lg cg]) ((gcdL ((t.l.map Prod.snd).take i) 0:Nat):Int)/\Below V2.heap.size V2 wr)
 case atStart=> exact ⟨0,0,none,0,0,rfl,rfl,eV_ _,HX3.a,Zn.zero _,HX3.B⟩
 case round=>
  obtain ⟨i,sg,ag,lg,cg,rfl,hk,hi,hg,hz,hb⟩:=hrel;have g0:=Q3 hg 0 rfl;have g1:=Q3 hg 1 rfl;have HR:=h4_ hk hg hz hb;clear hk hg hz hb;have hbd:∀ j,Bd 1000 ((gcdL ((t.l.map Prod.snd).take j) 0:Nat):Int):=fun j=> Q4S fun z hz=> by
   obtain ⟨q,hq,rfl⟩:=List.mem_map.1 (List.mem_of_mem_take hz);exact HK.a.1.l q hq
  have HBD:=hd_ hbd;clear hbd;by_cases hlt:i < t.l.length
  ·have hlt2:(i:Int) < (t.l.length:Int):=(by omega);obtain ⟨p,hp⟩:∃ p,t.l[i]? =some p:=⟨_,eA_ hlt⟩
   obtain ⟨b_,o_,b2,o2,sp,rfl,rfl,-,P1,P2,hd⟩:=(H2.d.below HR.D).at hp;obtain ⟨ap,cp,rfl,_⟩:=hd.form;obtain ⟨sz,hsz⟩:∃ s,sgn p.2=s:=⟨_,rfl⟩
   have hzn:Zn wr (.agg #[.int .i64 sz,.slice ap (dg p.2).length cp]) p.2:=⟨_,by rw[hsz],hd⟩
   rw[hsz] at P1;obtain ⟨lp,hlp⟩:∃ l,(dg p.2).length=l:=⟨_,rfl⟩
   rw[hlp] at P2 hzn;have hx7:=Qh (w:=wr) #[.int .i64 sz,.slice ap lp cp] 48;obtain ⟨W7,hW7⟩:∃ W,wr.alloc (.cells #[.int .i64 sz,.slice ap lp cp] 48)=W:=⟨_,rfl⟩
   rw[hW7] at hx7;have HW7:=hd_ hW7;have HQ:=h5_ (hzn.below hx7.2) (HR.c.below hx7.2) (Q7 HR.b hx7.2) (HR.D.trans (hx7.2.mono HR.D.size)) hp;clear hd hsz hzn hlp hx7 hW7 hp;have nl:=Qd g0;go_wp2_with (refine Qa rfl 48 _ _ rfl 48 #[.int .i64 0,.slice none 0 0] #[.int .i64 sz,.slice ap lp cp] rfl rfl rfl X1 (by simp[Value.oneCell']) ?_);rw[HW7.o];clear nl;refine eH_ (L4 HQ.b HQ.a (eE_ (HBD.o i).len10 (by decide)) (eE_ (HK.a.1.l p (eP_ HQ.E)).len10 (by decide))) ?_;rintro r w8 ⟨v8,rfl,hz8,hb8⟩;obtain ⟨s8,a8,l8,c8,rfl,-,-,hz8⟩:=Yp hz8;have hg8:=Q7 HQ.c hb8;have H8:=h3_ hg8 hz8 (HQ.d.trans (hb8.mono HQ.d.size));clear hg8 hz8 hb8 g0 g1 P1 P2;dsimp only;go_wp2_with (refine Qc rfl 48 _ _ rfl 48 (w2.heap.size+1+1) #[.int .i64 sg,.slice ag lg cg] #[.int .i64 s8,.slice a8 l8 c8] rfl H8.a rfl rfl X1 (by simp[Value.oneCell']) ?_);go_roundg (t.l.length - (i+1))
   case measure=> have:=HR.a;omega
   case rel=>
    refine ⟨i+1,s8,a8,l8,c8,by go_num,rfl,by omega,Qb H8.a,?_,Q9 H8.C (Nat.le_of_eq HS2.o) _⟩;rw[Q62 (z:=p.2) (by rw[List.getElem?_map,HQ.E];rfl)];have h1:=H8.b.frt (Qe (vs:= #[.int .i64 s8,.slice a8 l8 c8]) H8.a) (by decide);rw[Int.natAbs_natCast] at h1;exact h1
  ·obtain rfl:t.l.length=i:=(by omega);have hzz:=HR.c;rw[List.take_of_length_le (by rw[List.length_map];exact rl_ _)] at hzz;have hbz:=HBD.o t.l.length;rw[List.take_of_length_le (by rw[List.length_map];exact rl_ _)] at hbz;obtain ⟨gd,hgd⟩:∃ g,gcdL (t.l.map Prod.snd) 0=g:=⟨_,rfl⟩
   rw[hgd] at hzz hbz;have HG:=h3_ hzz hbz hgd;have t0:=Q3 (Q7 H2.a HR.D) 0 rfl;have t1:=Q3 (Q7 H2.a HR.D) 1 rfl;have t2:=Q3 (Q7 H2.a HR.D) 2 rfl;have HS:=ck5_ t0 t1 t2 g0 g1;clear t0 t1 t2 g0 g1 hzz hbz hgd hlt;go_wp2_with fail;obtain ⟨tx,htx⟩:∃ T,Zp.text (gd:Int)=T:=⟨_,rfl⟩
   have heq:((⟨tx.toArray⟩:ByteArray).toList==(⟨tx.toArray⟩:ByteArray).toList)=true:=(by simp);have HTX:=hd_ htx;clear htx;refine rh_ (s:=HS) (p:=((eB_ _ _).drew)) (h:=fun hHeld=> ?_);simp only[List.size_toArray,eL_,eU_];refine tk_ 0 rfl ?_;refine tk_ 3 rfl ?_;(try simp only[Act.put,gP_]);refine rd_ 1 rfl (fun KK hKK=> ?_);simp only[gA_];go_simp;have hbD:=(eB_ wr.heap.size wr).drew;refine eH_ (Lp ((H2.c.below HR.D).below hbD) HK.a.1 (by decide)) ?_;rintro r w4 ⟨v4,rfl,hn4,hc4⟩;rw[HG.C] at hn4;have hb4:=hbD.trans (hc4.mono hbD.size);clear hc4;dsimp only;refine hKK.out _ _ (HS.o _ hb4) (fun hHeld=> ?_);clear hKK KK;(try simp only[Act.put,sA_]);refine rd_ 2 rfl (fun KK hKK=> ?_);simp only[gA_];go_simp;refine eH_ (XL hn4 HG.b (by decide)) ?_;rintro r w5 ⟨rfl,hc5⟩;have hb5:=hb4.trans (hc5.mono hb4.size);rw[HTX.o];clear hc5 hn4 hb4 hbD;dsimp only;refine hKK.out _ _ (HS.o _ hb5) (fun hHeld=> ?_);clear hKK KK;(try simp only[Act.put,sA_]);refine rd_ 4 rfl (fun KK hKK=> ?_);simp only[gA_];go_simp;refine eH_ (Q0L (HG.a.below hb5) (eE_ HG.b.len10 (by decide))) ?_;rintro r w6 ⟨rfl,hc6⟩;have hb6:=hb5.trans (hc6.mono hb5.size);rw[HTX.o];clear hc6 hb5;dsimp only;refine hKK.out _ _ (HS.o _ hb6) (fun hHeld=> ?_);clear hKK KK;(try simp only[Act.put,sA_]);refine tk_ 5 rfl ?_;(try simp only[Act.put,gP_]);refine wpAnyH_done (by kernel_rfl) ?_ _
   (try dsimp only);clear hHeld;have H6:=hd_ hb6;clear hb6;go_wp2_with fail;go_cut [11,12] from 51 to 57 (fun v11 v12 wc=> ∃ (g:Nat) (bu:Bool) (au:Option Addr) (lu cu:Nat) (ou:Option Addr),v11= .pointer (some ⟨g,0,none⟩)/\v12= .int .i64 (dvE t n)/\wc.heap[g]? =some (.cells #[.bool bu,.slice au lu cu,.pointer ou] 38 (0,0))/\Tm wc (.agg #[.bool bu,.slice au lu cu,.pointer ou]) (dvR t n)/\Below wr.heap.size wr wc/\wr.heap.size<=g)
   case first=>
    refine rh_ (s:=HS) (p:=(H6.o.drew)) (h:=fun hHeld=> ?_);simp only[List.size_toArray,eL_,eU_];refine tk_ 0 rfl ?_;refine tk_ 1 rfl ?_;(try simp only[Act.put,gP_]);have hbD:=H6.o.drew;refine wpAnyH_ready (rs:= [2,7]) (by kernel_rfl) (by simp) ?_;refine AllReadyH.cons rfl (fun KK hKK=> ?_) (AllReadyH.cons rfl (fun KK hKK=> ?_) AllReadyH.nil)
    ·simp only[gA_];go_simp;refine eH_ (QM n hn1 hn2 _) ?_;rintro r w8 ⟨v8,rfl,hn8,hc8⟩;have hb8:=hbD.trans (hc8.mono hbD.size);dsimp only;refine hKK.out _ _ (HS.o _ hb8) (fun hHeld=> ?_);clear hKK KK;(try simp only[Act.put,sA_]);refine wpAnyH_ready (rs:= [3,7]) (by kernel_rfl) (by simp) ?_;refine AllReadyH.cons rfl (fun KK hKK=> ?_) (AllReadyH.cons rfl (fun KK hKK=> ?_) AllReadyH.nil)
     ·simp only[gA_];go_simp;refine eH_ (L7 ((H2.c.below HR.D).below hb8) hn8 HK.a.2.1.rise HK.a.1 (eE_ (J6 hlo hhi).len (by decide))) ?_;rintro r w9 ⟨bu,au,lu,cu,ou,rfl,hm9,hc9⟩;have hb9:=hb8.trans (hc9.mono hb8.size);dsimp only;refine hKK.out _ _ (HS.o _ hb9) (fun hHeld=> ?_);clear hKK KK;(try simp only[Act.put,sA_]);refine tk_ 4 rfl ?_;refine tk_ 5 rfl ?_;refine tk_ 6 rfl ?_;(try simp only[Act.put,gP_]);refine rd_ 7 rfl (fun KK hKK=> ?_);simp only[gA_];go_simp;have hbA:=hb9.alloc hb9.size (.cells #[.bool false,.slice none 0 0,.pointer none] 38);have hg7:=eD_ w9 (.cells #[.bool false,.slice none 0 0,.pointer none] 38);have hge:=hb9.size;refine hKK.out _ _ (HS.o _ hbA) (fun hHeld=> ?_);clear hKK KK;(try simp only[Act.put,sA_]);have hmf:=hm9.below ((eB_ _ _).alloc (rl_ _) (.cells #[.bool false,.slice none 0 0,.pointer none] 38));refine rd_ 8 rfl (fun KK hKK=> ?_);simp only[gA_];refine Qs _ _ _ rfl 38 (w9.heap.size) #[.bool false,.slice none 0 0,.pointer none] #[.bool bu,.slice au lu cu,.pointer ou] rfl hg7 rfl rfl Qy (by simp[Value.oneCell']) ?_;refine hKK.out _ _ (HS.o _ (Q9 hbA hge _)) (fun hHeld=> ?_);clear hKK KK;(try simp only[Act.put,sA_]);refine tk_ 9 rfl ?_;(try simp only[Act.put,gP_]);refine wpAnyH_done (by kernel_rfl) ?_ _
      (try dsimp only);go_wp2_with fail;go_meet
      case rel=> exact ⟨_,bu,au,lu,cu,ou,rfl,rfl,Qb hg7,hmf.frt (Qe (vs:= #[.bool bu,.slice au lu cu,.pointer ou]) hg7) (by decide) (by decide) (by decide),Q9 hbA hge _,hge⟩
     ·simp only[gA_];go_simp;have hbA:=hb8.alloc hb8.size (.cells #[.bool false,.slice none 0 0,.pointer none] 38);have hg7:=eD_ w8 (.cells #[.bool false,.slice none 0 0,.pointer none] 38);have hge:=hb8.size;refine hKK.out _ _ (HS.o _ hbA) (fun hHeld=> ?_);clear hKK KK;(try simp only[Act.put,sA_]);have hn8:=hn8.below ((eB_ _ _).alloc (rl_ _) (.cells #[.bool false,.slice none 0 0,.pointer none] 38));refine rd_ 3 rfl (fun KK hKK=> ?_);simp only[gA_];go_simp;refine eH_ (L7 ((H2.c.below HR.D).below hbA) hn8 HK.a.2.1.rise HK.a.1 (eE_ (J6 hlo hhi).len (by decide))) ?_;rintro r w9 ⟨bu,au,lu,cu,ou,rfl,hm9,hc9⟩;have hb9:=hbA.trans (hc9.mono hbA.size);dsimp only;have hg9:=Q7 hg7 hc9;have hmf:=hm9;refine hKK.out _ _ (HS.o _ hb9) (fun hHeld=> ?_);clear hKK KK;(try simp only[Act.put,sA_]);refine tk_ 4 rfl ?_;refine tk_ 5 rfl ?_;refine tk_ 6 rfl ?_;(try simp only[Act.put,gP_]);refine rd_ 8 rfl (fun KK hKK=> ?_);simp only[gA_];refine Qs _ _ _ rfl 38 (w8.heap.size) #[.bool false,.slice none 0 0,.pointer none] #[.bool bu,.slice au lu cu,.pointer ou] rfl hg9 rfl rfl Qy (by simp[Value.oneCell']) ?_;refine hKK.out _ _ (HS.o _ (Q9 hb9 hge _)) (fun hHeld=> ?_);clear hKK KK;(try simp only[Act.put,sA_]);refine tk_ 9 rfl ?_;(try simp only[Act.put,gP_]);refine wpAnyH_done (by kernel_rfl) ?_ _
      (try dsimp only);go_wp2_with fail;go_meet
      case rel=> exact ⟨_,bu,au,lu,cu,ou,rfl,rfl,Qb hg9,hmf.frt (Qe (vs:= #[.bool bu,.slice au lu cu,.pointer ou]) hg9) (by decide) (by decide) (by decide),Q9 hb9 hge _,hge⟩
    ·simp only[gA_];go_simp;have hbA:=hbD.alloc hbD.size (.cells #[.bool false,.slice none 0 0,.pointer none] 38);have hg7:=eD_ w6.drew (.cells #[.bool false,.slice none 0 0,.pointer none] 38);have hge:=hbD.size;refine hKK.out _ _ (HS.o _ hbA) (fun hHeld=> ?_);clear hKK KK;(try simp only[Act.put,sA_]);refine rd_ 2 rfl (fun KK hKK=> ?_);simp only[gA_];go_simp;refine eH_ (QM n hn1 hn2 _) ?_;rintro r w8 ⟨v8,rfl,hn8,hc8⟩;have hb8:=hbA.trans (hc8.mono hbA.size);dsimp only;have hg8:=Q7 hg7 hc8;refine hKK.out _ _ (HS.o _ hb8) (fun hHeld=> ?_);clear hKK KK;(try simp only[Act.put,sA_]);refine rd_ 3 rfl (fun KK hKK=> ?_);simp only[gA_];go_simp;refine eH_ (L7 ((H2.c.below HR.D).below hb8) hn8 HK.a.2.1.rise HK.a.1 (eE_ (J6 hlo hhi).len (by decide))) ?_;rintro r w9 ⟨bu,au,lu,cu,ou,rfl,hm9,hc9⟩;have hb9:=hb8.trans (hc9.mono hb8.size);dsimp only;have hg9:=Q7 hg8 hc9;have hmf:=hm9;refine hKK.out _ _ (HS.o _ hb9) (fun hHeld=> ?_);clear hKK KK;(try simp only[Act.put,sA_]);refine tk_ 4 rfl ?_;refine tk_ 5 rfl ?_;refine tk_ 6 rfl ?_;(try simp only[Act.put,gP_]);refine rd_ 8 rfl (fun KK hKK=> ?_);simp only[gA_];refine Qs _ _ _ rfl 38 (w6.heap.size) #[.bool false,.slice none 0 0,.pointer none] #[.bool bu,.slice au lu cu,.pointer ou] rfl hg9 rfl rfl Qy (by simp[Value.oneCell']) ?_;refine hKK.out _ _ (HS.o _ (Q9 hb9 hge _)) (fun hHeld=> ?_);clear hKK KK;(try simp only[Act.put,sA_]);refine tk_ 9 rfl ?_;(try simp only[Act.put,gP_]);refine wpAnyH_done (by kernel_rfl) ?_ _
     (try dsimp only);go_wp2_with fail;go_meet
     case rel=> exact ⟨_,bu,au,lu,cu,ou,rfl,rfl,Qb hg9,hmf.frt (Qe (vs:= #[.bool bu,.slice au lu cu,.pointer ou]) hg9) (by decide) (by decide) (by decide),Q9 hb9 hge _,hge⟩
   case rest=>
    obtain ⟨g,bu,au,lu,cu,ou,rfl,rfl,hg,hm,hbc,hge⟩:=hcut;obtain ⟨wC,rfl⟩:∃ w4,w4=wc:=⟨wc,rfl⟩
    obtain ⟨ce,hce⟩:∃ c,dvE t n=c:=⟨_,rfl⟩
    obtain ⟨tr,htr⟩:∃ u,dvR t n=u:=⟨_,rfl⟩
    rw[hce];rw[htr] at hm;have HV:Hid (∀ W:World,Below wr.heap.size wr W->Below V.heap.size V W):=fun W hb=> (H2.e.trans (HR.D.mono H2.e.size)).trans (hb.mono (eE_ H2.e.size HR.D.size));have HC:=h5_ hg hm hbc hce htr;have u0:=Q3 hg 0 rfl;have u1:=Q3 hg 1 rfl;have u2:=Q3 hg 2 rfl;clear hg hm hbc hce htr heq;by_cases h0:n=0
    ·have h01:(n==0)=true:=(by rw[h0];rfl);have e13:ce=13:=(by rw[<-HC.d];unfold dvE;rw[if_pos h0]);have HN:=hd_ h0;clear h0;subst e13;go_wp2_with fail;refine eH_ (Q0n (HC.b) (by rw[<-HC.E];unfold dvR;rw[if_pos HN.o])) ?_;rintro r wz ⟨rfl,hbz⟩;have HZ:=hd_ (HV.o _ (HC.c.trans (hbz.mono HC.c.size)));clear hbz;dsimp only;go_wp2_with fail;go_ret;exact ⟨by simp,(HM.o _ HZ.out).2⟩
    ·have h01:(n==0)=false:=beq_false_of_ne h0;have HN:=hd_ h0;clear h0;obtain ⟨-,-,-,g0,g1⟩:=HS.o _ HC.c;have hVC:Below V2.heap.size V2 wC:=HR.D.trans (HC.c.mono HR.D.size);have r2:=Q3 (Q7 H2.b hVC) 2 rfl;have r3:=Q3 (Q7 H2.b hVC) 3 rfl;have HVC:=hd_ hVC;clear hVC;obtain ⟨lr,hlr⟩:∃ l,(dg t.rest).length=l:=⟨_,rfl⟩
     rw[hlr] at r3;have HLR:=hd_ hlr;clear hlr;go_wp2_with fail;have hzr:=Q8r (H2.d.below HVC.o);rw[HLR.o] at hzr;refine eH_ (L4 (HG.a.below HC.c) hzr (eE_ HG.b.len10 (by decide)) (eE_ HK.a.1.rest.len10 (by decide))) ?_;rintro r w7 ⟨v7,rfl,hz7,hb7⟩;rw[Int.natAbs_natCast] at hz7;obtain ⟨gg,hgg⟩:∃ g,Nat.gcd gd t.rest.natAbs=g:=⟨_,rfl⟩
     rw[hgg] at hz7;have hbg:Bd 1000 ((gg:Nat):Int):=by
      have h1:=Q4S (K:=1000) (zs:=t.l.map Prod.snd++ [t.rest]) (fun z hz=> by
       rcases List.mem_append.1 hz with hz | hz
       ·obtain ⟨q,hq,rfl⟩:=List.mem_map.1 hz;exact HK.a.1.l q hq
       ·rw[List.mem_singleton.1 hz];exact HK.a.1.rest)
      rw[Q0l,HG.C,Nat.gcd_comm,hgg] at h1;exact h1
     have H7:=h4_ hz7 hbg hgg hb7;clear hz7 hbg hgg hb7 hzr g0 g1 r2 r3;dsimp only;go_wp2_with fail;refine eH_ (YU n (by omega) hn2 w7) ?_;rintro r w8 ⟨v8,rfl,hz8,hb8⟩;have H8:=h2_ hz8 hb8;clear hz8 hb8;dsimp only;go_wp2_with fail;refine eH_ (JF (H7.a.below H8.B) H8.a HN.o (eE_ H7.b.len10 (by decide)) (eE_ (J6 hlo hhi).len10 (by decide))) ?_;rintro r w9 ⟨v5,v9,q,rfl,hn5,hn9,hb9⟩;obtain ⟨s5,a5,l5,c5,rfl,-,-,hn5⟩:=Yp hn5;obtain ⟨s9,a9,l9,c9,rfl,hs9,-,hn9⟩:=Yp hn9;have hx5:=Qh (w:=w9) #[.int .i64 s5,.slice a5 l5 c5] 48;obtain ⟨W5,hW5⟩:∃ W,w9.alloc (.cells #[.int .i64 s5,.slice a5 l5 c5] 48)=W:=⟨_,rfl⟩
     rw[hW5] at hx5;have hx6:=Qh (w:=W5) #[.int .i64 s9,.slice a9 l9 c9] 48;obtain ⟨W6,hW6⟩:∃ W,W5.alloc (.cells #[.int .i64 s9,.slice a9 l9 c9] 48)=W:=⟨_,rfl⟩
     rw[hW6] at hx6;have HW5:=hd_ hW5;have HW6:=hd_ hW6;have h96:Below w9.heap.size w9 W6:=hx5.2.trans (hx6.2.mono hx5.2.size);have hC9:Below wC.heap.size wC w9:=(H7.D.trans (H8.B.mono H7.D.size)).trans (hb9.mono (eE_ H7.D.size H8.B.size));have hC6:Below wC.heap.size wC W6:=hC9.trans (h96.mono hC9.size);have hg6:=Q7 HC.a hC6;have H9:=h4_ hC6 hg6 (HC.b.below hC6) (HC.c.trans (hC6.mono HC.c.size));clear u0 u1 u2;have hz0:s9=0↔dvAll t n=true:=by
      rw[hs9,Ym,dvAll, <-Q2S,HG.C,H7.c]
     clear hn5 hn9 hb9 hx5 hx6 hW5 hW6 h96 hC9 hC6 hs9;dsimp only;by_cases hs0:s9=0
     ·have HY:=hd_ (hz0.1 hs0);have e0:ce=0:=(by rw[<-HC.d];unfold dvE;rw[if_neg HN.o,if_pos HY.o]);have etr:tr=dvT t n:=(by rw[<-HC.E];unfold dvR;rw[if_neg HN.o,if_pos HY.o]);clear hz0;subst hs0 e0 etr;go_wp2_with (first | (refine Qa rfl 48 _ _ rfl 48 #[.int .i64 0,.slice none 0 0] #[.int .i64 s5,.slice a5 l5 c5] rfl rfl rfl X1 (by simp[Value.oneCell']) ?_) | (refine Qa rfl 48 _ _ rfl 48 #[.int .i64 0,.slice none 0 0] #[.int .i64 s9,.slice a9 l9 c9] rfl rfl rfl X1 (by simp[Value.oneCell']) ?_) | (refine Qc rfl 48 _ _ rfl 48 w9.heap.size #[.int .i64 0,.slice none 0 0] #[.int .i64 s5,.slice a5 l5 c5] rfl (by assumption) rfl rfl X1 (by simp[Value.oneCell']) ?_));rw[HW5.o,HW6.o];obtain ⟨t0,t1,t2,-,-⟩:=HS.o _ H9.D;have u0:=Q3 hg6 0 rfl;have u1:=Q3 hg6 1 rfl;have u2:=Q3 hg6 2 rfl;have HE:=ck6_ t0 t1 t2 u0 u1 u2;clear t0 t1 t2 u0 u1 u2 hg6;refine rp_ (s:=HE) (p:=((eB_ _ _).drew)) (h:=fun hHeld=> ?_);simp only[lA_];refine tk_ 0 rfl ?_;refine tk_ 1 rfl ?_;refine tk_ 2 rfl ?_;refine tk_ 3 rfl ?_;refine tk_ 4 rfl ?_;refine tk_ 7 rfl ?_;(try simp only[Act.put,gP_]);refine rd_ 5 rfl (fun KK hKK=> ?_);simp only[gA_];go_simp;have hbD:=(eB_ W6.heap.size W6).drew;refine eH_ (QM n hn1 hn2 _) ?_;rintro r wA ⟨vA,rfl,hnA,hcA⟩;have hbA:=hbD.trans (hcA.mono hbD.size);clear hcA;dsimp only;refine hKK.out _ _ (HE.o _ hbA) (fun hHeld=> ?_);clear hKK KK;(try simp only[Act.put,sA_]);refine rd_ 6 rfl (fun KK hKK=> ?_);simp only[gA_];go_simp;refine eH_ (Q4o (H9.c.below hbA) hnA HK.a.2.1 HK.a.1 (J6 hlo hhi) HN.o HY.o) ?_;rintro r wB ⟨vB,rfl,hmB,hcB⟩;have hbB:=hbA.trans (hcB.mono hbA.size);clear hcB hnA;dsimp only;refine hKK.out _ _ (HE.o _ hbB) (fun hHeld=> ?_);clear hKK KK;(try simp only[Act.put,sA_]);refine rd_ 8 rfl (fun KK hKK=> ?_);simp only[gA_];go_simp;refine eH_ (Q3K hmB ((H2.c.below HR.D).below (H9.D.trans (hbB.mono H9.D.size))) HK.a.1 HK.a.1 (by decide) HK.B HK.B) ?_;rintro r wE ⟨rfl,hcE⟩;have hbE:=hbB.trans (hcE.mono hbB.size);clear hcE hmB;dsimp only;refine hKK.out _ _ (HE.o _ hbE) (fun hHeld=> ?_);clear hKK KK;(try simp only[Act.put,sA_]);refine tk_ 9 rfl ?_;(try simp only[Act.put,gP_]);refine wpAnyH_done (by kernel_rfl) ?_ _;unfold PeelQ;dsimp only;go_simp;go_wp2_with fail;go_ret;exact ⟨by simp,(HM.o _ (HV.o _ (H9.D.trans (hbE.mono H9.D.size)))).2⟩
     ·have HY:=hd_ (fun h=> hs0 (hz0.2 h));have e12:ce=12:=(by rw[<-HC.d];unfold dvE;rw[if_neg HN.o,if_neg HY.o]);have etr:tr=Tp.zero:=(by rw[<-HC.E];unfold dvR;rw[if_neg HN.o,if_neg HY.o]);have h9:(s9==0)=false:=beq_false_of_ne hs0;have u0:=Q3 hg6 0 rfl;have u1:=Q3 hg6 1 rfl;have u2:=Q3 hg6 2 rfl;rw[<-HW6.o, <-HW5.o] at u0 u1 u2;clear hz0 hg6 hs0;subst e12 etr;go_wp2_with (first | (refine Qa rfl 48 _ _ rfl 48 #[.int .i64 0,.slice none 0 0] #[.int .i64 s5,.slice a5 l5 c5] rfl rfl rfl X1 (by simp[Value.oneCell']) ?_) | (refine Qa rfl 48 _ _ rfl 48 #[.int .i64 0,.slice none 0 0] #[.int .i64 s9,.slice a9 l9 c9] rfl rfl rfl X1 (by simp[Value.oneCell']) ?_) | (refine Qc rfl 48 _ _ rfl 48 w9.heap.size #[.int .i64 0,.slice none 0 0] #[.int .i64 s5,.slice a5 l5 c5] rfl (by assumption) rfl rfl X1 (by simp[Value.oneCell']) ?_));rw[HW5.o,HW6.o];refine eH_ (Q0n (H9.c) (rfl)) ?_;rintro r wz ⟨rfl,hbz⟩;have HZ:=hd_ (HV.o _ (H9.D.trans (hbz.mono H9.D.size)));clear hbz;dsimp only;go_wp2_with fail;go_ret;exact ⟨by simp,(HM.o _ HZ.out).2⟩
open Go.ChangeShapes Go.WideShapes Go.ChangeAt Go.RowKit Go.Deep
theorem YZ {H:Type} {enc:TypeId × Value->H} {base:Nat} {spare:Nat->Bool} {held:Bool} {args:Array Value} {ds:List (DataW H)} {ps:List MemPlace} (h:DataW.TrodAll enc P w base spare held (#[56,3]:Array TypeId).toList args.toList ds ps):
  ∃ v0 v1 d0 d1 p0 p1,DataW.Trod enc P w base spare held 56 v0 d0 p0/\DataW.Trod enc P w base spare held 3 v1 d1 p1/\args= #[v0,v1]/\ds= [d0,d1]:=by
 obtain ⟨v0,ls0,d0,es0,p0,q0,e0,f0,_,h0,h⟩:=trodAll_cons h;obtain ⟨v1,ls1,d1,es1,p1,q1,e1,f1,_,h1,h⟩:=trodAll_cons h;obtain ⟨e,f,_⟩:=trodAll_nil h;refine ⟨v0,v1,d0,d1,p0,p1,h0,h1,?_,?_⟩
 ·apply Array.toList_inj.1;rw[e0,e1,e]
 ·rw[f0,f1,f]
theorem Gc {H:Type} {enc:TypeId × Value->H} (W:World) (args:Array Value) (ds:List (DataW H)):
  LawWalk enc prog 6 Tryz.f6 W args ds:=by
 intro base hval p hA hlt;have hA':DataW.TrodAll enc prog W 0 (fun _=> true) true Tryz.f6.params.toList args.toList ds p:=hA;rw[Tryz.params6] at hA' hval;obtain ⟨v0,v1,d0,d1,p0,p1,h0,h1,hargs,hds⟩:=YZ hA';have g0:=hval 0 56 v0 rfl (by rw[hargs];rfl);have g1:=hval 1 3 v1 rfl (by rw[hargs];rfl);obtain ⟨vp0,n0,ps0,rfl,hp0,ha0,hb0⟩:=Q7s g0 h0;obtain ⟨s1,rfl,_,_,hw1⟩:=open_int underlying3 g1 h1;have hv1: -9223372036854775808<=s1/\s1<=9223372036854775807:=by
  simp only[Lit.wf,Bool.and_eq_true,decide_eq_true_iff] at hw1;exact hw1
 rw[hargs];exact Q2U hp0 (fun k hk=> hk) ha0 hb0 s1 hv1.1 hv1.2
theorem Jp (os:Os) (started:os.Started) (H:Type) (enc:TypeId × Value->H):
  ReturnsInHanded {} Tryz.checked os 6 .any (fun w args=> (Rows.termDividesSpec.pre enc prog Tryz.f6 Rows.termDividesRow.domain false w args/\laidMetH prog theLaid w)/\sizedMet enc prog Tryz.f6 (OpenSpec.ofChange Rows.termDividesSpec) false w args)
   (Rows.termDividesSpec.post enc prog Tryz.f6 false true false false):=by
 refine returnsInHanded_of_change_and (C:=Tryz.checked) (X:=fun w _=> laidMetH prog theLaid w) (fun _ _ _ hh h=> h.of_heap hh) own started (by kernel_rfl) Tryz.func6
  (ChangeSpec.witness_shaped (enc:=enc) (C:=Tryz.checked) (os:=os) (X:=fun w _=> laidMetH prog theLaid w) false (World.laidAll prog os theLaid) #[.agg #[.slice none 0 0,.int .i64 0],.int .i64 0] 8 (World.laidAll_os _ _ _)
   (World.shaped_of_ZipB (by kernel_rfl) (by kernel_rfl)) (by kernel_rfl) (by kernel_rfl) (by kernel_rfl) (by rw[Q4b];exact Q7t os _)) ?_
 intro W base args ds gs before hval hW _ _ _ _;have hA:=hW;obtain ⟨p,q,hA,_⟩:=hA;have hA':DataW.TrodAll enc prog W 0 (fun _=> true) true Tryz.f6.params.toList args.toList ds p:=hA;rw[Tryz.params6] at hA';obtain ⟨v0,v1,d0,d1,p0,p1,h0,h1,hargs,hds⟩:=YZ hA';subst hds;exact Q19 (s:=Rows.termDividesSpec) laidOut (by kernel_rfl) rfl underlying4 rfl ⟨rfl,rfl,rfl⟩ hval hW (Gc W _ _)
theorem Gd:Rows.TermDividesSaid:=
 OpenClaim.holds_of_wide 6 Tryz.f6 rfl rfl rfl rfl rfl rfl rfl ⟨rfl,rfl,rfl,rfl,rfl⟩ rfl rfl rfl rfl rfl (by kernel_rfl) Tryz.func6 (by kernel_rfl)
  (of_decide_eq_true (by kernel_rfl)) (by unfold Func.isWrapper;first | (rw[if_pos (by decide+kernel)];kernel_rfl) | (rw[if_neg (by decide+kernel)];exact ⟨rfl,rfl⟩))
  (fun os started H enc _=> Jp os started H enc)
theorem term_divides:Rows.TermDividesCardSaid:=
 Claim7.holds_tied_plain_at .later [] [.data,.data,.data,.data,.pinned] true (true, "1767b20c967919e07a4a4d1553bb054857694d9f9e3c2f504ec77a018f485c03") false Gd (fun _ h=> by cases h) (by kernel_rfl) (fun _ h=> by cases h) termDivides_row_tie rfl ⟨rfl,rfl⟩ (by kernel_rfl) rfl
  (fun f fn hf hfn=> by
   obtain rfl:f=6:=Option.some.inj ((show prog.funcNamed "touchstone/touchstonelaw13.TermDivides" =some 6 by kernel_rfl).symm.trans hf) |>.symm;obtain rfl:fn=Tryz.f6:=(Option.some.inj (Tryz.func6.symm.trans hfn)).symm;exact ⟨by kernel_rfl,fun j t ht=> by
    rw[Tryz.params6] at ht;have hm:t∈ [56,3]:=(by simpa using Array.mem_of_getElem? ht);have hall:([56,3].all fun u=> !prog.wantsStandIn u)=true:=(by kernel_rfl);exact (show prog.wantsStandIn t=false by simpa using List.all_eq_true.1 hall t hm)⟩)
  (by kernel_rfl)
end Go.Proofs.YtiecccakcenobaaGreatDoor
