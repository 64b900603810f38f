/- A part of the proof. -/
import Derived.Test.YtiecccakcenobaaGreatDoorTptM9
import Derived.Test.YtiecccakcenobaaGreatDoorRows
import Derived.ProofKit
import Derived.OpenShut
import Derived.JoinedCond
import Derived.Deep.Slices
import Derived.Deep.Fields
import Derived.Deep.Grids
import Derived.ChangeSame
import Derived.Lib.SmallJoins
import Derived.Test.YtiecccakcenobaaGreatDoorCards
import Derived.Test.YtiecccakcenobaaGreatDoorTie
import Derived.ChangeMaps5
import Derived.Lay
import Derived.LaidLaws
import Derived.MakeChecks
import Derived.SevenTiedAt
set_option linter.all false
set_option maxRecDepth 100000
set_option maxHeartbeats 64000000
namespace Go.Proofs.YtiecccakcenobaaGreatDoor
open Go.Proofs.Tryz
open Go.RowKit
variable {a:Act} {cs tmps:Array Value} {n z:Int} {all:List Oper} {B b b0 c fuel g h id j:Nat} {o:Oper} {p:Prop} {t x:Tp.T} {e tb:TypeId} {v:Value} {V W W' w1:World}
theorem Xo {fn:Func} {w:World} {p u:Tmp} (h:fn.results= #[.cell p 38,.tmp u]) (hp:tmps.getD p undef= .pointer (some ⟨g,0,none⟩)) (hg:w.heap[g]? =some (.cells cs 38 (0,0))) (hs:cs.size=3) {x:Value} (hx:tmps.getD u undef=x):
  (results fn tmps).run prog w= .ok (.tuple #[.agg cs,x]) w:=
 Xr h _ _ g _ _ _ _ hp hg underlying38 rfl (by rw[hs];exact QD) hx
def OfOut (o:Option Tp.T) (w:World) (r:Ending) (w':World):Prop:=∃ v,r= .returned (.tuple #[v,.int .i64 (if o.isSome then 0 else 35)])∧Tm w' v (o.getD Tp.zero)∧Below w.heap.size w w'
theorem DP {w:World} {va vb:Value} {u:Tp.T} (ht:Tm w va t) (hu:Tm w vb u) (ot:Tp.Rise t.l) (ou:Tp.Rise u.l) {K:Nat} (st:Sm K t) (su:Sm K u) (hK:K≤100000):
  Calls prog 88 #[va,vb] w (OfOut (Ex.prod t u) w):=by
 obtain ⟨bt,at_,ct,pt,rfl,ht⟩:=Qj ht;obtain ⟨bu,au,cu,pu,rfl,hu⟩:=Qj hu;have hbx:=box3 w #[.bool bt,.slice at_ (wd t.rest).length ct,.pointer pt] 38 #[.bool bu,.slice au (wd u.rest).length cu,.pointer pu] 38 #[.bool false,.slice none 0 0,.pointer none] 38;have HH:=h7_ ht hu ot ou st su hK;obtain ⟨V,hV⟩:∃ V,((w.alloc (.cells #[.bool bt,.slice at_ (wd t.rest).length ct,.pointer pt] 38)).alloc (.cells #[.bool bu,.slice au (wd u.rest).length cu,.pointer pu] 38)).alloc (.cells #[.bool false,.slice none 0 0,.pointer none] 38)=V:=⟨_,rfl⟩
 have HVV:=hd_ hV;rw[hV] at hbx;have HM:Hid (∀ W,Below V.heap.size V W→W.heap[w.heap.size]? =some (.cells #[.bool bt,.slice at_ (wd t.rest).length ct,.pointer pt] 38 (0,0))∧W.heap[w.heap.size+1]? =some (.cells #[.bool bu,.slice au (wd u.rest).length cu,.pointer pu] 38 (0,0))∧W.heap[w.heap.size+2]? =some (.cells #[.bool false,.slice none 0 0,.pointer none] 38 (0,0))∧Below w.heap.size w W):=fun W hb=> ⟨Qa hbx.1 hb,Qa hbx.2.1 hb,Qa hbx.2.2.1 hb,hbx.2.2.2.trans (hb.mono hbx.2.2.2.size)⟩;have hlt:t.l.length≤100000:=eE_ st.len hK;have hlu:u.l.length≤100000:=eE_ su.len hK;clear ht hu ot ou st su hK hbx hV;have hm0:=HM.o V (eB_ _ _);have t0:=Q3 hm0.1 0 rfl;have t1:=Q3 hm0.1 1 rfl;have t2:=Q3 hm0.1 2 rfl;clear hm0;go_in;go_wp2_with fail;rw[HVV.o];refine eH_ (Y9 (HH.a.below (HM.o _ (eB_ _ _)).2.2.2) (by omega)) ?_;rintro r w1 ⟨v1,ss1,rfl,_,how1,hb1⟩;obtain ⟨a1,c1,rfl⟩:=Qi how1;have H1:=hd_ hb1;clear how1 hb1 t0 t1 t2;have hm1:=HM.o w1 H1.o;have t0:=Q3 hm1.1 0 rfl;have t1:=Q3 hm1.1 1 rfl;have t2:=Q3 hm1.1 2 rfl;have u0:=Q3 hm1.2.1 0 rfl;have u1:=Q3 hm1.2.1 1 rfl;have u2:=Q3 hm1.2.1 2 rfl;clear hm1;have HL:=h2_ hlt hlu;clear hlt hlu;dsimp only;by_cases e1:t.l= []
 ·have hp:Ex.prod t u=some (Tp.add Tp.zero u t.rest):=by unfold Ex.prod;rw[if_pos e1]
  have HP:=hd_ hp;clear hp;have hl0:t.l.length=0:=by rw[e1];rfl
  rw[hl0];clear hl0;go_wp2_with fail;refine eH_ (YG (HH.b.below (HM.o _ H1.o).2.2.2) (HH.a.num.below (HM.o _ H1.o).2.2.2) HH.d HH.f HH.e.rest HH.G) ?_;rintro r w2 ⟨v2,rfl,ht2,hb2⟩;have H2:=h2_ ht2 (H1.o.trans (hb2.mono H1.o.size));clear ht2 hb2;dsimp only;go_wp2_with (refine Qw rfl _ _ rfl rfl (HM.o _ H2.B).2.2.1 rfl rfl H2.a (show w.heap.size≤w.heap.size+2 by omega) (HM.o _ H2.B).2.2.2 ?_;rintro W cs - hcs hg hs hn hb;have HT:=h4_ hg hs hn hb;clear hg hs hn hb hcs);refine eG_ (Xo rfl rfl HT.a HT.b rfl) rfl ?_;exact ⟨_,by rw[HP.o];rfl,by rw[HP.o];exact HT.c,HT.D⟩
 ·have hl0:(t.l.length:Int)≠0:=by
   have:t.l.length≠0:=fun h=> e1 (List.length_eq_zero_iff.1 h);omega
  have hl1:(t.l.length:Int)≤100000:=by have:=HL.a;omega
  have HE:=hd_ e1;clear e1;go_wp2_with fail;refine eH_ (Y9 (HH.b.below (HM.o _ H1.o).2.2.2) (by have:=HL.B;omega)) ?_;rintro r w2 ⟨v2,ss2,rfl,_,how2,hb2⟩;obtain ⟨a2,c2,rfl⟩:=Qi how2;have H2:=hd_ (H1.o.trans (hb2.mono H1.o.size));clear how2 hb2 t0 t1 t2 u0 u1 u2;have hm1:=HM.o w2 H2.o;have t0:=Q3 hm1.1 0 rfl;have t1:=Q3 hm1.1 1 rfl;have t2:=Q3 hm1.1 2 rfl;have u0:=Q3 hm1.2.1 0 rfl;have u1:=Q3 hm1.2.1 1 rfl;have u2:=Q3 hm1.2.1 2 rfl;clear hm1;dsimp only;by_cases e2:u.l= []
  ·have hp:Ex.prod t u=some (Tp.add Tp.zero t u.rest):=(by unfold Ex.prod;rw[if_neg HE.o,if_pos e2]);have HP:=hd_ hp;clear hp;have hl0:u.l.length=0:=(by rw[e2];rfl);rw[hl0];clear hl0;go_wp2_with fail;refine eH_ (YG (HH.a.below (HM.o _ H2.o).2.2.2) (HH.b.num.below (HM.o _ H2.o).2.2.2) HH.c HH.e HH.f.rest HH.G) ?_;rintro r w3 ⟨v3,rfl,ht3,hb3⟩;have H3:=h2_ ht3 (H2.o.trans (hb3.mono H2.o.size));clear ht3 hb3;dsimp only;go_wp2_with (refine Qw rfl _ _ rfl rfl (HM.o _ H3.B).2.2.1 rfl rfl H3.a (show w.heap.size≤w.heap.size+2 by omega) (HM.o _ H3.B).2.2.2 ?_;rintro W cs - hcs hg hs hn hb;have HT:=h4_ hg hs hn hb;clear hg hs hn hb hcs);refine eG_ (Xo rfl rfl HT.a HT.b rfl) rfl ?_;exact ⟨_,by rw[HP.o];rfl,by rw[HP.o];exact HT.c,HT.D⟩
  ·have hp:Ex.prod t u=none:=(by unfold Ex.prod;rw[if_neg HE.o,if_neg e2]);have HP:=hd_ hp;have hu0:(u.l.length:Int)≠0:=by
    have:u.l.length≠0:=fun h=> e2 (List.length_eq_zero_iff.1 h);omega
   have hu1:(u.l.length:Int)≤100000:=(by have:=HL.B;omega);clear hp e2;go_wp2_with (refine Qw rfl _ _ rfl rfl (HM.o _ H2.o).2.2.1 rfl rfl (Tm.zero _) (show w.heap.size≤w.heap.size+2 by omega) (HM.o _ H2.o).2.2.2 ?_;rintro W cs - hcs hg hs hn hb;have HT:=h4_ hg hs hn hb;clear hg hs hn hb hcs);refine eG_ (Xo rfl rfl HT.a HT.b rfl) rfl ?_;exact ⟨_,by rw[HP.o];rfl,by rw[HP.o];exact HT.c,HT.D⟩
def TL (w:World) (B:Nat) (v:Value) (ts:List Tp.T):Prop:=
 ∃ css:List (List Value),css.length=ts.length∧(∀ c∈css,c.length=3)∧w.ownsRow B 38 3 v ts.length css.flatten∧∀ (i:Nat) (t:Tp.T) (c:List Value),ts[i]? =some t→css[i]? =some c→Tm w (.agg c.toArray) t
theorem TL.nil (w:World) (B:Nat):TL w B (.slice none 0 0) []:=⟨[],rfl,fun c hc=> (by cases hc),World.ownsRow_nil _ _ _ _,fun i t c h=> by simp at h⟩
theorem U6 {w:World} {b:Nat}:∀ (css:List (List Value)) {off i:Nat} {c:List Value},(∀ c∈css,c.length=3)→w.rangeAt b off css.flatten→css[i]? =some c→w.rangeAt b (off+i*3) c
 | [],off,i,c,_,_,hi=> by simp at hi
 | c0::css,off,0,c,hc,h,hi=> by
  simp only[eZ_,Option.some.injEq] at hi;subst hi;intro j v hj;have:=h j v (by rw[List.flatten_cons,eT_ (List.getElem?_eq_some_iff.1 hj).1];exact hj);simpa using this
 | c0::css,off,i+1,c,hc,h,hi=> by
  have h8:=hc c0 (eX_ ..);have h2:w.rangeAt b (off+3) css.flatten:=by
   intro j v hj;have:=h (3+j) v (by rw[List.flatten_cons,eO_ (by omega),h8,Nat.add_sub_cancel_left];exact hj);rw[←Nat.add_assoc] at this;exact this
  have:=U6 css (off:=off+3) (fun c hc'=> hc c (eR_ _ hc')) h2 (by simpa using hi);rw[show off+(i+1)*3=off+3+i*3 from by omega];exact this
theorem DQ {w:World} {T:TypeId} {fr:Nat × Nat} (hb:w.heap[b]? =some (.cells cs T fr)):w.cell? ⟨b,j,none⟩=cs[j]? :=by
 simp[World.cell?,hb]
theorem TL.get {w:World} {a:Option Addr} {n:Nat} {ts:List Tp.T} (h:TL w B (.slice a n c) ts) {i:Nat} {t:Tp.T} (hi:ts[i]? =some t):
  ∃ b,a=some ⟨b,0,none⟩∧∃ x y c2 o,w.cell? ⟨b,i*3,none⟩=some (.bool x)∧w.cell? ⟨b,i*3+1,none⟩=some (.slice y (wd t.rest).length c2)∧w.cell? ⟨b,i*3+2,none⟩=some (.pointer o)∧Tm w (.agg #[.bool x,.slice y (wd t.rest).length c2,.pointer o]) t:=by
 obtain ⟨css,h1,h2,h3,h4⟩:=h;have hlt:=(List.getElem?_eq_some_iff.1 hi).1;have hci:css[i]? =some (css[i]'(by omega)):=eA_ (by omega);have hl:=h2 _ (List.getElem_mem (l:=css) (n:=i) (by omega));have ht:=h4 i t _ hi hci;obtain ⟨_,⟨e1,e2⟩ | ⟨g,cap,cur,e1,hg1,hg,_,_,hsz,htk⟩⟩:=h3
 ·omega
 ·injection e1 with e1 _ _;have hr:w.rangeAt g 0 css.flatten:=by
   intro j v hj;rw[Nat.zero_add,DQ hg];rw[←htk,List.getElem?_take] at hj;split at hj
   ·simpa using hj
   ·cases hj
  have hp:=U6 css h2 hr hci;rw[Nat.zero_add] at hp;obtain ⟨x,y,c2,o,e,htm⟩:=Qj ht;have e2:css[i]'(by omega)= [.bool x,.slice y (wd t.rest).length c2,.pointer o]:=by
   injection e with e;simpa using congrArg Array.toList e
  rw[e2] at hp;rw[e] at ht;exact ⟨g,e1,x,y,c2,o,hp 0 _ rfl,hp 1 _ rfl,hp 2 _ rfl,ht⟩
theorem Q4z:(prog.info? 38).map (fun i=> (i.zero,i.size,i.bytes))=some (some (.agg #[.bool false,.slice none 0 0,.pointer none]),3,40):=by kernel_rfl
theorem Q64 (w:World) (x y z:Value):RdS (w.alloc (.cells #[x,y,z] 38)) (fun k=> k=w.heap.size) 3 (.slice (some ⟨w.heap.size,0,none⟩) 1 1) 1 [x,y,z]:=by
 refine ⟨rfl,_,_,rfl,rl_ _,Or.inr ⟨_,_,rfl,Or.inr rfl,?_⟩⟩;intro j v hj;rw[Nat.zero_add];exact Q3 (Yr _ _ _ rfl) j (by simpa using hj)
theorem TL.push {w w':World} {v':Value} {ts:List Tp.T} {x y z:Value} {css:List (List Value)} (h1:css.length=ts.length) (h2:∀ c∈css,c.length=3) (h4:∀ (i:Nat) (t:Tp.T) (c:List Value),ts[i]? =some t→css[i]? =some c→Tm w (.agg c.toArray) t)
  (ht:Tm w (.agg #[x,y,z]) t) (hf:FrT [38] w w') (ho:w'.ownsRow B 38 3 v' (ts.length+1) (css.flatten++ [x,y,z])):TL w' B v' (ts++ [t]):=by
 refine ⟨css++ [[x,y,z]],by simp[h1],fun c hc=> ?_,?_,fun i u c hi hc=> ?_⟩
 ·rcases List.mem_append.1 hc with hc | hc
  ·exact h2 c hc
  ·rw[List.mem_singleton.1 hc];rfl
 ·rw[eC_,List.flatten_append];simpa using ho
 ·have keep:∀ v u,Tm w v u→Tm w' v u:=fun v u h=> h.frt hf (by decide) (by decide) (by decide);by_cases hlt:i < ts.length
  ·rw[eT_ hlt] at hi;rw[eT_ (by omega)] at hc;exact keep _ _ (h4 i u c hi hc)
  ·have hb:=(List.getElem?_eq_some_iff.1 hi).1;rw[eC_,List.length_singleton] at hb;obtain rfl:i=ts.length:=(by omega);rw[eO_ (rl_ _)] at hi;rw[eO_ (by omega)] at hc;simp[h1] at hi hc;subst hi hc;exact keep _ _ ht
theorem Y5 {K:Act→World→Prop} {Q:Exit→Act→World→Prop} (x v:Operand) (ho:o.op= .store 38 x v)
  {g:Nat} {zs:Array Value} (hx:a.eval x= .pointer (some ⟨g,0,none⟩)) (hg:w1.heap[g]? =some (.cells zs 38 (0,0))) (hz:zs.size=3) {val:Value} {t:Tp.T} (hv:a.eval v=val) (hn:Tm w1 val t)
  {B:Nat} {w0:World} (hB:B≤g) (hb:Below B w0 w1)
  (h:∀ W cs,W.heap[g]? =some (.cells cs 38 (0,0))→cs.size=3→Tm W (.agg cs) t→Below B w0 W→K (a.put o.dst undef) W):Oper.wp prog o a w1 K Q:=by
 obtain ⟨cs,rfl,hs,h1⟩:=hn.cells;refine XX _ x v ho _ g zs cs hx hg hv (by rw[hz,hs]) (by rw[hs];exact QD) h1 ?_;exact h _ cs (Qb hg) hs (hn.frt (Qg hg) (by decide) (by decide) (by decide)) (Qc hb hB cs)
def Stop (p:Prop):Prop:=p
theorem Q4A (h:Stop p):p:=h
theorem Stop.go (h:p):Stop p:=h
def OfRel (V:World) (kids:List Ex) (k:Nat) (v4 v12:Value) (wr:World):Prop:=
 ∃ (j:Nat) (ts:List Tp.T) (a:Option Addr) (c:Nat),v12= .int .i64 j∧v4= .slice a ts.length c∧k=kids.length - j∧j≤kids.length∧Ex.ofs (kids.take j)=some ts∧TL wr V.heap.size (.slice a ts.length c) ts∧Below V.heap.size V wr
theorem Q65 {e:Ex} (hs:Ex.Sm e):∀ {w:World} {P:Nat→Prop} {cs:List Value},Ex.right e=true→Ex.wl e≤100000→RdE w P e cs→(∀ k,P k→k < w.heap.size)→Calls prog 44 #[.agg cs.toArray] w (OfOut (Ex.of e) w):=by
 induction hs with
 | @mk op pos z name mod yes kids hn hm hz hk hkk ih=>
  intro w P cs hr hwl h hP;obtain ⟨sv,a,c,rfl,hsv⟩:∃ sv a c,cs= [.int .i64 op,.string ⟨name.toArray⟩,.string ⟨mod.toArray⟩,.bool (decide (z < 0)),sv,.bool yes,.slice a kids.length c,.int .i64 pos]∧RdU w sv (wd z):=by
   cases h with
   | mk css hu hl hc hv hk'=>
    obtain ⟨a,c,rfl⟩:=hv.form;exact ⟨_,a,c,rfl,hu⟩
  obtain ⟨h1,h20,h60,hkn,hkr⟩:=ZH hr;have hnum:Num w (.agg #[.bool (decide (z < 0)),sv]) z:=⟨_,rfl,hsv⟩
  obtain ⟨a9,c9,rfl⟩:=RdS.form hsv;rw[Ex.wl] at hwl;have hbx:=box2 w #[.int .i64 op,.string ⟨name.toArray⟩,.string ⟨mod.toArray⟩,.bool (decide (z < 0)),.slice a9 (wd z).length c9,.bool yes,.slice a kids.length c,.int .i64 pos] 30 #[.bool false,.slice none 0 0,.pointer none] 38;obtain ⟨nb,hnb⟩:∃ b,decide (z < 0)=b:=⟨_,rfl⟩
  rw[hnb] at hbx h hnum ⊢;obtain ⟨V,hV⟩:∃ V,(w.alloc (.cells #[.int .i64 op,.string ⟨name.toArray⟩,.string ⟨mod.toArray⟩,.bool nb,.slice a9 (wd z).length c9,.bool yes,.slice a kids.length c,.int .i64 pos] 30)).alloc (.cells #[.bool false,.slice none 0 0,.pointer none] 38)=V:=⟨_,rfl⟩
  have HVV:=hd_ hV;rw[hV] at hbx;have HM:Hid (∀ W,Below V.heap.size V W→W.heap[w.heap.size]? =some (.cells #[.int .i64 op,.string ⟨name.toArray⟩,.string ⟨mod.toArray⟩,.bool nb,.slice a9 (wd z).length c9,.bool yes,.slice a kids.length c,.int .i64 pos] 30 (0,0))∧W.heap[w.heap.size+1]? =some (.cells #[.bool false,.slice none 0 0,.pointer none] 38 (0,0))∧Below w.heap.size w W∧RdE W P (.mk op name mod z yes kids pos) [.int .i64 op,.string ⟨name.toArray⟩,.string ⟨mod.toArray⟩,.bool nb,.slice a9 (wd z).length c9,.bool yes,.slice a kids.length c,.int .i64 pos]∧∀ k,P k→k < W.heap.size):=fun W hb=> by
   have h1:=hbx.2.2.trans (hb.mono hbx.2.2.size);exact ⟨Qa hbx.1 hb,Qa hbx.2.1 hb,h1,h.past hP h1,fun k hk=> eI_ (hP k hk) h1.size⟩
  have HK:Hid (∀ W,Below V.heap.size V W→∀ (i:Nat) (k:Ex),kids[i]? =some k→∃ bk off ck cs',a=some ⟨bk,off,none⟩∧c=ck∧W.rangeAt bk (off+i*8) cs'∧RdE W P k cs'):=fun W hb i k hi=> by
   obtain ⟨bk,off,ck,cs',q1,q2,q3,q4,q5⟩:=RdE.kid (HM W hb).2.2.2.1 (i:=i) (k:=k) hi;injection q1 with q1;injection q1 with q1 _ q6;exact ⟨bk,off,ck,cs',q1,q6,q3,q5⟩
  have HC:Hid (∀ (i:Nat) (k:Ex),kids[i]? =some k→(∀ {w:World} {P:Nat→Prop} {cs:List Value},RdE w P k cs→(∀ k,P k→k < w.heap.size)→Calls prog 44 #[.agg cs.toArray] w (OfOut (Ex.of k) w))∧(∀ {t:Tp.T},Ex.of k=some t→Sm (Ex.wl k) t∧Tp.Ok t.l)∧10+Ex.wl k≤Ex.wls kids):=fun i k hi=> by
   have hmem:=eP_ hi;have hw:=Gn hmem;exact ⟨fun {w P cs} h hP=> ih k hmem (hkr k hmem) (by omega) h hP,fun {t} ht=> Q63 (hkk k hmem) (hkr k hmem) ht,hw⟩
  have hof:Ex.of (.mk op name mod z yes kids pos)=match Ex.ofs kids with | none=> none | some ks=> Ex.ofK (.mk op name mod z yes kids pos) ks:=by rw[Ex.of];rfl
  have HN:Hid (Num w (.agg #[.bool nb,.slice a9 (wd z).length c9]) z∧(op=1→(Zp.text z).length≤60)∧Ex.wls kids≤100000∧(kids.length:Int)=knum op∧op≤20∧1≤op):=⟨hnum,h60,by omega,hkn,h20,h1⟩
  have HOF:=hd_ hof;have hkl:(kids.length:Int)≤1000000:=by omega
  obtain ⟨a0,a1,a2,a3,a4,a5,a6,a7⟩:=cells8 hbx.1;clear hr hwl h hP hsv hnum hbx hnb hV ih hkk hkr hof hn hm hz hk h60 hkn h1 h20;go_in;go_wp2_with fail;rw[HVV.o];go_loopg [4,12] kids.length (fun k v4 v12 wr=> OfRel V kids k v4 v12 wr)
  case atStart=> exact ⟨0, [],none,0,rfl,rfl,rfl,eV_ _,by rw[List.take_zero,Ex.ofs],TL.nil _ _,eB_ _ _⟩
  case round=>
   obtain ⟨j,ts,a4,c4,rfl,rfl,hk,hj,hof,htl,hbw⟩:=hrel;have HR:=h4_ hk hof htl hbw;clear hk hof htl hbw;by_cases hlt:j < kids.length
   ·have hlt':(j:Int) < (kids.length:Int):=(by omega);obtain ⟨k,hk⟩:∃ k,kids[j]? =some k:=⟨_,eA_ hlt⟩
    obtain ⟨bk,off,ck,cs',q1,q2,hr,hre⟩:=HK.o wr HR.D j k hk;subst q1 q2;obtain ⟨sk,kv,rfl,hsk,ak,ckk,rfl⟩:=hre.cells;obtain ⟨ask,csk,rfl⟩:=RdS.form hsk;obtain ⟨nk,hnk⟩:∃ x,decide (Ex.num k < 0)=x:=⟨_,rfl⟩
    rw[hnk] at hr hre;have HG:=hd_ hr;have HKK:=hd_ hk;have hx1:=Qk (w:=wr) #[.int .i64 k.op,.string ⟨k.name.toArray⟩,.string ⟨k.mod.toArray⟩,.bool nk,.slice ask (wd k.num).length csk,.bool k.yes,.slice ak k.kids.length ckk,.int .i64 k.pos] 30;have HC1:=hd_ ((HC.o j k hk).1 (hre.past (HM.o _ HR.D).2.2.2.2 hx1.2) (fun i hi=> eI_ ((HM.o _ HR.D).2.2.2.2 i hi) hx1.2.size));have HX1:=hd_ hx1.2;obtain ⟨o,ho⟩:∃ o,Ex.of k=o:=⟨_,rfl⟩
    rw[ho] at HC1;have HO:=hd_ ho;clear hr hre hnk hk hx1 hsk ho;go_wp2_with (first
     | (refine wpList_load_mid rfl 30 _ rfl bk (off+j*8) rfl _ _ HG.o underlying30 rfl rfl ?_)
     | (refine Qe rfl 30 _ _ rfl 30 #[.int .i64 0,.string ⟨#[]⟩,.string ⟨#[]⟩,.bool false,.slice none 0 0,.bool false,.slice none 0 0,.int .i64 0] #[.int .i64 k.op,.string ⟨k.name.toArray⟩,.string ⟨k.mod.toArray⟩,.bool nk,.slice ask (wd k.num).length csk,.bool k.yes,.slice ak k.kids.length ckk,.int .i64 k.pos] rfl rfl rfl QY (by simp[Value.oneCell']) ?_))
    refine eH_ HC1.o ?_;rintro r w2 ⟨v2,rfl,ht2,hb2⟩;have hb2':Below V.heap.size V w2:=(HR.D.trans (HX1.o.mono HR.D.size)).trans (hb2.mono (eE_ HR.D.size HX1.o.size));have hbr:Below wr.heap.size wr w2:=HX1.o.trans (hb2.mono HX1.o.size);cases o with
    | none=>
     simp only[Option.isSome_none,Bool.false_eq_true,if_false,Option.getD_none] at ht2 ⊢;obtain ⟨b2,at2,ct2,pt2,rfl,ht2⟩:=Qj ht2;have hof2:Ex.ofs kids=none:=Ex.Q61 HR.b HKK.o HO.o;have hx3:=Qk (w:=w2) #[.bool b2,.slice at2 (wd Tp.zero.rest).length ct2,.pointer pt2] 38;have H2:=h2_ hof2 (hb2'.trans (hx3.2.mono hb2'.size));clear ht2 hb2 hb2' hbr hof2 hx3;go_wp2_with (first
      | (refine Qe rfl 38 _ _ rfl 38 #[.bool false,.slice none 0 0,.pointer none] #[.bool b2,.slice at2 (wd Tp.zero.rest).length ct2,.pointer pt2] rfl rfl rfl QD (by simp[Value.oneCell']) ?_)
      | (refine Qw rfl _ _ rfl rfl (HM.o _ H2.B).2.1 rfl rfl (Tm.zero _) (show w.heap.size≤w.heap.size+1 by omega) (HM.o _ H2.B).2.2.1 ?_;rintro W cs - hcs hg hs hn hb;have HT:=h4_ hg hs hn hb;clear hg hs hn hb hcs))
     refine eG_ (Xo rfl rfl HT.a HT.b rfl) rfl ?_;refine ⟨.agg cs,?_,?_,HT.D⟩
     ·rw[HOF.o,H2.a];rfl
     ·rw[HOF.o,H2.a];exact HT.c
    | some t=>
     simp only[Option.isSome_some,if_true,Option.getD_some] at ht2 ⊢;obtain ⟨b2,at2,ct2,pt2,rfl,ht2⟩:=Qj ht2;have hx3:=Qk (w:=w2) #[.bool b2,.slice at2 (wd t.rest).length ct2,.pointer pt2] 38;obtain ⟨W3,hW3⟩:∃ W,w2.alloc (.cells #[.bool b2,.slice at2 (wd t.rest).length ct2,.pointer pt2] 38)=W:=⟨_,rfl⟩
     have hx4:=Qk (w:=W3) #[.bool b2,.slice at2 (wd t.rest).length ct2,.pointer pt2] 38;obtain ⟨W4,hW4⟩:∃ W,W3.alloc (.cells #[.bool b2,.slice at2 (wd t.rest).length ct2,.pointer pt2] 38)=W:=⟨_,rfl⟩
     have hrd:=Q64 W3 (.bool b2) (.slice at2 (wd t.rest).length ct2) (.pointer pt2);have hsz:w2.heap.size+1=W3.heap.size:=(by rw[←hW3];exact Q5 _ _);rw[hW3] at hx3;rw[hW4] at hx4 hrd;have hb4:Below wr.heap.size wr W4:=hbr.trans (hx3.2.mono hbr.size |>.trans (hx4.2.mono (eE_ hbr.size hx3.2.size)));obtain ⟨css,g1,g2,g3,g4⟩:=HR.c;have hts:ts.length=j:=(by have:=(Ex.U5 HR.b).1;rw[eN_] at this;omega);have H4:=h7_ (Qu g3 hb4) hrd ((ht2.below hx3.2).below hx4.2) hb4 g1 g2 (fun i t c a b=> (g4 i t c a b).below hb4);have HW:=h4_ hW3 hW4 hsz hts;obtain ⟨i0,hi0,hz0,hz1,hz2⟩:=Qv Q4z;have HI:=h4_ hi0 hz0 hz1 hz2;clear ht2 hb2 hb2' hbr hx3 hx4 hrd hsz hb4 g1 g2 g3 g4 hW3 hW4 hts hi0 hz0 hz1 hz2;go_wp2_with (first
      | (refine Qe rfl 38 _ _ rfl 38 #[.bool false,.slice none 0 0,.pointer none] #[.bool b2,.slice at2 (wd t.rest).length ct2,.pointer pt2] rfl rfl rfl QD (by simp[Value.oneCell']) ?_)
      | (at_builtin;refine Q4A ?_))
     refine Stop.go ?_;rw[HW.a,HW.b];refine QW rfl _ _ 164 rfl V.heap.size 38 i0 (.agg #[.bool false,.slice none 0 0,.pointer none]) 3 40 underlying164 HI.a HI.b HI.c HI.D rfl (by decide) _ ts.length css.flatten rfl H4.a (by rw[HW.c];rfl) H4.b (by simp[Value.oneCell']) (by have:=HW.D;unfold maxLen;omega) (by have:=HW.D;omega) (eE_ HR.D.size H4.d.size) ?_;intro a5 c5 w5 hown5 hg5 _;have h5:=TL.push H4.e H4.f H4.G H4.c (ZV H4.a hg5 (by decide)) hown5;have hb5:=(HR.D.trans (H4.d.mono HR.D.size)).trans (YI H4.a hg5 (eE_ HR.D.size H4.d.size));have H5:=h2_ h5 hb5;clear h5 hb5 hown5 hg5;go_wp2_with fail;go_roundg (kids.length - (j+1))
     case measure=> have:=HR.a;omega
     case rel=>
      refine ⟨j+1,ts++ [t],a5,c5,by go_num,?_,rfl,by omega,Ex.Q60 HR.b HKK.o HO.o,?_,H5.B⟩
      ·rw[eC_];rfl
      ·rw[eC_];exact H5.a
   ·obtain rfl:j=kids.length:=(by omega);have hof:=HR.b;rw[List.take_length] at hof;have hE:Ex.of (.mk op name mod z yes kids pos)=Ex.ofK (.mk op name mod z yes kids pos) ts:=(by rw[HOF.o,hof]);rw[Q62] at hE;have hlen:=(Ex.U5 hof).1;have hget:∀ (i:Nat) (t:Tp.T),ts[i]? =some t→Sm 100000 t∧Tp.Ok t.l:=fun i t hi=> by
     obtain ⟨k,q1,q2⟩:=(Ex.U5 hof).2 i t hi;have q3:=(HC.o i k q1).2.1 q2;exact ⟨q3.1.mono (by have:=(HC.o i k q1).2.2;have:=HN.c;omega),q3.2⟩
    have HG:=h3_ hget hlen hof;have hm:=HM.o wr HR.D;obtain ⟨a0,a1,a2,a3,a4',a5,a6,a7⟩:=cells8 hm.1;have hlt2:(ts.length:Int)≤1000000:=(by omega);clear hlt hj hof hlen hget hm;by_cases q1:op=1
    ·subst q1;have HE:=hd_ hE;clear hE;go_wp2_with fail;refine eH_ (X7 (HN.a.below (HM.o _ HR.D).2.2.1)) ?_;rintro r w2 ⟨v2,rfl,ht2,hb2⟩;have H2:=h2_ ht2 (HR.D.trans (hb2.mono HR.D.size));clear ht2 hb2;dsimp only;go_wp2_with (refine Qw rfl _ _ rfl rfl (HM.o _ H2.B).2.1 rfl rfl H2.a (show w.heap.size≤w.heap.size+1 by omega) (HM.o _ H2.B).2.2.1 ?_;rintro W cs - hcs hg hs hn hb;have HT:=h4_ hg hs hn hb;clear hg hs hn hb hcs);refine eG_ (Xo rfl rfl HT.a HT.b rfl) rfl ?_;refine ⟨.agg cs,?_,?_,HT.D⟩
     ·rw[HE.o];rfl
     ·rw[HE.o];exact HT.c
    by_cases q3:op=3
    ·subst q3;have HE:=hd_ hE;clear hE;go_wp2_with fail;refine eH_ (Yt _ _) ?_;rintro r w2 ⟨v2,rfl,ht2,hb2⟩;have H2:=h2_ ht2 (HR.D.trans (hb2.mono HR.D.size));clear ht2 hb2;dsimp only;go_wp2_with (refine Qw rfl _ _ rfl rfl (HM.o _ H2.B).2.1 rfl rfl H2.a (show w.heap.size≤w.heap.size+1 by omega) (HM.o _ H2.B).2.2.1 ?_;rintro W cs - hcs hg hs hn hb;have HT:=h4_ hg hs hn hb;clear hg hs hn hb hcs);refine eG_ (Xo rfl rfl HT.a HT.b rfl) rfl ?_;refine ⟨.agg cs,?_,?_,HT.D⟩
     ·rw[HE.o];rfl
     ·rw[HE.o];exact HT.c
    by_cases q4:op=4
    ·subst q4;have HE:=hd_ hE;clear hE;go_wp2_with fail;refine eH_ (Yt _ [114,101,115]) ?_;rintro r w2 ⟨v2,rfl,ht2,hb2⟩;have H2:=h2_ ht2 (HR.D.trans (hb2.mono HR.D.size));clear ht2 hb2;dsimp only;go_wp2_with (refine Qw rfl _ _ rfl rfl (HM.o _ H2.B).2.1 rfl rfl H2.a (show w.heap.size≤w.heap.size+1 by omega) (HM.o _ H2.B).2.2.1 ?_;rintro W cs - hcs hg hs hn hb;have HT:=h4_ hg hs hn hb;clear hg hs hn hb hcs);refine eG_ (Xo rfl rfl HT.a HT.b rfl) rfl ?_;refine ⟨.agg cs,?_,?_,HT.D⟩
     ·rw[HE.o];rfl
     ·rw[HE.o];exact HT.c
    by_cases q5:op=5
    ·subst q5;have hk1:ts.length=1:=by
      have q1:=HN.d;have q2:=HG.b;have q3:knum 5=1:=(by decide);omega
     obtain ⟨t0,ht0⟩:∃ t,ts[0]? =some t:=⟨_,eA_ (by omega)⟩
     obtain ⟨b0,e0,x0,y0,c0,o0,f0,f1,f2,htm0⟩:=HR.c.get ht0;subst e0;simp only[Nat.zero_mul,Nat.zero_add] at f0 f1 f2;have g0:ts.getD 0 Tp.zero=t0:=(by rw[List.getD_eq_getElem?_getD,ht0];rfl);have hE2:Ex.of (.mk 5 name mod z yes kids pos)=some (Tp.add Tp.zero t0 (-1)):=hE.trans (by rw[g0];rfl);have mkS:∀ W:World,Below wr.heap.size wr W→Below wr.heap.size wr W∧W.cell? ⟨b0,0,none⟩=some (.bool x0)∧W.cell? ⟨b0,1,none⟩=some (.slice y0 (wd t0.rest).length c0)∧W.cell? ⟨b0,2,none⟩=some (.pointer o0):=fun W hb=> ⟨hb,(hb.cell (Q8 f0)).trans f0,(hb.cell (Q8 f1)).trans f1,(hb.cell (Q8 f2)).trans f2⟩;have HS:=hd_ mkS;have HE:=hd_ hE2;have HA:=h3_ htm0 (HG.a 0 t0 ht0) trivial;have hi0:(0:Int) < (ts.length:Int):=(by omega);have hi1:0 < ts.length:=(by omega);clear mkS hE2 hE g0 f0 f1 f2 ht0 htm0 hk1;go_wp2_with fail;refine Xk (S:=fun w'=> Below wr.heap.size wr w'∧w'.cell? ⟨b0,0,none⟩=some (.bool x0)∧w'.cell? ⟨b0,1,none⟩=some (.slice y0 (wd t0.rest).length c0)∧w'.cell? ⟨b0,2,none⟩=some (.pointer o0)) (by simp) (by simp) (by kernel_rfl) (by kernel_rfl) (by kernel_rfl) (HS.o _ ((eB_ _ _).drew)) (fun hHeld=> ?_);simp only[lA_];refine tk_ 0 rfl ?_;(try simp only[Act.put,gP_]);refine tk_ 1 rfl ?_;(try simp only[Act.put,gP_]);refine tk_ 2 rfl ?_;(try simp only[Act.put,gP_]);refine rd_ 3 rfl (fun KK hKK=> ?_);simp only[gA_];go_simp;refine eH_ (QZ (-1) (by decide) (by decide) _) ?_;rintro r w7 ⟨v7,rfl,hn7,hb7⟩;have hw7:Below wr.heap.size wr w7:=(eB_ _ _).drew.trans hb7;clear hb7;dsimp only;refine hKK.out _ _ (HS.o _ hw7) (fun hHeld=> ?_);clear hKK KK;(try simp only[Act.put,sA_]);refine rd_ 4 rfl (fun KK hKK=> ?_);simp only[gA_];go_simp;refine eH_ (YG (HA.a.below hw7) hn7 HA.b.2.rise HA.b.1 (show Bd 100000 (-1) from Bd.mono (k:=1) (by unfold Bd;decide) (by decide)) (by decide)) ?_;rintro r w9 ⟨v9,rfl,ht9,hb9⟩;replace hb9:Below wr.heap.size wr w9:=hw7.trans (hb9.mono hw7.size);have H2:=h2_ ht9 (HR.D.trans (hb9.mono HR.D.size));dsimp only;refine hKK.out _ _ (HS.o _ hb9) (fun hHeld=> ?_);clear hKK KK;(try simp only[Act.put,sA_]);refine wpAnyH_done (by kernel_rfl) ?_ _;unfold PeelQ;dsimp only;refine Y5 _ _ rfl rfl (HM.o _ H2.B).2.1 rfl rfl H2.a (show w.heap.size≤w.heap.size+1 by omega) (HM.o _ H2.B).2.2.1 ?_;rintro W cs hg hs hn hb;have HT:=h4_ hg hs hn hb;clear hg hs hn hb;go_simp;go_wp2_with fail;refine eG_ (Xo rfl rfl HT.a HT.b rfl) rfl ?_;refine ⟨.agg cs,?_,?_,HT.D⟩
     ·rw[HE.o];rfl
     ·rw[HE.o];exact HT.c
    by_cases q7:op=7
    ·subst q7;have hk1:ts.length=2:=by
      have q1:=HN.d;have q2:=HG.b;have q3:knum 7=2:=(by decide);omega
     obtain ⟨t0,ht0⟩:∃ t,ts[0]? =some t:=⟨_,eA_ (by omega)⟩
     obtain ⟨b0,e0,x0,y0,c0,o0,f0,f1,f2,htm0⟩:=HR.c.get ht0;subst e0;simp only[Nat.zero_mul,Nat.zero_add] at f0 f1 f2;have g0:ts.getD 0 Tp.zero=t0:=(by rw[List.getD_eq_getElem?_getD,ht0];rfl);obtain ⟨t1,ht1⟩:∃ t,ts[1]? =some t:=⟨_,eA_ (by omega)⟩
     obtain ⟨b1,e1,x1,y1,c1,o1,f3,f4,f5,htm1⟩:=HR.c.get ht1;injection e1 with e1;injection e1 with e1 _ _;subst e1;simp only[Nat.one_mul,Nat.reduceAdd] at f3 f4 f5;have g1:ts.getD 1 Tp.zero=t1:=(by rw[List.getD_eq_getElem?_getD,ht1];rfl);have hE2:Ex.of (.mk 7 name mod z yes kids pos)=some (Tp.add t0 t1 1):=hE.trans (by rw[g0,g1];rfl);have mkS:∀ W:World,Below wr.heap.size wr W→Below wr.heap.size wr W∧W.cell? ⟨b0,0,none⟩=some (.bool x0)∧W.cell? ⟨b0,1,none⟩=some (.slice y0 (wd t0.rest).length c0)∧W.cell? ⟨b0,2,none⟩=some (.pointer o0)∧W.cell? ⟨b0,3,none⟩=some (.bool x1)∧W.cell? ⟨b0,4,none⟩=some (.slice y1 (wd t1.rest).length c1)∧W.cell? ⟨b0,5,none⟩=some (.pointer o1):=fun W hb=> ⟨hb,(hb.cell (Q8 f0)).trans f0,(hb.cell (Q8 f1)).trans f1,(hb.cell (Q8 f2)).trans f2,(hb.cell (Q8 f3)).trans f3,(hb.cell (Q8 f4)).trans f4,(hb.cell (Q8 f5)).trans f5⟩;have HS:=hd_ mkS;have HE:=hd_ hE2;have HA:=h4_ htm0 (HG.a 0 t0 ht0) htm1 (HG.a 1 t1 ht1);have hi0:(0:Int) < (ts.length:Int):=(by omega);have hi1:0 < ts.length:=(by omega);have hi2:(1:Int) < (ts.length:Int):=(by omega);have hi3:1 < ts.length:=(by omega);clear mkS hE2 hE g0 f0 f1 f2 ht0 htm0 hk1 g1 f3 f4 f5 ht1 htm1;go_wp2_with fail;refine Xk (S:=fun w'=> Below wr.heap.size wr w'∧w'.cell? ⟨b0,0,none⟩=some (.bool x0)∧w'.cell? ⟨b0,1,none⟩=some (.slice y0 (wd t0.rest).length c0)∧w'.cell? ⟨b0,2,none⟩=some (.pointer o0)∧w'.cell? ⟨b0,3,none⟩=some (.bool x1)∧w'.cell? ⟨b0,4,none⟩=some (.slice y1 (wd t1.rest).length c1)∧w'.cell? ⟨b0,5,none⟩=some (.pointer o1)) (by simp) (by simp) (by kernel_rfl) (by kernel_rfl) (by kernel_rfl) (HS.o _ ((eB_ _ _).drew)) (fun hHeld=> ?_);simp only[lA_];refine tk_ 0 rfl ?_;(try simp only[Act.put,gP_]);refine tk_ 1 rfl ?_;(try simp only[Act.put,gP_]);refine tk_ 2 rfl ?_;(try simp only[Act.put,gP_]);refine tk_ 3 rfl ?_;(try simp only[Act.put,gP_]);refine tk_ 4 rfl ?_;(try simp only[Act.put,gP_]);refine tk_ 5 rfl ?_;(try simp only[Act.put,gP_]);refine rd_ 6 rfl (fun KK hKK=> ?_);simp only[gA_];go_simp;refine hKK.out _ _ (HS.o _ ((eB_ _ _).drew.alloc (rl_ _) _)) (fun hHeld=> ?_);clear hKK KK;(try simp only[Act.put,sA_]);refine rd_ 7 rfl (fun KK hKK=> ?_);simp only[gA_];go_simp;have hx7:=Qk (w:=wr.drew) #[.bool x1,.slice y1 (wd t1.rest).length c1,.pointer o1] 38;have hw7:=(eB_ wr.heap.size wr).drew.trans hx7.2;refine eH_ (D9 (HA.a.below hw7) hx7.1 (HA.c.below hw7) HA.b.2 HA.E.rise HA.b.1 HA.d (by decide) (by decide)) ?_;rintro r w9 ⟨v9,rfl,ht9,hb9⟩;replace hb9:Below wr.heap.size wr w9:=hw7.trans (hb9.mono hw7.size);have H2:=h2_ ht9 (HR.D.trans (hb9.mono HR.D.size));dsimp only;refine hKK.out _ _ (HS.o _ hb9) (fun hHeld=> ?_);clear hKK KK;(try simp only[Act.put,sA_]);refine wpAnyH_done (by kernel_rfl) ?_ _;unfold PeelQ;dsimp only;refine Y5 _ _ rfl rfl (HM.o _ H2.B).2.1 rfl rfl H2.a (show w.heap.size≤w.heap.size+1 by omega) (HM.o _ H2.B).2.2.1 ?_;rintro W cs hg hs hn hb;have HT:=h4_ hg hs hn hb;clear hg hs hn hb;go_simp;go_wp2_with fail;refine eG_ (Xo rfl rfl HT.a HT.b rfl) rfl ?_;refine ⟨.agg cs,?_,?_,HT.D⟩
     ·rw[HE.o];rfl
     ·rw[HE.o];exact HT.c
    by_cases q8:op=8
    ·subst q8;have hk1:ts.length=2:=by
      have q1:=HN.d;have q2:=HG.b;have q3:knum 8=2:=(by decide);omega
     obtain ⟨t0,ht0⟩:∃ t,ts[0]? =some t:=⟨_,eA_ (by omega)⟩
     obtain ⟨b0,e0,x0,y0,c0,o0,f0,f1,f2,htm0⟩:=HR.c.get ht0;subst e0;simp only[Nat.zero_mul,Nat.zero_add] at f0 f1 f2;have g0:ts.getD 0 Tp.zero=t0:=(by rw[List.getD_eq_getElem?_getD,ht0];rfl);obtain ⟨t1,ht1⟩:∃ t,ts[1]? =some t:=⟨_,eA_ (by omega)⟩
     obtain ⟨b1,e1,x1,y1,c1,o1,f3,f4,f5,htm1⟩:=HR.c.get ht1;injection e1 with e1;injection e1 with e1 _ _;subst e1;simp only[Nat.one_mul,Nat.reduceAdd] at f3 f4 f5;have g1:ts.getD 1 Tp.zero=t1:=(by rw[List.getD_eq_getElem?_getD,ht1];rfl);have hE2:Ex.of (.mk 8 name mod z yes kids pos)=some (Tp.add t0 t1 (-1)):=hE.trans (by rw[g0,g1];rfl);have mkS:∀ W:World,Below wr.heap.size wr W→Below wr.heap.size wr W∧W.cell? ⟨b0,0,none⟩=some (.bool x0)∧W.cell? ⟨b0,1,none⟩=some (.slice y0 (wd t0.rest).length c0)∧W.cell? ⟨b0,2,none⟩=some (.pointer o0)∧W.cell? ⟨b0,3,none⟩=some (.bool x1)∧W.cell? ⟨b0,4,none⟩=some (.slice y1 (wd t1.rest).length c1)∧W.cell? ⟨b0,5,none⟩=some (.pointer o1):=fun W hb=> ⟨hb,(hb.cell (Q8 f0)).trans f0,(hb.cell (Q8 f1)).trans f1,(hb.cell (Q8 f2)).trans f2,(hb.cell (Q8 f3)).trans f3,(hb.cell (Q8 f4)).trans f4,(hb.cell (Q8 f5)).trans f5⟩;have HS:=hd_ mkS;have HE:=hd_ hE2;have HA:=h4_ htm0 (HG.a 0 t0 ht0) htm1 (HG.a 1 t1 ht1);have hi0:(0:Int) < (ts.length:Int):=(by omega);have hi1:0 < ts.length:=(by omega);have hi2:(1:Int) < (ts.length:Int):=(by omega);have hi3:1 < ts.length:=(by omega);clear mkS hE2 hE g0 f0 f1 f2 ht0 htm0 hk1 g1 f3 f4 f5 ht1 htm1;go_wp2_with fail;refine Xk (S:=fun w'=> Below wr.heap.size wr w'∧w'.cell? ⟨b0,0,none⟩=some (.bool x0)∧w'.cell? ⟨b0,1,none⟩=some (.slice y0 (wd t0.rest).length c0)∧w'.cell? ⟨b0,2,none⟩=some (.pointer o0)∧w'.cell? ⟨b0,3,none⟩=some (.bool x1)∧w'.cell? ⟨b0,4,none⟩=some (.slice y1 (wd t1.rest).length c1)∧w'.cell? ⟨b0,5,none⟩=some (.pointer o1)) (by simp) (by simp) (by kernel_rfl) (by kernel_rfl) (by kernel_rfl) (HS.o _ ((eB_ _ _).drew)) (fun hHeld=> ?_);simp only[lA_];refine tk_ 0 rfl ?_;(try simp only[Act.put,gP_]);refine tk_ 1 rfl ?_;(try simp only[Act.put,gP_]);refine tk_ 2 rfl ?_;(try simp only[Act.put,gP_]);refine tk_ 3 rfl ?_;(try simp only[Act.put,gP_]);refine tk_ 4 rfl ?_;(try simp only[Act.put,gP_]);refine tk_ 5 rfl ?_;(try simp only[Act.put,gP_]);refine rd_ 6 rfl (fun KK hKK=> ?_);simp only[gA_];go_simp;have hw7:=(eB_ wr.heap.size wr).drew;refine eH_ (Q1l (HA.a.below hw7) (HA.c.below hw7) HA.b.2 HA.E.rise HA.b.1 HA.d (by decide) (by decide)) ?_;rintro r w9 ⟨v9,rfl,ht9,hb9⟩;replace hb9:Below wr.heap.size wr w9:=hw7.trans (hb9.mono hw7.size);have H2:=h2_ ht9 (HR.D.trans (hb9.mono HR.D.size));dsimp only;refine hKK.out _ _ (HS.o _ hb9) (fun hHeld=> ?_);clear hKK KK;(try simp only[Act.put,sA_]);refine wpAnyH_done (by kernel_rfl) ?_ _;unfold PeelQ;dsimp only;refine Y5 _ _ rfl rfl (HM.o _ H2.B).2.1 rfl rfl H2.a (show w.heap.size≤w.heap.size+1 by omega) (HM.o _ H2.B).2.2.1 ?_;rintro W cs hg hs hn hb;have HT:=h4_ hg hs hn hb;clear hg hs hn hb;go_simp;go_wp2_with fail;refine eG_ (Xo rfl rfl HT.a HT.b rfl) rfl ?_;refine ⟨.agg cs,?_,?_,HT.D⟩
     ·rw[HE.o];rfl
     ·rw[HE.o];exact HT.c
    by_cases q9:op=9
    ·subst q9;have hk1:ts.length=2:=by
      have q1:=HN.d;have q2:=HG.b;have q3:knum 9=2:=(by decide);omega
     obtain ⟨t0,ht0⟩:∃ t,ts[0]? =some t:=⟨_,eA_ (by omega)⟩
     obtain ⟨b0,e0,x0,y0,c0,o0,f0,f1,f2,htm0⟩:=HR.c.get ht0;subst e0;simp only[Nat.zero_mul,Nat.zero_add] at f0 f1 f2;have g0:ts.getD 0 Tp.zero=t0:=(by rw[List.getD_eq_getElem?_getD,ht0];rfl);obtain ⟨t1,ht1⟩:∃ t,ts[1]? =some t:=⟨_,eA_ (by omega)⟩
     obtain ⟨b1,e1,x1,y1,c1,o1,f3,f4,f5,htm1⟩:=HR.c.get ht1;injection e1 with e1;injection e1 with e1 _ _;subst e1;simp only[Nat.one_mul,Nat.reduceAdd] at f3 f4 f5;have g1:ts.getD 1 Tp.zero=t1:=(by rw[List.getD_eq_getElem?_getD,ht1];rfl);have hE2:Ex.of (.mk 9 name mod z yes kids pos)=Ex.prod t0 t1:=hE.trans (by rw[g0,g1];rfl);have mkS:∀ W:World,Below wr.heap.size wr W→Below wr.heap.size wr W∧W.cell? ⟨b0,0,none⟩=some (.bool x0)∧W.cell? ⟨b0,1,none⟩=some (.slice y0 (wd t0.rest).length c0)∧W.cell? ⟨b0,2,none⟩=some (.pointer o0)∧W.cell? ⟨b0,3,none⟩=some (.bool x1)∧W.cell? ⟨b0,4,none⟩=some (.slice y1 (wd t1.rest).length c1)∧W.cell? ⟨b0,5,none⟩=some (.pointer o1):=fun W hb=> ⟨hb,(hb.cell (Q8 f0)).trans f0,(hb.cell (Q8 f1)).trans f1,(hb.cell (Q8 f2)).trans f2,(hb.cell (Q8 f3)).trans f3,(hb.cell (Q8 f4)).trans f4,(hb.cell (Q8 f5)).trans f5⟩;have HS:=hd_ mkS;have HE:=hd_ hE2;have HA:=h4_ htm0 (HG.a 0 t0 ht0) htm1 (HG.a 1 t1 ht1);have hi0:(0:Int) < (ts.length:Int):=(by omega);have hi1:0 < ts.length:=(by omega);have hi2:(1:Int) < (ts.length:Int):=(by omega);have hi3:1 < ts.length:=(by omega);clear mkS hE2 hE g0 f0 f1 f2 ht0 htm0 hk1 g1 f3 f4 f5 ht1 htm1;go_wp2_with fail;refine Xk (S:=fun w'=> Below wr.heap.size wr w'∧w'.cell? ⟨b0,0,none⟩=some (.bool x0)∧w'.cell? ⟨b0,1,none⟩=some (.slice y0 (wd t0.rest).length c0)∧w'.cell? ⟨b0,2,none⟩=some (.pointer o0)∧w'.cell? ⟨b0,3,none⟩=some (.bool x1)∧w'.cell? ⟨b0,4,none⟩=some (.slice y1 (wd t1.rest).length c1)∧w'.cell? ⟨b0,5,none⟩=some (.pointer o1)) (by simp) (by simp) (by kernel_rfl) (by kernel_rfl) (by kernel_rfl) (HS.o _ ((eB_ _ _).drew)) (fun hHeld=> ?_);simp only[lA_];refine tk_ 0 rfl ?_;(try simp only[Act.put,gP_]);refine tk_ 1 rfl ?_;(try simp only[Act.put,gP_]);refine tk_ 2 rfl ?_;(try simp only[Act.put,gP_]);refine tk_ 3 rfl ?_;(try simp only[Act.put,gP_]);refine tk_ 4 rfl ?_;(try simp only[Act.put,gP_]);refine tk_ 5 rfl ?_;(try simp only[Act.put,gP_]);refine rd_ 6 rfl (fun KK hKK=> ?_);simp only[gA_];go_simp;have hw7:=(eB_ wr.heap.size wr).drew;obtain ⟨code,hcode⟩:∃ x:Int,(if (Ex.prod t0 t1).isSome=true then (0:Int) else 35)=x:=⟨_,rfl⟩
     have hpr:=DP (HA.a.below hw7) (HA.c.below hw7) HA.b.2.rise HA.E.rise HA.b.1 HA.d (by decide);unfold OfOut at hpr;rw[hcode] at hpr;refine eH_ hpr ?_;rintro r w9 ⟨v9,rfl,ht9,hb9⟩;replace hb9:Below wr.heap.size wr w9:=hw7.trans (hb9.mono hw7.size);have H2:=h2_ ht9 (HR.D.trans (hb9.mono HR.D.size));clear hpr;have HCO:=hd_ hcode;clear hcode;dsimp only;refine hKK.out _ _ (HS.o _ hb9) (fun hHeld=> ?_);clear hKK KK;(try simp only[Act.put,sA_]);refine tk_ 7 rfl ?_;(try simp only[Act.put,gP_]);refine tk_ 8 rfl ?_;(try simp only[Act.put,gP_]);refine wpAnyH_done (by kernel_rfl) ?_ _;unfold PeelQ;dsimp only;refine Y5 _ _ rfl rfl (HM.o _ H2.B).2.1 rfl rfl H2.a (show w.heap.size≤w.heap.size+1 by omega) (HM.o _ H2.B).2.2.1 ?_;rintro W cs hg hs hn hb;have HT:=h4_ hg hs hn hb;clear hg hs hn hb;go_simp;go_wp2_with fail;refine eG_ (Xo rfl rfl HT.a HT.b rfl) rfl ?_;refine ⟨.agg cs,?_,?_,HT.D⟩
     ·rw[HE.o,HCO.o];rfl
     ·rw[HE.o];exact HT.c
    have hE2:Ex.of (.mk op name mod z yes kids pos)=none:=hE.trans (by rw[if_neg q1,if_neg q3,if_neg q4,if_neg q5,if_neg q7,if_neg q8,if_neg q9]);have HE:=hd_ hE2;clear hE hE2;go_wp2_with (refine Qw rfl _ _ rfl rfl (HM.o _ HR.D).2.1 rfl rfl (Tm.zero _) (show w.heap.size≤w.heap.size+1 by omega) (HM.o _ HR.D).2.2.1 ?_;rintro W cs - hcs hg hs hn hb;have HT:=h4_ hg hs hn hb;clear hg hs hn hb hcs);refine eG_ (Xo rfl rfl HT.a HT.b rfl) rfl ?_;refine ⟨.agg cs,?_,?_,HT.D⟩
    ·rw[HE.o];rfl
    ·rw[HE.o];exact HT.c
def peelableW (ops:Array Oper) (st:Oper):Bool:=
 (List.range ops.size).all (fun i=> ((ops[i]?).map fun o=> o.after.all (fun e=> decide (e.on < i) || !Region.binds .any e) && (match o.guard with | none=> true | some (j,_)=> decide (j < ops.size))).getD true) &&
 ((List.range ops.size).all fun j=> st.after.any fun e=> e.on==j && Region.binds .any e) && st.after.all (fun e=> decide (e.on < ops.size) || !Region.binds .any e) && st.guard.isNone
section
variable {P:Program} {ops:Array Oper} {st:Oper} {Q:Exit→Act→World→Prop} {S:World→Prop}
theorem ZY (h:peelableW ops st=true) {i:Nat} {o:Oper} (ho:ops[i]? =some o):(∀ e∈o.after,Region.binds .any e=true→e.on < i)∧∀ j b,o.guard=some (j,b)→j < ops.size:=by
 unfold peelableW at h;simp only[Bool.and_eq_true] at h;have hi:i < ops.size:=by
  rcases eS_ i ops.size with h | h
  ·exact h
  ·rw[Array.getElem?_eq_none h] at ho;cases ho
 have h1:=List.all_eq_true.1 h.1.1.1 i (List.mem_range.2 hi);rw[ho] at h1;simp only[Option.map_some,Option.getD_some,Bool.and_eq_true] at h1;refine ⟨fun e he hb=> ?_,fun j b hg=> ?_⟩
 ·have h3:=Array.all_eq_true_iff_forall_mem.1 h1.1 e he;rw[hb,Bool.not_true,Bool.or_false] at h3;exact of_decide_eq_true h3
 have h2:=h1.2;rw[hg] at h2;exact of_decide_eq_true h2
theorem UK (h:peelableW ops st=true):(∀ j,j < ops.size→∃ e∈st.after,e.on=j∧Region.binds .any e=true)∧(∀ e∈st.after,Region.binds .any e=true→e.on < ops.size)∧st.guard=none:=by
 unfold peelableW at h;simp only[Bool.and_eq_true] at h;refine ⟨fun j hj=> ?_,fun e he hb=> ?_,Option.isNone_iff_eq_none.1 h.2⟩;rotate_left
 ·have h3:=Array.all_eq_true_iff_forall_mem.1 h.1.2 e he;rw[hb,Bool.not_true,Bool.or_false] at h3;exact of_decide_eq_true h3
 have h1:=List.all_eq_true.1 h.1.1.2 j (List.mem_range.2 hj);obtain ⟨k,hk,h2⟩:=Array.any_eq_true.1 h1;rw[Bool.and_eq_true] at h2;exact ⟨_,Array.getElem_mem hk,by simpa using h2.1,h2.2⟩
theorem Xb {l:Array Bool} (h:j < l.size) (d:Bool):(l.push false).getD j d=l.getD j d:=by
 simp[Array.getD,Array.getElem_push,h,Nat.lt_succ_of_lt h]
theorem YK (h:j < ops.size):(ops.push st)[j]? =ops[j]? :=by
 rw[Array.getElem?_push,if_neg (by omega)]
theorem G6 (hp:peelableW ops st=true) {l:Array Bool} (hl:l.size=ops.size) {j:Nat} (hj:j∈Region.ready .any (ops.push st) (l.push false)):(j < ops.size∧j∈Region.ready .any ops l)∨(j=ops.size∧∀ k,k < ops.size→l.getD k false=true):=by
 rw[mem_ready] at hj;obtain ⟨h0,o,ho,hall⟩:=hj;rcases Nat.lt_trichotomy j ops.size with hlt | rfl | hgt
 ·refine Or.inl ⟨hlt,?_⟩;rw[YK hlt] at ho;rw[mem_ready];refine ⟨by rw[Xb (by omega)] at h0;exact h0,o,ho,fun e he hb=> ?_⟩;have h1:=hall e he hb;rw[Xb (by have:=(ZY hp ho).1 e he hb;omega)] at h1;exact h1
 ·refine Or.inr ⟨rfl,fun k hk=> ?_⟩;rw[Array.getElem?_push,if_pos rfl] at ho;injection ho with ho;subst ho;obtain ⟨e,he,rfl,hb⟩:=(UK hp).1 k hk;have h1:=hall e he hb;rw[Xb (by omega)] at h1;exact h1
 ·rw[Array.getElem?_eq_none (by rw[Array.size_push];omega)] at ho;cases ho
theorem Q66 (hp:peelableW ops st=true) {l:Array Bool} (hl:l.size=ops.size) {j:Nat} (hj:j∈Region.ready .any ops l):j∈Region.ready .any (ops.push st) (l.push false):=by
 rw[mem_ready] at hj ⊢;obtain ⟨h0,o,ho,hall⟩:=hj;have hlt:j < ops.size:=by
  rcases eS_ j ops.size with h | h
  ·exact h
  ·rw[Array.getElem?_eq_none h] at ho;cases ho
 refine ⟨by rw[Xb (by omega)];exact h0,o,by rw[YK hlt];exact ho,fun e he hb=> ?_⟩;rw[Xb (by have:=(ZY hp ho).1 e he hb;omega)];exact hall e he hb
theorem Q4B (hp:peelableW ops st=true) {l:Array Bool} (hl:l.size=ops.size) (hr:Region.ready .any ops l= []):∀ k,k < ops.size→l.getD k false=true:=by
 intro k
 induction k using Nat.strongRecOn with
 | _ k ih=>
  intro hk;cases hb:l.getD k false with
  | true=> rfl
  | false=>
   exfalso;obtain ⟨o,ho⟩:∃ o,ops[k]? =some o:=⟨_,Array.getElem?_eq_getElem hk⟩
   have:k∈Region.ready .any ops l:=by
    rw[mem_ready];refine ⟨?_,o,ho,fun e he hbn=> ?_⟩
    ·have hk2:k < l.size:=(by omega);simp[Array.getD,hk2] at hb ⊢;exact hb
    ·have:=(ZY hp ho).1 e he hbn;exact ih e.on this (by omega)
   rw[hr] at this;cases this
theorem Dw (hp:peelableW ops st=true) {l:Array Bool} (hl:l.size=ops.size) (ha:∀ k,k < ops.size→l.getD k false=true):Region.ready .any ops l= []∧ops.size∈Region.ready .any (ops.push st) (l.push false)∧Region.ready .any (ops.push st) ((l.push false).setIfInBounds ops.size true)= []:=by
 have hno:∀ k,k < ops.size→l.getD k true=true:=fun k hk=> by
  have h:=ha k hk;have hk2:k < l.size:=by omega
  simp[Array.getD,hk2] at h ⊢;exact h
 refine ⟨?_,?_,?_⟩
 ·refine List.eq_nil_iff_forall_not_mem.2 fun j hj=> ?_;obtain ⟨h0,o,ho,_⟩:=mem_ready.1 hj;rcases eS_ j ops.size with h | h
  ·rw[hno j h] at h0;cases h0
  ·rw[Array.getElem?_eq_none h] at ho;cases ho
 ·rw[mem_ready];refine ⟨by rw[←hl];simp[Array.getD],st,by rw[Array.getElem?_push,if_pos rfl],fun e he hb=> ?_⟩;have h1:=(UK hp).2.1 e he hb;rw[Xb (by omega)];exact ha _ h1
 ·refine List.eq_nil_iff_forall_not_mem.2 fun j hj=> ?_;obtain ⟨h0,o,ho,_⟩:=mem_ready.1 hj;rcases Nat.lt_trichotomy j ops.size with h | rfl | h
  ·rw[getD_set_ne true (by omega),Xb (by omega),hno j h] at h0;cases h0
  ·simp[Array.getD,hl] at h0
  ·rw[Array.getElem?_eq_none (by rw[Array.size_push];omega)] at ho;cases ho
theorem DR (h:j < ops.size):yielded (ops.push st) tmps j=yielded ops tmps j:=by
 unfold yielded;rw[YK h]
theorem Q3d (hp:peelableW ops st=true) {i:Nat} (hi:i < ops.size) {K K':Act→World→Prop} {a:Act} {w:World} (hK:∀ a w,K a w→K' a w) (h:wpOp P ops (PeelQ P st Q) i K a w):wpOp P (ops.push st) Q i K' a w:=by
 obtain ⟨o,ho⟩:∃ o,ops[i]? =some o:=⟨_,Array.getElem?_eq_getElem hi⟩
 unfold wpOp at h ⊢;rw[YK hi];rw[ho] at h ⊢;dsimp only at h ⊢;have hw:Region.wanted o (yielded (ops.push st) a.tmps)=Region.wanted o (yielded ops a.tmps):=by
  unfold Region.wanted;cases hg:o.guard with
  | none=> rfl
  | some jb=>
   obtain ⟨j,b⟩:=jb;dsimp only;rw[DR ((ZY hp ho).2 j b hg)]
 rw[hw];split
 ·rename_i hx;rw[if_pos hx] at h;rcases h with h | ⟨h1,h2⟩
  ·exact Or.inl (Oper.wp_mono hK (Ln h))
  ·exact Or.inr ⟨h1,h2⟩
 ·rename_i hx;rw[if_neg hx] at h;exact hK _ _ h
theorem Q0y {big:Array Oper} {listed:Array Bool} {w:World} (hr:Region.ready .any big listed= []) (h:Q .normal a w):∀ fuel,wpAny P .any big Q fuel listed a w
 | 0=> ⟨hr,h⟩
 | _+1=> ⟨fun _=> h,by rw[hr];simp⟩
theorem Dx (hp:peelableW ops st=true) {l:Array Bool} (hl:l.size=ops.size) (hr:Region.ready .any ops l= []) {a:Act} {w:World} (h:PeelQ P st Q .normal a w) (fuel:Nat):wpAny P .any (ops.push st) Q (fuel+1) (l.push false) a w:=by
 have ha:=Q4B hp hl hr;obtain ⟨_,h2,h3⟩:=Dw hp hl ha;refine ⟨fun e=> (by rw[e] at h2;cases h2),fun i hi=> ?_⟩;rcases G6 hp hl hi with ⟨_,h4⟩ | ⟨rfl,_⟩
 ·rw[hr] at h4;cases h4
 ·unfold wpOp;rw[Array.getElem?_push,if_pos rfl];dsimp only;rw[if_pos (by unfold Region.wanted;rw[(UK hp).2.2])];exact Or.inl (Oper.wp_mono (fun a' w' h'=> Q0y h3 h' fuel) h)
theorem Q4C {l:Array Bool} {i:Nat} (h:i < l.size):(l.push false).setIfInBounds i true=(l.setIfInBounds i true).push false:=by
 refine Array.ext_getElem? fun j=> ?_;by_cases hj:i=j
 ·subst hj;rw[Array.getElem?_push,if_neg (by simp;omega)];simp[h,Nat.lt_succ_of_lt h]
 ·rw[Array.getElem?_setIfInBounds_ne hj,Array.getElem?_push,Array.getElem?_push,Array.getElem?_setIfInBounds_ne hj,Array.size_setIfInBounds]
theorem LF (hp:peelableW ops st=true):∀ (fuel:Nat) (l:Array Bool) (a:Act) (w:World),l.size=ops.size→wpAny P .any ops (PeelQ P st Q) fuel l a w→wpAny P .any (ops.push st) Q (fuel+1) (l.push false) a w
 | 0,l,a,w,hl,h=> Dx hp hl h.1 h.2 0
 | fuel+1,l,a,w,hl,h=> by
  by_cases hr:Region.ready .any ops l= []
  ·exact Dx hp hl hr (h.1 hr) _
  ·refine ⟨fun e=> ?_,fun i hi=> ?_⟩
   ·obtain ⟨j,hj⟩:=List.exists_mem_of_ne_nil _ hr;have:=Q66 (st:=st) hp hl hj;rw[e] at this;cases this
   ·rcases G6 hp hl hi with ⟨h3,h4⟩ | ⟨rfl,ha⟩
    ·refine Q3d hp h3 (fun a' w' h'=> ?_) (h.2 i h4);rw[Q4C (by omega)];exact LF hp fuel _ a' w' (by simpa using hl) h'
    ·exact absurd (Dw hp hl ha).1 hr
theorem Q1Y (hp:peelableW ops st=true) (fuel:Nat) (l:Array Bool) (a:Act) (w:World) (hl:l.size=ops.size) (h:wpAnyH P .any ops (PeelQ P st Q) S fuel l a w):wpAny P .any (ops.push st) Q (fuel+1) (l.push false) a w:=
 LF hp fuel l a w hl (wpAny_of_held fuel l a w h)
end
theorem Ge {P:Program} {Q:Exit→Act→World→Prop} {S:World→Prop} (ops:List Oper) (st:Oper) {a:Act} {w:World} (he:all=ops++ [st]) (hm:P.follows .mixedOrders=true) (hp:peelableW ops.toArray st=true) (hS:S w.drew)
  (h:S w.drew→wpAnyH P .any ops.toArray (PeelQ P st Q) S ops.length (Array.replicate ops.length false) a w.drew):(Code.region id all.toArray true).wp P Q a w:=by
 subst he;have e1:(ops++ [st]).toArray=ops.toArray.push st:=by simp
 refine wp_region_any hm ?_;rw[e1,Array.size_push];have e2:Array.replicate (ops.toArray.size+1) false=(Array.replicate ops.toArray.size false).push false:=by
  rw[Array.replicate_succ]
 rw[e2];exact Q1Y hp _ _ a _ (by simp) (h hS)
theorem QB {P:Program} {Q:Exit→Act→World→Prop} {S:World→Prop} (hne:all≠ []) {a:Act} {w:World} (hm:P.follows .mixedOrders=true) (hp:peelableW all.dropLast.toArray (all.getLast hne)=true) (hS:S w.drew)
  (h:S w.drew→wpAnyH P .any all.dropLast.toArray (PeelQ P (all.getLast hne) Q) S all.dropLast.length (Array.replicate all.dropLast.length false) a w.drew):(Code.region id all.toArray true).wp P Q a w:=
 Ge all.dropLast (all.getLast hne) (List.dropLast_concat_getLast hne).symm hm hp hS h
def ptCells (ps:List (Tp.Nm × Int)):List Value:=ps.flatMap fun p=> [.string ⟨p.1.toArray⟩,.int .i64 p.2]
theorem QU {K:Act→World→Prop} {Q:Exit→Act→World→Prop} (x v:Operand) (ho:o.op= .store 50 x v)
  {g:Nat} {zs:Array Value} (hx:a.eval x= .pointer (some ⟨g,0,none⟩)) (hg:w1.heap[g]? =some (.cells zs 50 (0,0))) (hz:zs.size=4) {val:Value} {t:Tp.T} (hv:a.eval v=val) (hn:Tz w1 val t)
  {B:Nat} {w0:World} (hB:B≤g) (hb:Below B w0 w1)
  (h:∀ W cs,W=w1.setRow g cs→W.heap[g]? =some (.cells cs 50 (0,0))→cs.size=4→Tz W (.agg cs) t→Below B w0 W→K (a.put o.dst undef) W):Oper.wp prog o a w1 K Q:=by
 obtain ⟨an,cn,af,cf,ad,cd,rfl,hn⟩:=hn.form;refine XX _ x v ho _ g zs _ hx hg hv (by rw[hz];rfl) QJ (by simp[Value.oneCell']) ?_;exact h _ _ rfl (Qb hg) rfl (hn.frt (Qg hg) (by decide) (by decide) (by decide)) (Qc hb hB _)
theorem QK {K:Act→World→Prop} {Q:Exit→Act→World→Prop} (x v:Operand) (ho:o.op= .store 38 x v)
  {g:Nat} {zs:Array Value} (hx:a.eval x= .pointer (some ⟨g,0,none⟩)) (hg:w1.heap[g]? =some (.cells zs 38 (0,0))) (hz:zs.size=3) {val:Value} {t:Tp.T} (hv:a.eval v=val) (hn:Tm w1 val t)
  {B:Nat} {w0:World} (hB:B≤g) (hb:Below B w0 w1)
  (h:∀ W cs,FrT [38] w1 W→W=w1.setRow g cs→W.heap[g]? =some (.cells cs 38 (0,0))→cs.size=3→Tm W (.agg cs) t→Below B w0 W→K (a.put o.dst undef) W):Oper.wp prog o a w1 K Q:=by
 obtain ⟨cs,rfl,hs,h1⟩:=hn.cells;refine XX _ x v ho _ g zs cs hx hg hv (by rw[hz,hs]) (by rw[hs];exact QD) h1 ?_;exact h _ cs (Qg hg) rfl (Qb hg) hs (hn.frt (Qg hg) (by decide) (by decide) (by decide)) (Qc hb hB cs)
theorem QS {P:Program} {fn:Func} {p q u:Tmp} {ty ty2:TypeId} (h:fn.results= #[.cell p ty,.cell q ty2,.tmp u]) (tmps:Array Value) (w:World) (g g2:Nat) (t t2:TypeId) (cs cs2:Array Value) (fr fr2:Nat × Nat) (d d2:TypeDesc)
  (hp:tmps.getD p undef= .pointer (some ⟨g,0,none⟩)) (hq:tmps.getD q undef= .pointer (some ⟨g2,0,none⟩)) (hg:w.heap[g]? =some (.cells cs t fr)) (hg2:w.heap[g2]? =some (.cells cs2 t2 fr2))
  (hu:P.underlying ty=some d) (hd:(match d with | .struct _ | .array _ _=> true | _=> false)=true) (hi:(P.info? ty).map (·.size)=some cs.size)
  (hu2:P.underlying ty2=some d2) (hd2:(match d2 with | .struct _ | .array _ _=> true | _=> false)=true) (hi2:(P.info? ty2).map (·.size)=some cs2.size) {x:Value} (hx:tmps.getD u undef=x):
  (results fn tmps).run P w= .ok (.tuple #[.agg cs,.agg cs2,x]) w:=by
 have hp':tmps[p]?.getD undef= .pointer (some ⟨g,0,none⟩):=by simpa using hp
 have hq':tmps[q]?.getD undef= .pointer (some ⟨g2,0,none⟩):=by simpa using hq
 have hx':tmps[u]?.getD undef=x:=by simpa using hx
 simp[results,h,hp',hq',hx',asAddr,run_loadVar_row w g t ty cs fr d hg hu hd hi,run_loadVar_row w g2 t2 ty2 cs2 fr2 d2 hg2 hu2 hd2 hi2]
def BothOut (ps:List (Tp.Nm × Int)) (n:Int) (w:World) (r:Ending) (w':World):Prop:=
 ∃ (vt vx:Value) (ok:Bool) (t x:Tp.T),r= .returned (.tuple #[vt,vx,.bool ok])∧Tm w' vt t∧Tz w' vx x∧Below w.heap.size w w'∧
  (ok=true→t=Tp.sum ⟨[],n⟩ ps∧x=t∧ps.length≤12∧ -1099511627776≤n∧n≤1099511627776∧∀ p∈ps,p.1.length≤40∧ -1099511627776≤p.2∧p.2≤1099511627776)
theorem QL {W5:World} {o:Obj} (hw:W5=W.setRow g cs) (hne:h≠g) (r:W.heap[h]? =some o):W5.heap[h]? =some o:=by rw[hw,Q9 hne,r]
structure TwoT (V:World) (g h:Nat) (t x:Tp.T) (W:World):Prop where
 t:∃ cs,W.heap[g]? =some (.cells cs 38 (0,0))∧cs.size=3∧Tm W (.agg cs) t
 x:∃ cs,W.heap[h]? =some (.cells cs 50 (0,0))∧cs.size=4∧Tz W (.agg cs) x
 b:Below V.heap.size V W
 g:V.heap.size≤g
 h:V.heap.size≤h
theorem Q1Z (h1: -1099511627776≤z) (h2:z≤1099511627776):Bd 13 z:=by
 unfold Bd;have:(10:Nat) ^ 13=10000000000000:=by decide
 omega
theorem LG:∀ (ps:List (Tp.Nm × Int)) {t:Tp.T} {K:Nat},(∀ p∈ps,Bd 13 p.2)→Sm K t→Tp.Ok t.l→Sm (K+15*ps.length) (Tp.sum t ps)
 | [],t,K,_,h,_=> h
 | p::r,t,K,hp,h,ho=> by
  have h1:=Sm.add h ho (Sm.name p.1) (XE p.1).rise (hp p (eX_ ..));have h2:=LG r (fun q hq=> hp q (eR_ _ hq)) h1 (Tp.Yp ho _ _);rw[show Tp.sum t (p::r)=Tp.sum (Tp.add t (Tp.name p.1) p.2) r from rfl];exact h2.mono (by simp only[eL_];omega)
theorem Q67 {ps:List (Tp.Nm × Int)} {p:Tp.Nm × Int} (h:ps[j]? =some p):Tp.sum t (ps.take (j+1))=Tp.add (Tp.sum t (ps.take j)) (Tp.name p.1) p.2:=by
 rw[List.take_add_one,h,Option.toList_some,Tp.sum,List.foldl_append];rfl
def Fits (n:Int) (ps:List (Tp.Nm × Int)):Prop:=ps.length≤12∧ -1099511627776≤n∧n≤1099511627776∧∀ p∈ps,p.1.length≤40∧ -1099511627776≤p.2∧p.2≤1099511627776
theorem Fits.sm {ps:List (Tp.Nm × Int)} (h:Fits n ps):Sm 1000 (Tp.sum ⟨[],n⟩ ps)∧Tp.Ok (Tp.sum ⟨[],n⟩ ps).l:=
 ⟨(LG ps (K:=13) (fun p hp=> Q1Z (h.2.2.2 p hp).2.1 (h.2.2.2 p hp).2.2) ⟨fun p hp=> (by cases hp),Q1Z h.2.1 h.2.2.1,by simp⟩ Tp.Ok.nil).mono (by have:=h.1;omega),Tp.Q4P ps Tp.Ok.nil⟩
theorem Fits.take {n:Int} {ps:List (Tp.Nm × Int)} {j:Nat} {p:Tp.Nm × Int} (h:Fits n (ps.take j)) (hl:ps.length≤12) (hp:ps[j]? =some p) (h1:p.1.length≤40) (h2: -1099511627776≤p.2) (h3:p.2≤1099511627776):Fits n (ps.take (j+1)):=by
 refine ⟨by rw[eN_];omega,h.2.1,h.2.2.1,fun q hq=> ?_⟩;rw[List.take_add_one,hp,Option.toList_some] at hq;rcases List.mem_append.1 hq with hq | hq
 ·exact h.2.2.2 q hq
 ·rw[List.mem_singleton.1 hq];exact ⟨h1,h2,h3⟩
theorem TwoT.ne (H:TwoT V g h t x W):g≠h:=by
 rintro rfl;obtain ⟨cs,h1,_⟩:=H.t;obtain ⟨cs2,h2,_⟩:=H.x;rw[h1] at h2;injection h2 with h2;injection h2 with _ e _;exact absurd e (by decide)
theorem TwoT.past (H:TwoT V g h t x W) (hb:Below W.heap.size W W'):TwoT V g h t x W':=by
 obtain ⟨⟨cs,h1,h2,h3⟩,⟨cs2,h4,h5,h6⟩,h7,h8,h9⟩:=H;exact ⟨⟨cs,Qa h1 hb,h2,h3.below hb⟩,⟨cs2,Qa h4 hb,h5,h6.below hb⟩,h7.trans (hb.mono h7.size),h8,h9⟩
def BoRel (V:World) (g h:Nat) (n:Int) (ps:List (Tp.Nm × Int)) (k:Nat) (v:Value) (wr:World):Prop:=
 ∃ j:Nat,v= .int .i64 j∧k=ps.length - j∧j≤ps.length∧Fits n (ps.take j)∧TwoT V g h (Tp.sum ⟨[],n⟩ (ps.take j)) (Tp.sum ⟨[],n⟩ (ps.take j)) wr
theorem Q3e {w:World} {P:Nat→Prop} {a:Option Addr} {ps:List (Tp.Nm × Int)} (h:RdS w P 2 (.slice a ps.length c) ps.length (ptCells ps)) {j:Nat} {p:Tp.Nm × Int} (hj:ps[j]? =some p):∃ b off,a=some ⟨b,off,none⟩∧w.rangeAt b (off+j*2) [.string ⟨p.1.toArray⟩,.int .i64 p.2]:=by
 obtain ⟨_,a2,c2,e,_,h4⟩:=h;injection e with e1 _ _;subst e1;have hlt:=(List.getElem?_eq_some_iff.1 hj).1;rcases h4 with ⟨_,h4⟩ | ⟨b,off,rfl,_,h6⟩
 ·omega
 ·exact ⟨b,off,rfl,QT (f:=fun p:Tp.Nm × Int=> [Value.string ⟨p.1.toArray⟩,.int .i64 p.2]) (s:=2) (fun _=> rfl) h6 hj⟩
theorem ZZ:(prog.info? 67).map (·.size)=some 2:=by kernel_rfl
theorem Q7e {w:World} {s d:Value} (h:Zn w (.agg #[s,d]) z):Tz w (.agg #[.slice none 0 0,.slice none 0 0,s,d]) ⟨[],z⟩:=by
 obtain ⟨a,c,e,h2⟩:=h.form;injection e with e;have e1:s= .int .i64 (sgn z)∧d= .slice a (dg z).length c:=by simpa using e
 obtain ⟨rfl,rfl⟩:=e1;exact (TzO.nil 0 w).read (t:=⟨[],z⟩) h2
open Go.ChangeShapes Go.WideShapes Go.ChangeAt Go.RowKit
theorem Jc {H:Type} {enc:TypeId × Value→H} {P:Program} {W W':World} (hl:laidOutB P=true) (hb:Below W.heap.size W W'):
  ∀ (ts:List TypeId) (vs:List Value) (ds:List (DataW H)) (p:List MemPlace),(ts.all fun t=> P.readableRec t && decide (t < P.types.size))=true→
   DataW.TrodAll enc P W 0 (fun _=> true) true ts vs ds p→(∀ x∈p,x.block < W.heap.size)→
   DataW.TrodAll enc P W' 0 (fun b=> decide (b < W.heap.size)) true ts vs ds p
 | [], [], [],_,_,h,_=> h
 | t::ts,v::vs,d::ds,ps,hr,h,hlt=> by
  obtain ⟨p,q,h1,h2,rfl⟩:=h;simp only[List.all_cons,Bool.and_eq_true,decide_eq_true_eq] at hr;exact ⟨p,q,Below.trod hl hr.1.1 hr.1.2 h1 hb (fun x hx=> hlt x (List.mem_append_left _ hx)),
   Jc hl hb ts vs ds q hr.2 h2 (fun x hx=> hlt x (List.mem_append_right _ hx)),rfl⟩
 | [], [],_::_,_,_,h,_=> h.elim
 | [],_::_,_,_,_,h,_=> by cases h
 | _::_, [],_,_,_,h,_=> by cases h
 | _::_,_::_, [],_,_,h,_=> by cases h
theorem Q68 {H:Type} {enc:TypeId × Value→H} {P:Program} {f:Func} {s:ChangeSpec} {args:Array Value} {ds gs:List (DataW H)} {before:List MemPlace}
  (hl:laidOutB P=true) (hr:(f.params.toList.all fun t=> P.readableRec t && decide (t < P.types.size))=true) (hres:f.resultTypes= #[tb]) (htb:P.underlying tb=some .bool) (hv:s.vars= [])
  (hs:(s.fn H ds).results= [.lit (.bool true)]∧(s.fn H ds).args=ds∧(s.fn H ds).vars= [])
  (hW:DataW.Whole enc P f.params.toList s.vars false W args.toList ds gs before) (hb:Below W.heap.size W W'):
  s.post enc P f false true false false W args (.bool true) W':=by
 have hW':=hW;have hlt:=hW.lt;obtain ⟨p,q,hA,hV,rfl,hfz,hnd⟩:=hW;rw[hv] at hV;obtain ⟨rfl,rfl⟩:=trodVars_none hV;refine ⟨ds, [],p++ [], [],p, [],hW',?_,?_,?_,hb.frame _,fun h=> by cases h⟩
 ·rw[List.append_nil,hs.1,hres];exact trodAll_cons_mk (shut_bool htb _) trodAll_mk0
 ·rw[List.append_nil,hs.2.1];exact Jc hl hb _ _ _ _ hr hA (fun x hx=> hlt x (List.mem_append_left _ hx))
 ·rw[List.append_nil,hs.2.2,hv];exact rfl
def LawWalk {H:Type} (enc:TypeId × Value→H) (P:Program) (fid:FuncId) (f:Func) (W:World) (args:Array Value) (ds:List (DataW H)):Prop:=
 (∀ (base:Nat),(∀ (j:Nat) t v,f.params[j]? =some t→args[j]? =some v→Value.okWide P W .any base t v)→∀ p:List MemPlace,DataW.TrodAll enc P W 0 (fun _=> true) true f.params.toList args.toList ds p→
  (∀ x∈p,x.block < W.heap.size)→Calls P fid args W fun e W'=> e= .returned (.bool true)∧Below W.heap.size W W')
theorem Q0z {H:Type} {enc:TypeId × Value→H} {P:Program} {fid:FuncId} {f:Func} {s:ChangeSpec} {args:Array Value} {ds gs:List (DataW H)} {before:List MemPlace} {base:Nat}
  (hl:laidOutB P=true) (hr:(f.params.toList.all fun t=> P.readableRec t && decide (t < P.types.size))=true) (hres:f.resultTypes= #[tb]) (htb:P.underlying tb=some .bool) (hv:s.vars= [])
  (hs:(s.fn H ds).results= [.lit (.bool true)]∧(s.fn H ds).args=ds∧(s.fn H ds).vars= [])
  (hval:∀ (j:Nat) t v,f.params[j]? =some t→args[j]? =some v→Value.okWide P W .any base t v)
  (hW:DataW.Whole enc P f.params.toList s.vars false W args.toList ds gs before) (h:LawWalk enc P fid f W args ds):
  Calls P fid args W fun e W'=> ∃ v,e= .returned v∧s.post enc P f false true false false W args v W':=by
 have hlt:=hW.lt;obtain ⟨p,q,hA,hV,hp,_⟩:=id hW;refine (h base hval p hA (fun x hx=> hlt x (by rw[hp];exact List.mem_append_left _ hx))).mono fun e W' ⟨he,hb⟩=> ?_;exact ⟨_,he,Q68 hl hr hres htb hv hs hW hb⟩
theorem Q3D {α:Type} {p:Nat→α→Prop}:∀ (n:Nat),(∀ i,i < n→∃ x,p i x)→∃ l:List α,l.length=n∧∀ i x,l[i]? =some x→p i x
 | 0,_=> ⟨[],rfl,fun i x h=> by simp at h⟩
 | n+1,h=> by
  obtain ⟨l,hl,hp⟩:=Q3D n fun i hi=> h i (by omega);obtain ⟨x,hx⟩:=h n (by omega);refine ⟨l++ [x],by simp[hl],fun i y hy=> ?_⟩;rcases eS_ i n with h1 | h1
  ·rw[eT_ (by omega)] at hy;exact hp i y hy
  ·have:=Tr.Z4 hy;simp only[eC_,eL_,eU_] at this;obtain rfl:i=n:=(by omega);rw[eO_ (by omega),hl,Nat.sub_self] at hy;simp only[eZ_,Option.some.injEq] at hy;rw[←hy];exact hx
theorem Dy {w:World} {off:Nat} {xs ys:List Value} (h:w.rangeAt b off xs) (k:w.rangeAt b (off+xs.length) ys):w.rangeAt b off (xs++ys):=by
 intro j v hj;rcases eS_ j xs.length with h1 | h1
 ·rw[eT_ h1] at hj;exact h j v hj
 ·rw[eO_ h1] at hj;have:=k (j - xs.length) v hj;rw[show off+xs.length+(j - xs.length)=off+j by omega] at this;exact this
theorem U7 {w:World} {b s:Nat} {α:Type} {f:α→List Value} (hf:∀ x,(f x).length=s):∀ {l:List α} {off:Nat},(∀ i x,l[i]? =some x→w.rangeAt b (off+i*s) (f x))→w.rangeAt b off (l.flatMap f)
 | [],_,_=> Zm _ _ _
 | y::l,off,h=> by
  rw[List.flatMap_cons];refine Dy (by simpa using h 0 y rfl) ?_;rw[hf];refine U7 hf fun i x hx=> ?_;have:=h (i+1) x (by simpa using hx);rw[show off+s+i*s=off+(i+1)*s by rw[Nat.add_mul];omega];exact this
open Go.ChangeShapes Go.WideShapes Go.ChangeAt Go.RowKit Go.Deep Go.Joins
section
variable {H:Type} {enc:TypeId × Value→H} {P:Program} {w:World} {base:Nat} {spare:Nat→Bool} {held:Bool}
theorem U8 {t:TypeId} {fs:Array Field} {cs:List Value} {x:DataW H × List MemPlace} (ht:P.underlying t=some (.slice e)) (he:P.underlying e=some (.struct fs))
  (hone:oneCellFields P fs=true) (hC:P.cellsOf e=fs.size) (h:DataW.trod enc P w base spare held fuel t cs=some x):
  (cs= [.slice none 0 0]∧x=(.nil, []))∨
  ∃ (a:Addr) (len cap m:Nat),cs= [.slice (some a) len cap]∧len≤cap∧cap≤maxLen∧m=(if spare a.block then cap else len)∧
   ∀ i,i < m→∃ (n:Nat),∀ (j:Nat) (f:Field),fs[j]? =some f→∃ (v:Value) (y:DataW H × List MemPlace),w.cell? (a.add (i*fs.size+j))=some v∧DataW.trod enc P w base spare held n f.type [v]=some y:=by
 rcases open_slice ht h with h0 | ⟨a,len,cap,m,n,D,Pl,hcs,hb,hl,hm,hmm,hx,hi⟩
 ·exact .inl h0
 ·refine .inr ⟨a,len,cap,m,hcs,hl,hm,hmm,fun i him=> ?_⟩;obtain ⟨cs',hc,ht'⟩:=hi i him;rw[hC] at hc;obtain ⟨ys,n',hn',hy,hlen,hyl,hf⟩:=DataW.trod_struct he ht';obtain ⟨_,hcl,hat⟩:=World.cells?_some hc;refine ⟨n',fun j f hj=> ?_⟩;obtain ⟨ho,hk⟩:=hone_of hone j f hj;have hjl:j < fs.size:=(Array.getElem?_eq_some_iff.1 hj).1;have hcell:=hat j hjl;have hv:cs'[j]? =some (cs'[j]'(by omega)):=eA_ (by omega);have h1:=hf j f hj;rw[ho,hk] at h1;have hone':(cs'.drop j).take 1= [cs'[j]'(by omega)]:=by
   rw[List.drop_eq_getElem_cons (by omega)];rfl
  rw[hone'] at h1;have hys:ys[j]? =some (ys[j]'(by omega)):=eA_ (by omega);exact ⟨_,_,by rw[←Go.Deep.add_add,hcell,hv],h1.trans hys⟩
end
theorem Q4D {a:Addr} (h:a.spot=none):a=⟨a.block,a.off,none⟩:=by cases a;simp at h;subst h;rfl
theorem Q20 {P:Program} {w:World} {r:Reach} {t:TypeId} {a:Addr} {len cap:Nat} (ht:P.underlying t=some (.slice e)) (h:Cell.okWide P w r b0 t (.slice (some a) len cap)):a.spot=none:=by
 unfold Cell.okWide at h;rw[ht] at h;simp only[Cell.ok,ht] at h;exact h.2.2.2.1
section
variable {H:Type} {enc:TypeId × Value→H} {w:World} {held:Bool}
theorem U9 {y:DataW H × List MemPlace} (h:DataW.trod enc prog w 0 (fun _=> true) held fuel 3 [v]=some y):∃ n,v= .int .i64 n:=by
 obtain ⟨n,hc,_,_⟩:=DataW.trod_int underlying3 h;simp only[List.cons.injEq,and_true] at hc;exact ⟨n,hc⟩
theorem Gf {y:DataW H × List MemPlace} (h:DataW.trod enc prog w 0 (fun _=> true) held fuel 9 [v]=some y):∃ l:List UInt8,v= .string ⟨l.toArray⟩:=by
 obtain ⟨s,hc,_,_⟩:=DataW.trod_string underlying9 h;simp only[List.cons.injEq,and_true] at hc;exact ⟨s.data.toList,by rw[hc]⟩
theorem Zj {P:Program} {r:Reach} {t:TypeId} {ts:List TypeId} (h:Row.okWide P w r b0 t cs) (hts:P.cellTypes P.depth t=some ts) {i:Nat} {v:Value} (hi:cs[i]? =some v) {u:TypeId} (hu:ts[i % ts.length]? =some u):Cell.okWide P w r b0 u v:=by
 obtain ⟨ts',h1,_,h2⟩:=h;rw[hts] at h1;obtain rfl:=Option.some.inj h1;obtain ⟨u',hu',hc⟩:=h2 i v hi;rw[hu] at hu';obtain rfl:=Option.some.inj hu';exact hc
theorem Q4E {X:Type} {xc:X→List Value} {K:Nat} (hxc:∀ x,(xc x).length=K) {t e:TypeId} {fs:Array Field} (hK:fs.size=K) (ht:prog.underlying t=some (.slice e)) (he:prog.underlying e=some (.struct fs))
  (hone:oneCellFields prog fs=true) (hC:prog.cellsOf e=fs.size)
  (hx:∀ (g:Nat→Option Value),(∃ n,∀ (j:Nat) (f:Field),fs[j]? =some f→∃ (v:Value) (y:DataW H × List MemPlace),g j=some v∧DataW.trod enc prog w 0 (fun _=> true) held n f.type [v]=some y)→∃ x:X,∀ j u,(xc x)[j]? =some u→g j=some u)
  {fuel:Nat} {v:Value} {y:DataW H × List MemPlace} (h:DataW.trod enc prog w 0 (fun _=> true) held fuel t [v]=some y) (hsp:∀ a n c,v= .slice (some a) n c→a.spot=none) (hK0:0 < K):
  ∃ l:List X,RdS w (fun k=> k < w.heap.size) K v l.length (l.flatMap xc):=by
 rcases U8 ht he hone hC h with ⟨hcs,_⟩ | ⟨a,len,cap,m,hcs,hl,hm,hmm,hf⟩
 ·simp only[List.cons.injEq,and_true] at hcs;subst hcs;exact ⟨[],RdS.nil _ _ _⟩
 ·simp only[List.cons.injEq,and_true] at hcs;subst hcs;simp only[if_true] at hmm;subst hmm;have ha:=Q4D (hsp a len m rfl);obtain ⟨l,hll,hlp⟩:=Q3D (p:=fun i (k:X)=> w.rangeAt a.block (a.off+i*K) (xc k)) len fun i hi=> by
   obtain ⟨n,hn⟩:=hf i (by omega);obtain ⟨x,hx⟩:=hx (fun j=> w.cell? (a.add (i*fs.size+j))) ⟨n,hn⟩;refine ⟨x,fun j u hj=> ?_⟩;have h1:=hx j u hj;rw[hK,ha,Addr.add_mid] at h1;rw[←h1,Nat.add_assoc]
  have hr:=U7 (f:=xc) (s:=K) hxc (off:=a.off) hlp;refine ⟨l,by rw[Zo (f:=xc) (s:=K) hxc],some a,m,by rw[hll],by omega,Or.inr ⟨a.block,a.off,by rw[←ha],?_,hr⟩⟩;rcases Nat.eq_zero_or_pos l.length with h0 | h0
  ·exact Or.inl h0
  ·refine Or.inr ?_;obtain ⟨k,hk⟩:∃ k,l[0]? =some k:=⟨_,eA_ h0⟩
   have hck:=hlp 0 k hk;have hlen:=hxc k;obtain ⟨u,hu⟩:∃ u,(xc k)[0]? =some u:=⟨_,eA_ (by omega)⟩
   exact Q8 (hck 0 u hu)
theorem cellsPart:prog.cellsOf 67=2:=by kernel_rfl
theorem cellsSum:prog.cellsOf 56=2:=by kernel_rfl
theorem Q3f {y:DataW H × List MemPlace} (h:DataW.trod enc prog w 0 (fun _=> true) held fuel 54 [v]=some y) (hsp:∀ a n c,v= .slice (some a) n c→a.spot=none):
  ∃ l:List (Tp.Nm × Int),RdS w (fun k=> k < w.heap.size) 2 v l.length (ptCells l):=by
 refine Q4E (xc:=fun p:Tp.Nm × Int=> [.string ⟨p.1.toArray⟩,.int .i64 p.2]) (fun _=> rfl) rfl underlying54 underlying67 (by kernel_rfl) cellsPart ?_ h hsp (by decide);rintro g ⟨n,hn⟩;obtain ⟨v0,y0,c0,t0⟩:=hn 0 _ rfl;obtain ⟨v1,y1,c1,t1⟩:=hn 1 _ rfl;obtain ⟨k0,rfl⟩:=Gf t0;obtain ⟨k1,rfl⟩:=U9 t1;refine ⟨⟨k0,k1⟩,fun j u hj=> ?_⟩
 match j,hj with
 | 0,hj=> simp only[eZ_,Option.some.injEq] at hj;subst hj;exact c0
 | 1,hj=> simp only[List.getElem?_cons_succ,eZ_,Option.some.injEq] at hj;subst hj;exact c1
 | j+2,hj=> simp at hj
theorem Q21 {r:Reach} {d:DataW H} {p:List MemPlace} (hv:Value.okWide prog w r b0 56 v) (h:DataW.Trod enc prog w 0 (fun _=> true) held 56 v d p):
  ∃ vp n ps,v= .agg #[vp,.int .i64 n]∧RdS w (fun k=> k < w.heap.size) 2 vp ps.length (ptCells ps)∧ -9223372036854775808≤n∧n≤9223372036854775807:=by
 have hv2:=hv;obtain ⟨v0,v1,y0,y1,n,rfl,_,_,h0,h1⟩:=open_agg2 underlying56 (by kernel_rfl) cellsSum hv h;unfold Value.okWide at hv2;rw[underlying56] at hv2;obtain ⟨cs,hcs,_,hrow⟩:=hv2;injection hcs with hcs;subst hcs;have hct:prog.cellTypes prog.depth 56=some [54,3]:=by kernel_rfl
 obtain ⟨ps,hp⟩:=Q3f h0 fun a n c e=> by
  subst e;exact Q20 underlying54 (Zj hrow hct (i:=0) rfl rfl)
 obtain ⟨m,rfl⟩:=U9 h1;have hc:=Zj hrow hct (i:=1) rfl rfl;unfold Cell.okWide at hc;rw[underlying3] at hc;simp only[Cell.ok,underlying3] at hc;exact ⟨v0,m,ps,rfl,hp,(show IntKind.i64=IntKind.i64∧IntKind.i64.has m from hc).2⟩
end
open Go.ChangeShapes Go.WideShapes Go.ChangeAt Go.RowKit Go.Deep
theorem own:ownKnob prog.godebug=none:=by kernel_rfl
theorem laidOut:laidOutB prog=true:=by kernel_rfl
def theLaid:List (String × DataW Unit):=Rows.termPutsRow.laid
theorem Q3g (w:World):laidMetH prog theLaid w=laidMet prog theLaid w:=MakeChecks.laidMetH_plain _ _ _ (by kernel_rfl)
theorem Q69 (os:Os) (args:Array Value):laidMet prog theLaid ((World.laidAll prog os theLaid).forCall (fun _ _=> 0) ⟨#[],args, []⟩).memory:=laidMet_laidAll _ (by kernel_rfl) (by kernel_rfl)
end Go.Proofs.YtiecccakcenobaaGreatDoor
