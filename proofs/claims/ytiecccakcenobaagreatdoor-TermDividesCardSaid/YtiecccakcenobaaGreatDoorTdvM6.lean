/- A part of the proof. -/
import Derived.Test.YtiecccakcenobaaGreatDoorTdvM5
import Derived.Deep.CutRange
set_option linter.all false
set_option maxRecDepth 100000
set_option maxHeartbeats 64000000
namespace Go.Proofs.YtiecccakcenobaaGreatDoor
theorem tc_ {P:Program} {ops:Array Oper} {Q:Exit->Act->World->Prop} {md:Region.Mode} {S:World->Prop} {v:Value} {fuel:Nat} {listed:Array Bool} {a:Act} {w:World} (i:Nat) {oi:Oper} (hi:ops[i]? = some oi) (h:wpAnyH P md ops Q S fuel (listed.setIfInBounds i true) (a.put oi.dst v) w) (hy:∀ w,S w->(execOp a.eval oi).run P w = .ok (.value v) w:=by ((try simp only[Act.put,gP_]);intro w hSw;(try dsimp only at hSw);go_simp;(try rw[if_neg (by omega)]);try with_reducible rfl)) (hs:Region.noSelect ops=true:=by kernel_rfl) (hf:Region.free md ops listed i=true:=by kernel_rfl) (hr:(Region.ready md ops listed).contains i=true:=by kernel_rfl) (hQ:∀ c a w,Q (.panic c) (a.put oi.dst v) w->Q (.panic c) a w:=by exact fun _ _ _ h=>h) (hg:Region.wanted oi (yielded ops a.tmps)=true:=by rfl) (hS:S w:=by assumption):wpAnyH P md ops Q S (fuel+1) listed a w:=wpAnyH_take hi hs hf hr hQ (Or.inl ⟨hg,hy⟩) hS h
open Tryz
open Go.RowKit
variable {a:Act} {cs:Array Value} {Q:Exit->Act->World->Prop} {sr x y z:Int} {ts:List TypeId} {xs:List Value} {B b g i id n o0 o1 o2 x0 x1 x2:Nat} {P:Program} {l:Tp.L} {t u:Tp.T} {T':TypeId} {sd u0 u1 u2 v vf vn vt vu vx vy vz:Value} {W w w' w0:World} {Pr S:World->Prop}
abbrev IsBd (B b:Nat) (l:List UInt8) (w:World):Prop:=Lib.IsBuilder 108 5 B b (Lib.byteCells l) w
theorem NB.keeps (h:NB b w w') {T:TypeId} (hT:T≠5) {bc:Array Value} {BT:TypeId} (hb:w.heap[b]? =some (.cells bc BT (0,0))) (hBT:T≠BT):Keeps (Bk T w) w w':=by
 rintro k ⟨cs,hk⟩;rw[h.block k _ hk ?_ ?_,hk]
 ·rintro rfl;rw[hb] at hk;injection hk with hk;injection hk with _ e _;exact hBT e.symm
 ·intro cs2 fr e;injection e with _ e _;exact hT e
theorem NB.cellsT (h:NB b w w') {k:Nat} {cs:Array Value} {T:TypeId} (hk:w.heap[k]? =some (.cells cs T (0,0))) (hne:k≠b) (hT:T≠5):w'.heap[k]? =some (.cells cs T (0,0)):=
 h.block k _ hk hne fun cs2 fr e=> by
  injection e with _ e _;exact hT e
theorem NB.rdp (h:NB b w w') {bc:Array Value} {BT:TypeId} (hb:w.heap[b]? =some (.cells bc BT (0,0))) (h1:BT≠174) (h2:BT≠112) {v:Value} {l:Tp.L} (hr:RdP w v l):RdP w' v l:=by
 obtain ⟨ss,q1,q2⟩:=hr;exact ⟨ss,q1.keep fun _ _ r=> RdB.keep r (h.keeps (by decide) hb h1.symm),q2.keep (h.keeps (by decide) hb h2.symm)⟩
theorem Q1Z {l:List UInt8} (h:IsBd B b l w):∃ bc,w.heap[b]? =some (.cells bc 108 (0,0)):=by
 rcases h with ⟨_,v,h,_⟩ | ⟨_,v,h,_⟩ <;> exact ⟨_,h⟩
def partOf (p:Tp.Nm × Int):List UInt8:=Zp.text p.2++([42]++(p.1++ [43]))
def partsOf (l:Tp.L):List UInt8:=l.flatMap partOf
theorem Zz (t:Tp.T):Tp.text t=partsOf t.l++Zp.text t.rest:=rfl
theorem Q3J {p:Tp.Nm × Int} (h:l[i]? =some p):partsOf (l.take (i+1))=partsOf (l.take i)++partOf p/\(partsOf (l.take i)).length+(partOf p).length<=(partsOf l).length:=by
 have e1:partsOf (l.take (i+1))=partsOf (l.take i)++partOf p:=by
  rw[List.take_add_one,h];simp[partsOf]
 refine ⟨e1,?_⟩;have e:partsOf l=partsOf (l.take (i+1))++partsOf (l.drop (i+1)):=by
  unfold partsOf;rw[<-List.flatMap_append,eW_]
 rw[e,e1,eC_,eC_];omega
theorem Q6X (p:Tp.Nm × Int):(⟨(Zp.text p.2).toArray⟩:ByteArray)++⟨#[42]⟩++⟨p.1.toArray⟩++⟨#[43]⟩=⟨(partOf p).toArray⟩:=by
 apply ByteArray.ext;simp[partOf]
theorem Q20 (l:List UInt8):(⟨l.toArray⟩:ByteArray).size=l.length:=by simp[ByteArray.size]
def TsRel (w wp:World) (B:Nat) (l:Tp.L) (k:Nat) (v9:Value) (wr:World):Prop:=
 ∃ i:Nat,v9= .int .i64 (i:Int)/\k=l.length - i/\i<=l.length/\IsBd B B (partsOf (l.take i)) wr/\NB B wp wr/\Below B wp wr/\Below w.heap.size w wr
theorem ck3_ (h0:w.cell? ⟨x0,o0,none⟩=some u0) (h1:w.cell? ⟨x1,o1,none⟩=some u1) (h2:w.cell? ⟨x2,o2,none⟩=some u2):Hid (∀ W,Below w.heap.size w W->W.cell? ⟨x0,o0,none⟩=some u0/\W.cell? ⟨x1,o1,none⟩=some u1/\W.cell? ⟨x2,o2,none⟩=some u2):=hd_ fun W b=> ⟨(b.cell (Qd h0)).trans h0,(b.cell (Qd h1)).trans h1,(b.cell (Qd h2)).trans h2⟩
theorem rh_ {ops:Array Oper} (hm:P.follows .mixedOrders=true:=by kernel_rfl) (s:Hid (∀ W,Pr W->S W)) (p:Pr w.drew) (h:S w.drew->wpAnyH P .any ops Q S ops.size (Array.replicate ops.size false) a w.drew):(Code.region id ops true).wp P Q a w:=wp_region_held_drew hm (s.out _ p) h
theorem Yc (ht:Tm w vt t) {K:Nat} (st:Sm K t) (hK:K<=1000000) (hT:(Tp.text t).length<=1073741824):
  Calls prog 11 #[vt] w fun e w'=> e= .returned (.string ⟨(Tp.text t).toArray⟩)/\Below w.heap.size w w':=by
 obtain ⟨bt,at_,ct,pt,rfl,ht⟩:=Ql ht;have hlen:(t.l.length:Int)<=1000000:=by have:=st.len;omega
 have HH:=h4_ ht st hK hT;clear ht st hK hT;go_in;go_wp2_with fail;obtain ⟨V,hV⟩:∃ V,(w.alloc (.cells #[.bool bt,.slice at_ (wd t.rest).length ct,.pointer pt] 38)).alloc (.cells #[.pointer none,.slice none 0 0] 108)=V:=⟨_,rfl⟩
 have hbx:=box2 w #[.bool bt,.slice at_ (wd t.rest).length ct,.pointer pt] 38 #[.pointer none,.slice none 0 0] 108;rw[hV] at hbx |-;have hbd:IsBd (w.heap.size+1) (w.heap.size+1) [] V:=Or.inl ⟨rl_ _,_,hbx.2.1,World.ownsRow_nil _ _ _ _,by simp[Value.ownBlock]⟩;have HV:=h2_ hbx hbd;have a0:=Q3 hbx.1 0 rfl;have a1:=Q3 hbx.1 1 rfl;have a2:=Q3 hbx.1 2 rfl;clear hbx hV hbd;go_wp2_with fail;refine (XC (HH.a.below HV.a.2.2) (by omega)).mono ?_;rintro e wp ⟨pv,ss,rfl,hw,ho,hb⟩;obtain ⟨ap,cp,rfl⟩:=Qj ho;have hrp:RdP wp (.slice ap t.l.length cp) t.l:=⟨ss,hw,RdB.own ho⟩
 have hb2:=X9 HV.B hb;have hbw:=HV.a.2.2.trans (hb.mono HV.a.2.2.size);have hbox:=(hb.block _ (Q4 HV.a.1)).trans HV.a.1;have hsz:=Q4 HV.a.2.1;have HP:=h5_ hrp hb2 hbw hbox (eE_ (Nat.le_of_lt hsz) hb.size);clear hrp hb2 hbw hbox hsz hb hw ho a0 a1 a2;dsimp only;go_wp2_with fail;go_loopg [9] t.l.length (fun k v9 wr=> TsRel w wp (w.heap.size+1) t.l k v9 wr)
 case atStart=> exact ⟨0,rfl,rfl,eV_ _,HP.b,NB.refl _ _,eB_ _ _,HP.c⟩
 case round=>
  obtain ⟨i,rfl,hk,hi,hbu,hnb,hbp,hbw⟩:=hrel;obtain ⟨bc,hbc⟩:=Q1Z HP.b;have hrow:=hnb.rdp hbc (by decide) (by decide) HP.a;have hbox:=hnb.cellsT HP.d (by omega) (by decide);have HR:=h6_ hk hbu hnb hbp hbw hbox;clear hk hbu hnb hbp hbw hbc hbox;by_cases hlt:i < t.l.length
  ·have hlt':(i:Int) < (t.l.length:Int):=(by omega);obtain ⟨p,hp⟩:∃ p,t.l[i]? =some p:=⟨_,eA_ hlt⟩
   obtain ⟨b,off,s,ea,c0,c1,c2,hs⟩:=hrow.at hp;obtain rfl:=ea;obtain ⟨aw,cw,rfl,_⟩:=hs.form;obtain ⟨np,hnp⟩:∃ b,decide (p.2 < 0)=b:=⟨_,rfl⟩
   have hnum:Num wr (.agg #[.bool np,.slice aw (wd p.2).length cw]) p.2:=⟨_,by rw[hnp],hs⟩
   rw[hnp] at c1;have hps:=Q3J hp;have HQ:=h3_ hp hnum hps;have hsize:(partOf p).length<=1073741824:=(by have h1:=hps.2;have h2:=HH.D;rw[Zz,eC_] at h2;omega);have hsz2:(Zp.text p.2).length+(1+(p.1.length+1))<=1073741824:=(by simp only[partOf,eC_,eL_,eU_] at hsize;omega);clear hp hs hrow hnp hnum hlt hps hsize;go_wp2_with fail;obtain ⟨W5,hW5⟩:∃ W,wr.alloc (.cells #[.string ⟨p.1.toArray⟩,.bool np,.slice aw (wd p.2).length cw] 112)=W:=⟨_,rfl⟩
   have hbx:=box1 wr #[.string ⟨p.1.toArray⟩,.bool np,.slice aw (wd p.2).length cw] 112;rw[hW5] at hbx |-;have hb5:=X9 HR.b hbx.2;have hgs:wr.heap.size≠w.heap.size+1:=(by obtain ⟨bc,h⟩:=Q1Z HR.b;have:=Q4 h;omega);have hsB:w.heap.size+1<=wr.heap.size:=(by have h1:=HP.E;have h2:=HR.d.size;omega);have d0:=Q3 hbx.1 0 rfl;have d1:=Q3 hbx.1 1 rfl;have d2:=Q3 hbx.1 2 rfl;have H5:=h5_ hbx.1 hbx.2 hb5 hgs hsB;clear hbx hW5 hb5 hgs hsB c0 c1 c2;have HS:=ck3_ d0 d1 d2;refine rh_ (s:=HS) (p:=((eB_ _ _).drew)) (h:=fun hHeld=> ?_);simp only[List.size_toArray,eL_,eU_];refine tk_ 0 rfl ?_;refine tk_ 1 rfl ?_;refine tk_ 4 rfl ?_;refine tk_ 5 rfl ?_;(try simp only[Act.put,gP_]);refine rd_ 2 rfl (fun KK hKK=> ?_);simp only[gA_];go_simp;have hbD:=(eB_ W5.heap.size W5).drew;refine eH_ (XL (HQ.b.below (H5.b.trans (hbD.mono H5.b.size))) (HH.b.l p (eP_ HQ.a)) (by have:=HH.c;omega)) ?_;rintro e w6 ⟨rfl,hc6⟩;have hs6:Below W5.heap.size W5 w6:=hbD.trans (hc6.mono hbD.size);have H6:=h2_ hs6 ((hs6.block _ (Q4 H5.a)).trans H5.a);clear hc6 hbD hs6;dsimp only;refine hKK.out _ _ (HS.o _ H6.a) (fun hHeld=> ?_);clear hKK KK;(try simp only[Act.put,sA_]);refine tc_ 3 rfl ?_;refine tc_ 6 rfl ?_;refine tc_ 7 rfl ?_;(try simp only[Act.put,gP_]);refine rd_ 8 rfl (fun KK hKK=> ?_);simp only[gA_];go_simp;rw[Q6X];refine eH_ (Q0s (w.heap.size+1) (w.heap.size+1) _ _ _ (X9 H5.c H6.a) (by rw[Lib.byteCells_length,Q20];have h1:=HQ.D;have h2:=HH.D;rw[Zz,eC_] at h2;omega) (by have:=H5.E;have:=H5.b.size;have:=H6.a.size;omega)) ?_;rintro e w7 ⟨rfl,hi7,hb7,hn7⟩;have h7:=hn7.cellsT H6.B H5.d (by decide);have f0:=Q3 h7 0 rfl;have f1:=Q3 h7 1 rfl;have f2:=Q3 h7 2 rfl;have H7:=h3_ hi7 hb7 hn7;clear hi7 hb7 hn7 h7;dsimp only;refine hKK.out _ _ (⟨f0,f1,f2⟩) (fun hHeld=> ?_);clear hKK KK;(try simp only[Act.put,sA_]);refine wpAnyH_done (by kernel_rfl) ?_ _
   (try dsimp only);clear d0 d1 d2 f0 f1 f2;go_wp2_with fail;go_roundg (t.l.length - (i+1))
   case measure=> have:=HR.a;omega
   case rel=>
    have hb6:Below (w.heap.size+1) wr w7:=(H5.b.mono H5.E).trans ((H6.a.mono (eE_ H5.E H5.b.size)).trans H7.b);refine ⟨i+1,by go_num,rfl,by omega,?_,(HR.c.trans (NB.of H5.b)).trans ((NB.of H6.a).trans H7.C),HR.d.trans hb6,HR.e.trans (hb6.mono (by omega))⟩;rw[HQ.c];have h1:=H7.a;rw[show Lib.strCells ⟨(partOf p).toArray⟩=Lib.byteCells (partOf p) from rfl, <-Lib.byteCells_append] at h1;exact h1
  ·obtain rfl:t.l.length=i:=(by omega);have hbu:=HR.b;rw[List.take_length] at hbu;have HB:=hd_ hbu;have hsB:w.heap.size+1<=wr.heap.size:=(by have h1:=HP.E;have h2:=HR.d.size;omega);have hnum:=HH.a.num.below HR.e;have HN:=h2_ hnum hsB;have d0:=Q3 HR.F 0 rfl;have d1:=Q3 HR.F 1 rfl;have hsum:(partsOf t.l).length+(Zp.text t.rest).length<=1073741824:=(by have h2:=HH.D;rw[Zz,eC_] at h2;exact h2);have hsum2:((partsOf t.l).length:Int)+((Zp.text t.rest).length:Int)<=1073741824:=(by omega);clear hbu hrow hlt hi hnum hsB;go_wp2_with fail;have mkS:∀ W:World,Below (w.heap.size+1) wr W->W.cell? ⟨w.heap.size,0,none⟩=some (.bool bt)/\W.cell? ⟨w.heap.size,1,none⟩=some (.slice at_ (wd t.rest).length ct):=fun W hb=> ⟨(hb.cell (Nat.lt_succ_self w.heap.size)).trans d0,(hb.cell (Nat.lt_succ_self w.heap.size)).trans d1⟩;have HS:=hd_ mkS;clear mkS;refine rh_ (s:=HS) (p:=((eB_ _ _).drew)) (h:=fun hHeld=> ?_);simp only[List.size_toArray,eL_,eU_];refine tk_ 1 rfl ?_;refine tk_ 2 rfl ?_;(try simp only[Act.put,gP_]);refine rd_ 0 rfl (fun KK hKK=> ?_);simp only[gA_];go_simp;have hbD:=(eB_ (w.heap.size+1) wr).drew;have hbu6:=X9 HB.o (Qf (B:=wr.heap.size) wr 1);refine eH_ (Tryz.Builder_String_any (w.heap.size+1) (w.heap.size+1) (partsOf t.l) _ hbu6 HN.B) ?_;rintro e w6 ⟨rfl,hc6⟩;have hs6:Below (w.heap.size+1) wr w6:=hbD.trans hc6;have H6:=h2_ hs6 ((hs6.block _ (Nat.lt_succ_self _)).trans HR.F);clear hc6 hbD hs6 hbu6;dsimp only;refine hKK.out _ _ (HS.o _ H6.a) (fun hHeld=> ?_);clear hKK KK;(try simp only[Act.put,sA_]);refine rd_ 3 rfl (fun KK hKK=> ?_);simp only[gA_];go_simp;refine eH_ (XL (HH.a.num.below (HR.e.trans (H6.a.mono (show w.heap.size<=w.heap.size+1 by omega)))) HH.b.rest (by have:=HH.c;omega)) ?_;rintro e w7 ⟨rfl,hb7⟩;have H7:=hd_ hb7;clear hb7;dsimp only;refine hKK.out _ _ (HS.o _ (H6.a.trans (H7.o.mono (eE_ HN.B H6.a.size)))) (fun hHeld=> ?_);clear hKK KK;(try simp only[Act.put,sA_]);refine tc_ 4 rfl ?_;refine tk_ 5 rfl ?_;(try simp only[Act.put,gP_]);refine wpAnyH_done (by kernel_rfl) ?_ _
   (try dsimp only);clear d0 d1;go_wp2_with fail;go_ret;refine ⟨?_,HR.e.trans ((H6.a.mono (by omega)).trans (H7.o.mono (eE_ (eE_ (Nat.le_succ _) HN.B) H6.a.size)))⟩;rw[Zz];rfl
theorem Q3K (ht:Tm w vt t) (hu:Tm w vu u) {K:Nat} (st:Sm K t) (su:Sm K u) (hK:K<=1000000) (hT:(Tp.text t).length<=1073741824) (hU:(Tp.text u).length<=1073741824):
  Calls prog 18 #[vt,vu] w fun e w'=> e= .returned (.bool (Tp.text t==Tp.text u))/\Below w.heap.size w w':=by
 obtain ⟨bt,at_,ct,pt,rfl,ht⟩:=Ql ht;obtain ⟨bu,au,cu,pu,rfl,hu⟩:=Ql hu;have HH:=h7_ ht hu st su hK hT hU;clear ht hu st su hK hT hU;go_in;go_wp2_with fail;obtain ⟨V,hV⟩:∃ V,(w.alloc (.cells #[.bool bt,.slice at_ (wd t.rest).length ct,.pointer pt] 38)).alloc (.cells #[.bool bu,.slice au (wd u.rest).length cu,.pointer pu] 38)=V:=⟨_,rfl⟩
 have hbx:=box2 w #[.bool bt,.slice at_ (wd t.rest).length ct,.pointer pt] 38 #[.bool bu,.slice au (wd u.rest).length cu,.pointer pu] 38;rw[hV] at hbx |-;have mkS:∀ W:World,Below V.heap.size V W->Below V.heap.size V W/\W.cell? ⟨w.heap.size,0,none⟩=some (.bool bt)/\W.cell? ⟨w.heap.size,1,none⟩=some (.slice at_ (wd t.rest).length ct)/\W.cell? ⟨w.heap.size,2,none⟩=some (.pointer pt)/\W.cell? ⟨w.heap.size+1,0,none⟩=some (.bool bu)/\W.cell? ⟨w.heap.size+1,1,none⟩=some (.slice au (wd u.rest).length cu)/\W.cell? ⟨w.heap.size+1,2,none⟩=some (.pointer pu):=
  fun W hb=> ⟨hb,Q3 ((hb.block _ (Q4 hbx.1)).trans hbx.1) 0 rfl,Q3 ((hb.block _ (Q4 hbx.1)).trans hbx.1) 1 rfl,Q3 ((hb.block _ (Q4 hbx.1)).trans hbx.1) 2 rfl,Q3 ((hb.block _ (Q4 hbx.2.1)).trans hbx.2.1) 0 rfl,Q3 ((hb.block _ (Q4 hbx.2.1)).trans hbx.2.1) 1 rfl,Q3 ((hb.block _ (Q4 hbx.2.1)).trans hbx.2.1) 2 rfl⟩
 have HV:=hd_ hbx;have HS:=hd_ mkS;clear hbx hV mkS;go_region_held3 (fun w'=> Below V.heap.size V w'/\w'.cell? ⟨w.heap.size,0,none⟩=some (.bool bt)/\w'.cell? ⟨w.heap.size,1,none⟩=some (.slice at_ (wd t.rest).length ct)/\w'.cell? ⟨w.heap.size,2,none⟩=some (.pointer pt)/\w'.cell? ⟨w.heap.size+1,0,none⟩=some (.bool bu)/\w'.cell? ⟨w.heap.size+1,1,none⟩=some (.slice au (wd u.rest).length cu)/\w'.cell? ⟨w.heap.size+1,2,none⟩=some (.pointer pu))
  (first | exact HS.o _ ((eB_ _ _).drew) | exact HS.o _ hb6 | exact HS.o _ hb7)
  ((first
   | (go_at_call 11;refine eH_ (Yc (HH.a.below (HV.C.trans (Qf (B:=w.heap.size) V 1))) HH.c HH.e HH.f) ?_;rintro e w6 ⟨rfl,hc6⟩;have hb6:Below V.heap.size V w6:=(Qf (B:=V.heap.size) V 1).trans hc6;clear hc6)
   | (go_at_call 11;refine eH_ (Yc (HH.b.below (HV.C.trans (hb6.mono HV.C.size))) HH.d HH.e HH.G) ?_;rintro e w7 ⟨rfl,hc7⟩;have hb7:Below V.heap.size V w7:=hb6.trans (hc7.mono hb6.size);clear hc7)))
 rename_i hh;clear hh;go_wp2_with fail;go_ret;exact ⟨rfl,HV.C.trans (hb7.mono HV.C.size)⟩
theorem Q6Y:(prog.info? 9).map (fun i=> (i.zero,i.size,i.bytes))=some (some (.string ⟨#[]⟩),1,16):=by kernel_rfl
theorem Q8B:(prog.info? 48).map (fun i=> (i.zero,i.size,i.bytes))=some (some (.agg #[.int .i64 0,.slice none 0 0]),2,32):=by kernel_rfl
theorem X3:(prog.info? 50).map (·.size)=some 4:=by kernel_rfl
theorem Zd {base size:Nat} {T:TypeId} (ho:w.ownsRow base T size v n xs) (hg:w.grownBy w' v.ownBlock) (hT:T∈ts):FrT ts w w':=
 ⟨hg.os,hg.tape,hg.output,hg.size,fun k o hk hn=> by
  rw[hg.block k (Q4 hk) fun e=> ?_,hk];obtain ⟨cur,hc⟩:=Qm ho e.symm;rw[hk] at hc;injection hc with hc;exact hn _ _ _ hc hT⟩
theorem Q0Q (h:FrT ts w W) {g:Nat} (hg:w.heap.size<=g) (cs:Array Value):FrT ts w (W.setRow g cs):=
 ⟨h.os,h.tape,h.output,by rw[QH];exact h.size,fun k o hk hn=> by
  rw[Q8 (by have:=Q4 hk;omega)];exact h.block k o hk hn⟩
theorem Xe {base size:Nat} {T:TypeId} (h:w.ownsRow base T size v n xs) (hg:w.heap[g]? =some (.cells cs T' (0,0))) (hne:T≠T') (vs:Array Value):(w.setRow g vs).ownsRow base T size v n xs:=
 Qk h fun k hk=> Q8 fun e=> by
  obtain ⟨cur,hc⟩:=Qm h hk;rw[e,hg] at hc;injection hc with hc;injection hc with _ h2 _;exact hne h2.symm
theorem XD {base size k:Nat} {T:TypeId} (hk:w.heap[k]? =some (.cells cs T (0,0))) (ho:w.ownsRow base T' size v n xs) (hg:w.grownBy w' v.ownBlock) (hne:T≠T'):w'.heap[k]? =some (.cells cs T (0,0)):=
 (hg.block k (Q4 hk) fun e=> by
  obtain ⟨cur,hc⟩:=Qm ho e.symm;rw[hk] at hc;injection hc with hc;injection hc with _ h2 _;exact hne h2).trans hk
theorem G0 {base size base' size' n':Nat} {T:TypeId} {v':Value} {xs':List Value} (h:w.ownsRow base T size v n xs) (ho:w.ownsRow base' T' size' v' n' xs') (hg:w.grownBy w' v'.ownBlock) (hne:T≠T'):w'.ownsRow base T size v n xs:=
 Qk h fun k hk=> by
  obtain ⟨cur,hc⟩:=Qm h hk;rw[hc];exact XD hc ho hg hne
theorem YH {T:TypeId} (h:w.heap[g]? =some (.cells cs T (0,0))) (hs:cs.size=4) (x y z u:Value):
  (((w.setCell ⟨g,0,none⟩ x).setCell ⟨g,1,none⟩ y).setCell ⟨g,2,none⟩ z).setCell ⟨g,3,none⟩ u=w.setRow g #[x,y,z,u]:=by
 rw[setCell_eq_setRow w g 0 cs _ (0,0) x h,setCell_eq_setRow _ g 1 _ _ (0,0) y (Qb h),setRow_setRow,setCell_eq_setRow _ g 2 _ _ (0,0) z (Qb h),setRow_setRow,setCell_eq_setRow _ g 3 _ _ (0,0) u (Qb h),setRow_setRow];obtain ⟨l⟩:=cs
 match l,hs with
 | [_,_,_,_],_=> rfl
def TzOut (base:Nat) (w:World) (sr:Int) (sd:Value) (l:Tp.L) (e:Ending) (w':World):Prop:=
 ∃ vn vf,e= .returned (.agg #[vn,vf,.int .i64 sr,sd])/\TzO base w' vn vf l/\Below base w w'/\FrT [9,48] w w'
theorem Q0R {size:Nat} {cs:List Value} {T:TypeId} (h:w.heap[g]? =some (.cells cs.toArray T (0,0))) (hs:cs.length=size):RdS w (fun _=> True) size (.slice (some ⟨g,0,none⟩) 1 1) 1 cs:=
 ⟨by rw[hs,Nat.one_mul],_,1,rfl,rl_ _,Or.inr ⟨g,0,rfl,Or.inr trivial,fun j u hj=> by rw[Nat.zero_add];exact Q3 h j (by simpa using hj)⟩⟩
theorem Yj {base:Nat} {T:TypeId} {size:Nat} (ho:w.ownsRow base T size v n xs) (hg:w.grownBy w' v.ownBlock) (hb:base<=w.heap.size):Below base w w':=
 ⟨hg.os,hg.tape,hg.output,hg.size,fun k hk=> hg.block k (by omega) fun e=> by have:=(ho.lt k e.symm).1;omega⟩
theorem Q3L {base:Nat} (ho:TzO base w vn vf l) (hsd:∃ a n c,sd= .slice a n c) (hb:base<=w.heap.size) (hl:l.length<=1000000) (s:Tp.Nm) {vz:Value} {z:Int} (hz:Zn w vz z):
  Calls prog 92 #[.agg #[vn,vf,.int .i64 sr,sd],.string ⟨s.toArray⟩,vz] w (TzOut base w sr sd (if z=0 then l else l++ [(s,z)])):=by
 obtain ⟨an,cn,af,cf,rfl,rfl⟩:=ho.form;obtain ⟨ad,nd,cd,rfl⟩:=hsd;obtain ⟨az,cz,rfl,hzr⟩:=hz.form;obtain ⟨sz,hsz⟩:∃ s,sgn z=s:=⟨_,rfl⟩
 rw[hsz] at hz |-;have HH:=h6_ ho hb hl hz hzr hsz;clear ho hb hl hz hzr hsz;by_cases hz0:z=0
 ·rw[if_pos hz0];have hs0:(sz !=0)=false:=by rw[<-HH.F,YC.2 hz0];rfl
  clear hz0;go_in;go_wp2_with fail;have hbx:=box3 w #[.slice an l.length cn,.slice af l.length cf,.int .i64 sr,.slice ad nd cd] 50 #[.int .i64 sz,.slice az (dg z).length cz] 48 #[.slice an l.length cn,.slice af l.length cf,.int .i64 sr,.slice ad nd cd] 50;refine eG_ (eY_ rfl _ _ (w.heap.size+2) _ _ _ _ rfl hbx.2.2.1 underlying50 rfl X3) rfl ?_;exact ⟨_,_,rfl,HH.a.past hbx.2.2.2,hbx.2.2.2.mono HH.b,FrT.of hbx.2.2.2⟩
 ·rw[if_neg hz0];have hs0:(sz !=0)=true:=by
   have h:(sz==0)=false:=beq_false_of_ne (by rw[<-HH.F];exact fun e=> hz0 (YC.1 e));rw[bne,h];rfl
  clear hz0;obtain ⟨ss,hfw,hon,hof⟩:=HH.a;obtain ⟨i0,hi,hz0,hz1,hz2⟩:=Qw Q6Y;obtain ⟨i1,hi',hz0',hz1',hz2'⟩:=Qw Q8B;have HI:=h4_ hi hz0 hz1 hz2;have HJ:=h4_ hi' hz0' hz1' hz2';clear hi hz0 hz1 hz2 hi' hz0' hz1' hz2';have hbx:=box4 w #[.slice an l.length cn,.slice af l.length cf,.int .i64 sr,.slice ad nd cd] 50 #[.int .i64 sz,.slice az (dg z).length cz] 48 #[.slice none 0 0,.slice none 0 0,.int .i64 0,.slice none 0 0] 50 #[.string ⟨s.toArray⟩] 9;have hon4:=Qz hon hbx.2.2.2.2.1;have HB:=h4_ hbx hon4 hfw hof;clear hbx hon4 hfw hon hof;have hlb:(l.length+1)*32<=140737488355328:=by have:=HH.c;omega
  have HL:=hd_ hlb;clear hlb;go_in;go_wp2_with (first
   | (refine QN rfl (.tmp 11) (.tmp 13) 44 rfl base 9 i0 _ 1 16 underlying44 HI.a HI.b HI.c HI.D rfl (by decide) _ l.length (nmCells l) rfl HB.b rfl (Q0R (cs:= [.string ⟨s.toArray⟩]) HB.a.2.2.2.1 rfl) (by simp[Value.oneCell']) (by unfold maxLen;have:=HL.o;omega) (by have:=HL.o;omega) (eE_ HH.b HB.a.2.2.2.2.1.size) ?_
      rintro a2 c2 w2 h2 h3 -;have hbA:=XD HB.a.1 HB.b h3 (by decide);have hbB:=XD HB.a.2.1 HB.b h3 (by decide);have hbC:=XD HB.a.2.2.1 HB.b h3 (by decide);have hof2:=G0 (Qz HB.D HB.a.2.2.2.2.1) HB.b h3 (by decide);have e3:w2.setCell ⟨w.heap.size,0,none⟩ (.slice a2 (l.length+1) c2)=w2.setRow w.heap.size #[.slice a2 (l.length+1) c2,.slice af l.length cf,.int .i64 sr,.slice ad nd cd]:=setCell_eq_setRow w2 _ 0 _ _ (0,0) _ hbA;have hbA3:(w2.setCell ⟨w.heap.size,0,none⟩ (.slice a2 (l.length+1) c2)).heap[w.heap.size]? =some (.cells #[.slice a2 (l.length+1) c2,.slice af l.length cf,.int .i64 sr,.slice ad nd cd] 50 (0,0)):=(by rw[e3];exact Qb hbA);have hbC3:(w2.setCell ⟨w.heap.size,0,none⟩ (.slice a2 (l.length+1) c2)).heap[w.heap.size+1+1]? =some (.cells #[.slice none 0 0,.slice none 0 0,.int .i64 0,.slice none 0 0] 50 (0,0)):=(by rw[e3,Q8 (by omega)];exact hbC);have hof3:(w2.setCell ⟨w.heap.size,0,none⟩ (.slice a2 (l.length+1) c2)).ownsRow base 48 2 (.slice af l.length cf) l.length (fcCells l ss):=(by rw[e3];exact Xe hof2 hbA (by decide) _);have hon3:(w2.setCell ⟨w.heap.size,0,none⟩ (.slice a2 (l.length+1) c2)).ownsRow base 9 1 (.slice a2 (l.length+1) c2) (l.length+1) (nmCells l++ [.string ⟨s.toArray⟩]):=(by rw[e3];exact Xe h2 hbA (by decide) _);have hsz3:(w2.setCell ⟨w.heap.size,0,none⟩ (.slice a2 (l.length+1) c2)).heap.size=w2.heap.size:=(by rw[e3,QH]);have hft3:FrT [9,48] w (w2.setCell ⟨w.heap.size,0,none⟩ (.slice a2 (l.length+1) c2)):=(by rw[e3];exact Q0Q ((FrT.of HB.a.2.2.2.2.1).trans (Zd HB.b h3 (by decide))) (rl_ _) _);have hbl3:Below base w (w2.setCell ⟨w.heap.size,0,none⟩ (.slice a2 (l.length+1) c2)):=(by rw[e3];exact Q9 ((HB.a.2.2.2.2.1.mono HH.b).trans (Yj HB.b h3 (eE_ HH.b HB.a.2.2.2.2.1.size))) HH.b _);have A0:=Q3 hbA 0 rfl;have A1:=Q3 hbA 1 rfl;have F0:=Q6 hbA 0;have B0:=Q3 hbB 0 rfl;have B1:=Q3 hbB 1 rfl;have H3:=h7_ hbA3 hbC3 hof3 hon3 hsz3 hft3 hbl3;clear h2 h3 hbA hbB hbC hof2 e3 hbA3 hbC3 hof3 hon3 hsz3 hft3 hbl3)
   | (refine QN rfl (.tmp 17) (.tmp 19) 45 rfl base 48 i1 _ 2 32 underlying45 HJ.a HJ.b HJ.c HJ.D rfl (by decide) _ l.length (fcCells l ss) rfl (Qz H3.c (Qt _ _)) rfl (Q0R (cs:= [.int .i64 sz,.slice az (dg z).length cz]) (XE _ _ _ H3.e.symm) rfl) (by simp[Value.oneCell']) (by unfold maxLen;have:=HL.o;omega) (by have:=HL.o;omega) (eE_ HH.b (eE_ H3.f.size (Qt _ _).size)) ?_
      rintro a4 c4 w4 h2 h3 -;have hoz:=Qz H3.c (Qt (w2.setCell ⟨w.heap.size,0,none⟩ (.slice a2 (l.length+1) c2)) (.cells #[.int .i64 sz,.slice az (dg z).length cz] 48));have hbA4:=XD (((Qt _ (.cells #[.int .i64 sz,.slice az (dg z).length cz] 48)).block _ (Q4 H3.a)).trans H3.a) hoz h3 (by decide);have hbC4:=XD (((Qt _ (.cells #[.int .i64 sz,.slice az (dg z).length cz] 48)).block _ (Q4 H3.b)).trans H3.b) hoz h3 (by decide);have hon4:=G0 (Qz H3.d (Qt _ (.cells #[.int .i64 sz,.slice az (dg z).length cz] 48))) hoz h3 (by decide);have hft4:FrT [9,48] w w4:=(H3.f.trans (FrT.of (Qt _ _))).trans (Zd hoz h3 (by decide));have hbl4:Below base w w4:=H3.G.trans (((Qt _ _).mono (eE_ HH.b H3.f.size)).trans (Yj hoz h3 (eE_ HH.b (eE_ H3.f.size (Qt _ _).size))));have D0:=Q3 hbA4 0 rfl;have D1:=Q3 hbA4 1 rfl;have D2:=Q3 hbA4 2 rfl;have D3:=Q3 hbA4 3 rfl;have G1:=Q6 hbA4 1;have C0:=Q3 hbC4 0 rfl;have C1:=Q3 hbC4 1 rfl;have C2:=Q3 hbC4 2 rfl;have C3:=Q3 hbC4 3 rfl;have K0:=Q6 hbC4 0;have K1:=Q6 hbC4 1;have K2:=Q6 hbC4 2;have K3:=Q6 hbC4 3;have H4:=h6_ hbA4 hbC4 hon4 h2 hft4 hbl4;clear h2 h3 hoz hbA4 hbC4 hon4 hft4 hbl4 A0 A1 F0 B0 B1))
  have e5:w4.setCell ⟨w.heap.size,1,none⟩ (.slice a4 (l.length+1) c4)=w4.setRow w.heap.size #[.slice a2 (l.length+1) c2,.slice a4 (l.length+1) c4,.int .i64 sr,.slice ad nd cd]:=setCell_eq_setRow w4 _ 1 _ _ (0,0) _ H4.a;have hC5:(w4.setRow w.heap.size #[.slice a2 (l.length+1) c2,.slice a4 (l.length+1) c4,.int .i64 sr,.slice ad nd cd]).heap[w.heap.size+1+1]? =some (.cells #[.slice none 0 0,.slice none 0 0,.int .i64 0,.slice none 0 0] 50 (0,0)):=by rw[Q8 (by omega)];exact H4.b
  rw[e5,YH hC5 rfl];refine eG_ (eY_ rfl _ _ (w.heap.size+2) _ _ _ _ rfl (Qb hC5) underlying50 rfl X3) rfl ?_;have hft:FrT [9,48] w ((w4.setRow w.heap.size #[.slice a2 (l.length+1) c2,.slice a4 (l.length+1) c4,.int .i64 sr,.slice ad nd cd]).setRow (w.heap.size+1+1) #[.slice a2 (l.length+1) c2,.slice a4 (l.length+1) c4,.int .i64 sr,.slice ad nd cd]):=Q0Q (Q0Q H4.e (rl_ _) _) (by omega) _;refine ⟨_,_,rfl,⟨ss++ [.slice az (dg z).length cz],(HB.c.snoc (s,z) HH.e).keep fun _ _ h=> h.frt hft (by decide),?_,?_⟩,Q9 (Q9 H4.F HH.b _) (eE_ HH.b (by omega)) _,hft⟩
  ·rw[Q80,eC_];exact Xe (Xe H4.c H4.a (by decide) _) hC5 (by decide) _
  ·rw[Q81 HB.c.len,HH.F,eC_];exact Xe (Xe H4.d H4.a (by decide) _) hC5 (by decide) _
theorem ZW {base:Nat} (ho:TzO base w vn vf l) (hsd:∃ a n c,sd= .slice a n c) (hb:base<=w.heap.size) (hl:l.length<=1000000) (s:Tp.Nm) {vz:Value} {z:Int} (hz:Zn w vz z):
  Calls prog 92 #[.agg #[vn,vf,.int .i64 sr,sd],.string ⟨s.toArray⟩,vz] w fun e w'=> ∃ vn' vf' l',e= .returned (.agg #[vn',vf',.int .i64 sr,sd])/\l'=(if z=0 then l else l++ [(s,z)])/\TzO base w' vn' vf' l'/\Below base w w'/\FrT [9,48] w w':=
 (Q3L ho hsd hb hl s hz).mono fun e w' ⟨vn',vf',h1,h2,h3,h4⟩=> ⟨vn',vf',_,h1,rfl,h2,h3,h4⟩
theorem ZX (hx:Zn w vx x) (hy:Zn w vy y) {K:Nat} (bx:Bd K x) (by_:Bd K y) (hK:K<=1000000):Calls prog 28 #[vx,vy] w fun e w'=> ∃ v',e= .returned v'/\Zn w' v' (x*y)/\Below w.heap.size w w':=
 Q3B hx hy (eE_ bx.len10 hK) (eE_ by_.len10 hK)
theorem ZY (hx:Zn w vx x) (hy:Zn w vy y) {K:Nat} (bx:Bd K x) (by_:Bd K y) (hK:K<=1000000):Calls prog 27 #[vx,vy] w fun e w'=> ∃ v',e= .returned v'/\Zn w' v' (x+y)/\Below w.heap.size w w':=
 JN hx hy (eE_ bx.len10 (by omega)) (eE_ by_.len10 (by omega))
theorem Tz.form {w:World} {v:Value} {t:Tp.T} (h:Tz w v t):∃ an cn af cf ad cd,v= .agg #[.slice an t.l.length cn,.slice af t.l.length cf,.int .i64 (sgn t.rest),.slice ad (dg t.rest).length cd]/\Tz w (.agg #[.slice an t.l.length cn,.slice af t.l.length cf,.int .i64 (sgn t.rest),.slice ad (dg t.rest).length cd]) t:=by
 obtain ⟨vn,vf,sd,ss,rfl,h2,h3,h4,h5⟩:=id h;obtain ⟨an,cn,rfl⟩:=RdS.form h4;obtain ⟨af,cf,rfl⟩:=RdS.form h5;obtain ⟨ad,cd,rfl,_⟩:=h2.form;exact ⟨an,cn,af,cf,ad,cd,rfl,h⟩
theorem Tz.zn {a b:Value} {s:Int} (h:Tz w (.agg #[a,b,.int .i64 s,sd]) t):Zn w (.agg #[.int .i64 s,sd]) t.rest:=by
 obtain ⟨vn,vf,sd',ss,e,h2,_⟩:=h;injection e with e;have e1:a=vn/\b=vf/\s=sgn t.rest/\sd=sd':=by simpa using e
 obtain ⟨_,_,rfl,rfl⟩:=e1;exact ⟨_,rfl,h2⟩
theorem Tz.at {an af:Option Addr} {nn cn nf cf:Nat} {x y:Value} (h:Tz w (.agg #[.slice an nn cn,.slice af nf cf,x,y]) t) {i:Nat} {p:Tp.Nm × Int} (hp:t.l[i]? =some p):
  ∃ b o b2 o2 s,an=some ⟨b,o,none⟩/\af=some ⟨b2,o2,none⟩/\w.cell? ⟨b,o+i,none⟩=some (.string ⟨p.1.toArray⟩)/\w.cell? ⟨b2,o2+i*2,none⟩=some (.int .i64 (sgn p.2))/\w.cell? ⟨b2,o2+i*2+1,none⟩=some s/\RdD w s (dg p.2):=by
 obtain ⟨vn,vf,sd,ss,e,_,h3,h4,h5⟩:=h;injection e with e;have e1:(.slice an nn cn:Value)=vn/\(.slice af nf cf:Value)=vf:=by
  have e2:=congrArg (fun z:Array Value=> (z[0]?,z[1]?)) e;simpa using e2
 obtain ⟨rfl,rfl⟩:=e1;have hi:=(List.getElem?_eq_some_iff.1 hp).1;obtain ⟨s,hs⟩:∃ s,ss[i]? =some s:=⟨_,eA_ (by rw[h3.len];exact hi)⟩
 obtain ⟨_,a1,c1,e1,_,q1⟩:=h4;injection e1 with e1 e2 e3;subst e1 e2 e3;obtain ⟨_,a2,c2,e1,_,q2⟩:=h5;injection e1 with e1 e2 e3;subst e1 e2 e3;rcases q1 with ⟨_,q1⟩ | ⟨b,o,rfl,_,q1⟩
 ·omega
 rcases q2 with ⟨_,q2⟩ | ⟨b2,o2,rfl,_,q2⟩
 ·omega
 have h6:=QV Q3C q2 (show (t.l.zip ss)[i]? =some (p,s) from Q6J hp hs);exact ⟨b,o,b2,o2,s,rfl,rfl,q1 i _ (Q8N hp),h6 0 _ rfl,h6 1 _ rfl,h3.rd i p s hp hs⟩
def TzAt (B:Nat) (w0:World) (z:Int) (g:Nat) (W:World):Prop:=∃ sr sd,W.heap[g]? =some (.cells #[.slice none 0 0,.slice none 0 0,.int .i64 sr,sd] 50 (0,0))/\Zn W (.agg #[.int .i64 sr,sd]) z/\Below B w0 W/\B<=g
theorem Q6Z (hn:Zn W (.agg #[.int .i64 sr,sd]) z) (hb:Below B w0 W) (hB:B<=w0.heap.size):TzAt B w0 z W.heap.size (W.alloc (.cells #[.slice none 0 0,.slice none 0 0,.int .i64 sr,sd] 50)):=
 ⟨sr,sd,eD_ _ _,hn.below (Qt _ _),hb.alloc (eE_ hB hb.size) _,eE_ hB hb.size⟩
theorem Q21 (hn:Zn W (.agg #[.int .i64 sr,sd]) z) (hb:Below B w0 W) {g:Nat} {cs:Array Value} (hg:W.heap[g]? =some (.cells cs 50 (0,0))) (hs:cs.size=4) (hB:B<=g):
  TzAt B w0 z g ((((W.setCell ⟨g,0,none⟩ (.slice none 0 0)).setCell ⟨g,1,none⟩ (.slice none 0 0)).setCell ⟨g,2,none⟩ (.int .i64 sr)).setCell ⟨g,3,none⟩ sd):=by
 rw[YH hg hs];exact ⟨sr,sd,Qb hg,hn.frt (Qe hg) (by decide),Q9 hb hB _,hB⟩
theorem Q3M (h:Below B w W) {g:Nat} (hg:B<=g) (x y z u:Value):Below B w ((((W.setCell ⟨g,0,none⟩ x).setCell ⟨g,1,none⟩ y).setCell ⟨g,2,none⟩ z).setCell ⟨g,3,none⟩ u):=(Zx h hg x y z).setCell (p:=⟨g,3,none⟩) hg u
def RpRel (V:World) (B:Nat) (g:Nat) (t u:Tp.T) (n r:Int) (gk:Nat) (v8 v9:Value) (wr:World):Prop:=
 ∃ (i k:Nat) (vn vf sd:Value) (sr:Int) (o:Tp.L),v8= .int .i64 (i:Int)/\v9= .int .i64 (k:Int)/\gk=(t.l.length - i)+(u.l.length - k)/\i<=t.l.length/\k<=u.l.length/\o.length<=i+k/\
  o++Tp.merge n (t.l.drop i) (u.l.drop k)=Tp.merge n t.l u.l/\TzO B wr vn vf o/\wr.heap[g]? =some (.cells #[vn,vf,.int .i64 sr,sd] 50 (0,0))/\Zn wr (.agg #[.int .i64 sr,sd]) r/\Below B V wr
theorem Q3N (o:Tp.L) (p:Tp.Nm × Int) (l:Tp.L):(if p.2=0 then o else o++ [(p.1,p.2)])++l=o++Tp.wz p l:=by
 unfold Tp.wz;split
 ·rfl
 ·rw[eQ_];rfl
theorem Q3O (o:Tp.L) (p:Tp.Nm × Int) {m:Nat} (h:o.length<=m):(if p.2=0 then o else o++ [(p.1,p.2)]).length<=m+1:=by
 split
 ·omega
 ·rw[eC_];simp;omega
theorem G2 {w7 V:World} {base g8:Nat} {vn0 vf0:Value} {r:Int} {o:Tp.L} (hg:w7.heap[g8]? =some (.cells #[vn0,vf0,.int .i64 sr,sd] 50 (0,0))) (ho:TzO base w7 vn vf o) (hz:Zn w7 (.agg #[.int .i64 sr,sd]) r) (hb:Below base V w7) (hB:base<=g8):
  TzO base ((((w7.setCell ⟨g8,0,none⟩ vn).setCell ⟨g8,1,none⟩ vf).setCell ⟨g8,2,none⟩ (.int .i64 sr)).setCell ⟨g8,3,none⟩ sd) vn vf o/\((((w7.setCell ⟨g8,0,none⟩ vn).setCell ⟨g8,1,none⟩ vf).setCell ⟨g8,2,none⟩ (.int .i64 sr)).setCell ⟨g8,3,none⟩ sd).heap[g8]? =some (.cells #[vn,vf,.int .i64 sr,sd] 50 (0,0))/\
  Zn ((((w7.setCell ⟨g8,0,none⟩ vn).setCell ⟨g8,1,none⟩ vf).setCell ⟨g8,2,none⟩ (.int .i64 sr)).setCell ⟨g8,3,none⟩ sd) (.agg #[.int .i64 sr,sd]) r/\Below base V ((((w7.setCell ⟨g8,0,none⟩ vn).setCell ⟨g8,1,none⟩ vf).setCell ⟨g8,2,none⟩ (.int .i64 sr)).setCell ⟨g8,3,none⟩ sd):=by
 rw[YH hg rfl];obtain ⟨ss,h1,h2,h3⟩:=ho;exact ⟨⟨ss,h1.keep fun _ _ h=> h.frt (Qe hg) (by decide),Xe h2 hg (by decide) _,Xe h3 hg (by decide) _⟩,Qb hg,hz.frt (Qe hg) (by decide),Q9 hb hB _⟩
theorem Q22 (x y:Tp.Nm):Op.bytesLess (⟨x.toArray⟩:ByteArray).toList (⟨y.toArray⟩:ByteArray).toList=decide (x < y):=by rw[XA,XA,bytesLess_eq]
theorem DA {p:Tp.Nm × Int} (h:l[i]? =some p):l.drop i=p::l.drop (i+1):=by
 obtain ⟨hi,e⟩:=List.getElem?_eq_some_iff.1 h;rw[List.drop_eq_getElem_cons hi,e]
theorem Q8C {x3 x4 x5 x6 x7 x8 x9 o3 o4 o5 o6 o7 o8 o9:Nat} {u3 u4 u5 u6 u7 u8 u9:Value} (h0:w.cell? ⟨x0,o0,none⟩=some u0) (h1:w.cell? ⟨x1,o1,none⟩=some u1) (h2:w.cell? ⟨x2,o2,none⟩=some u2) (h3:w.cell? ⟨x3,o3,none⟩=some u3) (h4:w.cell? ⟨x4,o4,none⟩=some u4) (h5:w.cell? ⟨x5,o5,none⟩=some u5) (h6:w.cell? ⟨x6,o6,none⟩=some u6) (h7:w.cell? ⟨x7,o7,none⟩=some u7) (h8:w.cell? ⟨x8,o8,none⟩=some u8) (h9:w.cell? ⟨x9,o9,none⟩=some u9):Hid (∀ W,Below w.heap.size w W->Below w.heap.size w W/\W.cell? ⟨x0,o0,none⟩=some u0/\W.cell? ⟨x1,o1,none⟩=some u1/\W.cell? ⟨x2,o2,none⟩=some u2/\W.cell? ⟨x3,o3,none⟩=some u3/\W.cell? ⟨x4,o4,none⟩=some u4/\W.cell? ⟨x5,o5,none⟩=some u5/\W.cell? ⟨x6,o6,none⟩=some u6/\W.cell? ⟨x7,o7,none⟩=some u7/\W.cell? ⟨x8,o8,none⟩=some u8/\W.cell? ⟨x9,o9,none⟩=some u9):=hd_ fun W b=> ⟨b,(b.cell (Qd h0)).trans h0,(b.cell (Qd h1)).trans h1,(b.cell (Qd h2)).trans h2,(b.cell (Qd h3)).trans h3,(b.cell (Qd h4)).trans h4,(b.cell (Qd h5)).trans h5,(b.cell (Qd h6)).trans h6,(b.cell (Qd h7)).trans h7,(b.cell (Qd h8)).trans h8,(b.cell (Qd h9)).trans h9⟩
theorem rp_2 {Pt:World->Prop} {all:List Oper} (hne:all≠ []:=by simp) (hm:P.follows .mixedOrders=true:=by kernel_rfl) (hp:peelable all.dropLast.toArray (all.getLast hne)=true:=by kernel_rfl) (s:Hid (∀ W,Pt W->Pr W->S W)) (t:Pt w.drew) (p:Pr w.drew) (h:S w.drew->wpAnyH P .any all.dropLast.toArray (PeelQ P (all.getLast hne) Q) S all.dropLast.length (Array.replicate all.dropLast.length false) a w.drew):(Code.region id all.toArray true).wp P Q a w:=XP hne hm hp (s.out _ t p) h
theorem Q0S {n:Int} (ht:Tz w vt t) (hu:Tz w vu u) (hn:Zn w vz n) (ot:Tp.Rise t.l) (ou:Tp.Rise u.l) {K:Nat} (st:Sm K t) (su:Sm K u) (sn:Bd K n) (hK:K<=100000):
  Calls prog 51 #[vt,vu,vz] w fun e w'=> ∃ v',e= .returned v'/\Tz w' v' ⟨Tp.merge n t.l u.l,t.rest+u.rest*n⟩/\Below w.heap.size w w':=by
 obtain ⟨atn,ctn,atf,ctf,atd,ctd,rfl,ht⟩:=ht.form;obtain ⟨aun,cun,auf,cuf,aud,cud,rfl,hu⟩:=hu.form;obtain ⟨az,cz,rfl,hzr⟩:=hn.form;obtain ⟨sz,hsz⟩:∃ s,sgn n=s:=⟨_,rfl⟩
 obtain ⟨stt,hst⟩:∃ s,sgn t.rest=s:=⟨_,rfl⟩
 obtain ⟨suu,hsu⟩:∃ s,sgn u.rest=s:=⟨_,rfl⟩
 rw[hsz] at hn |-;rw[hst] at ht |-;rw[hsu] at hu |-;have htl:(t.l.length:Int)<=100000:=by have:=st.len;omega
 have hul:(u.l.length:Int)<=100000:=by have:=su.len;omega
 have HH:=h9_ ht hu hn ot ou st su sn hK;clear ht hu hn ot ou st su sn hzr hsz hst hsu;go_in;go_wp2_with fail;obtain ⟨V,hV⟩:∃ V,((((w.alloc (.cells #[.slice atn t.l.length ctn,.slice atf t.l.length ctf,.int .i64 stt,.slice atd (dg t.rest).length ctd] 50)).alloc (.cells #[.slice aun u.l.length cun,.slice auf u.l.length cuf,.int .i64 suu,.slice aud (dg u.rest).length cud] 50)).alloc (.cells #[.int .i64 sz,.slice az (dg n).length cz] 48)).alloc (.cells #[.slice none 0 0,.slice none 0 0,.int .i64 0,.slice none 0 0] 50))=V:=⟨_,rfl⟩
 have hbx:=box4 w #[.slice atn t.l.length ctn,.slice atf t.l.length ctf,.int .i64 stt,.slice atd (dg t.rest).length ctd] 50 #[.slice aun u.l.length cun,.slice auf u.l.length cuf,.int .i64 suu,.slice aud (dg u.rest).length cud] 50 #[.int .i64 sz,.slice az (dg n).length cz] 48 #[.slice none 0 0,.slice none 0 0,.int .i64 0,.slice none 0 0] 50;rw[hV] at hbx |-;have HS:=Q8C (Q3 hbx.1 0 rfl) (Q3 hbx.1 1 rfl) (Q3 hbx.1 2 rfl) (Q3 hbx.1 3 rfl) (Q3 hbx.2.1 0 rfl) (Q3 hbx.2.1 1 rfl) (Q3 hbx.2.1 2 rfl) (Q3 hbx.2.1 3 rfl) (Q3 hbx.2.2.1 0 rfl) (Q3 hbx.2.2.1 1 rfl);have HV:=hd_ hbx;have nt5:=HH.a.zn.below hbx.2.2.2.2.1;have nu5:=HH.b.zn.below hbx.2.2.2.2.1;have nn5:=HH.c.below hbx.2.2.2.2.1;obtain ⟨y,hy⟩:∃ y,u.rest*n=y:=⟨_,rfl⟩
 have bx:Bd (K+K+K+1) t.rest:=HH.f.rest.mono (by omega);have by_:Bd (K+K+K+1) y:=by rw[<-hy];exact Bd.mul HH.g.rest HH.h (by omega)
 have hK1:K+K+K+1<=1000000:=by omega
 have H5:=h7_ nt5 nu5 nn5 bx by_ hK1 hy;clear hbx hV nt5 nu5 nn5 bx by_ hK1 hy;go_cut [7] from 10 to 17 (fun v7 wc=> ∃ g,v7= .pointer (some ⟨g,0,none⟩)/\TzAt V.heap.size V (t.rest+y) g wc)
 case first=>
  go_region_held3 (fun w'=> Below V.heap.size V w'/\w'.cell? ⟨w.heap.size,0,none⟩=some (.slice atn t.l.length ctn)/\w'.cell? ⟨w.heap.size,1,none⟩=some (.slice atf t.l.length ctf)/\w'.cell? ⟨w.heap.size,2,none⟩=some (.int .i64 stt)/\w'.cell? ⟨w.heap.size,3,none⟩=some (.slice atd (dg t.rest).length ctd)/\w'.cell? ⟨w.heap.size+1,0,none⟩=some (.slice aun u.l.length cun)/\w'.cell? ⟨w.heap.size+1,1,none⟩=some (.slice auf u.l.length cuf)/\w'.cell? ⟨w.heap.size+1,2,none⟩=some (.int .i64 suu)/\w'.cell? ⟨w.heap.size+1,3,none⟩=some (.slice aud (dg u.rest).length cud)/\w'.cell? ⟨w.heap.size+1+1,0,none⟩=some (.int .i64 sz)/\w'.cell? ⟨w.heap.size+1+1,1,none⟩=some (.slice az (dg n).length cz)) (first | exact HS.o _ ((eB_ _ _).drew) | exact HS.o _ (YG (by assumption) (rl_ _) _) | exact HS.o _ hb7 | exact HS.o _ hb9 | exact HS.o _ (hb9.alloc hb9.size _) | exact HS.o _ (Q3M (QJ (by assumption)) (by first | exact rl_ _ | exact hb7.size) _ _ _ _)) ((first | (go_at_call 28;refine eH_ (ZX (H5.b.below (QJ (by assumption))) (H5.c.below (QJ (by assumption))) HH.g.rest HH.h (by omega)) ?_;rintro e w6 ⟨v6,rfl,hr6,hc7⟩;have hb7:Below V.heap.size V w6:=Xa hc7 (by assumption) (rl_ _);rw[H5.G] at hr6;obtain ⟨a6,c6,rfl,_⟩:=hr6.form;(first | (have hz6:=(hc7.block _ (Q4 (eD_ V (.cells #[.slice none 0 0,.slice none 0 0,.int .i64 0,.slice none 0 0] 50)))).trans (eD_ V (.cells #[.slice none 0 0,.slice none 0 0,.int .i64 0,.slice none 0 0] 50))) | skip);have H6:=hd_ hr6;clear hr6 hc7) | (go_at_call 27;refine eH_ (ZY (H5.a.below (QJ (by assumption))) (H6.o.below (eB_ _ _)) H5.d H5.e H5.f) ?_;rintro e w7 ⟨v7,rfl,hr8,hc9⟩;have hb9:Below V.heap.size V w7:=Xa hc9 (by assumption) (rl_ _);obtain ⟨a7,c7,rfl,_⟩:=hr8.form;(first | (have hz8:w7.heap[V.heap.size]? =some (.cells #[.slice none 0 0,.slice none 0 0,.int .i64 0,.slice none 0 0] 50 (0,0)):=(hc9.block _ (Q4 (hz6))).trans (hz6);have r0:=Q3 hz8 0 rfl;have r1:=Q3 hz8 1 rfl;have r2:=Q3 hz8 2 rfl;have r3:=Q3 hz8 3 rfl;have z0:=Q6 hz8 0;have z1:=Q6 hz8 1;have z2:=Q6 hz8 2;have z3:=Q6 hz8 3) | (have hz8:w7.heap[w6.heap.size]? =some (.cells #[.slice none 0 0,.slice none 0 0,.int .i64 0,.slice none 0 0] 50 (0,0)):=(hc9.block _ (Q4 (eD_ w6 (.cells #[.slice none 0 0,.slice none 0 0,.int .i64 0,.slice none 0 0] 50)))).trans (eD_ w6 (.cells #[.slice none 0 0,.slice none 0 0,.int .i64 0,.slice none 0 0] 50));have r0:=Q3 hz8 0 rfl;have r1:=Q3 hz8 1 rfl;have r2:=Q3 hz8 2 rfl;have r3:=Q3 hz8 3 rfl;have z0:=Q6 hz8 0;have z1:=Q6 hz8 1;have z2:=Q6 hz8 2;have z3:=Q6 hz8 3) | skip);have H8:=hd_ hr8;clear hr8 hc9) | (go_at_call 27;refine eH_ (ZY (H5.a.below (QJ (by assumption))) (H6.o.below (Qt _ _)) H5.d H5.e H5.f) ?_;rintro e w7 ⟨v7,rfl,hr8,hc9⟩;have hb9:Below V.heap.size V w7:=Xa hc9 (by assumption) (rl_ _);obtain ⟨a7,c7,rfl,_⟩:=hr8.form;(first | (have hz8:w7.heap[V.heap.size]? =some (.cells #[.slice none 0 0,.slice none 0 0,.int .i64 0,.slice none 0 0] 50 (0,0)):=(hc9.block _ (Q4 (hz6))).trans (hz6);have r0:=Q3 hz8 0 rfl;have r1:=Q3 hz8 1 rfl;have r2:=Q3 hz8 2 rfl;have r3:=Q3 hz8 3 rfl;have z0:=Q6 hz8 0;have z1:=Q6 hz8 1;have z2:=Q6 hz8 2;have z3:=Q6 hz8 3) | (have hz8:w7.heap[w6.heap.size]? =some (.cells #[.slice none 0 0,.slice none 0 0,.int .i64 0,.slice none 0 0] 50 (0,0)):=(hc9.block _ (Q4 (eD_ w6 (.cells #[.slice none 0 0,.slice none 0 0,.int .i64 0,.slice none 0 0] 50)))).trans (eD_ w6 (.cells #[.slice none 0 0,.slice none 0 0,.int .i64 0,.slice none 0 0] 50));have r0:=Q3 hz8 0 rfl;have r1:=Q3 hz8 1 rfl;have r2:=Q3 hz8 2 rfl;have r3:=Q3 hz8 3 rfl;have z0:=Q6 hz8 0;have z1:=Q6 hz8 1;have z2:=Q6 hz8 2;have z3:=Q6 hz8 3) | skip);have H8:=hd_ hr8;clear hr8 hc9)))
  all_goals (
   rename_i hh;clear hh;go_wp2_with fail;go_meet
   case rel=> first | exact ⟨_,rfl,Q6Z H8.o hb9 (rl_ _)⟩ | exact ⟨_,rfl,Q21 H8.o hb9 hz8 rfl hb7.size⟩ | exact ⟨_,rfl,Q21 H8.o hb9 hz8 rfl (rl_ _)⟩)
 case rest=>
  obtain ⟨g8,rfl,sr0,sd0,hg8,hn8,hb8,hB8⟩:=hcut;have HC:=h4_ hg8 hn8 hb8 hB8;clear hg8 hn8 hb8 hB8;go_wp2_with fail;go_loopg [8,9] (t.l.length+u.l.length) (fun gk v8 v9 wr=> RpRel V V.heap.size g8 t u n (t.rest+y) gk v8 v9 wr)
  case atStart=> exact ⟨0,0,_,_,_,_, [],rfl,rfl,rfl,eV_ _,eV_ _,eV_ _,rfl,TzO.nil _ _,HC.a,HC.b,HC.c⟩
  case round=>
   obtain ⟨i,k,vn,vf,sd,sr,o,rfl,rfl,hgk,hi,hk,hol,hmg,ho,hg,hz,hb⟩:=hrel;obtain ⟨ad8,cd8,e8,_⟩:=hz.form;obtain ⟨rfl,rfl⟩:sr=sgn (t.rest+y)/\sd= .slice ad8 (dg (t.rest+y)).length cd8:=by
    injection e8 with e8;simpa using e8
   obtain ⟨aon,con,aof,cof,rfl,rfl⟩:=ho.form;obtain ⟨srr,hsr⟩:∃ s,sgn (t.rest+y)=s:=⟨_,rfl⟩
   rw[hsr] at hz hg;have hwr:Below w.heap.size w wr:=HV.e.trans (hb.mono HV.e.size);obtain ⟨-,A0,A1,A2,A3,B0,B1,B2,B3,N0,N1⟩:=HS.o _ hb;have HR:=h9_ hgk hol hmg ho hg hz hb hwr hsr;have g0:=Q3 hg 0 rfl;have g1:=Q3 hg 1 rfl;have g2:=Q3 hg 2 rfl;have g3:=Q3 hg 3 rfl;clear hgk hol hmg ho hg hz hb hwr e8 hsr A2 A3 B2 B3;by_cases hit:i < t.l.length
   case' pos=>
    have hit2:(i:Int) < (t.l.length:Int):=(by omega);obtain ⟨p,hp⟩:∃ p,t.l[i]? =some p:=⟨_,eA_ hit⟩
    obtain ⟨bt,ot,bt2,ot2,sp,e1,e2,P0,P1,P2,hdp⟩:=HH.a.at hp;subst e1 e2;obtain ⟨apz,cpz,rfl,_⟩:=hdp.form;have hcp:=fun W (hb:Below w.heap.size w W)=> n3_ ((hb.cell (Qd P0)).trans P0) ((hb.cell (Qd P1)).trans P1) ((hb.cell (Qd P2)).trans P2);have HP:=h3_ hp hdp hcp;clear hp hdp hcp P0 P1 P2;obtain ⟨P0,P1,P2⟩:=HP.C _ HR.h;have hmt:=DA HP.a;by_cases hku:k < u.l.length
    case' pos=>
     have hku2:(k:Int) < (u.l.length:Int):=(by omega);have hku3:((k:Int)==(u.l.length:Int))=false:=beq_false_of_ne (by omega);have hit3:((i:Int)==(t.l.length:Int))=false:=beq_false_of_ne (by omega);obtain ⟨q,hq⟩:∃ q,u.l[k]? =some q:=⟨_,eA_ hku⟩
     obtain ⟨bu,ou_,bu2,ou2,sq,e1,e2,Q0,Q1,Q2,hdq⟩:=HH.b.at hq;subst e1 e2;obtain ⟨aqz,cqz,rfl,_⟩:=hdq.form;have hcq:=fun W (hb:Below w.heap.size w W)=> n3_ ((hb.cell (Qd Q0)).trans Q0) ((hb.cell (Qd Q1)).trans Q1) ((hb.cell (Qd Q2)).trans Q2);have HQ:=h3_ hq hdq hcq;clear hq hdq hcq Q0 Q1 Q2;obtain ⟨Q0,Q1,Q2⟩:=HQ.C _ HR.h;have L1:=Q22 p.1 q.1;have L2:=Q22 q.1 p.1;have M1:=bytesLess_eq p.1 q.1;have M2:=bytesLess_eq q.1 p.1;have hmu:=DA HQ.a;have HM:=h2_ hmt hmu;clear hmt hmu;rcases Tp.ZI p.1 q.1 with hlt | heq | hlt
     case' inl=>
      have hx1:p.1 < q.1:=hlt;have hx2:¬ q.1 < p.1:=Tp.Q1f hlt;rw[eM_ hx1] at L1 M1;rw[eK_ hx2] at L2 M2;have HX:=hd_ hx1;clear hx1 hx2 hlt;go_wp2_with fail;go_quiet (fail);have hq:=Qf (B:=wr.heap.size) wr nq;obtain ⟨W1,hW1⟩:∃ W,wr.drewN nq=W:=⟨_,rfl⟩
      rw[hW1] at hq |-;clear hW1;have HR1:=h9_ HR.a HR.b HR.c (HR.d.past hq) ((hq.block _ (Q4 HR.e)).trans HR.e) (HR.f.below hq) (HR.g.trans (hq.mono HR.g.size)) (HR.h.trans (hq.mono HR.h.size)) HR.I;clear hq g0 g1 g2 g3;go_wp2_with fail;have HMG:Hid (Tp.merge n (t.l.drop i) (u.l.drop k)=Tp.wz (p.1,p.2) (Tp.merge n (t.l.drop (i+1)) (u.l.drop k))):=hd_ (by rw[HM.a,HM.B,Tp.merge,if_pos HX.o])
     case' inr.inl=>
      have hx1:¬ p.1 < q.1:=(by rw[heq];exact Tp.XW _);have hx2:¬ q.1 < p.1:=(by rw[heq];exact Tp.XW _);rw[eK_ hx1] at L1 M1;rw[eK_ hx2] at L2 M2;have HX:=h2_ hx1 hx2;clear hx1 hx2 heq;go_wp2_with fail;go_quiet (fail);have hq:=Qf (B:=wr.heap.size) wr nq;obtain ⟨n1,hn1⟩:∃ m,nq=m:=⟨_,rfl⟩
      rw[hn1] at hq |-;clear hn1;go_wp2_with fail;go_quiet (fail);have hq:=hq.trans (Qf (B:=wr.heap.size) (wr.drewN n1) nq);obtain ⟨W1,hW1⟩:∃ W,(wr.drewN n1).drewN nq=W:=⟨_,rfl⟩
      rw[hW1] at hq |-;clear hW1;have HR1:=h9_ HR.a HR.b HR.c (HR.d.past hq) ((hq.block _ (Q4 HR.e)).trans HR.e) (HR.f.below hq) (HR.g.trans (hq.mono HR.g.size)) (HR.h.trans (hq.mono HR.h.size)) HR.I;clear hq g0 g1 g2 g3;go_wp2_with fail;have HMG:Hid (Tp.merge n (t.l.drop i) (u.l.drop k)=Tp.wz (p.1,p.2+q.2*n) (Tp.merge n (t.l.drop (i+1)) (u.l.drop (k+1)))):=hd_ (by rw[HM.a,HM.B,Tp.merge,if_neg HX.a,if_neg HX.B])
     case' inr.inr=>
      have hx1:¬ p.1 < q.1:=Tp.Q1f hlt;have hx2:q.1 < p.1:=hlt;rw[eK_ hx1] at L1 M1;rw[eM_ hx2] at L2 M2;have HX:=h2_ hx1 hx2;clear hx1 hx2 hlt;go_wp2_with fail;go_quiet (fail);have hq:=Qf (B:=wr.heap.size) wr nq;obtain ⟨n1,hn1⟩:∃ m,nq=m:=⟨_,rfl⟩
      rw[hn1] at hq |-;clear hn1;go_wp2_with fail;go_quiet (fail);have hq:=hq.trans (Qf (B:=wr.heap.size) (wr.drewN n1) nq);obtain ⟨W1,hW1⟩:∃ W,(wr.drewN n1).drewN nq=W:=⟨_,rfl⟩
      rw[hW1] at hq |-;clear hW1;have HR1:=h9_ HR.a HR.b HR.c (HR.d.past hq) ((hq.block _ (Q4 HR.e)).trans HR.e) (HR.f.below hq) (HR.g.trans (hq.mono HR.g.size)) (HR.h.trans (hq.mono HR.h.size)) HR.I;clear hq g0 g1 g2 g3;go_wp2_with fail;have HMG:Hid (Tp.merge n (t.l.drop i) (u.l.drop k)=Tp.wz (q.1,q.2*n) (Tp.merge n (t.l.drop i) (u.l.drop (k+1)))):=hd_ (by rw[HM.a,HM.B,Tp.merge,if_neg HX.a,if_pos HX.B])
    case' neg=>
     have hku2:¬ (k:Int) < (u.l.length:Int):=(by omega);have hku3:((k:Int)==(u.l.length:Int))=true:=beq_iff_eq.2 (by omega);have HM:=hd_ hmt;clear hmt;go_wp2_with fail;go_quiet (fail);have hq:=Qf (B:=wr.heap.size) wr nq;obtain ⟨W1,hW1⟩:∃ W,wr.drewN nq=W:=⟨_,rfl⟩
     rw[hW1] at hq |-;clear hW1;have HR1:=h9_ HR.a HR.b HR.c (HR.d.past hq) ((hq.block _ (Q4 HR.e)).trans HR.e) (HR.f.below hq) (HR.g.trans (hq.mono HR.g.size)) (HR.h.trans (hq.mono HR.h.size)) HR.I;clear hq g0 g1 g2 g3;go_wp2_with fail;have HMG:Hid (Tp.merge n (t.l.drop i) (u.l.drop k)=Tp.wz (p.1,p.2) (Tp.merge n (t.l.drop (i+1)) (u.l.drop k))):=hd_ (by rw[HM.o,List.drop_eq_nil_of_le (show u.l.length<=k by omega),Tp.merge])
    case pos.inl | neg=>
     have mkT:∀ W:World,Below V.heap.size V W->W.heap[g8]? =some (.cells #[.slice aon o.length con,.slice aof o.length cof,.int .i64 srr,.slice ad8 (dg (t.rest+y)).length cd8] 50 (0,0))->Below V.heap.size V W/\W.cell? ⟨g8,0,none⟩=some (.slice aon o.length con)/\W.cell? ⟨g8,1,none⟩=some (.slice aof o.length cof)/\W.cell? ⟨g8,2,none⟩=some (.int .i64 srr)/\W.cell? ⟨g8,3,none⟩=some (.slice ad8 (dg (t.rest+y)).length cd8)/\W.cell? ⟨w.heap.size,0,none⟩=some (.slice (some ⟨bt,ot,none⟩) t.l.length ctn)/\W.cell? ⟨w.heap.size,1,none⟩=some (.slice (some ⟨bt2,ot2,none⟩) t.l.length ctf)/\W.cell? ⟨bt,ot+i,none⟩=some (.string ⟨p.1.toArray⟩)/\W.cell? ⟨bt2,ot2+i*2,none⟩=some (.int .i64 (sgn p.2))/\W.cell? ⟨bt2,ot2+i*2+1,none⟩=some (.slice apz (dg p.2).length cpz):=by
      intro W hb hg;have hw:Below w.heap.size w W:=HV.e.trans (hb.mono HV.e.size);exact ⟨hb,Q3 hg 0 rfl,Q3 hg 1 rfl,Q3 hg 2 rfl,Q3 hg 3 rfl,(HS.o W hb).2.1,(HS.o W hb).2.2.1,(HP.C W hw).1,(HP.C W hw).2.1,(HP.C W hw).2.2⟩
     have HT:=hd_ mkT;clear mkT;refine rp_2 (s:=HT) (t:=HR1.g.drew) (p:=HR1.e) (h:=fun hHeld=> ?_);simp only[lA_];refine tk_ 0 rfl ?_;refine tk_ 1 rfl ?_;refine tk_ 2 rfl ?_;refine tk_ 3 rfl ?_;refine tk_ 4 rfl ?_;refine tk_ 5 rfl ?_;refine tk_ 6 rfl ?_;refine tk_ 7 rfl ?_;refine tk_ 8 rfl ?_;refine tk_ 9 rfl ?_;refine tk_ 10 rfl ?_;(try simp only[Act.put,gP_]);have hws:∀ W:World,Below W1.heap.size W1 W->V.heap.size<=W.heap.size:=fun W h=> eE_ HR1.g.size h.size;refine rd_ 11 rfl (fun KK hKK=> ?_);simp only[gA_];go_simp;refine (ZW (HR1.d.past (Qf (B:=W1.heap.size) W1 1)) ⟨_,_,_,rfl⟩ (hws _ (Qf (B:=W1.heap.size) W1 1)) (by have:=HR1.b;omega) p.1 ((show Zn W1 (.agg #[.int .i64 (sgn p.2),.slice apz (dg p.2).length cpz]) p.2 from ⟨_,rfl,HP.b.below HR1.h⟩))).mono ?_;rintro e w7 ⟨vn7,vf7,o7,rfl,hoe,ho7,hb7,hf7⟩;have hg7:=hf7.cells (((Qf (B:=W1.heap.size) W1 1).block _ (Q4 HR1.e)).trans HR1.e) (by decide);have hbV7:Below V.heap.size V w7:=(HR1.g.trans ((Qf (B:=W1.heap.size) W1 1).mono HR1.g.size)).trans hb7;have hz7:Zn w7 _ _:=(HR1.f.below (Qf (B:=W1.heap.size) W1 1)).frt hf7 (by decide);obtain ⟨an7,cn7,af7,cf7,rfl,rfl⟩:=ho7.form;have r0:=Q3 hg7 0 rfl;have r1:=Q3 hg7 1 rfl;have r2:=Q3 hg7 2 rfl;have r3:=Q3 hg7 3 rfl;have z0:=Q6 hg7 0;have z1:=Q6 hg7 1;have z2:=Q6 hg7 2;have z3:=Q6 hg7 3;have H7:=h5_ hg7 ho7 hz7 hbV7 hoe;clear ho7 hz7 hb7 hf7 hoe;dsimp only;refine hKK.out _ _ (HT.o _ hbV7 hg7) (fun hHeld=> ?_);clear hKK KK;(try simp only[Act.put,sA_]);refine wpAnyH_done (by kernel_rfl) ?_ _;unfold PeelQ;dsimp only;go_simp;obtain ⟨y1,y2,y3,y4⟩:=G2 H7.a H7.b H7.c H7.d HC.D;have HF:=h4_ y1 y2 y3 y4;clear y1 y2 y3 y4 r0 r1 r2 r3 z0 z1 z2 z3 hg7 hbV7;go_wp2_with fail;go_roundg ((t.l.length - (i+1))+(u.l.length - k))
     case measure=> have:=HR1.a;omega
     case rel=>
      refine ⟨i+1,k,_,_,_,_,_,by go_num,by go_num,rfl,by omega,by omega,?_,?_,HF.a,HF.b,HF.c,HF.D⟩
      ·rw[H7.E];exact eE_ (Q3O o (p.1,p.2) HR.b) (by omega)
      ·rw[H7.E,Q3N o (p.1,p.2), <-HR.c,HMG.o]
    case inr.inl=>
     have mkT:∀ W:World,Below V.heap.size V W->W.heap[g8]? =some (.cells #[.slice aon o.length con,.slice aof o.length cof,.int .i64 srr,.slice ad8 (dg (t.rest+y)).length cd8] 50 (0,0))->Below V.heap.size V W/\W.cell? ⟨g8,0,none⟩=some (.slice aon o.length con)/\W.cell? ⟨g8,1,none⟩=some (.slice aof o.length cof)/\W.cell? ⟨g8,2,none⟩=some (.int .i64 srr)/\W.cell? ⟨g8,3,none⟩=some (.slice ad8 (dg (t.rest+y)).length cd8)/\W.cell? ⟨w.heap.size,0,none⟩=some (.slice (some ⟨bt,ot,none⟩) t.l.length ctn)/\W.cell? ⟨w.heap.size,1,none⟩=some (.slice (some ⟨bt2,ot2,none⟩) t.l.length ctf)/\W.cell? ⟨bt,ot+i,none⟩=some (.string ⟨p.1.toArray⟩)/\W.cell? ⟨bt2,ot2+i*2,none⟩=some (.int .i64 (sgn p.2))/\W.cell? ⟨bt2,ot2+i*2+1,none⟩=some (.slice apz (dg p.2).length cpz)/\W.cell? ⟨w.heap.size+1,0,none⟩=some (.slice (some ⟨bu,ou_,none⟩) u.l.length cun)/\W.cell? ⟨w.heap.size+1,1,none⟩=some (.slice (some ⟨bu2,ou2,none⟩) u.l.length cuf)/\W.cell? ⟨bu,ou_+k,none⟩=some (.string ⟨q.1.toArray⟩)/\W.cell? ⟨bu2,ou2+k*2,none⟩=some (.int .i64 (sgn q.2))/\W.cell? ⟨bu2,ou2+k*2+1,none⟩=some (.slice aqz (dg q.2).length cqz)/\W.cell? ⟨w.heap.size+1+1,0,none⟩=some (.int .i64 sz)/\W.cell? ⟨w.heap.size+1+1,1,none⟩=some (.slice az (dg n).length cz):=by
      intro W hb hg;have hw:Below w.heap.size w W:=HV.e.trans (hb.mono HV.e.size);exact ⟨hb,Q3 hg 0 rfl,Q3 hg 1 rfl,Q3 hg 2 rfl,Q3 hg 3 rfl,(HS.o W hb).2.1,(HS.o W hb).2.2.1,(HP.C W hw).1,(HP.C W hw).2.1,(HP.C W hw).2.2,(HS.o W hb).2.2.2.2.2.1,(HS.o W hb).2.2.2.2.2.2.1,(HQ.C W hw).1,(HQ.C W hw).2.1,(HQ.C W hw).2.2,(HS.o W hb).2.2.2.2.2.2.2.2.2.1,(HS.o W hb).2.2.2.2.2.2.2.2.2.2⟩
     have HT:=hd_ mkT;clear mkT;refine rp_2 (s:=HT) (t:=HR1.g.drew) (p:=HR1.e) (h:=fun hHeld=> ?_);simp only[lA_];refine tk_ 0 rfl ?_;refine tk_ 1 rfl ?_;refine tk_ 2 rfl ?_;refine tk_ 3 rfl ?_;refine tk_ 4 rfl ?_;refine tk_ 5 rfl ?_;refine tk_ 6 rfl ?_;refine tk_ 7 rfl ?_;refine tk_ 8 rfl ?_;refine tk_ 9 rfl ?_;refine tk_ 10 rfl ?_;refine tk_ 11 rfl ?_;refine tk_ 12 rfl ?_;refine tk_ 13 rfl ?_;refine tk_ 14 rfl ?_;refine tk_ 15 rfl ?_;refine tk_ 16 rfl ?_;(try simp only[Act.put,gP_]);have bq:Bd K q.2:=HH.g.l q (eP_ HQ.a);refine rd_ 17 rfl (fun KK hKK=> ?_);simp only[gA_];go_simp;refine (ZX (show Zn W1.drew (.agg #[.int .i64 (sgn q.2),.slice aqz (dg q.2).length cqz]) q.2 from ⟨_,rfl,(HQ.b.below HR1.h.drew)⟩) (HH.c.below HR1.h.drew) bq HH.h (by omega)).mono ?_;rintro e w5 ⟨v5,rfl,hr,hc⟩;have hs5:Below W1.heap.size W1 w5:=(Qf (B:=W1.heap.size) W1 1).trans hc;obtain ⟨a5,c5,rfl,_⟩:=hr.form;have H5r:=hd_ hr;clear hr hc;dsimp only;refine hKK.out _ _ (HT.o _ (HR1.g.trans (hs5.mono HR1.g.size)) ((hs5.block _ (Q4 HR1.e)).trans HR1.e)) (fun hHeld=> ?_);clear hKK KK;(try simp only[Act.put,sA_]);have bp:Bd (K+K) p.2:=(HH.f.l p (eP_ HP.a)).mono (by omega);refine rd_ 18 rfl (fun KK hKK=> ?_);simp only[gA_];go_simp;refine (ZY (show Zn w5 (.agg #[.int .i64 (sgn p.2),.slice apz (dg p.2).length cpz]) p.2 from ⟨_,rfl,(HP.b.below (HR1.h.trans (hs5.mono HR1.h.size)))⟩) H5r.o bp (Bd.mul bq HH.h (rl_ _)) (by omega)).mono ?_;rintro e w6 ⟨v6,rfl,hr,hc⟩;have hs6:Below W1.heap.size W1 w6:=hs5.trans (hc.mono hs5.size);obtain ⟨a6,c6,rfl,_⟩:=hr.form;have H6r:=hd_ hr;clear hr hc;dsimp only;refine hKK.out _ _ (HT.o _ (HR1.g.trans (hs6.mono HR1.g.size)) ((hs6.block _ (Q4 HR1.e)).trans HR1.e)) (fun hHeld=> ?_);clear hKK KK;(try simp only[Act.put,sA_]);have hws:∀ W:World,Below W1.heap.size W1 W->V.heap.size<=W.heap.size:=fun W h=> eE_ HR1.g.size h.size;refine rd_ 19 rfl (fun KK hKK=> ?_);simp only[gA_];go_simp;refine (ZW (HR1.d.past hs6) ⟨_,_,_,rfl⟩ (hws _ hs6) (by have:=HR1.b;omega) p.1 (H6r.o)).mono ?_;rintro e w7 ⟨vn7,vf7,o7,rfl,hoe,ho7,hb7,hf7⟩;have hg7:=hf7.cells ((hs6.block _ (Q4 HR1.e)).trans HR1.e) (by decide);have hbV7:Below V.heap.size V w7:=(HR1.g.trans (hs6.mono HR1.g.size)).trans hb7;have hz7:Zn w7 _ _:=(HR1.f.below hs6).frt hf7 (by decide);obtain ⟨an7,cn7,af7,cf7,rfl,rfl⟩:=ho7.form;have r0:=Q3 hg7 0 rfl;have r1:=Q3 hg7 1 rfl;have r2:=Q3 hg7 2 rfl;have r3:=Q3 hg7 3 rfl;have z0:=Q6 hg7 0;have z1:=Q6 hg7 1;have z2:=Q6 hg7 2;have z3:=Q6 hg7 3;have H7:=h5_ hg7 ho7 hz7 hbV7 hoe;clear ho7 hz7 hb7 hf7 hoe;dsimp only;refine hKK.out _ _ (HT.o _ hbV7 hg7) (fun hHeld=> ?_);clear hKK KK;(try simp only[Act.put,sA_]);refine wpAnyH_done (by kernel_rfl) ?_ _;unfold PeelQ;dsimp only;go_simp;obtain ⟨y1,y2,y3,y4⟩:=G2 H7.a H7.b H7.c H7.d HC.D;have HF:=h4_ y1 y2 y3 y4;clear y1 y2 y3 y4 r0 r1 r2 r3 z0 z1 z2 z3 hg7 hbV7;go_wp2_with fail;go_roundg ((t.l.length - (i+1))+(u.l.length - (k+1)))
     case measure=> have:=HR1.a;omega
     case rel=>
      refine ⟨i+1,k+1,_,_,_,_,_,by go_num,by go_num,rfl,by omega,by omega,?_,?_,HF.a,HF.b,HF.c,HF.D⟩
      ·rw[H7.E];exact eE_ (Q3O o (p.1,p.2+q.2*n) HR.b) (by omega)
      ·rw[H7.E,Q3N o (p.1,p.2+q.2*n), <-HR.c,HMG.o]
   case' neg=>
    have hit2:¬ (i:Int) < (t.l.length:Int):=(by omega);by_cases hku:k < u.l.length
    case' pos=>
     have hku2:(k:Int) < (u.l.length:Int):=(by omega);have hku3:((k:Int)==(u.l.length:Int))=false:=beq_false_of_ne (by omega);have hit3:((i:Int)==(t.l.length:Int))=true:=beq_iff_eq.2 (by omega);obtain ⟨q,hq⟩:∃ q,u.l[k]? =some q:=⟨_,eA_ hku⟩
     obtain ⟨bu,ou_,bu2,ou2,sq,e1,e2,Q0,Q1,Q2,hdq⟩:=HH.b.at hq;subst e1 e2;obtain ⟨aqz,cqz,rfl,_⟩:=hdq.form;have hcq:=fun W (hb:Below w.heap.size w W)=> n3_ ((hb.cell (Qd Q0)).trans Q0) ((hb.cell (Qd Q1)).trans Q1) ((hb.cell (Qd Q2)).trans Q2);have HQ:=h3_ hq hdq hcq;clear hq hdq hcq Q0 Q1 Q2;obtain ⟨Q0,Q1,Q2⟩:=HQ.C _ HR.h;have hmu:=DA HQ.a;have HM:=hd_ hmu;clear hmu;go_wp2_with fail;go_quiet (fail);have hq:=Qf (B:=wr.heap.size) wr nq;obtain ⟨n1,hn1⟩:∃ m,nq=m:=⟨_,rfl⟩
     rw[hn1] at hq |-;clear hn1;go_wp2_with fail;go_quiet (fail);have hq:=hq.trans (Qf (B:=wr.heap.size) (wr.drewN n1) nq);obtain ⟨W1,hW1⟩:∃ W,(wr.drewN n1).drewN nq=W:=⟨_,rfl⟩
     rw[hW1] at hq |-;clear hW1;have HR1:=h9_ HR.a HR.b HR.c (HR.d.past hq) ((hq.block _ (Q4 HR.e)).trans HR.e) (HR.f.below hq) (HR.g.trans (hq.mono HR.g.size)) (HR.h.trans (hq.mono HR.h.size)) HR.I;clear hq g0 g1 g2 g3;go_wp2_with fail;have HMG:Hid (Tp.merge n (t.l.drop i) (u.l.drop k)=Tp.wz (q.1,q.2*n) (Tp.merge n (t.l.drop i) (u.l.drop (k+1)))):=hd_ (by rw[HM.o,List.drop_eq_nil_of_le (show t.l.length<=i by omega),Tp.merge])
    case' neg=>
     obtain rfl:t.l.length=i:=(by omega);obtain rfl:u.l.length=k:=(by omega);have hD:=(HR.g.block _ (Q4 HV.d)).trans HV.d;have d0:=Q3 hD 0 rfl;have d1:=Q3 hD 1 rfl;have d2:=Q3 hD 2 rfl;have d3:=Q3 hD 3 rfl;have z0:=Q6 hD 0;have z1:=Q6 hD 1;have z2:=Q6 hD 2;have z3:=Q6 hD 3;have HD:=hd_ hD;clear hD;go_wp2_with fail;rw[YH HD.o rfl];refine eG_ (eY_ rfl _ _ (w.heap.size+1+1+1) _ _ _ _ rfl (Qb HD.o) underlying50 rfl X3) rfl ?_;have hmo:Tp.merge n t.l u.l=o:=by
      have h1:=HR.c;rw[List.drop_length,List.drop_length,Tp.merge,List.append_nil] at h1;exact h1.symm
     obtain ⟨ss,h1,h2,h3⟩:=HR.d;have hz:Zn _ _ _:=HR.f.frt (Qe (vs:= #[.slice aon o.length con,.slice aof o.length cof,.int .i64 srr,.slice ad8 (dg (t.rest+y)).length cd8]) HD.o) (by decide);have hto:TzO V.heap.size (wr.setRow (w.heap.size+1+1+1) #[.slice aon o.length con,.slice aof o.length cof,.int .i64 srr,.slice ad8 (dg (t.rest+y)).length cd8]) (.slice aon o.length con) (.slice aof o.length cof) (⟨Tp.merge n t.l u.l,t.rest+u.rest*n⟩:Tp.T).l:=by
      show TzO _ _ _ _ (Tp.merge n t.l u.l);rw[hmo];exact ⟨ss,h1.keep fun _ _ h=> h.frt (Qe HD.o) (by decide),Xe h2 HD.o (by decide) _,Xe h3 HD.o (by decide) _⟩
     have hrest:t.rest+y=(⟨Tp.merge n t.l u.l,t.rest+u.rest*n⟩:Tp.T).rest:=(by show t.rest+y=t.rest+u.rest*n;rw[H5.G]);obtain ⟨sd2,e2,hrd⟩:=hz;have e3:srr=sgn (t.rest+y)/\(.slice ad8 (dg (t.rest+y)).length cd8:Value)=sd2:=by
      injection e2 with e2;simpa using e2
     obtain ⟨e4,rfl⟩:=e3;refine ⟨_,rfl,?_,Q9 HR.h (by omega) _⟩;rw[e4] at hto hrd |-;have h5:=hto.read (sd:= .slice ad8 (dg (t.rest+y)).length cd8) (by rw[<-hrest];exact hrd);rw[<-hrest] at h5;exact h5
   case pos | neg=>
    have mkT:∀ W:World,Below V.heap.size V W->W.heap[g8]? =some (.cells #[.slice aon o.length con,.slice aof o.length cof,.int .i64 srr,.slice ad8 (dg (t.rest+y)).length cd8] 50 (0,0))->Below V.heap.size V W/\W.cell? ⟨g8,0,none⟩=some (.slice aon o.length con)/\W.cell? ⟨g8,1,none⟩=some (.slice aof o.length cof)/\W.cell? ⟨g8,2,none⟩=some (.int .i64 srr)/\W.cell? ⟨g8,3,none⟩=some (.slice ad8 (dg (t.rest+y)).length cd8)/\W.cell? ⟨w.heap.size+1,0,none⟩=some (.slice (some ⟨bu,ou_,none⟩) u.l.length cun)/\W.cell? ⟨w.heap.size+1,1,none⟩=some (.slice (some ⟨bu2,ou2,none⟩) u.l.length cuf)/\W.cell? ⟨bu,ou_+k,none⟩=some (.string ⟨q.1.toArray⟩)/\W.cell? ⟨bu2,ou2+k*2,none⟩=some (.int .i64 (sgn q.2))/\W.cell? ⟨bu2,ou2+k*2+1,none⟩=some (.slice aqz (dg q.2).length cqz)/\W.cell? ⟨w.heap.size+1+1,0,none⟩=some (.int .i64 sz)/\W.cell? ⟨w.heap.size+1+1,1,none⟩=some (.slice az (dg n).length cz):=by
     intro W hb hg;have hw:Below w.heap.size w W:=HV.e.trans (hb.mono HV.e.size);exact ⟨hb,Q3 hg 0 rfl,Q3 hg 1 rfl,Q3 hg 2 rfl,Q3 hg 3 rfl,(HS.o W hb).2.2.2.2.2.1,(HS.o W hb).2.2.2.2.2.2.1,(HQ.C W hw).1,(HQ.C W hw).2.1,(HQ.C W hw).2.2,(HS.o W hb).2.2.2.2.2.2.2.2.2.1,(HS.o W hb).2.2.2.2.2.2.2.2.2.2⟩
    have HT:=hd_ mkT;clear mkT;refine rp_2 (s:=HT) (t:=HR1.g.drew) (p:=HR1.e) (h:=fun hHeld=> ?_);simp only[lA_];refine tk_ 0 rfl ?_;refine tk_ 1 rfl ?_;refine tk_ 2 rfl ?_;refine tk_ 3 rfl ?_;refine tk_ 4 rfl ?_;refine tk_ 5 rfl ?_;refine tk_ 6 rfl ?_;refine tk_ 7 rfl ?_;refine tk_ 8 rfl ?_;refine tk_ 9 rfl ?_;refine tk_ 10 rfl ?_;refine tk_ 11 rfl ?_;(try simp only[Act.put,gP_]);have bq:Bd K q.2:=HH.g.l q (eP_ HQ.a);refine rd_ 12 rfl (fun KK hKK=> ?_);simp only[gA_];go_simp;refine (ZX (show Zn W1.drew (.agg #[.int .i64 (sgn q.2),.slice aqz (dg q.2).length cqz]) q.2 from ⟨_,rfl,(HQ.b.below HR1.h.drew)⟩) (HH.c.below HR1.h.drew) bq HH.h (by omega)).mono ?_;rintro e w5 ⟨v5,rfl,hr,hc⟩;have hs5:Below W1.heap.size W1 w5:=(Qf (B:=W1.heap.size) W1 1).trans hc;obtain ⟨a5,c5,rfl,_⟩:=hr.form;have H5r:=hd_ hr;clear hr hc;dsimp only;refine hKK.out _ _ (HT.o _ (HR1.g.trans (hs5.mono HR1.g.size)) ((hs5.block _ (Q4 HR1.e)).trans HR1.e)) (fun hHeld=> ?_);clear hKK KK;(try simp only[Act.put,sA_]);have hws:∀ W:World,Below W1.heap.size W1 W->V.heap.size<=W.heap.size:=fun W h=> eE_ HR1.g.size h.size;refine rd_ 13 rfl (fun KK hKK=> ?_);simp only[gA_];go_simp;refine (ZW (HR1.d.past hs5) ⟨_,_,_,rfl⟩ (hws _ hs5) (by have:=HR1.b;omega) q.1 (H5r.o)).mono ?_;rintro e w7 ⟨vn7,vf7,o7,rfl,hoe,ho7,hb7,hf7⟩;have hg7:=hf7.cells ((hs5.block _ (Q4 HR1.e)).trans HR1.e) (by decide);have hbV7:Below V.heap.size V w7:=(HR1.g.trans (hs5.mono HR1.g.size)).trans hb7;have hz7:Zn w7 _ _:=(HR1.f.below hs5).frt hf7 (by decide);obtain ⟨an7,cn7,af7,cf7,rfl,rfl⟩:=ho7.form;have r0:=Q3 hg7 0 rfl;have r1:=Q3 hg7 1 rfl;have r2:=Q3 hg7 2 rfl;have r3:=Q3 hg7 3 rfl;have z0:=Q6 hg7 0;have z1:=Q6 hg7 1;have z2:=Q6 hg7 2;have z3:=Q6 hg7 3;have H7:=h5_ hg7 ho7 hz7 hbV7 hoe;clear ho7 hz7 hb7 hf7 hoe;dsimp only;refine hKK.out _ _ (HT.o _ hbV7 hg7) (fun hHeld=> ?_);clear hKK KK;(try simp only[Act.put,sA_]);refine wpAnyH_done (by kernel_rfl) ?_ _;unfold PeelQ;dsimp only;go_simp;obtain ⟨y1,y2,y3,y4⟩:=G2 H7.a H7.b H7.c H7.d HC.D;have HF:=h4_ y1 y2 y3 y4;clear y1 y2 y3 y4 r0 r1 r2 r3 z0 z1 z2 z3 hg7 hbV7;go_wp2_with fail;go_roundg ((t.l.length - i)+(u.l.length - (k+1)))
    case measure=> have:=HR1.a;omega
    case rel=>
     refine ⟨i,k+1,_,_,_,_,_,by go_num,by go_num,rfl,by omega,by omega,?_,?_,HF.a,HF.b,HF.c,HF.D⟩
     ·rw[H7.E];exact eE_ (Q3O o (q.1,q.2*n) HR.b) (by omega)
     ·rw[H7.E,Q3N o (q.1,q.2*n), <-HR.c,HMG.o]
def TzRes (w:World) (t:Tp.T) (e:Ending) (w':World):Prop:=∃ v',e= .returned v'/\Tz w' v' t/\Below w.heap.size w w'
theorem Q0T {n:Int} (ht:Tz w vt t) (hu:Tz w vu u) (hn:Zn w vz n) (ot:Tp.Ok t.l) (ou:Tp.Rise u.l) {K:Nat} (st:Sm K t) (su:Sm K u) (sn:Bd K n) (hK:K<=100000):
  Calls prog 51 #[vt,vu,vz] w (TzRes w (Tp.add t u n)):=by
 have h:=Q0S ht hu hn ot.rise ou st su sn hK;rw[<-Tp.Q2W n ot ou] at h;exact h
theorem Q70 {l:List Value} {T:TypeId} {size:Nat} (h:w.heap[g]? =some (.cells l.toArray T (0,0))) (hl:l.length=1*size):RdB T w size (.slice (some ⟨g,0,none⟩) 1 1) 1 l:=
 ⟨hl,_,1,rfl,rl_ _,Or.inr ⟨g,0,rfl,Or.inr ⟨_,h⟩,fun j u hj=> by rw[Nat.zero_add];exact Q3 h j (by simpa using hj)⟩⟩
theorem Q23 (w:World) (s:Tp.Nm):Calls prog 50 #[.string ⟨s.toArray⟩] w (TzRes w (Tp.name s)):=by
 go_in;go_wp2_with fail;obtain ⟨V,hV⟩:∃ V,(w.alloc (.cells #[.slice none 0 0,.slice none 0 0,.int .i64 0,.slice none 0 0] 50)).alloc (.cells #[.string ⟨s.toArray⟩] 9)=V:=⟨_,rfl⟩
 have hbx:=box2 w #[.slice none 0 0,.slice none 0 0,.int .i64 0,.slice none 0 0] 50 #[.string ⟨s.toArray⟩] 9;rw[hV] at hbx |-;have HV:=hd_ hbx;clear hbx hV;refine (YU 1 (by decide) (by decide) V).mono ?_;rintro e w1 ⟨v1,rfl,hn,hb⟩;obtain ⟨a1,c1,rfl,hr⟩:=hn.form;have hal:=Qt w1 (.cells #[.int .i64 (sgn 1),.slice a1 (dg 1).length c1] 48);have hg:=(hal.block _ (Q4 ((hb.block _ (Q4 HV.a)).trans HV.a))).trans ((hb.block _ (Q4 HV.a)).trans HV.a);have hs:=(hal.block _ (Q4 ((hb.block _ (Q4 HV.b)).trans HV.b))).trans ((hb.block _ (Q4 HV.b)).trans HV.b);have hz:=eD_ w1 (.cells #[.int .i64 (sgn 1),.slice a1 (dg 1).length c1] 48);have hbw:=HV.C.trans ((hb.trans (hal.mono hb.size)).mono HV.C.size);have H1:=h5_ hg hs hz hbw (hr.below hal);have r0:=Q3 hg 0 rfl;have r1:=Q3 hg 1 rfl;have r2:=Q3 hg 2 rfl;have r3:=Q3 hg 3 rfl;have z0:=Q6 hg 0;have z1:=Q6 hg 1;have z2:=Q6 hg 2;have z3:=Q6 hg 3;clear hn hr hb hal hg hs hz hbw;obtain ⟨s1,hs1⟩:∃ x,sgn 1=x:=⟨_,rfl⟩
 rw[hs1] at H1 r0 r1 r2 r3 z0 z1 z2 z3 |-;dsimp only;go_wp2_with fail;rw[YH H1.a rfl];refine eG_ (eY_ rfl _ _ w.heap.size _ _ _ _ rfl (Qb H1.a) underlying50 rfl X3) rfl ?_;have hne:w.heap.size+1≠w.heap.size:=by omega
 have hne2:w1.heap.size≠w.heap.size:=by have h:=Q4 H1.b;rw[<-Q5] at h;omega
 refine ⟨_,rfl,⟨_,_,_, [.slice a1 (dg 1).length c1],rfl,?_,⟨rfl,fun i p q h1 h2=> ?_⟩,?_,?_⟩,Q9 H1.d (rl_ _) _⟩
 ·have:dg 0= []:=Zp.QG 10;show RdD _ _ (dg 0);rw[this];exact RdD.nil _
 ·cases i with
  | zero=>
   simp only[Tp.name,eZ_,Option.some.injEq] at h1 h2;subst h1 h2;exact H1.E.frt (Qe H1.a) (by decide)
  | succ i=> simp[Tp.name] at h1
 ·exact Q70 (l:= [.string ⟨s.toArray⟩]) (by rw[Q8 hne];exact H1.b) rfl
 ·show RdB _ _ 2 _ 1 [.int .i64 (sgn 1),.slice a1 (dg 1).length c1];rw[hs1];exact Q70 (l:= [.int .i64 s1,.slice a1 (dg 1).length c1]) (by rw[Q8 hne2];exact H1.c) rfl
theorem Xm (h:Tz w v t):∃ an cn af cf s ad cd,v= .agg #[.slice an t.l.length cn,.slice af t.l.length cf,.int .i64 s,.slice ad (dg t.rest).length cd]/\Tz w (.agg #[.slice an t.l.length cn,.slice af t.l.length cf,.int .i64 s,.slice ad (dg t.rest).length cd]) t:=by
 obtain ⟨an,cn,af,cf,ad,cd,rfl,h⟩:=h.form;exact ⟨an,cn,af,cf,_,ad,cd,rfl,h⟩
theorem Tz.frt {ts:List TypeId} {w w':World} {v:Value} {t:Tp.T} (h:Tz w v t) (hf:FrT ts w w') (h1:9∉ts) (h2:48∉ts) (h3:3∉ts):Tz w' v t:=by
 obtain ⟨vn,vf,sd,ss,a,b,c,d,e⟩:=h;exact ⟨vn,vf,sd,ss,a,b.frt hf h3,c.keep fun _ _ h=> h.frt hf h3,RdB.frt d hf h1,RdB.frt e hf h2⟩
def NdRel (w:World) (s:List UInt8) (k:Nat) (v3:Value) (wr:World):Prop:=∃ i:Nat,v3= .int .i64 (i:Int)/\k=s.length - i/\i<=s.length/\wr=w
def SomeB (w:World) (e:Ending) (w':World):Prop:=∃ b,e= .returned (.bool b)/\w'=w
theorem Q24 (s:List UInt8) (hs:s.length<=1073741824) (w:World):Calls prog 15 #[.string ⟨s.toArray⟩] w (SomeB w):=by
 have hl:(s.length:Int)<=1073741824:=by omega
 obtain ⟨S,hS⟩:∃ S:ByteArray,⟨s.toArray⟩=S:=⟨_,rfl⟩
 have hsz:S.size=s.length:=by rw[<-hS];exact Q20 s
 rw[hS];go_in;go_wp2_with fail;go_loopg [3] s.length (fun k v3 wr=> NdRel w s k v3 wr)
 case atStart=> exact ⟨0,rfl,rfl,eV_ _,rfl⟩
 case round=>
  obtain ⟨i,rfl,hk,hi,rfl⟩:=hrel;have HR:=hd_ hk;clear hk;by_cases hlt:i < s.length
  ·have hlt2:(i:Int) < (s.length:Int):=(by omega);have hlt3:i < S.size:=(by omega);clear hlt;obtain ⟨c,hc⟩:∃ c:Int,((S[i]'hlt3).toNat:Int)=c:=⟨_,rfl⟩
   by_cases c43:c=43
   ·have d43:(c==43)=true:=(by rw[c43];rfl);clear c43;go_wp2_with fail;go_ret;exact ⟨_,rfl,rfl⟩
   ·have d43:(c==43)=false:=beq_false_of_ne c43;clear c43;by_cases c42:c=42
    ·have d42:(c==42)=true:=(by rw[c42];rfl);clear c42;go_wp2_with fail;go_ret;exact ⟨_,rfl,rfl⟩
    ·have d42:(c==42)=false:=beq_false_of_ne c42;clear c42;by_cases c40:c=40
     ·have d40:(c==40)=true:=(by rw[c40];rfl);clear c40;go_wp2_with fail;go_ret;exact ⟨_,rfl,rfl⟩
     ·have d40:(c==40)=false:=beq_false_of_ne c40;clear c40;by_cases c41:c=41
      ·have d41:(c==41)=true:=(by rw[c41];rfl);clear c41;go_wp2_with fail;go_ret;exact ⟨_,rfl,rfl⟩
      ·have d41:(c==41)=false:=beq_false_of_ne c41;clear c41;by_cases c44:c=44
       ·have d44:(c==44)=true:=(by rw[c44];rfl);clear c44;go_wp2_with fail;go_ret;exact ⟨_,rfl,rfl⟩
       ·have d44:(c==44)=false:=beq_false_of_ne c44;clear c44;go_wp2_with fail;go_roundg (s.length - (i+1))
        case measure=> have:=HR.o;omega
        case rel=> exact ⟨i+1,by go_num,rfl,by omega,rfl⟩
  ·obtain rfl:s.length=i:=(by omega);go_wp2_with fail;go_ret;exact ⟨_,rfl,rfl⟩
theorem Q5r (w:World):Calls prog 36 #[.int .i64 (-9223372036854775808)] w fun e w'=> ∃ v',e= .returned v'/\Zn w' v' 0/\Below w.heap.size w w':=by
 go_in;go_wp2_with fail;go_loopg [0,4] 0 (fun k v0 v4 wr=> v0= .int .i64 (-9223372036854775808)/\v4= .slice none 0 0/\wr=w.alloc (.cells #[.int .i64 0,.slice none 0 0] 48))
 case atStart=> exact ⟨congrArg (Value.int .i64) (by first | (unfold wrap64;omega) | (unfold wrap64;decide) | (simp[wrap64];done) | kernel_rfl),rfl,rfl⟩
 case round=>
  obtain ⟨rfl,rfl,rfl⟩:=hrel;have hbx:=box1 w #[.int .i64 0,.slice none 0 0] 48;have HV:=hd_ hbx;clear hbx;go_wp2_with fail;refine (X4 (l:= []) (RdD.nil _) (by decide) (fun d hd=> by cases hd) (-1) 0 (by simp[Zp.val]) (by omega)).mono ?_;rintro e w2 ⟨v2,rfl,hr,hb⟩;have HT2:=h3_ ((hb.block _ (Q4 HV.a)).trans HV.a) hr (HV.B.trans (hb.mono HV.B.size));clear hr hb;dsimp only;go_wp2_with (refine XO rfl _ _ rfl rfl HT2.a rfl rfl HT2.b (rl_ _) HT2.C ?_;rintro W cs - rfl hg hs hn hb -;have HT:=h4_ hg hs hn hb;clear hg hs hn hb);exact eG_ (YF rfl rfl HT.a HT.b) rfl ⟨_,rfl,HT.c,HT.D⟩
theorem XG (n:Int) (h1: -9223372036854775808<=n) (h2:n<=9223372036854775807) (w:World):
  Calls prog 36 #[.int .i64 n] w fun e w'=> ∃ v' z,e= .returned v'/\(n≠ -9223372036854775808->z=n)/\Zn w' v' z/\Below w.heap.size w w':=by
 by_cases h:n=-9223372036854775808
 ·subst h;exact (Q5r w).mono fun e w' ⟨v',a,b,c⟩=> ⟨v',0,a,fun h=> absurd rfl h,b,c⟩
 ·exact (YU n (by omega) h2 w).mono fun e w' ⟨v',a,b,c⟩=> ⟨v',n,a,fun _=> rfl,b,c⟩
inductive Ex where
 | mk (op:Int) (name mod:List UInt8) (num:Int) (yes:Bool) (kids:List Ex) (pos:Int)
namespace Ex
def op:Ex->Int | mk o _ _ _ _ _ _=> o
def name:Ex->List UInt8 | mk _ n _ _ _ _ _=> n
def mod:Ex->List UInt8 | mk _ _ m _ _ _ _=> m
def num:Ex->Int | mk _ _ _ n _ _ _=> n
def yes:Ex->Bool | mk _ _ _ _ y _ _=> y
def kids:Ex->List Ex | mk _ _ _ _ _ k _=> k
def pos:Ex->Int | mk _ _ _ _ _ _ p=> p
def none:Ex:=mk 0 [] [] 0 false [] 0
mutual
def size:Ex->Nat
 | mk _ _ _ _ _ k _=> 1+sizes k
def sizes:List Ex->Nat
 | []=> 0
 | e::r=> size e+sizes r
end
def plain (w:List UInt8):Bool:=
 match Lx.lex w with
 | (l,e,_)=> e==0 && l.length==2 && (match l with | k::_=> k.kind==1 && k.text==w | []=> false)
def names (e:Ex):Bool:=
 if e.op=3\/e.op=22 then plain e.name && e.mod.isEmpty
 else if e.op=24 then plain e.name && (e.mod.isEmpty || plain e.mod)
 else e.name.isEmpty && e.mod.isEmpty
def values (e:Ex):Bool:=
 if e.op=1 then decide (0<=e.num) && decide ((Zp.text e.num).length<=60) && !e.yes
 else decide (e.num=0) && (decide (e.op=2) || !e.yes)
def count (op:Int) (n:Nat):Bool:=
 if op<=4 then n==0 else if op<=6 then n==1 else if op<=20\/op=22\/op=23 then n==2 else if op=21 then n==3 else decide (n<=8)
def one (e:Ex):Bool:=decide (1<=e.op) && decide (e.op<=20) && names e && values e && count e.op e.kids.length
mutual
def right:Ex->Bool
 | mk o n m z y k p=> one (mk o n m z y k p) && rights k
def rights:List Ex->Bool
 | []=> true
 | e::r=> right e && rights r
end
theorem Q25 (e:Ex):right e=(one e && rights e.kids):=by cases e;simp only[right,kids]
def prod (a b:Tp.T):Option Tp.T:=if a.l= [] then some (Tp.add Tp.zero b a.rest) else if b.l= [] then some (Tp.add Tp.zero a b.rest) else Option.none
def ofK (e:Ex) (ks:List Tp.T):Option Tp.T:=
 if e.op=1 then some ⟨[],e.num⟩
 else if e.op=3 then some (Tp.name e.name)
 else if e.op=4 then some (Tp.name [114,101,115])
 else if e.op=5 then some (Tp.add Tp.zero (ks.getD 0 Tp.zero) (-1))
 else if e.op=7 then some (Tp.add (ks.getD 0 Tp.zero) (ks.getD 1 Tp.zero) 1)
 else if e.op=8 then some (Tp.add (ks.getD 0 Tp.zero) (ks.getD 1 Tp.zero) (-1))
 else if e.op=9 then prod (ks.getD 0 Tp.zero) (ks.getD 1 Tp.zero)
 else Option.none
mutual
def of:Ex->Option Tp.T
 | mk o n m z y k p=>
  match ofs k with
  | Option.none=> Option.none
  | some ks=> ofK (mk o n m z y k p) ks
def ofs:List Ex->Option (List Tp.T)
 | []=> some []
 | e::r=>
  match of e with
  | Option.none=> Option.none
  | some t=>
   match ofs r with
   | Option.none=> Option.none
   | some l=> some (t::l)
end
end Ex
end Go.Proofs.YtiecccakcenobaaGreatDoor
namespace Go.Proofs.YtiecccakcenobaaGreatDoor.Ax
open Tryz
open Tr
def nd (t:T) (n:Int):Option Nd:=if n < 0 then none else t.nodes[n.toNat]?
def tk (t:T) (n:Int):Option Tk:=
 match nd t n with
 | none=> none
 | some x=> if x.tok < 0 then none else t.toks[x.tok.toNat]?
def partsGo (t:T):List Int->Option (List Int)
 | []=> some []
 | k::r=>
  match nd t k with
  | none=> none
  | some x=>
   match partsGo t r with
   | none=> none
   | some l=> some (if x.kind=19 then l else k::l)
def parts (t:T) (n:Int):Option (List Int):=
 match nd t n with
 | none=> none
 | some x=> partsGo t x.kids
def signs:List (List UInt8):= [[43], [45], [42], [47], [37], [61], [60,62], [60], [60,61], [62], [62,61], [38,38], [124,124], [61,62]]
def exprs (f:Int->Option Ex):List Int->Option (List Ex)
 | []=> some []
 | k::r=>
  match f k with
  | none=> none
  | some e=>
   match exprs f r with
   | none=> none
   | some l=> some (e::l)
def made (f:Int->Option Ex) (t:T) (op pos:Int) (n:Int):Option (List Ex):=
 match parts t n with
 | none=> none
 | some ks=> exprs f ks
def wrap (f:Int->Option Ex) (t:T) (op pos:Int) (name mod:List UInt8) (n:Int):Option Ex:=
 match made f t op pos n with
 | none=> none
 | some es=> some (.mk op name mod 0 false es pos)
def binary (f:Int->Option Ex) (t:T) (n:Int) (x:Nd):Option Ex:=
 match x.kids[1]? with
 | none=> none
 | some k=>
  match tk t k with
  | none=> none
  | some s=>
   match signs.findIdx? (·==s.text) with
   | none=> some Ex.none
   | some i=> wrap f t (7+i) s.pos [] [] n
def call (f:Int->Option Ex) (t:T) (n:Int) (x:Nd):Option Ex:=
 match x.kids[0]?,x.kids[1]? with
 | some k0,some k1=>
  match tk t k0,tk t k1 with
  | some a,some b=>
   if b.text= [46] then
    match x.kids[2]? with
    | none=> none
    | some k2=>
     match tk t k2 with
     | none=> none
     | some c=> wrap f t 24 a.pos c.text a.text n
   else wrap f t 24 a.pos a.text [] n
  | _,_=> none
 | _,_=> none
def node (f:Int->Option Ex) (t:T) (n:Int) (x:Nd) (first:Tk):Option Ex:=
 if x.kind=12 then (match x.kids[1]? with | none=> none | some k=> f k)
 else if x.kind=10 then binary f t n x
 else if x.kind=13 then call f t n x
 else if x.kind=11 then wrap f t (if first.text= [110,111,116] then 6 else 5) first.pos [] [] n
 else if x.kind=8 then wrap f t 21 first.pos [] [] n
 else if x.kind=9 then wrap f t 23 first.pos [] [] n
 else if x.kind=7 then
  match x.kids[1]? with
  | none=> none
  | some k=>
   match tk t k with
   | none=> none
   | some c=> wrap f t 22 first.pos c.text [] n
 else if x.kind=15 then some (.mk 1 [] [] (Zp.parse first.text).1 false [] first.pos)
 else if x.kind=16 then some (.mk 2 [] [] 0 (first.text== [116,114,117,101]) [] first.pos)
 else if x.kind=17 then some (.mk 4 [] [] 0 false [] first.pos)
 else some (.mk 3 first.text [] 0 false [] first.pos)
def first (t:T) (x:Nd):Option Tk:=
 match x.kids[0]? with
 | none=> none
 | some k=>
  match nd t k with
  | none=> none
  | some y=> if y.kind=19 then tk t k else some ⟨0, [], [],0⟩
def expr (t:T):Nat->Int->Option Ex
 | 0,_=> none
 | g+1,n=>
  match nd t n with
  | none=> none
  | some x=>
   match first t x with
   | none=> none
   | some a=> node (expr t g) t n x a
def formula (t:T):Option Ex:=
 match nd t (root t) with
 | none=> none
 | some x=>
  match x.kids[0]? with
  | none=> none
  | some k=> expr t (t.nodes.length+1) k
end Go.Proofs.YtiecccakcenobaaGreatDoor.Ax
namespace Go.Proofs.YtiecccakcenobaaGreatDoor
open Tryz
open Go.RowKit
variable {x:List UInt8} {P:Nat->Prop} {v:Value} {w:World}
def strCells (l:List (List UInt8)):List Value:=l.map fun t=> .string ⟨t.toArray⟩
theorem Q5s {l:List (List UInt8)} (h:RdS w P 1 v l.length (strCells l)) (hl:l.length<=1073741824):
  Calls prog 223 #[v,.string ⟨x.toArray⟩] w fun e w'=> ∃ r:Int,e= .returned (.int .i64 r)/\decide (0<=r)=l.contains x/\w=w':=by
 obtain ⟨_,a,cl,rfl,_,hd⟩:=h;have hl':(l.length:Int)<=1073741824:=by omega
 have HD:=hd_ hd;clear hd;go_in;go_wp2;go_loopg [8] l.length (fun k v8 wr=> ∃ j:Nat,v8= .int .i64 j/\k=l.length - j/\j<=l.length/\wr=w/\(l.take j).contains x=false)
 case atStart=> exact ⟨0,rfl,rfl,eV_ _,rfl,by simp⟩
 case round=>
  obtain ⟨j,rfl,hk,hj,rfl,hall⟩:=hrel;have HK:=hd_ hk;have HA:=hd_ hall;clear hk hall;by_cases hlt:j < l.length
  ·have hlt':(j:Int) < (l.length:Int):=(by omega);obtain ⟨b2,off,rfl,_,hr⟩:=HD.o.resolve_left (fun h=> by omega);have hcell:wr.cell? ⟨b2,off+j,none⟩=some (.string ⟨(l[j]).toArray⟩):=hr j _ (by simp[strCells,eA_ hlt]);clear hr;obtain ⟨y,hy⟩:∃ y,l[j]=y:=⟨_,rfl⟩
   rw[hy] at hcell;have HY:=hd_ hy;clear hy;by_cases he:x=y
   ·subst he;go_wp2;go_ret;refine ⟨(j:Int),rfl,?_,rfl⟩;have h2:l.contains x=true:=by
     rw[List.contains_iff_mem];have h3:=List.getElem_mem hlt;rw[HY.o] at h3;exact h3
    rw[h2];simp
   ·have he2:(x==y)=false:=(by simpa using he);have HE:=hd_ he;clear he;go_wp2;go_roundg (l.length - (j+1))
    case measure=> have:=HK.o;omega
    case rel=>
     refine ⟨j+1,by go_num,rfl,by omega,rfl,?_⟩;rw[List.take_succ_eq_append_getElem hlt,HY.o];have:=HA.o;have h3:=HE.o;simp only[List.contains_eq_mem,decide_eq_false_iff_not] at this |-;simp[this,h3]
  ·obtain rfl:j=l.length:=(by omega);go_wp2;go_ret;refine ⟨-1,rfl,?_,rfl⟩;have h2:=HA.o;rw[List.take_length] at h2;rw[h2];rfl
theorem Q0U {l:List (List UInt8)} (h:RdS w P 1 v l.length (strCells l)) (hl:l.length<=1073741824):
  Calls prog 194 #[v,.string ⟨x.toArray⟩] w fun e w'=> e= .returned (.bool (l.contains x))/\w=w':=by
 have HI:=hd_ (Q5s (x:=x) h hl);obtain ⟨a,c,rfl⟩:=h.form;clear h;go_in;go_wp2_with (go_at_call 223;refine HI.o.mono ?_;rintro e w1 ⟨r,rfl,hr,rfl⟩;have HR:=hd_ hr;clear hr);go_ret;exact ⟨by rw[<-HR.o];rfl,rfl⟩
section
variable {Q:Nat->Prop}
def Wk (tk:List Tr.Tk) (s:Ps.St):Prop:=0 < tk.length/\tk.length<=1000000/\s.used<=tk.length/\s.nodes.length<=5000000
theorem Ui {w0 W:World} {b u:Nat} {tk:List Tr.Tk} {ns:List Tr.Nd} (h:Anc Q w0 W b ⟨tk,ns⟩ u) (h0:0 < tk.length) (h1:tk.length<=1000000) (hu:u<=tk.length):
  Calls prog 152 #[.pointer (some ⟨b,0,none⟩)] W fun e W'=> e= .returned (.agg #[.int .i64 (Ps.peek tk u).kind,.string ⟨(Ps.peek tk u).lead.toArray⟩,.string ⟨(Ps.peek tk u).text.toArray⟩,.int .i64 (Ps.peek tk u).pos])/\Below W.heap.size W W':=by
 obtain ⟨B,vt,vn,_,hB,_⟩:=h;refine Q3h hB (by show tk.length<=_;omega) hu ?_;show tk[min u (tk.length - 1)]? =_;unfold Ps.peek;rw[eA_ (by omega)];rfl
theorem DB (k:Int) (l t:ByteArray) (q:Int) (w:World):(Instr.field 197 (.agg #[.int .i64 k,.string l,.string t,.int .i64 q]) 0).run prog w= .ok (.int .i64 k) w:=by kernel_rfl
theorem Q3P (k:Int) (l t:ByteArray) (q:Int) (w:World):(Instr.field 197 (.agg #[.int .i64 k,.string l,.string t,.int .i64 q]) 3).run prog w= .ok (.int .i64 q) w:=by kernel_rfl
section
variable {w0 W:World} {p b:Nat} {tk:List Tr.Tk} {dp:Int} {s:Ps.St}
theorem Qv (h:PI Q w0 W p b tk dp s):Calls prog 112 #[.pointer (some ⟨p,0,none⟩)] W fun e W'=> e= .returned (.bool (decide (s.e=0)))/\W=W':=by
 have c3:=h.c3;clear h;go_in;go_wp2;go_ret;exact ⟨rfl,rfl⟩
theorem Xq (h:PI Q w0 W p b tk dp s) (hw:Wk tk s) (x:Int):Calls prog 153 #[.pointer (some ⟨p,0,none⟩),.int .i64 x] W (Does Q w0 p b tk dp (0,Ps.fail tk x s) W):=by
 have HP:=hd_ h;have HW:=hd_ hw;have hok:=Qv h;by_cases he:s.e=0
 ·rw[eM_ he] at hok;have HOK:=hd_ hok;have HF:=hd_ (show Ps.fail tk x s={s with e:=x,pos:=(Ps.peek tk s.used).pos} by unfold Ps.fail;rw[if_pos he]);have c0:=h.c0;clear h hw hok he;go_in;go_wp2_with fail;refine HOK.o.mono ?_;rintro e W1 ⟨rfl,rfl⟩;dsimp only;go_wp2_with fail;refine (Ui HP.o.anc HW.a HW.b HW.c).mono ?_;rintro e W2 ⟨rfl,hb2⟩;have hc2:=Q7 HP.o.cell hb2;have d3:=(HP.o.past hb2).c3;have d4:=(HP.o.past hb2).c4;have f3:=Qp hc2 3;have f4:=Qp hc2 4;have H2:=h2_ hb2 hc2;have t3:=Q3P (Ps.peek tk s.used).kind ⟨(Ps.peek tk s.used).lead.toArray⟩ ⟨(Ps.peek tk s.used).text.toArray⟩ (Ps.peek tk s.used).pos W2;clear hb2 hc2 c0;dsimp only;go_wp2_with fail;go_ret;have h1:=Qx (j:=3) H2.B (.int .i64 x);have h2:=Qx (j:=4) h1 (.int .i64 (Ps.peek tk s.used).pos);have h3:=(HP.o.past H2.a).set (s':={s with e:=x,pos:=(Ps.peek tk s.used).pos}) ⟨rfl,rfl⟩ (W':=(W2.setCell ⟨p,3,none⟩ (.int .i64 x)).setCell ⟨p,4,none⟩ (.int .i64 (Ps.peek tk s.used).pos)) rfl rfl rfl (by simp[World.setCell]) h2 (fun k hk=> by rw[Below.heap_setCell _ _ _ _ hk,Below.heap_setCell _ _ _ _ hk]);refine ⟨rfl,?_,(FrT.of H2.a).trans h3.2⟩;rw[HF.o];exact h3.1
 ·rw[eK_ he] at hok;have HOK:=hd_ hok;have HF:=hd_ (show Ps.fail tk x s=s by unfold Ps.fail;rw[if_neg he]);clear h hw hok he;go_in;go_wp2_with fail;refine HOK.o.mono ?_;rintro e W1 ⟨rfl,rfl⟩;dsimp only;go_wp2_with fail;go_ret;exact ⟨rfl,by rw[HF.o];exact HP.o,FrT.refl _ _⟩
theorem QT (h:PI Q w0 W p b tk dp s) (hw:Wk tk s) {ts:List (List UInt8)} {P:Nat->Prop} {v:Value} (hv:RdS W P 1 v ts.length (strCells ts)) (hP:∀ k,P k->k < W.heap.size) (hl:ts.length<=1000):
  Calls prog 148 #[.pointer (some ⟨p,0,none⟩),v] W fun e W'=> e= .returned (.bool (Ps.nextB tk ts s.used))/\Below W.heap.size W W':=by
 have HP:=hd_ h;have HW:=hd_ hw;have HV:=h3_ hv hP hl;obtain ⟨av,cv,rfl⟩:=hv.form;have c0:=h.c0;have hn:Ps.nextB tk ts s.used=((decide ((Ps.peek tk s.used).kind=2) || decide ((Ps.peek tk s.used).kind=4)) && ts.contains (Ps.peek tk s.used).text):=rfl;have hpk:=Ui h.anc hw.1 hw.2.1 hw.2.2.1;rw[hn];generalize Ps.peek tk s.used=t at*;obtain ⟨kd,ld,tx,ps⟩:=t;dsimp only at hpk |-;have HPK:=hd_ hpk;clear h hw hv hP hn hpk;by_cases hk:kd=2\/kd=4
 ·have e1:(decide (kd=2) || decide (kd=4))=true:=by simpa using hk
  rw[e1,Bool.true_and];obtain ⟨y,hy⟩:∃ y,ts.contains tx=y:=⟨_,rfl⟩
  have hc0:∀ W',Below W.heap.size W W'->Calls prog 194 #[.slice av ts.length cv,.string ⟨tx.toArray⟩] W' fun e w'=> e= .returned (.bool y)/\W'=w':=fun W' hb=> by
   have:=Q0U (x:=tx) (HV.a.keep (w':=W') (Keeps.of hb HV.b)) (by have:=HV.C;omega);rwa [hy] at this
  have HC:=hd_ hc0;clear hc0;rw[hy];clear hy;rcases hk with rfl | rfl
  all_goals
   clear e1;go_in;go_wp2_with fail;refine HPK.o.mono ?_;rintro e W2 ⟨rfl,hb2⟩;have H2:=hd_ hb2;clear hb2 c0;dsimp only;go_wp2_with fail;refine (HC.o _ (H2.o.alloc H2.o.size _)).mono ?_;rintro e W3 ⟨rfl,rfl⟩;dsimp only;go_wp2_with fail;go_ret;exact ⟨rfl,H2.o.alloc H2.o.size _⟩
 ·have e1:(decide (kd=2) || decide (kd=4))=false:=by simpa using hk
  rw[e1,Bool.false_and];have k1:(kd==2)=false:=by simp;omega
  have k2:(kd==4)=false:=by simp;omega
  clear hk e1;go_in;go_wp2_with fail;refine HPK.o.mono ?_;rintro e W2 ⟨rfl,hb2⟩;have H2:=hd_ hb2;clear hb2 c0;dsimp only;go_wp2_with fail;go_ret;exact ⟨rfl,H2.o.alloc H2.o.size _⟩
theorem QE (h:PI Q w0 W p b tk dp s) (hw:Wk tk s):Calls prog 149 #[.pointer (some ⟨b,0,none⟩)] W (Does Q w0 p b tk dp (Ps.leaf tk s) W):=by
 unfold Ps.leaf;by_cases hu:s.used=tk.length
 ·rw[if_pos hu];have ha:=h.anc;rw[hu] at ha;refine (Q0C (t:=⟨tk,s.nodes⟩) ha (by have:=hw.2.2.2;show s.nodes.length<=_;omega) (by have:=hw.2.1;show tk.length<=_;omega)).mono ?_;rintro e W1 ⟨rfl,h1,h2⟩;have h3:=h.step h1 h2;refine ⟨rfl,?_,h3.2⟩;have h4:=h3.1;have e1:({s with nodes:=s.nodes,used:=tk.length}:Ps.St)=s:=by rw[<-hu]
  rw[e1] at h4;exact h4
 ·rw[if_neg hu];refine (Q6u (t:=⟨tk,s.nodes⟩) h.anc (by have:=hw.2.2.2;show s.nodes.length<=_;omega) (by have:=hw.2.1;show tk.length<=_;omega) (by have:=hw.2.2.1;show s.used < tk.length;omega)).mono ?_;rintro e W1 ⟨rfl,h1,h2⟩;exact ⟨rfl,h.step h1 h2⟩
theorem Q0V (h:PI Q w0 W p b tk dp s) (hw:Wk tk s) (he:s.e=0) {P:Nat->Prop} {v:Value} {l:List Int} (hk:RdS W P 1 v l.length (intCells l)) (hP:∀ k,P k->k < W.heap.size) (hl:l.length<=1000000) (hQ:Up Q W) (k:Int):
  Calls prog 151 #[.pointer (some ⟨b,0,none⟩),.int .i64 k,v] W (Does Q w0 p b tk dp (Ps.node k l s) W):=by
 have hbk:(l.any fun x=> decide (x < 0) || decide ((s.nodes.length:Int)<=x))=l.any (badKid s.nodes.length):=rfl;unfold Ps.node;rw[if_pos he,hbk];by_cases hb:l.any (badKid s.nodes.length)=true
 ·rw[if_pos hb];refine (Q0D (t:=⟨tk,s.nodes⟩) h.anc (by have:=hw.2.2.2;show s.nodes.length<=_;omega) hk hP (by omega) hQ k hb).mono ?_;rintro e W1 ⟨rfl,h1,h2⟩;exact ⟨rfl,h.step h1 h2⟩
 ·rw[if_neg hb];refine (Q6v (t:=⟨tk,s.nodes⟩) h.anc (by have:=hw.2.2.2;show s.nodes.length<=_;omega) hk hP (by omega) hQ k (by simpa using hb)).mono ?_;rintro e W1 ⟨rfl,h1,h2⟩;exact ⟨rfl,h.step h1 h2⟩
theorem Wk.fail (hw:Wk tk s) (x:Int):Wk tk (Ps.fail tk x s):=by
 unfold Ps.fail;split
 ·exact hw
 ·exact hw
theorem X6 (h:PI Q w0 W p b tk dp s) (hw:Wk tk s) {ts:List (List UInt8)} {P:Nat->Prop} {v:Value} (hv:RdS W P 1 v ts.length (strCells ts)) (hP:∀ k,P k->k < W.heap.size) (hl:ts.length<=1000):
  Calls prog 150 #[.pointer (some ⟨p,0,none⟩),v] W (Does Q w0 p b tk dp (Ps.must tk ts s) W):=by
 have HP:=hd_ h;have HW:=hd_ hw;have hok:=Qv h;by_cases he:s.e=0
 ·rw[eM_ he] at hok;have HOK:=hd_ hok;have hnx:=QT h hw hv hP hl;obtain ⟨av,cv,rfl⟩:=hv.form;unfold Ps.must;by_cases hn:Ps.nextB tk ts s.used=true
  ·rw[if_pos ⟨he,hn⟩];rw[hn] at hnx;have HNX:=hd_ hnx;clear h hw hok he hn hnx hv hP;go_in;go_wp2_with fail;refine HOK.o.mono ?_;rintro e W1 ⟨rfl,rfl⟩;dsimp only;go_wp2_with fail;refine HNX.o.mono ?_;rintro e W2 ⟨rfl,hb2⟩;have c0:=(HP.o.past hb2).c0;have H2:=hd_ hb2;clear hb2;dsimp only;go_wp2_with fail;refine (QE (HP.o.past H2.o) HW.o).mono ?_;rintro e W3 ⟨rfl,h3,h4⟩;have H3:=h2_ h3 h4;clear h3 h4 c0;dsimp only;go_wp2_with fail;go_ret;exact ⟨rfl,H3.a,(FrT.of H2.o).trans H3.B⟩
  ·rw[if_neg (by simp[hn])];rw[Bool.not_eq_true] at hn;rw[hn] at hnx;have HNX:=hd_ hnx;clear h hw hok he hn hnx hv hP;go_in;go_wp2_with fail;refine HOK.o.mono ?_;rintro e W1 ⟨rfl,rfl⟩;dsimp only;go_wp2_with fail;refine HNX.o.mono ?_;rintro e W2 ⟨rfl,hb2⟩;have H2:=hd_ hb2;clear hb2;dsimp only;go_wp2_with fail;refine (Xq (HP.o.past H2.o) HW.o 22).mono ?_;rintro e W3 ⟨rfl,h3,h4⟩;have H3:=h2_ h3 h4;clear h3 h4;dsimp only;go_wp2_with fail;go_ret;exact ⟨rfl,H3.a,(FrT.of H2.o).trans H3.B⟩
 ·rw[eK_ he] at hok;have HOK:=hd_ hok;obtain ⟨av,cv,rfl⟩:=hv.form;unfold Ps.must;rw[if_neg (by simp[he])];clear h hw hok he hv hP;go_in;go_wp2_with fail;refine HOK.o.mono ?_;rintro e W1 ⟨rfl,rfl⟩;dsimp only;go_wp2_with fail;refine (Xq HP.o HW.o 22).mono ?_;rintro e W3 ⟨rfl,h3,h4⟩;have H3:=h2_ h3 h4;clear h3 h4;dsimp only;go_wp2_with fail;go_ret;exact ⟨rfl,H3.a,H3.B⟩
theorem ZZ (h:PI Q w0 W p b tk dp s) (hw:Wk tk s) (k:Int):
  Calls prog 116 #[.pointer (some ⟨p,0,none⟩),.int .i64 k] W (Does Q w0 p b tk dp (Ps.kind tk k s) W):=by
 have HP:=hd_ h;have HW:=hd_ hw;have hok:=Qv h;unfold Ps.kind;by_cases he:s.e=0
 ·rw[eM_ he] at hok;have HOK:=hd_ hok;have hpk:=Ui h.anc hw.1 hw.2.1 hw.2.2.1;have c0:=h.c0;by_cases hn:(Ps.peek tk s.used).kind=k
  ·rw[if_pos ⟨he,hn⟩];rw[hn] at hpk;have HPK:=hd_ hpk;clear h hw hok he hn hpk;go_in;go_wp2_with fail;refine HOK.o.mono ?_;rintro e W1 ⟨rfl,rfl⟩;dsimp only;go_wp2_with fail;refine HPK.o.mono ?_;rintro e W2 ⟨rfl,hb2⟩;have d0:=(HP.o.past hb2).c0;have H2:=hd_ hb2;have t0:=DB k ⟨(Ps.peek tk s.used).lead.toArray⟩ ⟨(Ps.peek tk s.used).text.toArray⟩ (Ps.peek tk s.used).pos W2;clear hb2 c0;dsimp only;go_wp2_with fail;refine (QE (HP.o.past H2.o) HW.o).mono ?_;rintro e W3 ⟨rfl,h3,h4⟩;have H3:=h2_ h3 h4;clear h3 h4 d0;dsimp only;go_wp2_with fail;go_ret;exact ⟨rfl,H3.a,(FrT.of H2.o).trans H3.B⟩
  ·rw[if_neg (by simp[hn])];generalize (Ps.peek tk s.used).kind=kd at*;have hn1:(kd==k)=false:=(by simpa using hn);have hn2:(kd !=k)=true:=(by simpa using hn);have HPK:=hd_ hpk;clear h hw hok he hn hpk;go_in;go_wp2_with fail;refine HOK.o.mono ?_;rintro e W1 ⟨rfl,rfl⟩;dsimp only;go_wp2_with fail;refine HPK.o.mono ?_;rintro e W2 ⟨rfl,hb2⟩;have H2:=hd_ hb2;have t0:=DB kd ⟨(Ps.peek tk s.used).lead.toArray⟩ ⟨(Ps.peek tk s.used).text.toArray⟩ (Ps.peek tk s.used).pos W2;clear hb2 c0;dsimp only;go_wp2_with fail;refine (Xq (HP.o.past H2.o) HW.o 22).mono ?_;rintro e W3 ⟨rfl,h3,h4⟩;have H3:=h2_ h3 h4;clear h3 h4;dsimp only;go_wp2_with fail;go_ret;exact ⟨rfl,H3.a,(FrT.of H2.o).trans H3.B⟩
 ·rw[eK_ he] at hok;have HOK:=hd_ hok;rw[if_neg (by simp[he])];clear h hw hok he;go_in;go_wp2_with fail;refine HOK.o.mono ?_;rintro e W1 ⟨rfl,rfl⟩;dsimp only;go_wp2_with fail;refine (Xq HP.o HW.o 22).mono ?_;rintro e W3 ⟨rfl,h3,h4⟩;have H3:=h2_ h3 h4;clear h3 h4;dsimp only;go_wp2_with fail;go_ret;exact ⟨rfl,H3.a,H3.B⟩
theorem Xr (h:PI Q w0 W p b tk dp s) (hw:Wk tk s) {P:Nat->Prop} {v:Value} {l:List Int} (hk:RdS W P 1 v l.length (intCells l)) (hP:∀ k,P k->k < W.heap.size) (hl:l.length<=1000000) (hQ:Up Q W) (k:Int):
  Calls prog 115 #[.pointer (some ⟨p,0,none⟩),.int .i64 k,v] W (Does Q w0 p b tk dp (Ps.node k l s) W):=by
 have HP:=hd_ h;have hok:=Qv h;obtain ⟨av,cv,rfl⟩:=hk.form;by_cases he:s.e=0
 ·have HN:=hd_ (Q0V h hw he hk hP hl hQ k);rw[eM_ he] at hok;have HOK:=hd_ hok;have c0:=h.c0;clear h hw hok he hk hP hQ;go_in;go_wp2_with fail;refine HOK.o.mono ?_;rintro e W1 ⟨rfl,rfl⟩;dsimp only;go_wp2_with fail;refine HN.o.mono ?_;rintro e W3 ⟨rfl,h3,h4⟩;have H3:=h2_ h3 h4;clear h3 h4 c0;dsimp only;go_wp2_with fail;go_ret;exact ⟨rfl,H3.a,H3.B⟩
 ·rw[eK_ he] at hok;have HOK:=hd_ hok;have HE:=hd_ he;clear h hw hok he hk hP hQ;go_in;go_wp2_with fail;refine HOK.o.mono ?_;rintro e W1 ⟨rfl,rfl⟩;dsimp only;go_wp2_with fail;go_ret;have e1:Ps.node k l s=(0,s):=by unfold Ps.node;rw[if_neg HE.o]
  rw[e1];exact ⟨rfl,HP.o,FrT.refl _ _⟩
theorem Yk (h:PI Q w0 W p b tk dp s) (hw:Wk tk s) {n:Int} {d:Nat} (hd:n+d=dp+1):
  Calls prog 146 #[.pointer (some ⟨p,0,none⟩),.int .i64 n] W fun e W'=> e= .returned (.bool (decide ((Ps.deep tk d s).e≠0)))/\PI Q w0 W' p b tk dp (Ps.deep tk d s)/\FrT PTs W W':=by
 have HP:=hd_ h;have HW:=hd_ hw;have c1:=h.c1;unfold Ps.deep;by_cases hz:d=0
 ·have hd1:decide (dp < n)=true:=eM_ (by omega);rw[if_pos hz];clear h hw hz hd;go_in;go_wp2_with fail;refine (Xq HP.o HW.o 23).mono ?_;rintro e W3 ⟨rfl,h3,h4⟩;have H3:=h2_ h3 h4;clear h3 h4 c1;dsimp only;go_wp2_with fail;refine (Qv H3.a).mono ?_;rintro e W4 ⟨rfl,rfl⟩;dsimp only;go_wp2_with fail;go_ret;exact ⟨by simp,H3.a,H3.B⟩
 ·have hd1:decide (dp < n)=false:=eK_ (by omega);rw[if_neg hz];clear h hw hz hd;go_in;go_wp2_with fail;refine (Qv HP.o).mono ?_;rintro e W4 ⟨rfl,rfl⟩;dsimp only;go_wp2_with fail;go_ret;exact ⟨by simp,HP.o,FrT.refl _ _⟩
end
end
end Go.Proofs.YtiecccakcenobaaGreatDoor
namespace Go.Proofs.YtiecccakcenobaaGreatDoor.Pr
open Tryz
open Tr Ps
structure Rs where
 i:Nat
 inn:Bool
 e:Int
 pos:Int
abbrev Txt:=List UInt8
abbrev G:=Rs->Txt × Rs
section
variable (tk:List Tk)
def tok (i:Nat):Tk:=(tk[i]?).getD ⟨0, [], [],0⟩
def fail (e:Int) (s:Rs):Rs:=if s.e=0 then {s with e:=e,pos:=(tok tk s.i).pos} else s
def is (x:Txt) (s:Rs):Bool:=decide (s.e=0) && (decide ((tok tk s.i).kind=2) || decide ((tok tk s.i).kind=4)) && (tok tk s.i).text==x
def leaf (s:Rs):Txt × Rs:=if (tok tk s.i).kind=5 then ([32,36],s) else (32::(tok tk s.i).text,{s with i:=s.i+1})
def must (x:Txt) (s:Rs):Txt × Rs:=if is tk x s then leaf tk s else ([],fail tk 22 s)
def kind (k:Int) (s:Rs):Txt × Rs:=if s.e=0/\(tok tk s.i).kind=k then leaf tk s else ([],fail tk 22 s)
def nest (d:Nat) (s:Rs):Rs:=if d=0 then fail tk 23 s else s
def any (ts:List Txt) (s:Rs):Bool:=ts.any fun x=> is tk x s
def bin (a g b:Txt):Txt:= [32,40,49,48]++a++g++b++ [41]
def rowGo (part:G) (ts:List Txt):Nat->Txt->Rs->Txt × Rs
 | 0,a,s=> (a,s)
 | n+1,a,s=> if any tk ts s then rowGo part ts n (bin a (leaf tk s).1 (part (leaf tk s).2).1) (part (leaf tk s).2).2 else (a,s)
def row (part:G) (ts:List Txt) (s:Rs):Txt × Rs:=rowGo tk part ts tk.length (part s).1 (part s).2
def unary (d:Nat) (behind:G) (s:Rs):Txt × Rs:=
 let g:=leaf tk s;let s2:=nest tk d g.2
 if s2.e=0 then
  let b:=behind s2
  ([32,40,49,49]++g.1++b.1++ [41],b.2)
 else ([],s2)
def argsGo (ex:G):Nat->Nat->Txt->Rs->Txt × Rs
 | 0,_,a,s=> (a,s)
 | n+1,k,a,s=>
  if is tk [44] s then
   let g:=leaf tk s;let s2:=if k=8 then fail tk 15 g.2 else g.2;let b:=ex s2
   argsGo ex n (k+1) (a++g.1++b.1) b.2
  else (a,s)
def args (ex:G) (s:Rs):Txt × Rs:=argsGo tk ex tk.length 1 (ex s).1 (ex s).2
structure Lv where
 ex:G
 fo:G
 ne:G
 fa:G
def callee (a:Txt) (s:Rs):Txt × Rs:=
 if is tk [46] s then
  let g:=leaf tk s;let k:=kind tk 1 g.2
  (a++(g.1++k.1),k.2)
 else (a,s)
def call (ex:G) (a:Txt) (s:Rs):Txt × Rs:=
 let p:=must tk [40] s;let ls:=if is tk [41] p.2 then (a++p.1,p.2) else ((a++p.1)++(args tk ex p.2).1,(args tk ex p.2).2);let q:=must tk [41] ls.2
 ([32,40,49,51]++ls.1++q.1++ [41],q.2)
def name (ex:G) (s:Rs):Txt × Rs:=
 let a:=leaf tk s
 if a.2.inn || (!is tk [46] a.2 && !is tk [40] a.2) then ([32,40,49,52]++a.1++ [41],a.2)
 else call tk ex (callee tk a.1 a.2).1 (callee tk a.1 a.2).2
def atom (ex:G) (s:Rs):Txt × Rs:=
 if s.e=0 then
  if (tok tk s.i).kind=3 then ([32,40,49,53]++(leaf tk s).1++ [41],(leaf tk s).2)
  else if is tk tTrue s || is tk tFalse s then ([32,40,49,54]++(leaf tk s).1++ [41],(leaf tk s).2)
  else if s.inn && is tk tRes s then ([32,40,49,55]++(leaf tk s).1++ [41],(leaf tk s).2)
  else if is tk [40] s then
   let a:=leaf tk s;let b:=ex a.2;let c:=must tk [41] b.2
   ([32,40,49,50]++a.1++b.1++c.1++ [41],c.2)
  else if (tok tk s.i).kind=1 then name tk ex s
  else ([],fail tk 22 s)
 else ([],s)
def factor (d:Nat) (lo:Lv) (s:Rs):Txt × Rs:=if is tk [45] s then unary tk d lo.fa s else atom tk lo.ex s
def product (d:Nat) (lo:Lv):G:=row tk (factor tk d lo) sMul
def sum (d:Nat) (lo:Lv):G:=row tk (product tk d lo) sSum
def not (d:Nat) (lo:Lv) (s:Rs):Txt × Rs:=
 if is tk tNot s then unary tk d lo.ne s
 else
  let a:=sum tk d lo s
  if any tk sCmp a.2 then
   let g:=leaf tk a.2;let b:=sum tk d lo g.2
   (bin a.1 g.1 b.1,b.2)
  else a
def and (d:Nat) (lo:Lv):G:=row tk (not tk d lo) sAnd
def or (d:Nat) (lo:Lv):G:=row tk (and tk d lo) sOr
def formula (d:Nat) (lo:Lv) (s:Rs):Txt × Rs:=
 let a:=or tk d lo s
 if is tk [61,62] a.2 then
  let g:=leaf tk a.2;let s2:=nest tk d g.2
  if s2.e=0 then
   let f:=lo.fo s2
   (bin a.1 g.1 f.1,f.2)
  else ([],s2)
 else a
def exLet (ex:G) (s:Rs):Txt × Rs:=
 let a:=leaf tk s;let b:=kind tk 1 a.2;let c:=must tk [61] b.2;let d:=ex c.2;let e:=must tk tIn d.2;let f:=ex e.2
 ([32,40,55]++a.1++b.1++c.1++d.1++e.1++f.1++ [41],f.2)
def exIf (ex:G) (s:Rs):Txt × Rs:=
 let a:=leaf tk s;let b:=ex a.2;let c:=must tk tThen b.2;let d:=ex c.2;let e:=must tk tElse d.2;let f:=ex e.2
 ([32,40,56]++a.1++b.1++c.1++d.1++e.1++f.1++ [41],f.2)
def exAssert (ex:G) (s:Rs):Txt × Rs:=
 let a:=leaf tk s;let b:=ex a.2;let c:=must tk tIn b.2;let d:=ex c.2
 ([32,40,57]++a.1++b.1++c.1++d.1++ [41],d.2)
def express (d:Nat) (lo:Lv) (s:Rs):Txt × Rs:=
 if s.e=0 then
  if !s.inn && is tk tLet s then exLet tk lo.ex s
  else if !s.inn && is tk tIf s then exIf tk lo.ex s
  else if !s.inn && is tk tAssert s then exAssert tk lo.ex s
  else formula tk d lo s
 else ([],s)
def lv:Nat->Lv
 | 0=> ⟨fun s=> ([],fail tk 23 s),fun s=> ([],s),fun s=> ([],s),fun s=> ([],s)⟩
 | d+1=> ⟨express tk d (lv d),formula tk d (lv d),not tk d (lv d),factor tk d (lv d)⟩
variable (ex:G)
def alone (s:Rs):Txt × Rs:=
 let f:=ex {s with inn:=true};let c:=kind tk 5 f.2
 ([40,49,56]++f.1++c.1++ [41],c.2)
end
def Rs.first:Rs:=⟨0,false,0,0⟩
end Go.Proofs.YtiecccakcenobaaGreatDoor.Pr
namespace Go.Proofs.YtiecccakcenobaaGreatDoor.Pc
open Tryz
open Tr Ps
variable {l:List Int} {x:List UInt8} {i:Nat}
theorem Q71 {ns m:List Nd} (h:Low ns):∀ (f i:Nat),i < ns.length->Tr.lv (ns++m) f i=Tr.lv ns f i
 | 0,_,_=> rfl
 | f+1,i,hi=> by
  unfold Tr.lv;rw[eT_ hi];cases hn:ns[i]? with
  | none=> rfl
  | some n=>
   simp only;split
   ·rfl
   ·rw[List.flatMap_def,List.flatMap_def];congr 1;apply List.map_congr_left;intro k hk;have:=(h i n hn).1 k hk;exact Q71 h f k.toNat (by omega)
theorem Q00 {ns m:List Nd} (h:Low ns) {i:Nat} (hi:i < ns.length):leafs (ns++m) i=leafs ns i:=Q71 h _ _ hi
theorem Q72 {tk:List Tk} {ns m:List Nd} (h:Low ns):∀ (f i:Nat),i < ns.length->Tr.dp ⟨tk,ns++m⟩ f i=Tr.dp ⟨tk,ns⟩ f i
 | 0,_,_=> rfl
 | f+1,i,hi=> by
  unfold Tr.dp;simp only;rw[eT_ hi];cases hn:ns[i]? with
  | none=> rfl
  | some n=>
   simp only;split
   ·rfl
   ·rw[List.flatMap_def,List.flatMap_def];congr 3;apply List.map_congr_left;intro k hk;have:=(h i n hn).1 k hk;rw[Q72 h f k.toNat (by omega)]
theorem Q26 {tk:List Tk} {ns m:List Nd} (h:Low ns) {i:Nat} (hi:i < ns.length):dump ⟨tk,ns++m⟩ i=dump ⟨tk,ns⟩ i:=Q72 h _ _ hi
def Fm (tk:List Tk) (ns:List Nd):Prop:=∀ (j:Nat) (n:Nd),ns[j]? =some n->formed ⟨tk,ns⟩ j n=true
theorem Fm.low {tk:List Tk} {ns:List Nd} (h:Fm tk ns):Low ns:=fun i n hn=> JH (h i n hn)
theorem Fm.snoc {tk:List Tk} {ns:List Nd} (h:Fm tk ns) {n:Nd} (hn:formed ⟨tk,ns⟩ ns.length n=true):Fm tk (ns++ [n]):=by
 intro j x hj;rcases Nat.lt_trichotomy j ns.length with h1 | h1 | h1
 ·rw[eT_ h1] at hj;exact h j x hj
 ·subst h1;rw[eO_ (rl_ _),Nat.sub_self] at hj;simp only[eZ_,Option.some.injEq] at hj;subst hj;exact hn
 ·rw[List.getElem?_eq_none (by simp;omega)] at hj;cases hj
def ints (a n:Nat):List Int:=(List.range' a n).map Int.ofNat
theorem DC (a m n:Nat):ints a m++ints (a+m) n=ints a (m+n):=by
 unfold ints;rw[<-List.map_append,List.range'_append_1]
theorem ints_one (a:Nat):ints a 1= [(a:Int)]:=rfl
theorem Uj {a n:Nat} {x:Int}:x∈ints a n↔(a:Int)<=x/\x < ((a+n:Nat):Int):=by
 unfold ints;simp only[List.mem_map,List.mem_range'_1];constructor
 ·rintro ⟨y,hy,rfl⟩;show (a:Int)<=(y:Int)/\_;simp only[Int.ofNat_eq_natCast];omega
 ·rintro ⟨h1,h2⟩;exact ⟨x.toNat,by omega,by simp only[Int.ofNat_eq_natCast];omega⟩
structure Got (tk:List Tk) (s0 s:St) (l:List Int) (x:List UInt8):Prop where
 nodes:∃ m,s.nodes=s0.nodes++m/\(m.flatMap (·.kids)++l).Perm (ints s0.nodes.length m.length)
 used:s0.used<=s.used
 lvs:l.flatMap (fun k=> leafs s.nodes k.toNat)=ints s0.used (s.used - s0.used)
 text:l.flatMap (fun k=> 32::dump ⟨tk,s.nodes⟩ k.toNat)=x
 room:s.nodes.length+l.length+3*s0.used<=s0.nodes.length+3*s.used
theorem Got.nil (tk:List Tk) (s:St):Got tk s s [] []:=⟨⟨[],by simp[ints]⟩,rl_ _,by simp[ints],rfl,by simp⟩
theorem Got.mem {tk:List Tk} {s0 s:St} (h:Got tk s0 s l x) {k:Int} (hk:k∈l):(s0.nodes.length:Int)<=k/\k < (s.nodes.length:Int):=by
 obtain ⟨m,hm,hp⟩:=h.nodes;have h1:=hp.mem_iff.1 (List.mem_append_right _ hk);rw[Uj] at h1;rw[hm,eC_];exact h1
theorem Y6 {α β:Type} {f g:α->List β} {l:List α} (h:∀ x∈l,f x=g x):l.flatMap f=l.flatMap g:=by
 rw[List.flatMap_def,List.flatMap_def,List.map_congr_left h]
theorem Got.trans {tk:List Tk} {s0 s1 s2:St} {l1 l2:List Int} {x1 x2:List UInt8} (hf:Fm tk s1.nodes) (h:Got tk s0 s1 l1 x1) (k:Got tk s1 s2 l2 x2):Got tk s0 s2 (l1++l2) (x1++x2):=by
 obtain ⟨m1,e1,p1⟩:=h.nodes;obtain ⟨m2,e2,p2⟩:=k.nodes;have hlt:∀ y∈l1,y.toNat < s1.nodes.length:=fun y hy=> by have:=h.mem hy;omega
 have hu:=h.used;have ku:=k.used;refine ⟨⟨m1++m2,by rw[e2,e1,eQ_],?_⟩,eE_ h.used k.used,?_,?_,?_⟩
 ·rw[eC_, <-DC,List.flatMap_append];have e3:s0.nodes.length+m1.length=s1.nodes.length:=by rw[e1,eC_]
  rw[e3];refine List.Perm.trans ?_ (p1.append p2);simp only[eQ_];refine List.Perm.append_left _ ?_;rw[<-eQ_, <-eQ_];exact List.Perm.append_right _ List.perm_append_comm
 ·rw[List.flatMap_append,k.lvs,Y6 (g:=fun y=> leafs s1.nodes y.toNat) (fun y hy=> by rw[e2];exact Q00 hf.low (hlt y hy)),h.lvs];have e3:s1.used=s0.used+(s1.used - s0.used):=by omega
  rw[e3,Nat.add_sub_cancel_left,DC];congr 1;omega
 ·rw[List.flatMap_append,k.text,Y6 (g:=fun y=> 32::dump ⟨tk,s1.nodes⟩ y.toNat) (fun y hy=> by rw[e2,Q26 hf.low (hlt y hy)]),h.text]
 ·have:=h.room;have:=k.room;rw[eC_];omega
theorem Q27 {tk:List Tk} {ns:List Nd} {u:Nat} (h:u < tk.length):formed ⟨tk,ns⟩ i ⟨19,(u:Int), []⟩=true:=by
 unfold formed;rw[if_neg (by show ¬ ((19:Int) < 1\/(19:Int) < 19);omega),if_pos rfl];simp only[List.isEmpty_nil,Bool.true_and,Bool.and_eq_true,decide_eq_true_eq];omega
theorem Q28 {tk:List Tk} {ns:List Nd} {k:Int} (hk:1<=k/\k<=18) (hl:∀ x∈l,0<=x/\x < (i:Int)):formed ⟨tk,ns⟩ i ⟨k,-1,l⟩=true:=by
 unfold formed;rw[if_neg (by show ¬ (k < 1\/19 < k);omega),if_neg (by show ¬ k=19;omega)];simp only[decide_true,Bool.true_and,Bool.not_eq_true',List.any_eq_false];intro x hx;have:=hl x hx;simp only[Bool.or_eq_true,decide_eq_true_eq,not_or];omega
theorem J0 {tk:List Tk} {s:St} (hf:Fm tk s.nodes) {k:Tk} (hk:tk[s.used]? =some k):Fm tk (leaf tk s).2.nodes/\(leaf tk s).2.used=s.used+1/\(leaf tk s).2.e=s.e/\(leaf tk s).2.nodes.length=s.nodes.length+1/\(leaf tk s).2.clause=s.clause/\
  Got tk s (leaf tk s).2 [(leaf tk s).1] (32::((if k.kind=5 then [36] else [])++k.text)):=by
 have hu:=Zm hk;have e:leaf tk s=((s.nodes.length:Int),{s with nodes:=s.nodes++ [⟨19,(s.used:Int), []⟩],used:=s.used+1}):=by unfold leaf;rw[if_neg (by omega)]
 rw[e];have hn:(s.nodes++ [(⟨19,(s.used:Int), []⟩:Nd)])[s.nodes.length]? =some ⟨19,(s.used:Int), []⟩:=by
  rw[eO_ (rl_ _),Nat.sub_self];rfl
 refine ⟨hf.snoc (Q27 hu),rfl,rfl,by simp,rfl,⟨[⟨19,(s.used:Int), []⟩],rfl,?_⟩,Nat.le_succ _,?_,?_,by simp;omega⟩
 ·exact List.Perm.refl _
 ·simp only[List.flatMap_cons,List.flatMap_nil,List.append_nil,Int.toNat_natCast,Nat.add_sub_cancel_left];rw[D8 hn rfl,ints_one]
 ·simp only[List.flatMap_cons,List.flatMap_nil,List.append_nil,Int.toNat_natCast];rw[UQ (t:=⟨tk,s.nodes++ [(⟨19,(s.used:Int), []⟩:Nd)]⟩) hn rfl (show tk[((s.used:Int)).toNat]? =some k by simpa using hk)]
theorem DD {tk:List Tk} {s0 s:St} (hf:Fm tk s.nodes) (h:Got tk s0 s l x) (he:s.e=0) {k:Int} (hk:1<=k/\k<=18) (hr:s.nodes.length+2+3*s0.used<=s0.nodes.length+3*s.used):
  Fm tk (node k l s).2.nodes/\(node k l s).2.used=s.used/\(node k l s).2.e=0/\(node k l s).2.nodes.length=s.nodes.length+1/\(node k l s).2.clause=s.clause/\Got tk s0 (node k l s).2 [(node k l s).1] ([32,40]++Lib.decDigits k.toNat++x++ [41]):=by
 have hm:∀ y∈l,0<=y/\y < (s.nodes.length:Int):=fun y hy=> by have:=h.mem hy;omega
 have e:node k l s=((s.nodes.length:Int),{s with nodes:=s.nodes++ [⟨k,-1,l⟩]}):=by
  unfold node;rw[if_pos he,if_neg];simp only[List.any_eq_true,Bool.or_eq_true,decide_eq_true_eq,not_exists,not_and];intro y hy;have:=hm y hy;omega
 rw[e];have hf2:Fm tk (s.nodes++ [⟨k,-1,l⟩]):=hf.snoc (Q28 hk hm);have hn:(s.nodes++ [(⟨k,-1,l⟩:Nd)])[s.nodes.length]? =some ⟨k,-1,l⟩:=by
  rw[eO_ (rl_ _),Nat.sub_self];rfl
 obtain ⟨m,e1,p1⟩:=h.nodes;refine ⟨hf2,rfl,he,by simp,rfl,⟨m++ [⟨k,-1,l⟩],by simp[e1],?_⟩,h.used,?_,?_,by simp;omega⟩
 ·rw[eC_,List.length_singleton, <-DC,ints_one,List.flatMap_append];have e3:s0.nodes.length+m.length=s.nodes.length:=by rw[e1,eC_]
  rw[e3];simp only[List.flatMap_cons,List.flatMap_nil,List.append_nil];exact p1.append_right _
 ·simp only[List.flatMap_cons,List.flatMap_nil,List.append_nil,Int.toNat_natCast];rw[D9 hf2.low hn (by show k≠19;omega), <-h.lvs];exact Y6 fun y hy=> Q00 hf.low (by have:=hm y hy;omega)
 ·simp only[List.flatMap_cons,List.flatMap_nil,List.append_nil,Int.toNat_natCast];rw[UR (t:=⟨tk,s.nodes++ [(⟨k,-1,l⟩:Nd)]⟩) hf2.low hn (by show k≠19;omega), <-h.text];simp only[List.cons_append,List.nil_append,eQ_,List.cons.injEq,true_and];congr 2;exact Y6 fun y hy=> by rw[Q26 hf.low (by have:=hm y hy;omega)]
end Go.Proofs.YtiecccakcenobaaGreatDoor.Pc
namespace Go.Proofs.YtiecccakcenobaaGreatDoor.Pc
open Tryz
open Tr Ps
structure Toks (tk:List Tk):Prop where
 pos:0 < tk.length
 last:∀ k,tk[tk.length - 1]? =some k->k.kind=5/\k.text= []
 other:∀ i k,i+1 < tk.length->tk[i]? =some k->k.kind≠5
def Inv (tk:List Tk) (s:St):Prop:=s.used+1<=tk.length/\s.nodes.length<=3*s.used/\Fm tk s.nodes
def Rel (s:St) (r:Pr.Rs):Prop:=r.e=s.e/\(s.e≠0->r.pos=s.pos)/\(s.e=0->r.i=s.used/\r.inn=s.clause)
def Out (tk:List Tk) (s0 s:St) (l:List Int) (r:Pr.Rs) (x:List UInt8):Prop:=Inv tk s0/\Inv tk s/\Rel s r/\(s.e=0->Got tk s0 s l x)
structure SimL (tk:List Tk) (f:St->List Int × St) (g:Pr.G):Prop where
 go:∀ s r,s.e=0->Inv tk s->Rel s r->Out tk s (f s).2 (f s).1 (g r).2 (g r).1
 df:∀ s,s.e≠0->(f s).2=s
 dg:∀ r,r.e≠0->(g r).2=r
def lift (f:F) (s:St):List Int × St:=([(f s).1],(f s).2)
abbrev Sim (tk:List Tk) (f:F) (g:Pr.G):Prop:=SimL tk (lift f) g
section
variable {tk:List Tk} {s0 s:St} {l:List Int} {r:Pr.Rs} {x:List UInt8}
theorem Out.cast (h:Out tk s0 s l r x) {y:List UInt8} (e:x=y):Out tk s0 s l r y:=e ▸ h
theorem Out.nil (hi:Inv tk s) (hr:Rel s r):Out tk s s [] r []:=⟨hi,hi,hr,fun _=> Got.nil _ _⟩
theorem Out.dead (h:Out tk s0 s l r x) (he:s.e≠0) (l2:List Int) (x2:List UInt8):Out tk s0 s l2 r x2:=⟨h.1,h.2.1,h.2.2.1,fun h0=> absurd h0 he⟩
theorem Out.then (h:Out tk s0 s l r x) {f:St->List Int × St} {g:Pr.G} (k:SimL tk f g):Out tk s0 (f s).2 (l++(f s).1) (g r).2 (x++(g r).1):=by
 by_cases he:s.e=0
 ·obtain ⟨_,h2,h3,h4⟩:=k.go s r he h.2.1 h.2.2.1;exact ⟨h.1,h2,h3,fun e2=> (h.2.2.2 he).trans h.2.1.2.2 (h4 e2)⟩
 ·have hr:r.e≠0:=by rw[h.2.2.1.1];exact he
  rw[k.df s he,k.dg r hr];exact h.dead he _ _
theorem Inv.get (h:Inv tk s):∃ k,tk[s.used]? =some k/\peek tk s.used=k/\Pr.tok tk s.used=k:=by
 have h1:=h.1;obtain ⟨k,hk⟩:∃ k,tk[s.used]? =some k:=⟨_,eA_ (by omega)⟩
 refine ⟨k,hk,?_,?_⟩
 ·unfold peek;rw[Nat.min_eq_left (by omega),hk];rfl
 ·unfold Pr.tok;rw[hk];rfl
theorem Ze (hi:Inv tk s) (hr:Rel s r) (he:s.e=0):Pr.tok tk r.i=peek tk s.used:=by
 obtain ⟨k,_,h2,h3⟩:=hi.get;rw[(hr.2.2 he).1,h2,h3]
theorem Yd (he:r.e≠0) (y:List UInt8):Pr.is tk y r=false:=by
 unfold Pr.is;rw[eK_ he];rfl
theorem DE (he:r.e≠0) (ts:List (List UInt8)):Pr.any tk ts r=false:=by
 unfold Pr.any;rw[List.any_eq_false];intro y _;rw[Yd he];simp
theorem Yw {e:Int} (he:s.e≠0):fail tk e s=s:=by unfold fail;rw[if_neg he]
theorem YI {e:Int} (he:r.e≠0):Pr.fail tk e r=r:=by unfold Pr.fail;rw[if_neg he]
theorem YJ (hi:Inv tk s) (hr:Rel s r) (he:s.e=0) (y:List UInt8):Pr.is tk y r=nextB tk [y] s.used:=by
 unfold Pr.is nextB;rw[Ze hi hr he,hr.1,eM_ he,Bool.true_and];congr 1;rw[Bool.eq_iff_iff];simp
theorem Q3Q (hi:Inv tk s) (hr:Rel s r) (he:s.e=0) (ts:List (List UInt8)):Pr.any tk ts r=nextB tk ts s.used:=by
 unfold Pr.any nextB;have:∀ y,Pr.is tk y r=((decide ((peek tk s.used).kind=2) || decide ((peek tk s.used).kind=4)) && (peek tk s.used).text==y):=by
  intro y;unfold Pr.is;rw[Ze hi hr he,hr.1,eM_ he,Bool.true_and]
 simp only[this];cases (decide ((peek tk s.used).kind=2) || decide ((peek tk s.used).kind=4)) with
 | false=> simp
 | true=>
  simp only[Bool.true_and];rw[Bool.eq_iff_iff];simp
theorem Q29 (h:Out tk s0 s l r x) (ts:List (List UInt8)):(s.e=0/\nextB tk ts s.used=true)↔Pr.any tk ts r=true:=by
 by_cases he:s.e=0
 ·rw[Q3Q h.2.1 h.2.2.1 he];simp[he]
 ·rw[DE (by rw[h.2.2.1.1];exact he)];simp[he]
theorem Q4D (h:Out tk s0 s l r x) (y:List UInt8):(s.e=0/\nextB tk [y] s.used=true)↔Pr.is tk y r=true:=by
 by_cases he:s.e=0
 ·rw[YJ h.2.1 h.2.2.1 he];simp[he]
 ·rw[Yd (by rw[h.2.2.1.1];exact he)];simp[he]
theorem Qu {ts:List (List UInt8)} {u:Nat} (h:nextB tk ts u=true):(peek tk u).kind≠5:=by
 unfold nextB at h;simp only[Bool.and_eq_true,Bool.or_eq_true,decide_eq_true_eq] at h;omega
theorem Out.fail (h:Out tk s0 s l r x) {e:Int} (h0:e≠0) (l2:List Int) (x2:List UInt8):Out tk s0 (fail tk e s) l2 (Pr.fail tk e r) x2:=by
 by_cases he:s.e=0
 ·have h1:Ps.fail tk e s={s with e:=e,pos:=(peek tk s.used).pos}:=by unfold Ps.fail;rw[if_pos he]
  have h2:Pr.fail tk e r={r with e:=e,pos:=(Pr.tok tk r.i).pos}:=by unfold Pr.fail;rw[if_pos (h.2.2.1.1.trans he)]
  rw[h1,h2,Ze h.2.1 h.2.2.1 he];exact ⟨h.1,h.2.1,⟨rfl,fun _=> rfl,fun e2=> absurd e2 h0⟩,fun e2=> absurd e2 h0⟩
 ·rw[Yw he,YI (by rw[h.2.2.1.1];exact he)];exact h.dead he _ _
theorem Out.leaf (ht:Toks tk) (h:Out tk s0 s l r x) (he:s.e=0) (hk:(peek tk s.used).kind≠5):Out tk s0 (leaf tk s).2 (l++ [(leaf tk s).1]) (Pr.leaf tk r).2 (x++(Pr.leaf tk r).1)/\(Ps.leaf tk s).2.e=0:=by
 obtain ⟨k,h1,h2,h3⟩:=h.2.1.get;rw[h2] at hk;obtain ⟨g1,g2,g3,g4,g6,g5⟩:=J0 h.2.1.2.2 h1;rw[if_neg hk,List.nil_append] at g5;have hl:Pr.leaf tk r=(32::k.text,{r with i:=r.i+1}):=by
  unfold Pr.leaf;rw[(h.2.2.1.2.2 he).1,h3,if_neg hk]
 have hlast:s.used+2<=tk.length:=by
  have q:=h.2.1.1;rcases eS_ (s.used+1) tk.length with h4 | h4
  ·exact h4
  ·exact absurd (ht.last k (by rw[<-h1];congr 1;omega)).1 hk
 have q:=h.2.1.2.1;have r1:=(h.2.2.1.2.2 he).1;rw[hl];refine ⟨⟨h.1,⟨by rw[g2];omega,by rw[g2,g4];omega,g1⟩,⟨?_,fun e2=> absurd (g3.trans he) e2,fun _=> ⟨by rw[g2, <-r1],?_⟩⟩,fun _=> (h.2.2.2 he).trans h.2.1.2.2 g5⟩,g3.trans he⟩
 ·rw[g3];exact h.2.2.1.1
 ·rw[g6];exact (h.2.2.1.2.2 he).2
theorem Out.node (h:Out tk s0 s l r x) {k:Int} (hk:1<=k/\k<=18) (hl:s.e=0->2<=l.length):Out tk s0 (node k l s).2 [(node k l s).1] r ([32,40]++Lib.decDigits k.toNat++x++ [41]):=by
 by_cases he:s.e=0
 ·have hg:=h.2.2.2 he;have hr:=hg.room;have h2:=hl he;obtain ⟨g1,g2,g3,g4,hc,g5⟩:=DD h.2.1.2.2 hg he hk (by omega);have q:=h.1.2.1;refine ⟨h.1,⟨by rw[g2];exact h.2.1.1,by rw[g2,g4];omega,g1⟩,⟨by rw[g3,h.2.2.1.1,he],fun e2=> absurd g3 e2,fun _=> ⟨by rw[g2];exact (h.2.2.1.2.2 he).1,by rw[hc];exact (h.2.2.1.2.2 he).2⟩⟩,fun _=> g5⟩
 ·have e1:Ps.node k l s=(0,s):=by unfold Ps.node;rw[if_neg he]
  rw[e1];exact h.dead he _ _
theorem G3 {k:Int} (he:s.e≠0):node k l s=(0,s):=by unfold node;rw[if_neg he]
theorem Out.one (ht:Toks tk) (hi:Inv tk s) (hr:Rel s r) (he:s.e=0) (hk:(peek tk s.used).kind≠5) {k:Int} (hk2:1<=k/\k<=18):
  Out tk s (Ps.node k [(Ps.leaf tk s).1] (Ps.leaf tk s).2).2 [(Ps.node k [(Ps.leaf tk s).1] (Ps.leaf tk s).2).1] (Pr.leaf tk r).2 ([32,40]++Lib.decDigits k.toNat++(Pr.leaf tk r).1++ [41]):=by
 have o1:=(Out.nil hi hr).leaf ht he hk;obtain ⟨t,h1,h2,h3⟩:=hi.get;obtain ⟨g1,g2,g3,g4,g6,g5⟩:=J0 hi.2.2 h1;have o:=o1.1;have hg:Got tk s (Ps.leaf tk s).2 [(Ps.leaf tk s).1] (Pr.leaf tk r).1:=by simpa using o.2.2.2 o1.2
 obtain ⟨k1,k2,k3,k4,hc,k5⟩:=DD o.2.1.2.2 hg o1.2 hk2 (by rw[g4,g2];omega);have q:=hi.2.1;refine ⟨hi,⟨by rw[k2];exact o.2.1.1,by rw[k2,k4,g4,g2];omega,k1⟩,⟨by rw[k3,o.2.2.1.1,o1.2],fun e2=> absurd k3 e2,fun _=> ⟨by rw[k2];exact (o.2.2.1.2.2 o1.2).1,by rw[hc];exact (o.2.2.1.2.2 o1.2).2⟩⟩,fun _=> k5⟩
end
section
variable {tk:List Tk}
theorem Xf (ht:Toks tk) (y:List UInt8):Sim tk (must tk [y]) (Pr.must tk y):=by
 refine ⟨fun s r he hi hr=> ?_,fun s he=> ?_,fun r he=> ?_⟩
 ·have o:=Out.nil hi hr;have hb:=YJ hi hr he y;unfold lift must Pr.must;by_cases h:nextB tk [y] s.used=true
  ·rw[if_pos ⟨he,h⟩,if_pos (by rw[hb];exact h)];exact (o.leaf ht he (Qu h)).1
  ·rw[if_neg (by simp[h]),if_neg (by rw[hb];exact h)];exact o.fail (by decide) _ _
 ·unfold lift must;rw[if_neg (by simp[he]),Yw he]
 ·unfold Pr.must;rw[Yd he,if_neg (by simp),YI he]
theorem Uk (ht:Toks tk) {k:Int} (h5:k≠5):Sim tk (kind tk k) (Pr.kind tk k):=by
 refine ⟨fun s r he hi hr=> ?_,fun s he=> ?_,fun r he=> ?_⟩
 ·have o:=Out.nil hi hr;have hb:=Ze hi hr he;unfold lift kind Pr.kind;by_cases h:(peek tk s.used).kind=k
  ·rw[if_pos ⟨he,h⟩,if_pos ⟨hr.1.trans he,by rw[hb];exact h⟩];exact (o.leaf ht he (by rw[h];exact h5)).1
  ·rw[if_neg (by simp[h]),if_neg (by rw[hb];simp[h])];exact o.fail (by decide) _ _
 ·unfold lift kind;rw[if_neg (by simp[he]),Yw he]
 ·unfold Pr.kind;rw[if_neg (by simp[he]),YI he]
theorem Q01 (ht:Toks tk) {part:F} {gpart:Pr.G} (hp:Sim tk part gpart) (ts:List (List UInt8)):∀ (n:Nat) {s0 s:St} {a:Int} {r:Pr.Rs} {x:List UInt8},Out tk s0 s [a] r x->
  Out tk s0 (rowGo tk part ts false n a s).2 [(rowGo tk part ts false n a s).1] (Pr.rowGo tk gpart ts n x r).2 (Pr.rowGo tk gpart ts n x r).1
 | 0,_,_,_,_,_,o=> o
 | n+1,s0,s,a,r,x,o=> by
  unfold rowGo Pr.rowGo;have hb:=Q29 o ts;by_cases h:s.e=0/\nextB tk ts s.used=true
  ·rw[if_pos h,if_pos (hb.1 h)];have o1:=(o.leaf ht h.1 (Qu h.2)).1.then hp;have o2:=(o1.node (k:=10) (by decide) (fun _=> by simp[lift])).cast (y:=Pr.bin x (Pr.leaf tk r).1 (gpart (Pr.leaf tk r).2).1) (by simp[Pr.bin,Lib.decDigits_two,eQ_]);exact Q01 ht hp ts n o2
  ·rw[if_neg h,if_neg (fun e=> h (hb.2 e))];exact o
theorem DF {part:F} {ts:List (List UInt8)} {once:Bool} {s:St} (he:s.e≠0):∀ (n:Nat) (a:Int),(rowGo tk part ts once n a s).2=s
 | 0,_=> rfl
 | n+1,a=> by unfold rowGo;rw[if_neg (by simp[he])]
theorem Q2a {part:Pr.G} {ts:List (List UInt8)} {r:Pr.Rs} (he:r.e≠0):∀ (n:Nat) (x:List UInt8),(Pr.rowGo tk part ts n x r).2=r
 | 0,_=> rfl
 | n+1,a=> by unfold Pr.rowGo;rw[if_neg (by rw[DE he];simp)]
theorem Yq (ht:Toks tk) {part:F} {gpart:Pr.G} (hp:Sim tk part gpart) (ts:List (List UInt8)):Sim tk (row tk part ts false) (Pr.row tk gpart ts):=by
 refine ⟨fun s r he hi hr=> ?_,fun s he=> ?_,fun r he=> ?_⟩
 ·exact Q01 ht hp ts tk.length (hp.go s r he hi hr)
 ·have h1:(part s).2=s:=hp.df s he;unfold lift row;rw[h1];exact DF he _ _
 ·have h1:=hp.dg r he;unfold Pr.row;rw[h1];exact Q2a he _ _
end
end Go.Proofs.YtiecccakcenobaaGreatDoor.Pc
