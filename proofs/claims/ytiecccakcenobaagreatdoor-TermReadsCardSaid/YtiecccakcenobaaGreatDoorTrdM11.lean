/- A part of the proof. -/
import Derived.Test.YtiecccakcenobaaGreatDoorTrdM10
import Derived.Deep.Slices
import Derived.Deep.Fields
import Derived.Deep.Grids
import Derived.ChangeSame
import Derived.Lib.SmallJoins
import Derived.Test.YtiecccakcenobaaGreatDoorCards
import Derived.Test.YtiecccakcenobaaGreatDoorTie
import Derived.ChangeMaps5
import Derived.Lay
import Derived.LaidLaws
import Derived.MakeChecks
import Derived.SevenTiedAt
set_option linter.all false
set_option maxRecDepth 100000
set_option maxHeartbeats 64000000
namespace Go.Proofs.YtiecccakcenobaaGreatDoor
open Go.Proofs.Tryz
open Go.ChangeShapes Go.WideShapes Go.ChangeAt Go.RowKit Go.Deep Go.Joins
variable {zs:Array Value} {e:Ex} {z:Int} {o:List Ex} {cs:List Value} {B K c co fuel g k m:Nat} {a ao:Option Addr} {t:TypeId} {v:Value} {V w' w5 wr:World}
section
variable {H:Type} {enc:TypeId × Value→H} {P:Program} {w:World} {base:Nat} {spare:Nat→Bool} {held:Bool}
theorem UA {e:TypeId} {fs:Array Field} {x:DataW H × List MemPlace} (ht:P.underlying t=some (.slice e)) (he:P.underlying e=some (.struct fs))
  (hone:oneCellFields P fs=true) (hC:P.cellsOf e=fs.size) (h:DataW.trod enc P w base spare held fuel t cs=some x):
  (cs= [.slice none 0 0]∧x=(.nil, []))∨
  ∃ (a:Addr) (len cap m:Nat),cs= [.slice (some a) len cap]∧len≤cap∧cap≤maxLen∧m=(if spare a.block then cap else len)∧
   ∀ i,i < m→∃ (n:Nat),∀ (j:Nat) (f:Field),fs[j]? =some f→∃ (v:Value) (y:DataW H × List MemPlace),w.cell? (a.add (i*fs.size+j))=some v∧DataW.trod enc P w base spare held n f.type [v]=some y:=by
 rcases open_slice ht h with h0 | ⟨a,len,cap,m,n,D,Pl,hcs,hb,hl,hm,hmm,hx,hi⟩
 ·exact .inl h0
 ·refine .inr ⟨a,len,cap,m,hcs,hl,hm,hmm,fun i him=> ?_⟩;obtain ⟨cs',hc,ht'⟩:=hi i him;rw[hC] at hc;obtain ⟨ys,n',hn',hy,hlen,hyl,hf⟩:=DataW.trod_struct he ht';obtain ⟨_,hcl,hat⟩:=World.cells?_some hc;refine ⟨n',fun j f hj=> ?_⟩;obtain ⟨ho,hk⟩:=hone_of hone j f hj;have hjl:j < fs.size:=(Array.getElem?_eq_some_iff.1 hj).1;have hcell:=hat j hjl;have hv:cs'[j]? =some (cs'[j]'(by omega)):=eA_ (by omega);have h1:=hf j f hj;rw[ho,hk] at h1;have hone':(cs'.drop j).take 1= [cs'[j]'(by omega)]:=by
   rw[List.drop_eq_getElem_cons (by omega)];rfl
  rw[hone'] at h1;have hys:ys[j]? =some (ys[j]'(by omega)):=eA_ (by omega);exact ⟨_,_,by rw[←Go.Deep.add_add,hcell,hv],h1.trans hys⟩
end
theorem Q5s {a:Addr} (h:a.spot=none):a=⟨a.block,a.off,none⟩:=by cases a;simp at h;subst h;rfl
theorem Q2x {P:Program} {w:World} {r:Reach} {b0:Nat} {e:TypeId} {a:Addr} {len cap:Nat} (ht:P.underlying t=some (.slice e)) (h:Cell.okWide P w r b0 t (.slice (some a) len cap)):a.spot=none:=by
 unfold Cell.okWide at h;rw[ht] at h;simp only[Cell.ok,ht] at h;exact h.2.2.2.1
section
variable {H:Type} {enc:TypeId × Value→H} {w:World} {held:Bool}
theorem UB {y:DataW H × List MemPlace} (h:DataW.trod enc prog w 0 (fun _=> true) held fuel 3 [v]=some y):∃ n,v= .int .i64 n:=by
 obtain ⟨n,hc,_,_⟩:=DataW.trod_int underlying3 h;simp only[List.cons.injEq,and_true] at hc;exact ⟨n,hc⟩
theorem Ys {y:DataW H × List MemPlace} (h:DataW.trod enc prog w 0 (fun _=> true) held fuel 9 [v]=some y):∃ l:List UInt8,v= .string ⟨l.toArray⟩:=by
 obtain ⟨s,hc,_,_⟩:=DataW.trod_string underlying9 h;simp only[List.cons.injEq,and_true] at hc;exact ⟨s.data.toList,by rw[hc]⟩
theorem Q5t {X:Type} {xc:X→List Value} (hxc:∀ x,(xc x).length=K) {t e:TypeId} {fs:Array Field} (hK:fs.size=K) (ht:prog.underlying t=some (.slice e)) (he:prog.underlying e=some (.struct fs))
  (hone:oneCellFields prog fs=true) (hC:prog.cellsOf e=fs.size)
  (hx:∀ (g:Nat→Option Value),(∃ n,∀ (j:Nat) (f:Field),fs[j]? =some f→∃ (v:Value) (y:DataW H × List MemPlace),g j=some v∧DataW.trod enc prog w 0 (fun _=> true) held n f.type [v]=some y)→∃ x:X,∀ j u,(xc x)[j]? =some u→g j=some u)
  {fuel:Nat} {v:Value} {y:DataW H × List MemPlace} (h:DataW.trod enc prog w 0 (fun _=> true) held fuel t [v]=some y) (hsp:∀ a n c,v= .slice (some a) n c→a.spot=none) (hK0:0 < K):
  ∃ l:List X,RdS w (fun k=> k < w.heap.size) K v l.length (l.flatMap xc):=by
 rcases UA ht he hone hC h with ⟨hcs,_⟩ | ⟨a,len,cap,m,hcs,hl,hm,hmm,hf⟩
 ·simp only[List.cons.injEq,and_true] at hcs;subst hcs;exact ⟨[],RdS.nil _ _ _⟩
 ·simp only[List.cons.injEq,and_true] at hcs;subst hcs;simp only[if_true] at hmm;subst hmm;have ha:=Q5s (hsp a len m rfl);obtain ⟨l,hll,hlp⟩:=Q4q (p:=fun i (k:X)=> w.rangeAt a.block (a.off+i*K) (xc k)) len fun i hi=> by
   obtain ⟨n,hn⟩:=hf i (by omega);obtain ⟨x,hx⟩:=hx (fun j=> w.cell? (a.add (i*fs.size+j))) ⟨n,hn⟩;refine ⟨x,fun j u hj=> ?_⟩;have h1:=hx j u hj;rw[hK,ha,Addr.add_mid] at h1;rw[←h1,Nat.add_assoc]
  have hr:=Uz (f:=xc) (s:=K) hxc (off:=a.off) hlp;refine ⟨l,by rw[ZN (f:=xc) (s:=K) hxc],some a,m,by rw[hll],by omega,Or.inr ⟨a.block,a.off,by rw[←ha],?_,hr⟩⟩;rcases Nat.eq_zero_or_pos l.length with h0 | h0
  ·exact Or.inl h0
  ·refine Or.inr ?_;obtain ⟨k,hk⟩:∃ k,l[0]? =some k:=⟨_,eA_ h0⟩
   have hck:=hlp 0 k hk;have hlen:=hxc k;obtain ⟨u,hu⟩:∃ u,(xc k)[0]? =some u:=⟨_,eA_ (by omega)⟩
   exact Q7 (hck 0 u hu)
end
open Go.ChangeShapes Go.WideShapes Go.ChangeAt Go.RowKit Go.Deep
theorem own:ownKnob prog.godebug=none:=by kernel_rfl
theorem laidOut:laidOutB prog=true:=by kernel_rfl
def theLaid:List (String × DataW Unit):=Rows.termPutsRow.laid
theorem Q3T (w:World):laidMetH prog theLaid w=laidMet prog theLaid w:=MakeChecks.laidMetH_plain _ _ _ (by kernel_rfl)
theorem Q72 (os:Os) (args:Array Value):laidMet prog theLaid ((World.laidAll prog os theLaid).forCall (fun _ _=> 0) ⟨#[],args, []⟩).memory:=laidMet_laidAll _ (by kernel_rfl) (by kernel_rfl)
open Go.RowKit
def TxOut (e:Ex) (w:World) (r:Ending) (w':World):Prop:=(∃ l:List UInt8,r= .returned (.tuple #[.string ⟨l.toArray⟩,.int .i64 (if Ex.right e then 0 else 10)]))∧Below w.heap.size w w'
theorem GN (hs:Ex.Sm e) (hwl:Ex.wl e≤1073741824) {w:World} {P:Nat→Prop} {cs:List Value} (h:RdE w P e cs) (hP:∀ k,P k→k < w.heap.size):
  Calls prog 86 #[.agg cs.toArray,.int .i64 0] w (TxOut e w):=by
 obtain ⟨sv,kv,rfl,_,a,c,rfl⟩:=h.cells;obtain ⟨nb,hnb⟩:∃ x,decide (e.num < 0)=x:=⟨_,rfl⟩
 rw[hnb] at h ⊢;obtain ⟨nk,hnk⟩:∃ x,e.kids.length=x:=⟨_,rfl⟩
 rw[hnk] at h ⊢;have hbx:=Qp (w:=w) #[.int .i64 e.op,.string ⟨e.name.toArray⟩,.string ⟨e.mod.toArray⟩,.bool nb,sv,.bool e.yes,.slice a nk c,.int .i64 e.pos] 30;obtain ⟨V,hV⟩:∃ V,w.alloc (.cells #[.int .i64 e.op,.string ⟨e.name.toArray⟩,.string ⟨e.mod.toArray⟩,.bool nb,sv,.bool e.yes,.slice a nk c,.int .i64 e.pos] 30)=V:=⟨_,rfl⟩
 have HVV:=hd_ hV;rw[hV] at hbx;have HM:Hid (∀ W,Below V.heap.size V W→W.heap[w.heap.size]? =some (.cells #[.int .i64 e.op,.string ⟨e.name.toArray⟩,.string ⟨e.mod.toArray⟩,.bool nb,sv,.bool e.yes,.slice a nk c,.int .i64 e.pos] 30 (0,0))∧Below w.heap.size w W∧RdE W P e [.int .i64 e.op,.string ⟨e.name.toArray⟩,.string ⟨e.mod.toArray⟩,.bool nb,sv,.bool e.yes,.slice a nk c,.int .i64 e.pos]∧∀ k,P k→k < W.heap.size):=fun W hb=> by
  have h1:=hbx.2.trans (hb.mono hbx.2.size);exact ⟨Qf hbx.1 hb,h1,h.past hP h1,fun k hk=> eI_ (hP k hk) h1.size⟩
 obtain ⟨a0,a1,a2,a3,a4,a5,a6,a7⟩:=cells8 hbx.1;have HR:Hid (∀ W,Below V.heap.size V W→Calls prog 128 #[.agg #[.int .i64 e.op,.string ⟨e.name.toArray⟩,.string ⟨e.mod.toArray⟩,.bool nb,sv,.bool e.yes,.slice a nk c,.int .i64 e.pos],.int .i64 0] W fun r w'=> r= .returned (.bool (Ex.right e))∧Below W.heap.size W w'):=fun W hb=> Gi hs (HM W hb).2.2.1 (HM W hb).2.2.2;obtain ⟨rt,hrt⟩:∃ b,Ex.right e=b:=⟨_,rfl⟩
 have HX:Hid (rt=true→∀ W,Below V.heap.size V W→∀ b,IsW W b b []→(∀ k,P k→k < b)→b≤W.heap.size→Calls prog 129 #[.pointer (some ⟨b,0,none⟩),.agg #[.int .i64 e.op,.string ⟨e.name.toArray⟩,.string ⟨e.mod.toArray⟩,.bool nb,sv,.bool e.yes,.slice a nk c,.int .i64 e.pos]] W fun r w'=> r= .returned (.tuple #[])∧(∃ l,IsW w' b b l)∧Fw b b W w'):=fun ht W hb b hw hp hB=> by
  refine eH_ (Q2t hs hp (hrt.trans ht) W b [] _ (HM W hb).2.2.1 hw hB (by simpa using hwl)) ?_;rintro r w' ⟨h1,⟨l,_,h2⟩,h3⟩;exact ⟨h1,⟨l,h2⟩,h3⟩
 unfold TxOut;rw[hrt] at HR ⊢;clear hs hwl h hP hbx hnb hnk hV hrt;go_in;go_wp2_with fail;rw[HVV.o];refine eH_ (HR.o V (eB_ _ _)) ?_;rintro r w2 ⟨rfl,hb2⟩;have H2:=hd_ hb2;clear a0 a1 a2 a3 a4 a5 a6 a7 hb2;obtain ⟨a0,a1,a2,a3,a4,a5,a6,a7⟩:=cells8 (HM.o _ H2.o).1;dsimp only;cases rt with
 | false=>
  go_wp2_with fail;go_ret2;exact ⟨⟨[],rfl⟩,(HM.o _ H2.o).2.1⟩
 | true=>
  have l0:=Q7 a0;go_wp2_with fail;have hx3:=Qp (w:=w2) #[.pointer none,.slice none 0 0] 204;obtain ⟨V3,hV3⟩:∃ V,w2.alloc (.cells #[.pointer none,.slice none 0 0] 204)=V:=⟨_,rfl⟩
  rw[hV3] at hx3 ⊢;have hw3:IsW V3 w2.heap.size w2.heap.size []:=Or.inl ⟨rl_ _,_,hx3.1,World.ownsRow_nil _ _ _ _,by simp[Value.ownBlock]⟩;have h3:Below V.heap.size V V3:=H2.o.trans (hx3.2.mono H2.o.size);refine eH_ (HX.o (by trivial) V3 h3 w2.heap.size hw3 (HM.o _ H2.o).2.2.2 hx3.2.size) ?_;rintro r w4 ⟨rfl,⟨l,hw4⟩,hf4⟩;have H4:=h3_ hw4 (hx3.2.trans hf4.below) hf4.size;clear hw4 hf4 hw3 h3 hx3 hV3;dsimp only;go_wp2_with fail;refine eH_ (DX w2.heap.size w2.heap.size l w4 H4.a H4.b.size) ?_;rintro r w5 ⟨rfl,hb5⟩;have H5:=hd_ (H4.b.trans hb5);clear hb5;dsimp only;go_wp2_with fail;go_ret2;exact ⟨⟨l,rfl⟩,(HM.o _ H2.o).2.1.trans (H5.o.mono (HM.o _ H2.o).2.1.size)⟩
theorem L6 (hs:Ex.Sm e) (hwl:Ex.wl e≤1073741824) {w:World} {P:Nat→Prop} {cs:List Value} (h:RdE w P e cs) (hP:∀ k,P k→k < w.heap.size):
  Calls prog 43 #[.agg cs.toArray] w (TxOut e w):=by
 obtain ⟨sv,kv,rfl,_,a,c,rfl⟩:=h.cells;obtain ⟨nb,hnb⟩:∃ x,decide (e.num < 0)=x:=⟨_,rfl⟩
 rw[hnb] at h ⊢;obtain ⟨nk,hnk⟩:∃ x,e.kids.length=x:=⟨_,rfl⟩
 rw[hnk] at h ⊢;have hbx:=Qp (w:=w) #[.int .i64 e.op,.string ⟨e.name.toArray⟩,.string ⟨e.mod.toArray⟩,.bool nb,sv,.bool e.yes,.slice a nk c,.int .i64 e.pos] 30;obtain ⟨V,hV⟩:∃ V,w.alloc (.cells #[.int .i64 e.op,.string ⟨e.name.toArray⟩,.string ⟨e.mod.toArray⟩,.bool nb,sv,.bool e.yes,.slice a nk c,.int .i64 e.pos] 30)=V:=⟨_,rfl⟩
 have HVV:=hd_ hV;rw[hV] at hbx;obtain ⟨a0,a1,a2,a3,a4,a5,a6,a7⟩:=cells8 hbx.1;have HC:=hd_ (GN hs hwl (h.past hP hbx.2) (fun k hk=> eI_ (hP k hk) hbx.2.size));have HB:=hd_ hbx.2;unfold TxOut at HC ⊢;obtain ⟨code,hcode⟩:∃ x:Int,(if Ex.right e=true then (0:Int) else 10)=x:=⟨_,rfl⟩
 rw[hcode] at HC ⊢;clear hcode;clear hs hwl h hP hbx hnb hnk hV;go_in;go_wp2_with fail;rw[HVV.o];refine eH_ HC.o ?_;rintro r w2 ⟨⟨l,rfl⟩,hb2⟩;have H2:=hd_ hb2;clear hb2;dsimp only;go_wp2_with fail;go_ret2;exact ⟨⟨l,rfl⟩,HB.o.trans (H2.o.mono HB.o.size)⟩
def Ex.code (e:Ex):Int:=if Ex.right e then (if (Ex.of e).isSome then 0 else 35) else 10
def Ex.term (e:Ex):Tp.T:=if Ex.right e then (Ex.of e).getD Tp.zero else Tp.zero
def TOut (e:Ex) (w:World) (r:Ending) (w':World):Prop:=∃ v,r= .returned (.tuple #[v,.int .i64 (Ex.code e)])∧Tm w' v (Ex.term e)∧Below w.heap.size w w'
theorem UC (hs:Ex.Sm e) (hwl:Ex.wl e≤100000) {w:World} {P:Nat→Prop} {cs:List Value} (h:RdE w P e cs) (hP:∀ k,P k→k < w.heap.size):
  Calls prog 9 #[.agg cs.toArray] w (TOut e w):=by
 obtain ⟨sv,kv,rfl,hsv,a,c,rfl⟩:=h.cells;obtain ⟨ax,cs2,rfl⟩:=RdS.form hsv;obtain ⟨nb,hnb⟩:∃ x,decide (e.num < 0)=x:=⟨_,rfl⟩
 rw[hnb] at h ⊢;obtain ⟨nk,hnk⟩:∃ x,e.kids.length=x:=⟨_,rfl⟩
 rw[hnk] at h ⊢;have hbx:=box2 w #[.int .i64 e.op,.string ⟨e.name.toArray⟩,.string ⟨e.mod.toArray⟩,.bool nb,.slice ax (wd e.num).length cs2,.bool e.yes,.slice a nk c,.int .i64 e.pos] 30 #[.bool false,.slice none 0 0,.pointer none] 38;obtain ⟨V,hV⟩:∃ V,(w.alloc (.cells #[.int .i64 e.op,.string ⟨e.name.toArray⟩,.string ⟨e.mod.toArray⟩,.bool nb,.slice ax (wd e.num).length cs2,.bool e.yes,.slice a nk c,.int .i64 e.pos] 30)).alloc (.cells #[.bool false,.slice none 0 0,.pointer none] 38)=V:=⟨_,rfl⟩
 have HVV:=hd_ hV;rw[hV] at hbx;have HM:Hid (∀ W,Below V.heap.size V W→W.heap[w.heap.size]? =some (.cells #[.int .i64 e.op,.string ⟨e.name.toArray⟩,.string ⟨e.mod.toArray⟩,.bool nb,.slice ax (wd e.num).length cs2,.bool e.yes,.slice a nk c,.int .i64 e.pos] 30 (0,0))∧W.heap[w.heap.size+1]? =some (.cells #[.bool false,.slice none 0 0,.pointer none] 38 (0,0))∧Below w.heap.size w W∧RdE W P e [.int .i64 e.op,.string ⟨e.name.toArray⟩,.string ⟨e.mod.toArray⟩,.bool nb,.slice ax (wd e.num).length cs2,.bool e.yes,.slice a nk c,.int .i64 e.pos]∧∀ k,P k→k < W.heap.size):=fun W hb=> by
  have h1:=hbx.2.2.trans (hb.mono hbx.2.2.size);exact ⟨Qf hbx.1 hb,Qf hbx.2.1 hb,h1,h.past hP h1,fun k hk=> eI_ (hP k hk) h1.size⟩
 obtain ⟨a0,a1,a2,a3,a4,a5,a6,a7⟩:=cells8 hbx.1;have HF:Hid (Calls prog 43 #[.agg #[.int .i64 e.op,.string ⟨e.name.toArray⟩,.string ⟨e.mod.toArray⟩,.bool nb,.slice ax (wd e.num).length cs2,.bool e.yes,.slice a nk c,.int .i64 e.pos]] V (TxOut e V)):=L6 hs (by omega) (HM.o _ (eB_ _ _)).2.2.2.1 (HM.o _ (eB_ _ _)).2.2.2.2;have HO:Hid (Ex.right e=true→∀ W,Below V.heap.size V W→Calls prog 44 #[.agg #[.int .i64 e.op,.string ⟨e.name.toArray⟩,.string ⟨e.mod.toArray⟩,.bool nb,.slice ax (wd e.num).length cs2,.bool e.yes,.slice a nk c,.int .i64 e.pos]] W (OfOut (Ex.of e) W)):=fun hr W hb=> Q6Y hs hr hwl (HM.o W hb).2.2.2.1 (HM.o W hb).2.2.2.2;clear hs hwl h hP hsv hnb hnk hbx hV;unfold TxOut at HF;cases hr:Ex.right e with
 | false=>
  have hc:Ex.code e=10:=by unfold Ex.code;rw[hr];rfl
  have ht:Ex.term e=Tp.zero:=by unfold Ex.term;rw[hr];rfl
  rw[hr,if_neg (by decide)] at HF;unfold TOut;rw[hc,ht];clear hr hc ht;go_in;go_wp2_with fail;rw[HVV.o];refine eH_ HF.o ?_;rintro r w2 ⟨⟨l,rfl⟩,hb2⟩;have H2:=hd_ hb2;clear hb2;dsimp only;go_wp2_with (refine Qy rfl _ _ rfl rfl (HM.o _ H2.o).2.1 rfl rfl (Tm.zero _) (show w.heap.size≤w.heap.size+1 by omega) (HM.o _ H2.o).2.2.1 ?_;rintro W cs - hcs hg hs hn hb;have HT:=h4_ hg hs hn hb;clear hg hs hn hb hcs);refine eG_ (Xq rfl rfl HT.a HT.b rfl) rfl ?_;exact ⟨.agg cs,rfl,HT.c,HT.D⟩
 | true=>
  have hc:Ex.code e=if (Ex.of e).isSome=true then 0 else 35:=by unfold Ex.code;rw[hr];rfl
  have ht:Ex.term e=(Ex.of e).getD Tp.zero:=by unfold Ex.term;rw[hr];rfl
  rw[hr,if_pos rfl] at HF;unfold OfOut at HO;unfold TOut;rw[hc,ht];obtain ⟨code,hcode⟩:∃ x:Int,(if (Ex.of e).isSome=true then (0:Int) else 35)=x:=⟨_,rfl⟩
  rw[hcode] at HO ⊢;have HR:=hd_ hr;clear hr hc ht hcode;go_in;go_wp2_with fail;rw[HVV.o];refine eH_ HF.o ?_;rintro r w2 ⟨⟨l,rfl⟩,hb2⟩;have H2:=hd_ hb2;clear a0 a1 a2 a3 a4 a5 a6 a7 hb2;obtain ⟨a0,a1,a2,a3,a4,a5,a6,a7⟩:=cells8 (HM.o _ H2.o).1;dsimp only;go_wp2_with fail;refine eH_ (HO.o HR.o w2 H2.o) ?_;rintro r w3 ⟨v3,rfl,ht3,hb3⟩;have H3:=h2_ ht3 (H2.o.trans (hb3.mono H2.o.size));clear ht3 hb3;dsimp only;go_wp2_with (refine Qy rfl _ _ rfl rfl (HM.o _ H3.B).2.1 rfl rfl H3.a (show w.heap.size≤w.heap.size+1 by omega) (HM.o _ H3.B).2.2.1 ?_;rintro W cs - hcs hg hs hn hb;have HT:=h4_ hg hs hn hb;clear hg hs hn hb hcs);refine eG_ (Xq rfl rfl HT.a HT.b rfl) rfl ?_;exact ⟨.agg cs,rfl,HT.c,HT.D⟩
def ancF:List UInt8:= [50,42,40,120,45,51,41,43,121,45,120]
def ancE:Ex:= .mk 8 [] [] 0 false [.mk 7 [] [] 0 false [.mk 9 [] [] 0 false [.mk 1 [] [] 2 false [] 0,.mk 8 [] [] 0 false [.mk 3 [120] [] 0 false [] 3,.mk 1 [] [] 3 false [] 5] 4] 1,.mk 3 [121] [] 0 false [] 8] 7,.mk 3 [120] [] 0 false [] 10] 9
def ancX:List UInt8:= [49,42,120,43,49,42,121,43,45,54]
theorem Q3U:(Ps.read Ps.form ancF 9).2=(0,0):=by kernel_rfl
theorem Q5u:Ps.read Ps.form ancF 200=((Ps.read Ps.form ancF 9).1,0,0):=by kernel_rfl
theorem Q3V:Tr.check (Ps.read Ps.form ancF 9).1 (Tr.root (Ps.read Ps.form ancF 9).1)=0:=by kernel_rfl
theorem Q3W:wholeOf (Ps.read Ps.form ancF 9).1.toks=ancF:=by kernel_rfl
theorem Q3X:((Ps.read Ps.form ancF 9).1.nodes.all fun x=> x.kind !=7)=true:=by kernel_rfl
theorem Q7Q:Ax.formula (Ps.read Ps.form ancF 9).1=some ancE:=by kernel_rfl
theorem L7:Ex.right ancE=true:=by kernel_rfl
theorem Q4r:Ex.of ancE=some ⟨[([120],1),([121],1)],-6⟩:=by kernel_rfl
theorem Q0a:Tp.text ⟨[([120],1),([121],1)],-6⟩=ancX:=by kernel_rfl
theorem Q7R:Ex.wl ancE≤100000:=by decide
theorem Q7S {n:Nat} (h:n < 10 ^ k):(Zp.dec n).length≤k+1:=by
 unfold Zp.dec;split
 ·simp
 ·rw[List.length_map,List.length_reverse];have:=Zp.Xs (B:=10) (by decide) k n h;omega
theorem Gl (h:Bd k z):(Zp.text z).length≤k+2:=by
 have h1:=Q7S h;unfold Zp.text;split
 ·simp only[eL_];omega
 ·omega
theorem Q5v {t:Tp.T} (h:Sm K t) (hn:NmB B t.l):(Tp.text t).length≤K*(K+B+4)+(K+2):=by
 have key:∀ l:Tp.L,(∀ p∈l,Bd K p.2)→NmB B l→(l.flatMap fun p=> Zp.text p.2++([42]++(p.1++ [43]))).length≤l.length*(K+B+4):=by
  intro l
  induction l with
  | nil=> intro _ _;simp
  | cons p r ih=>
   intro h1 h2;have i1:=ih (fun q hq=> h1 q (eR_ _ hq)) fun q hq=> h2 q (eR_ _ hq);have i2:=Gl (h1 p (eX_ ..));have i3:=h2 p (eX_ ..);rw[List.flatMap_cons,eC_,eL_,Nat.add_mul];simp only[eC_,eL_,eU_] at i1 ⊢;omega
 have k1:=key t.l h.l hn;have k2:=Gl h.rest;have k3:t.l.length*(K+B+4)≤K*(K+B+4):=Nat.mul_le_mul_right _ h.len;unfold Tp.text;rw[eC_];omega
structure Cl where
 op:Int
 kids:Int
 name:List UInt8
 mod:List UInt8
 num:List UInt8
 yes:Bool
def Cl.takes (c:Cl):Int:=if c.op≤4∨24 < c.op then 0 else if c.op≤6 then 1 else if c.op=21 then 3 else if c.op=24 then min (max c.kids 0) 9 else 2
theorem Cl.takes_nonneg (c:Cl):0≤c.takes:=by
 unfold Cl.takes;split
 ·omega
 ·split
  ·omega
  ·split
   ·omega
   ·split <;> omega
def Cl.val (c:Cl):Int:=if c.op=1 then (Zp.parse c.num).1 else 0
def Cl.ex (c:Cl) (ks:List Ex):Ex:= .mk c.op c.name c.mod c.val c.yes ks 0
def Cl.n (c:Cl) (o:List Ex):Nat:=min c.takes.toNat o.length
def Cl.put (o:List Ex) (c:Cl):List Ex:=o.take (o.length - c.n o)++ [c.ex (o.drop (o.length - c.n o))]
def Cl.ok (c:Cl):Bool:=decide (c.name.length≤60) && decide (c.mod.length≤60) && decide (c.num.length≤80)
theorem JR:∀ a b:List Ex,Ex.wls (a++b)=Ex.wls a+Ex.wls b
 | [],b=> by simp[Ex.wls]
 | e::a,b=> by rw[List.cons_append,Ex.wls,Ex.wls,JR a b];omega
theorem Q12:∀ a:List Ex,a.length*110≤Ex.wls a
 | []=> by simp
 | .mk _ _ _ _ _ _ _::a=> by have:=Q12 a;rw[Ex.wls,Ex.wl,eL_];omega
structure Fine (m:Nat) (o:List Ex):Prop where
 sm:∀ e∈o,Ex.Sm e
 wl:Ex.wls o≤m*170
theorem Fine.nil:Fine 0 []:=⟨fun e h=> (by cases h),by simp[Ex.wls]⟩
theorem Q2y {l:List UInt8} (hl:l.length≤80):Bd 1000000 (Zp.parse l).1:=by
 have key:Bd 80 (Zp.parse l).1:=by
  by_cases h0:(Zp.parse l).2=0
  ·have ht:=Zp.Q3h h0;have hlen:(Zp.text (Zp.parse l).1).length≤80:=(by rw[ht];exact hl);unfold Bd;refine Q08 ?_;unfold Zp.text at hlen;split at hlen
   ·simp only[eL_] at hlen;omega
   ·exact hlen
  ·have:(Zp.parse l).1=0:=by
    unfold Zp.parse at h0 ⊢;split
    ·rfl
    ·split
     ·rfl
     ·rename_i h1 h2;rw[if_neg h1,if_neg h2] at h0;exact absurd rfl h0
   rw[this];exact Bd.zero _
 exact key.mono (by decide)
theorem Fine.put {m:Nat} {o:List Ex} (h:Fine m o) (hm:m≤30) {c:Cl} (hc:c.ok=true):Fine (m+1) (Cl.put o c):=by
 unfold Cl.ok at hc;simp only[Bool.and_eq_true,decide_eq_true_eq] at hc;obtain ⟨⟨h1,h2⟩,h3⟩:=hc;have hsp:Ex.wls (o.take (o.length - c.n o))+Ex.wls (o.drop (o.length - c.n o))=Ex.wls o:=by rw[←JR,eW_]
 have hln:=Q12 o;have hw:=h.wl;refine ⟨fun e he=> ?_,?_⟩
 ·unfold Cl.put at he;rcases List.mem_append.1 he with he | he
  ·exact h.sm e (List.mem_of_mem_take he)
  ·rw[List.mem_singleton.1 he];refine .mk (by omega) (by omega) ?_ (by rw[List.length_drop];omega) fun k hk=> h.sm k (List.mem_of_mem_drop hk);unfold Cl.val;split
   ·exact Q2y h3
   ·exact Bd.zero _
 ·unfold Cl.put Cl.ex;rw[JR,Ex.wls,Ex.wl,Ex.wls];omega
theorem Fine.len (h:Fine m o) (hm:m≤31):o.length≤60:=by
 have:=Q12 o;have:=h.wl;omega
theorem Fine.get (h:Fine m o) (hm:m≤31) {e:Ex} (he:e∈o):Ex.Sm e∧Ex.wl e≤5270:=by
 have:=ZD he;have:=h.wl;exact ⟨h.sm e he,by omega⟩
theorem Q8k (hs:Ex.Sm e):∀ {t:Tp.T},Ex.right e=true→Ex.of e=some t→NmB (Ex.wl e) t.l:=by
 induction hs with
 | @mk op pos z name mod yes kids hn hm hz hk hkk ih=>
  intro t hr ht;obtain ⟨h1,h20,h60,hkn,hkr⟩:=Yn hr;rw[Ex.of] at ht;split at ht
  ·cases ht
  ·rename_i ks hks;obtain ⟨hl,hg⟩:=Ex.Yy hks;have hkid:∀ (i:Nat),NmB (Ex.wls kids) (ks.getD i Tp.zero).l:=fun i=> by
    rw[List.getD_eq_getElem?_getD];cases hu:ks[i]? with
    | none=> exact fun p hp=> by cases hp
    | some u=>
     obtain ⟨k,hk1,hk2⟩:=hg i u hu;have hm:=eP_ hk1;have hw:=ZD hm;exact fun p hp=> eE_ (ih k hm (hkr k hm) hk2 p hp) (by omega)
   have h0:NmB (Ex.wls kids) Tp.zero.l:=fun p hp=> (by cases hp);have up:∀ {l:Tp.L},NmB (Ex.wls kids) l→NmB (100+name.length+Ex.wls kids) l:=fun h p hp=> eE_ (h p hp) (by omega);rw[Ex.wl];rw[Q0Z] at ht;split at ht
   ·injection ht with ht;subst ht;exact fun p hp=> by cases hp
   split at ht
   ·injection ht with ht;subst ht;exact fun p hp=> by rw[List.mem_singleton.1 hp];show name.length≤_;omega
   split at ht
   ·injection ht with ht;subst ht;exact fun p hp=> by rw[List.mem_singleton.1 hp];show 3≤_;omega
   split at ht
   ·injection ht with ht;subst ht;exact up (NmB.addL _ h0 (hkid 0))
   split at ht
   ·injection ht with ht;subst ht;exact up (NmB.addL _ (hkid 0) (hkid 1))
   split at ht
   ·injection ht with ht;subst ht;exact up (NmB.addL _ (hkid 0) (hkid 1))
   split at ht
   ·unfold Ex.prod at ht;split at ht
    ·injection ht with ht;subst ht;exact up (NmB.addL _ h0 (hkid 1))
    ·split at ht
     ·injection ht with ht;subst ht;exact up (NmB.addL _ h0 (hkid 0))
     ·cases ht
   ·cases ht
theorem Q7T (hs:Ex.Sm e) (hw:Ex.wl e≤5270) (hr:Ex.right e=true) {t:Tp.T} (ht:Ex.of e=some t):Sm 5270 t∧Tp.Ok t.l∧NmB 5270 t.l∧(Tp.text t).length≤1073741824:=by
 have h1:=L0 hs hr ht;have h2:=Q8k hs hr ht;have h3:=h1.1.mono hw;have h4:NmB 5270 t.l:=fun p hp=> eE_ (h2 p hp) hw;exact ⟨h3,h1.2,h4,eE_ (Q5v h3 h4) (by decide)⟩
theorem Q5w (z:Int):(Zp.text z= [48])↔z=0:=
 ⟨fun h=> Zp.Q5G (h.trans (by decide+kernel: [48]=Zp.text 0)),fun h=> by subst h;decide+kernel⟩
theorem Q3Y (z:Int):(∃ r,Zp.text z=45::r)↔z < 0:=by
 unfold Zp.text;split
 ·rename_i h;exact ⟨fun _=> h,fun _=> ⟨_,rfl⟩⟩
 ·rename_i h;refine ⟨fun ⟨r,hr⟩=> ?_,fun e=> absurd e h⟩;obtain ⟨c,r',h1,h2,_⟩:=Zp.Za z.natAbs;rw[h1] at hr;injection hr with hr;subst hr;exact absurd h2 (by decide)
theorem Q5x (z:Int):∃ c r,Zp.text z=c::r:=by
 unfold Zp.text;split
 ·exact ⟨_,_,rfl⟩
 ·obtain ⟨c,r,h,_⟩:=Zp.Za z.natAbs;exact ⟨c,r,h⟩
theorem Y1 {w:World} {b K:Nat}:∀ (css:List (List Value)) {off i:Nat} {c:List Value},(∀ c∈css,c.length=K)→w.rangeAt b off css.flatten→css[i]? =some c→w.rangeAt b (off+i*K) c
 | [],off,i,c,_,_,hi=> by simp at hi
 | c0::css,off,0,c,hc,h,hi=> by
  simp only[eZ_,Option.some.injEq] at hi;subst hi;intro j v hj;have:=h j v (by rw[List.flatten_cons,eT_ (List.getElem?_eq_some_iff.1 hj).1];exact hj);simpa using this
 | c0::css,off,i+1,c,hc,h,hi=> by
  have h8:=hc c0 (eX_ ..);have h2:w.rangeAt b (off+K) css.flatten:=by
   intro j v hj;have:=h (K+j) v (by rw[List.flatten_cons,eO_ (by omega),h8,Nat.add_sub_cancel_left];exact hj);rw[←Nat.add_assoc] at this;exact this
  have:=Y1 css (off:=off+K) (fun c hc'=> hc c (eR_ _ hc')) h2 (by simpa using hi);rw[show off+(i+1)*K=off+K+i*K from by rw[Nat.add_mul];omega];exact this
inductive RdX (w:World) (P:Nat→Prop):Ex→List Value→Prop where
 | mk {op:Int} {name mod:List UInt8} {num:Int} {yes:Bool} {kids:List Ex} {pos:Int} {v:Value} (css:List (List Value)) (hl:css.length=kids.length)
   (hc:∀ c∈css,c.length=7) (hv:RdS w P 7 v kids.length css.flatten) (hk:∀ (i:Nat) (k:Ex) (c:List Value),kids[i]? =some k→css[i]? =some c→RdX w P k c):
   RdX w P (.mk op name mod num yes kids pos) [.int .i64 op,.string ⟨name.toArray⟩,.string ⟨mod.toArray⟩,.string ⟨(Zp.text num).toArray⟩,.bool yes,v,.int .i64 pos]
theorem RdX.keep {w w':World} {P:Nat→Prop} {e:Ex} {cs:List Value} (h:RdX w P e cs) (hk:Keeps P w w'):RdX w' P e cs:=by
 induction h with
 | mk css hl hc hv _ ih=> exact .mk css hl hc (hv.keep hk) ih
theorem RdX.imp {w:World} {P Q:Nat→Prop} {e:Ex} {cs:List Value} (h:RdX w P e cs) (hq:∀ k,P k→Q k):RdX w Q e cs:=by
 induction h with
 | mk css hl hc hv _ ih=> exact .mk css hl hc (hv.imp hq) ih
theorem RdX.past {w:World} {P:Nat→Prop} (h:RdX w P e cs) (hP:∀ k,P k→k < w.heap.size) (hb:Below w.heap.size w w'):RdX w' P e cs:=h.keep (Keeps.of hb hP)
theorem RdX.form {w:World} {P:Nat→Prop} {e:Ex} {cs:List Value} (h:RdX w P e cs):∃ ak ck,cs= [.int .i64 e.op,.string ⟨e.name.toArray⟩,.string ⟨e.mod.toArray⟩,.string ⟨(Zp.text e.num).toArray⟩,.bool e.yes,.slice ak e.kids.length ck,.int .i64 e.pos]:=by
 cases h with
 | mk css hl hc hv hk=>
  obtain ⟨a2,c2,rfl⟩:=hv.form;exact ⟨a2,c2,rfl⟩
theorem RdX.ones {w:World} {P:Nat→Prop} (h:RdX w P e cs):∀ u∈cs,u.oneCell'=true:=by
 obtain ⟨ak,ck,rfl⟩:=h.form;simp[Value.oneCell']
theorem RdX.kid {w:World} {P:Nat→Prop} (h:RdX w P e cs) {i:Nat} {k:Ex} (hi:e.kids[i]? =some k):
  ∃ b off c cs',cs[5]? =some (.slice (some ⟨b,off,none⟩) e.kids.length c)∧P b∧w.rangeAt b (off+i*7) cs'∧cs'.length=7∧RdX w P k cs':=by
 cases h with
 | mk css hl hc hv hk=>
  simp only[Ex.kids] at hi;have hlt:=(List.getElem?_eq_some_iff.1 hi).1;obtain ⟨_,a,c,rfl,_,h4⟩:=hv;rcases h4 with ⟨_,h4⟩ | ⟨b,off,rfl,h5,h6⟩
  ·omega
  ·have hci:css[i]? =some (css[i]'(by omega)):=eA_ (by omega);refine ⟨b,off,c,css[i]'(by omega),rfl,h5.resolve_left (by omega),?_,hc _ (List.getElem_mem _),hk i k _ hi hci⟩;exact Y1 css hc h6 hci
def ExXOut (w:World) (x:Ex) (e:Ending) (w':World):Prop:=∃ cs,e= .returned (.agg cs.toArray)∧RdX w' (New w w') x cs∧Below w.heap.size w w'
theorem Q73 {w:World} {e:TypeId} {size:Nat} {n:Nat} {xs:List Value} (h:w.ownsRow B e size (.slice a n c) n xs) {m:Nat} (hm:m≤n):w.ownsRow B e size (.slice a m c) m (xs.take (m*size)):=by
 obtain ⟨hl,⟨e1,e2⟩ | ⟨g,cap,cur,e1,hg,hcur,hn,hcap,hsz,htk⟩⟩:=h
 ·subst e2;obtain rfl:m=0:=by omega
  refine ⟨by simp,Or.inl ⟨e1,rfl⟩⟩
 ·injection e1 with e1 _ e3;subst e1 e3;have hle:m*size≤n*size:=Nat.mul_le_mul_right _ hm;refine ⟨by rw[eN_,hl];omega,Or.inr ⟨g,c,cur,rfl,hg,hcur,by omega,hcap,hsz,?_⟩⟩;rw[←htk,List.take_take,Nat.min_eq_left hle]
theorem UD {K:Nat}:∀ (css:List (List Value)) (m:Nat),(∀ c∈css,c.length=K)→css.flatten.take (m*K)=(css.take m).flatten
 | [],m,_=> by simp
 | c::css,0,_=> by simp
 | c::css,m+1,h=> by
  have h1:=h c (eX_ ..);rw[List.flatten_cons,List.take_succ_cons,List.flatten_cons,List.take_append,h1,show (m+1)*K - K=m*K from by rw[Nat.add_mul];omega,UD css m fun c hc=> h c (eR_ _ hc),List.take_of_length_le (by rw[h1,Nat.add_mul];omega)]
theorem UE {K:Nat}:∀ (css:List (List Value)) (m:Nat),(∀ c∈css,c.length=K)→css.flatten.drop (m*K)=(css.drop m).flatten
 | [],m,_=> by simp
 | c::css,0,_=> by simp
 | c::css,m+1,h=> by
  have h1:=h c (eX_ ..);rw[List.flatten_cons,List.drop_succ_cons,List.drop_append,h1,show (m+1)*K - K=m*K from by rw[Nat.add_mul];omega,UE css m fun c hc=> h c (eR_ _ hc),List.drop_of_length_le (by rw[h1,Nat.add_mul];omega),List.nil_append]
theorem GE {K:Nat}:∀ (css:List (List Value)),(∀ c∈css,c.length=K)→css.flatten.length=css.length*K
 | [],_=> by simp
 | c::css,h=> by rw[List.flatten_cons,eC_,h c (eX_ ..),GE css fun c hc=> h c (eR_ _ hc),eL_,Nat.add_mul];omega
def EL (w:World) (B:Nat) (v:Value) (es:List Ex):Prop:=
 ∃ css:List (List Value),css.length=es.length∧(∀ c∈css,c.length=8)∧w.ownsRow B 30 8 v es.length css.flatten∧∀ (i:Nat) (e:Ex) (c:List Value),es[i]? =some e→css[i]? =some c→RdE w (OffW B w v) e c
theorem EL.nil (w:World) (B:Nat):EL w B (.slice none 0 0) []:=⟨[],rfl,fun c hc=> (by cases hc),World.ownsRow_nil _ _ _ _,fun i t c h=> by simp at h⟩
theorem Q7U:(prog.info? 33).map (fun i=> (i.zero,i.size,i.bytes))=some (some (.agg #[.int .i64 0,.string ⟨#[]⟩,.string ⟨#[]⟩,.string ⟨#[]⟩,.bool false,.slice none 0 0,.int .i64 0]),7,96):=by kernel_rfl
theorem Xr:(prog.info? 33).map (·.size)=some 7:=by kernel_rfl
def xRow (op pos:Int) (name mod tx:List UInt8) (yes:Bool) (kv:Value):Array Value:= #[.int .i64 op,.string ⟨name.toArray⟩,.string ⟨mod.toArray⟩,.string ⟨tx.toArray⟩,.bool yes,kv,.int .i64 pos]
def XAt (B:Nat) (w0:World) (R:Array Value) (g:Nat) (W:World):Prop:=W.heap[g]? =some (.cells R 33 (0,0))∧Below B w0 W∧B≤g
theorem Q4s {w0 W:World} {R:Array Value} (hb:Below B w0 W) (hg:W.heap[g]? =some (.cells zs 33 (0,0))) (hB:B≤g):XAt B w0 R g (W.setRow g R):=⟨Qb hg,Qc hb hB _,hB⟩
structure XI (V:World) (g B:Nat) (F:Value→Array Value) (kids:List Ex) (i:Nat) (a:Option Addr) (c:Nat) (css:List (List Value)) (wr:World):Prop where
 clen:css.length=i
 c7:∀ c∈css,c.length=7
 own:wr.ownsRow B 33 7 (.slice a i c) i css.flatten
 row:wr.heap[g]? =some (.cells (F (.slice a i c)) 33 (0,0))
 rds:∀ (j:Nat) (k:Ex) (cs:List Value),kids[j]? =some k→css[j]? =some cs→RdX wr (OffW B wr (.slice a i c)) k cs
 below:Below V.heap.size V wr
 size:B≤wr.heap.size
theorem XI.begin {F:Value→Array Value} {kids:List Ex} {wc:World} (h:XAt V.heap.size V (F (.slice none 0 0)) g wc):XI V g wc.heap.size F kids 0 none 0 [] wc:=
 ⟨rfl,fun c hc=> (by cases hc),World.ownsRow_nil _ _ _ _,h.1,fun j k cs _ h=> (by simp at h),h.2.1,rl_ _⟩
theorem XI.step {F:Value→Array Value} {kids:List Ex} {i:Nat} {css:List (List Value)} {w6 w8:World} {k:Ex} {a2:Option Addr} {c2:Nat}
  (h:XI V g B F kids i a c css wr) (hgV:V.heap.size≤g) (hgB:g < B) (hk:kids[i]? =some k) (hb5:Below wr.heap.size wr w5) (hb6:Below w5.heap.size w5 w6) (hre:RdX w6 (New w5 w6) k cs) (hcl:cs.length=7)
  (ho:w8.ownsRow B 33 7 (.slice a2 (i+1) c2) (i+1) (css.flatten++cs)) (hg8:(w6.alloc (.cells cs.toArray 33)).grownBy w8 (Value.slice a i c).ownBlock)
  (hat:∀ k,(Value.slice a2 (i+1) c2).ownBlock=some k→(Value.slice a i c).ownBlock=some k∨k=(w6.alloc (.cells cs.toArray 33)).heap.size):
  w8.heap[g]? =some (.cells (F (.slice a i c)) 33 (0,0))∧XI V g B F kids (i+1) a2 c2 (css++ [cs]) (w8.setRow g (F (.slice a2 (i+1) c2))):=by
 have hs:=h.size;have hs5:=hb5.size;have hs6:=hb6.size;have hb56:Below wr.heap.size wr w6:=hb5.trans (hb6.mono hs5);have hal:=Qi w6 (.cells cs.toArray 33);have hlt7:=X9 w6 (.cells cs.toArray 33);have hs8:=hg8.size;have hown:∀ k,(Value.slice a i c).ownBlock=some k→B≤k∧k < wr.heap.size:=fun k hk=> h.own.lt k hk;have hg7:w8.heap[g]? =some (.cells (F (.slice a i c)) 33 (0,0)):=by
  rw[hg8.block g (by omega) (fun e=> by have:=(hown g e.symm).1;omega),hal.block g (by have:=Q4 h.row;omega),hb56.block g (Q4 h.row)];exact h.row
 refine ⟨hg7,?_⟩;have hkeep:∀ q,B≤q→q < w6.heap.size→(Value.slice a i c).ownBlock≠some q→(w8.setRow g (F (.slice a2 (i+1) c2))).heap[q]? =w6.heap[q]? :=fun q h1 h2 h3=> by
  rw[Qd (by omega),hg8.block q (by omega) (fun e=> h3 e.symm),hal.block q h2]
 have him:∀ q,B≤q→q < w6.heap.size→(Value.slice a i c).ownBlock≠some q→OffW B (w8.setRow g (F (.slice a2 (i+1) c2))) (.slice a2 (i+1) c2) q:=fun q p1 p2 p3=> ⟨p1,by rw[Qo];omega,fun e=> by
  rcases hat q e with e2 | e2
  ·exact p3 e2
  ·omega⟩
 refine ⟨by rw[eC_,h.clen];rfl,fun c hc=> ?_,?_,Qb hg7,fun j k' cs' h1 h2=> ?_,?_,by rw[Qo];omega⟩
 ·rcases List.mem_append.1 hc with hc | hc
  ·exact h.c7 c hc
  ·rw[List.mem_singleton.1 hc];exact hcl
 ·rw[List.flatten_append,List.flatten_singleton];exact Qg ho fun k hk=> Qd (by have:=(ho.lt k hk).1;omega)
 ·rcases eS_ j i with hj | hj
  ·rw[eT_ (by rw[h.clen];exact hj)] at h2;exact ((h.rds j k' cs' h1 h2).keep (fun q hq=> (hkeep q hq.1 (eI_ hq.2.1 (eE_ hs5 hs6)) hq.2.2).trans (hb56.block q hq.2.1))).imp fun q hq=> him q hq.1 (eI_ hq.2.1 (eE_ hs5 hs6)) hq.2.2
  ·rw[eO_ (by rw[h.clen];exact hj),h.clen] at h2;cases hd:j - i with
   | zero=>
    obtain rfl:j=i:=(by omega);rw[hd] at h2;simp only[eZ_,Option.some.injEq] at h2;rw[hk] at h1;injection h1 with h1;subst h1 h2;have hn:∀ q,New w5 w6 q→B≤q∧q < w6.heap.size∧(Value.slice a j c).ownBlock≠some q:=fun q hq=> ⟨by have:=hq.1;omega,hq.2,fun e=> by have h1:=(hown q e).2;have h2:=hq.1;omega⟩;exact (hre.keep (fun q hq=> hkeep q (hn q hq).1 (hn q hq).2.1 (hn q hq).2.2)).imp fun q hq=> him q (hn q hq).1 (hn q hq).2.1 (hn q hq).2.2
   | succ d=> rw[hd] at h2;simp at h2
 ·exact Qc ((h.below.trans (hb56.mono h.below.size)).trans ((hal.mono (eE_ h.below.size hb56.size)).trans ((XN (base:=V.heap.size) (Yt (Qj (Qj h.own hb56) hal) (by omega)) hg8 (by have:=h.below.size;omega))))) hgV _
theorem XI.done {w:World} {kids:List Ex} {css:List (List Value)} {op pos:Int} {name mod:List UInt8} {yes:Bool} {r:Nat}
  (h:XI V g B (xRow op pos name mod (Zp.text z) yes) kids kids.length a c css wr) (hw:Below w.heap.size w wr) (hr:wr.heap[r]? =some (.cells zs 33 (0,0))) (hrw:w.heap.size≤r) (hrB:r < B):
  RdX (wr.setRow r (xRow op pos name mod (Zp.text z) yes (.slice a kids.length c))) (New w (wr.setRow r (xRow op pos name mod (Zp.text z) yes (.slice a kids.length c)))) (.mk op name mod z yes kids pos) (xRow op pos name mod (Zp.text z) yes (.slice a kids.length c)).toList∧
  Below w.heap.size w (wr.setRow r (xRow op pos name mod (Zp.text z) yes (.slice a kids.length c))):=by
 have hk:∀ q,B≤q→(wr.setRow r (xRow op pos name mod (Zp.text z) yes (.slice a kids.length c))).heap[q]? =wr.heap[q]? :=fun q hq=> Qd (by omega);refine ⟨RdX.mk (op:=op) (name:=name) (mod:=mod) (num:=z) (yes:=yes) (kids:=kids) (pos:=pos) css h.clen h.c7 ?_ fun j k cs h1 h2=> ?_,Qc hw hrw _⟩
 ·exact (RdS.own (Qg h.own fun k e=> hk k (h.own.lt k e).1)).imp fun k hk2=> ⟨by have:=hk2.2.1;omega,hk2.2.2⟩
 ·exact ((h.rds j k cs h1 h2).keep (fun q hq=> hk q hq.1)).imp fun q hq=> ⟨by have:=hq.1;omega,by rw[Qo];exact hq.2.1⟩
theorem Q2z (hs:Ex.Sm e):∀ {w:World} {P:Nat→Prop} {cs:List Value},RdE w P e cs→(∀ k,P k→k < w.heap.size)→Calls prog 42 #[.agg cs.toArray] w (ExXOut w e):=by
 induction hs with
 | @mk op pos z name mod yes kids hn hm hz hk hkk ih=>
  intro w P cs h hP;obtain ⟨sv,a,c,rfl,hsv⟩:∃ sv a c,cs= [.int .i64 op,.string ⟨name.toArray⟩,.string ⟨mod.toArray⟩,.bool (decide (z < 0)),sv,.bool yes,.slice a kids.length c,.int .i64 pos]∧RdU w sv (wd z):=by
   cases h with
   | mk css hu hl hc hv hk'=>
    obtain ⟨a,c,rfl⟩:=hv.form;exact ⟨_,a,c,rfl,hu⟩
  have hnum:Num w (.agg #[.bool (decide (z < 0)),sv]) z:=⟨_,rfl,hsv⟩
  obtain ⟨a9,c9,rfl⟩:=RdS.form hsv;obtain ⟨nb,hnb⟩:∃ b,decide (z < 0)=b:=⟨_,rfl⟩
  rw[hnb] at h hnum ⊢;have hbx:=box2 w #[.int .i64 op,.string ⟨name.toArray⟩,.string ⟨mod.toArray⟩,.bool nb,.slice a9 (wd z).length c9,.bool yes,.slice a kids.length c,.int .i64 pos] 30 #[.int .i64 0,.string ⟨#[]⟩,.string ⟨#[]⟩,.string ⟨#[]⟩,.bool false,.slice none 0 0,.int .i64 0] 33;obtain ⟨V,hV⟩:∃ V,(w.alloc (.cells #[.int .i64 op,.string ⟨name.toArray⟩,.string ⟨mod.toArray⟩,.bool nb,.slice a9 (wd z).length c9,.bool yes,.slice a kids.length c,.int .i64 pos] 30)).alloc (.cells #[.int .i64 0,.string ⟨#[]⟩,.string ⟨#[]⟩,.string ⟨#[]⟩,.bool false,.slice none 0 0,.int .i64 0] 33)=V:=⟨_,rfl⟩
  have HVV:=hd_ hV;rw[hV] at hbx;have HM:Hid (∀ W,Below V.heap.size V W→W.heap[w.heap.size+1]? =some (.cells #[.int .i64 0,.string ⟨#[]⟩,.string ⟨#[]⟩,.string ⟨#[]⟩,.bool false,.slice none 0 0,.int .i64 0] 33 (0,0))∧Below w.heap.size w W∧RdE W P (.mk op name mod z yes kids pos) #[.int .i64 op,.string ⟨name.toArray⟩,.string ⟨mod.toArray⟩,.bool nb,.slice a9 (wd z).length c9,.bool yes,.slice a kids.length c,.int .i64 pos].toList∧(∀ k,P k→k < W.heap.size)∧Num W (.agg #[.bool nb,.slice a9 (wd z).length c9]) z):=fun W hb=> by
   have h1:=hbx.2.2.trans (hb.mono hbx.2.2.size);exact ⟨Qf hbx.2.1 hb,h1,h.past hP h1,fun k hk=> eI_ (hP k hk) h1.size,hnum.below h1⟩
  have HK:Hid (∀ W,Below V.heap.size V W→∀ (i:Nat) (k:Ex),kids[i]? =some k→∃ bk off ck cs',a=some ⟨bk,off,none⟩∧c=ck∧W.rangeAt bk (off+i*8) cs'∧RdE W P k cs'):=fun W hb i k hi=> by
   obtain ⟨bk,off,ck,cs',q1,q2,q3,q4,q5⟩:=RdE.kid (HM W hb).2.2.1 (i:=i) (k:=k) hi;injection q1 with q1;injection q1 with q1 _ q6;exact ⟨bk,off,ck,cs',q1,q6,q3,q5⟩
  have HC:Hid (∀ (i:Nat) (k:Ex),kids[i]? =some k→∀ {w:World} {P:Nat→Prop} {cs:List Value},RdE w P k cs→(∀ k,P k→k < w.heap.size)→Calls prog 42 #[.agg cs.toArray] w (ExXOut w k)):=fun i k hi w P cs h hP=> ih k (eP_ hi) h hP;obtain ⟨a0,a1,a2,a3,a4,a5,a6,a7⟩:=cells8 hbx.1;have mkS:∀ W:World,Below V.heap.size V W→Below V.heap.size V W∧W.cell? ⟨w.heap.size,0,none⟩=some (.int .i64 op)∧W.cell? ⟨w.heap.size,1,none⟩=some (.string ⟨name.toArray⟩)∧W.cell? ⟨w.heap.size,2,none⟩=some (.string ⟨mod.toArray⟩)∧W.cell? ⟨w.heap.size,3,none⟩=some (.bool nb)∧W.cell? ⟨w.heap.size,4,none⟩=some (.slice a9 (wd z).length c9)∧W.cell? ⟨w.heap.size,5,none⟩=some (.bool yes)∧W.cell? ⟨w.heap.size,6,none⟩=some (.slice a kids.length c)∧W.cell? ⟨w.heap.size,7,none⟩=some (.int .i64 pos):=fun W hb=> ⟨hb,(hb.cell (Q7 a0)).trans a0,(hb.cell (Q7 a1)).trans a1,(hb.cell (Q7 a2)).trans a2,(hb.cell (Q7 a3)).trans a3,(hb.cell (Q7 a4)).trans a4,(hb.cell (Q7 a5)).trans a5,(hb.cell (Q7 a6)).trans a6,(hb.cell (Q7 a7)).trans a7⟩;have HS:=hd_ mkS;have HL:=h3_ hz hk (Q4 hbx.2.1);have hkl:(kids.length:Int)≤1000000:=by omega
  clear h hP hsv hnum hbx hnb hV ih hkk hn hm hz hk mkS a0 a1 a2 a3 a4 a5 a6 a7;go_in;go_wp2_with fail;rw[HVV.o];go_cut [3] from 6 to 19 (fun v3 wc=> ∃ g,v3= .pointer (some ⟨g,0,none⟩)∧XAt V.heap.size V ((xRow op pos name mod (Zp.text z) yes) (.slice none 0 0)) g wc)
  case first=>
   refine QE (S:=(fun w'=> Below V.heap.size V w'∧w'.cell? ⟨w.heap.size,0,none⟩=some (.int .i64 op)∧w'.cell? ⟨w.heap.size,1,none⟩=some (.string ⟨name.toArray⟩)∧w'.cell? ⟨w.heap.size,2,none⟩=some (.string ⟨mod.toArray⟩)∧w'.cell? ⟨w.heap.size,3,none⟩=some (.bool nb)∧w'.cell? ⟨w.heap.size,4,none⟩=some (.slice a9 (wd z).length c9)∧w'.cell? ⟨w.heap.size,5,none⟩=some (.bool yes)∧w'.cell? ⟨w.heap.size,6,none⟩=some (.slice a kids.length c)∧w'.cell? ⟨w.heap.size,7,none⟩=some (.int .i64 pos))) (by simp) (by kernel_rfl) (by kernel_rfl) (HS.o _ ((eB_ _ _).drew)) (fun hHeld=> ?_);simp only[lA_];refine tk_ 0 rfl ?_;(try simp only[Act.put,gP_]);refine tk_ 1 rfl ?_;(try simp only[Act.put,gP_]);refine tk_ 2 rfl ?_;(try simp only[Act.put,gP_]);refine tk_ 3 rfl ?_;(try simp only[Act.put,gP_]);refine tk_ 4 rfl ?_;(try simp only[Act.put,gP_]);refine tk_ 5 rfl ?_;(try simp only[Act.put,gP_]);refine tk_ 6 rfl ?_;(try simp only[Act.put,gP_]);refine tk_ 7 rfl ?_;(try simp only[Act.put,gP_]);refine tk_ 9 rfl ?_;(try simp only[Act.put,gP_]);refine tk_ 10 rfl ?_;(try simp only[Act.put,gP_]);refine tk_ 11 rfl ?_;(try simp only[Act.put,gP_]);refine tk_ 12 rfl ?_;(try simp only[Act.put,gP_]);refine wpAnyH_ready (rs:= [8,14]) (by kernel_rfl) (by simp) ?_;refine AllReadyH.cons rfl (fun KK hKK=> ?_) (AllReadyH.cons rfl (fun KK hKK=> ?_) AllReadyH.nil)
   ·simp only[gA_];go_simp;have hbD:=(eB_ V.heap.size V).drew;refine eH_ (Xn ((HM.o _ hbD).2.2.2.2) HL.a (by decide)) ?_;rintro r w6 ⟨rfl,hc6⟩;have hb6:Below V.heap.size V w6:=hbD.trans (hc6.mono hbD.size);clear hc6 hbD;dsimp only;refine hKK.out _ _ (HS.o _ hb6) (fun hHeld=> ?_);clear hKK KK;(try simp only[Act.put,sA_]);refine tk_ 13 rfl ?_;(try simp only[Act.put,gP_]);refine rd_ 14 rfl (fun KK hKK=> ?_);simp only[gA_];go_simp;have hx7:=Qp (w:=w6) #[.int .i64 0,.string ⟨#[]⟩,.string ⟨#[]⟩,.string ⟨#[]⟩,.bool false,.slice none 0 0,.int .i64 0] 33;have hb7:=hb6.trans (hx7.2.mono hb6.size);refine hKK.out _ _ (HS.o _ hb7) (fun hHeld=> ?_);clear hKK KK;(try simp only[Act.put,sA_]);have HZ:=h3_ hb7 hx7.1 hb6.size;clear hx7 hb7 hb6;refine wpAnyH_done (by kernel_rfl) ?_ _;unfold PeelQ;dsimp only;refine X0 _ _ _ rfl 33 w6.heap.size #[.int .i64 0,.string ⟨#[]⟩,.string ⟨#[]⟩,.string ⟨#[]⟩,.bool false,.slice none 0 0,.int .i64 0] ((xRow op pos name mod (Zp.text z) yes) (.slice none 0 0)) rfl HZ.b rfl rfl Xr (by simp[xRow,Value.oneCell']) ?_;go_simp;go_wp2_with fail;go_meet
    case rel=> exact ⟨_,rfl,Q4s HZ.a HZ.b HZ.C⟩
   ·simp only[gA_];go_simp;have hbD:=(eB_ V.heap.size V).drew;have hx7:=Qp (w:=V.drew) #[.int .i64 0,.string ⟨#[]⟩,.string ⟨#[]⟩,.string ⟨#[]⟩,.bool false,.slice none 0 0,.int .i64 0] 33;have hb7:=hbD.trans (hx7.2.mono hbD.size);refine hKK.out _ _ (HS.o _ hb7) (fun hHeld=> ?_);clear hKK KK;(try simp only[Act.put,sA_]);refine rd_ 8 rfl (fun KK hKK=> ?_);simp only[gA_];go_simp;refine eH_ (Xn ((HM.o _ hb7).2.2.2.2) HL.a (by decide)) ?_;rintro r w6 ⟨rfl,hc6⟩;have hb6:Below V.heap.size V w6:=hb7.trans (hc6.mono hb7.size);have hx6:=Qf hx7.1 hc6;clear hc6;dsimp only;refine hKK.out _ _ (HS.o _ hb6) (fun hHeld=> ?_);clear hKK KK;(try simp only[Act.put,sA_]);refine tk_ 13 rfl ?_;(try simp only[Act.put,gP_]);have HZ:=h3_ hb6 hx6 hbD.size;clear hx7 hx6 hb7 hb6;refine wpAnyH_done (by kernel_rfl) ?_ _;unfold PeelQ;dsimp only;refine X0 _ _ _ rfl 33 V.drew.heap.size #[.int .i64 0,.string ⟨#[]⟩,.string ⟨#[]⟩,.string ⟨#[]⟩,.bool false,.slice none 0 0,.int .i64 0] ((xRow op pos name mod (Zp.text z) yes) (.slice none 0 0)) rfl HZ.b rfl rfl Xr (by simp[xRow,Value.oneCell']) ?_;go_simp;go_wp2_with fail;go_meet
    case rel=> exact ⟨_,rfl,Q4s HZ.a HZ.b HZ.C⟩
  case rest=>
   obtain ⟨g,rfl,hx⟩:=hcut;obtain ⟨b0,b1,b2,b3,b4,b5,b6,b7,b8⟩:=HS.o _ hx.2.1;have HX:=hd_ hx;clear hx b0 b1 b2 b3 b4 b5 b6 b8;obtain ⟨B,hB⟩:∃ B,wc.heap.size=B:=⟨_,rfl⟩
   have HB:=hd_ (show g < B from by rw[←hB];exact Q4 HX.a);have HX0:=hd_ (XI.begin (kids:=kids) HX.o);rw[hB] at HX0;clear hB;go_wp2_with fail;go_loopg [23] kids.length (fun gk v23 wr=> ∃ (i:Nat) (a':Option Addr) (c':Nat) (css:List (List Value)),v23= .int .i64 (i:Int)∧gk=kids.length - i∧i≤kids.length∧XI V g B (xRow op pos name mod (Zp.text z) yes) kids i a' c' css wr)
   case atStart=> exact ⟨0,none,0, [],rfl,rfl,eV_ _,HX0.o⟩
   case round=>
    obtain ⟨i,ai,ci,css,rfl,hgk,hi,hI⟩:=hrel;have HR:=h2_ hgk hI;clear hgk;by_cases hlt:i < kids.length
    ·have hlt':(i:Int) < (kids.length:Int):=(by omega);obtain ⟨k,hk⟩:∃ k,kids[i]? =some k:=⟨_,eA_ hlt⟩
     obtain ⟨bk,off,ck,cs',q1,q2,hr,hre⟩:=HK.o wr hI.below i k hk;subst q1 q2;obtain ⟨sk,kv,rfl,hsk,ak,ckk,rfl⟩:=hre.cells;obtain ⟨ask,csk,rfl⟩:=RdS.form hsk;obtain ⟨nk,hnk⟩:∃ x,decide (Ex.num k < 0)=x:=⟨_,rfl⟩
     rw[hnk] at hr hre;have HG:=hd_ hr;have HKK:=hd_ hk;have hx1:=Qp (w:=wr) #[.int .i64 k.op,.string ⟨k.name.toArray⟩,.string ⟨k.mod.toArray⟩,.bool nk,.slice ask (wd k.num).length csk,.bool k.yes,.slice ak k.kids.length ckk,.int .i64 k.pos] 30;obtain ⟨V7,hV7⟩:∃ V7,wr.alloc (.cells #[.int .i64 k.op,.string ⟨k.name.toArray⟩,.string ⟨k.mod.toArray⟩,.bool nk,.slice ask (wd k.num).length csk,.bool k.yes,.slice ak k.kids.length ckk,.int .i64 k.pos] 30)=V7:=⟨_,rfl⟩
     have HV7:=hd_ hV7;rw[hV7] at hx1;have HC1:Hid (∀ W,Below V7.heap.size V7 W→Calls prog 42 #[.agg #[.int .i64 k.op,.string ⟨k.name.toArray⟩,.string ⟨k.mod.toArray⟩,.bool nk,.slice ask (wd k.num).length csk,.bool k.yes,.slice ak k.kids.length ckk,.int .i64 k.pos]] W (ExXOut W k)):=fun W hb=> HC.o i k hk (hre.past (HM.o _ HR.B.below).2.2.2.1 (hx1.2.trans (hb.mono hx1.2.size))) (fun q hq=> eI_ ((HM.o _ HR.B.below).2.2.2.1 q hq) (eE_ hx1.2.size hb.size));obtain ⟨d0,d1,d2,d3,d4,d5,d6,d7⟩:=cells8 hx1.1;have e5:=(hx1.2.cell (Q7 (Q3 hI.row 5 rfl))).trans (Q3 hI.row 5 rfl);have HX1:=hd_ hx1.2;have HX2:=hd_ hx1.1;clear hr hre hnk hk hx1 hsk hI hV7;go_wp2_with (first
      | (refine wpList_load_mid rfl 30 _ rfl bk (off+i*8) rfl _ _ HG.o underlying30 rfl rfl ?_)
      | (refine Q9 rfl 30 _ _ rfl 30 #[.int .i64 0,.string ⟨#[]⟩,.string ⟨#[]⟩,.bool false,.slice none 0 0,.bool false,.slice none 0 0,.int .i64 0] #[.int .i64 k.op,.string ⟨k.name.toArray⟩,.string ⟨k.mod.toArray⟩,.bool nk,.slice ask (wd k.num).length csk,.bool k.yes,.slice ak k.kids.length ckk,.int .i64 k.pos] rfl rfl rfl Qr (by simp[Value.oneCell']) ?_))
     rw[HV7.o];have mkS:∀ W:World,Below V7.heap.size V7 W→W.cell? ⟨wr.heap.size,0,none⟩=some (.int .i64 k.op)∧W.cell? ⟨wr.heap.size,1,none⟩=some (.string ⟨k.name.toArray⟩)∧W.cell? ⟨wr.heap.size,2,none⟩=some (.string ⟨k.mod.toArray⟩)∧W.cell? ⟨wr.heap.size,3,none⟩=some (.bool nk)∧W.cell? ⟨wr.heap.size,4,none⟩=some (.slice ask (wd k.num).length csk)∧W.cell? ⟨wr.heap.size,5,none⟩=some (.bool k.yes)∧W.cell? ⟨wr.heap.size,6,none⟩=some (.slice ak k.kids.length ckk)∧W.cell? ⟨wr.heap.size,7,none⟩=some (.int .i64 k.pos)∧W.cell? ⟨g,5,none⟩=some (.slice ai i ci):=fun W hb=> ⟨(hb.cell (Q7 d0)).trans d0,(hb.cell (Q7 d1)).trans d1,(hb.cell (Q7 d2)).trans d2,(hb.cell (Q7 d3)).trans d3,(hb.cell (Q7 d4)).trans d4,(hb.cell (Q7 d5)).trans d5,(hb.cell (Q7 d6)).trans d6,(hb.cell (Q7 d7)).trans d7,(hb.cell (Q7 e5)).trans e5⟩;have HSK:=hd_ mkS;clear mkS d0 d1 d2 d3 d4 d5 d6 d7 e5;refine QE (S:=(fun w'=> w'.cell? ⟨wr.heap.size,0,none⟩=some (.int .i64 k.op)∧w'.cell? ⟨wr.heap.size,1,none⟩=some (.string ⟨k.name.toArray⟩)∧w'.cell? ⟨wr.heap.size,2,none⟩=some (.string ⟨k.mod.toArray⟩)∧w'.cell? ⟨wr.heap.size,3,none⟩=some (.bool nk)∧w'.cell? ⟨wr.heap.size,4,none⟩=some (.slice ask (wd k.num).length csk)∧w'.cell? ⟨wr.heap.size,5,none⟩=some (.bool k.yes)∧w'.cell? ⟨wr.heap.size,6,none⟩=some (.slice ak k.kids.length ckk)∧w'.cell? ⟨wr.heap.size,7,none⟩=some (.int .i64 k.pos)∧w'.cell? ⟨g,5,none⟩=some (.slice ai i ci))) (by simp) (by kernel_rfl) (by kernel_rfl) (HSK.o _ ((eB_ _ _).drew)) (fun hHeld=> ?_);simp only[lA_];refine tk_ 0 rfl ?_;(try simp only[Act.put,gP_]);refine tk_ 1 rfl ?_;(try simp only[Act.put,gP_]);refine tk_ 2 rfl ?_;(try simp only[Act.put,gP_]);refine rd_ 3 rfl (fun KK hKK=> ?_);simp only[gA_];go_simp;have hbD:=(eB_ V7.heap.size V7).drew;refine eH_ (HC1.o _ hbD) ?_;rintro r w6 ⟨cx6,rfl,hrx,hc6⟩;obtain ⟨ax,cx,rfl⟩:=hrx.form;have hb6:=hbD.trans (hc6.mono hbD.size);have H6:=h3_ hrx hc6 hb6;clear hrx hc6 hbD;dsimp only;refine hKK.out _ _ (HSK.o _ hb6) (fun hHeld=> ?_);clear hKK KK;(try simp only[Act.put,sA_]);have hx7:=Qp (w:=w6) #[.int .i64 k.op,.string ⟨k.name.toArray⟩,.string ⟨k.mod.toArray⟩,.string ⟨(Zp.text k.num).toArray⟩,.bool k.yes,.slice ax k.kids.length cx,.int .i64 k.pos] 33;have hb7:=hb6.trans (hx7.2.mono hb6.size);refine rd_ 4 rfl (fun KK hKK=> ?_);simp only[gA_];go_simp;refine hKK.out _ _ (HSK.o _ hb7) (fun hHeld=> ?_);clear hKK KK;(try simp only[Act.put,sA_]);obtain ⟨i0,hi0,hz0,hz1,hz2⟩:=Qs Q7U;have hb67:Below wr.heap.size wr w6:=HX1.o.trans (hb6.mono HX1.o.size);have hown7:=Qj (Qj HR.B.own hb67) hx7.2;refine rd_ 5 rfl (fun KK hKK=> ?_);simp only[gA_];rw[if_pos (by rfl)];refine Yr (m:=1) (xv:= .slice (some ⟨w6.heap.size,0,none⟩) 1 1) (.tmp 28) (.tmp 31) 31 rfl B 33 i0 _ 7 96 underlying31 hi0 hz0 hz1 hz2 rfl (by decide) (.slice ai i ci) i css.flatten rfl hown7 rfl (Ul (size:=7) (cs:= #[.int .i64 k.op,.string ⟨k.name.toArray⟩,.string ⟨k.mod.toArray⟩,.string ⟨(Zp.text k.num).toArray⟩,.bool k.yes,.slice ax k.kids.length cx,.int .i64 k.pos].toList) hx7.1 rfl) H6.a.ones (by unfold maxLen;omega) (by omega) (eE_ HR.B.size (eE_ hb67.size hx7.2.size)) ?_;intro a2 c2 w8 ho8 hg8 hat8;have hst:=XI.step HR.B HX.C HB.o HKK.o (hb5:=HX1.o.drew) (hb6:=H6.b) (by exact H6.a) rfl ho8 hg8 hat8;have hbx8:=Xd (Qf HX2.o hb7) hown7 hg8 (by decide);obtain ⟨f0,f1,f2,f3,f4,f5,f6,f7⟩:=cells8 hbx8;have f8:=Q3 hst.1 5 rfl;have z5:=Q6 hst.1 5;have HST:=hd_ hst;clear hst ho8 hg8 hat8 hown7 hx7 hb7 hb67 hb6 hbx8;refine hKK.out _ _ (⟨f0,f1,f2,f3,f4,f5,f6,f7,f8⟩) (fun hHeld=> ?_);clear hKK KK;(try simp only[Act.put,sA_]);refine tk_ 6 rfl ?_;(try simp only[Act.put,gP_]);refine wpAnyH_done (by kernel_rfl) ?_ _;unfold PeelQ;dsimp only;go_simp;have e9:w8.setCell ⟨g,5,none⟩ (.slice a2 (i+1) c2)=w8.setRow g (xRow op pos name mod (Zp.text z) yes (.slice a2 (i+1) c2)):=setCell_eq_setRow w8 _ 5 _ _ (0,0) _ HST.a;rw[e9];clear e9 f0 f1 f2 f3 f4 f5 f6 f7 f8 z5;go_wp2_with fail;go_roundg (kids.length - (i+1))
     case measure=> have:=HR.a;omega
     case rel=> exact ⟨i+1,a2,c2,_,by go_num,rfl,by omega,HST.B⟩
    ·obtain rfl:kids.length=i:=(by omega);have q0:=Q3 hI.row 0 rfl;have q1:=Q3 hI.row 1 rfl;have q2:=Q3 hI.row 2 rfl;have q3:=Q3 hI.row 3 rfl;have q4:=Q3 hI.row 4 rfl;have q5:=Q3 hI.row 5 rfl;have q6:=Q3 hI.row 6 rfl;have hrw:=(HM.o _ hI.below).1;have HRW:=hd_ hrw;have HD:=hd_ (XI.done (w:=w) (r:=w.heap.size+1) hI (HM.o _ hI.below).2.1 hrw (Nat.le_succ _) (eI_ (eI_ HL.C HX.C) (Nat.le_of_lt HB.o)));clear hlt hi hI hrw;go_wp2_with (refine Qa rfl _ _ _ rfl 33 (w.heap.size+1) #[.int .i64 0,.string ⟨#[]⟩,.string ⟨#[]⟩,.string ⟨#[]⟩,.bool false,.slice none 0 0,.int .i64 0] (xRow op pos name mod (Zp.text z) yes (.slice ai kids.length ci)) rfl HRW.o rfl rfl Xr (by simp[xRow,Value.oneCell']) ?_);refine eG_ (eY_ rfl _ _ (w.heap.size+1) _ _ _ _ rfl (Qb HRW.o) underlying33 rfl Xr) rfl ?_;exact ⟨_,rfl,HD.a,HD.B⟩
theorem Gm:(prog.info? 98).map (·.size)=some 6:=by kernel_rfl
def clCells (c:Cl):List Value:= [.int .i64 c.op,.int .i64 c.kids,.string ⟨c.name.toArray⟩,.string ⟨c.mod.toArray⟩,.string ⟨c.num.toArray⟩,.bool c.yes]
theorem cells6 {w:World} {T:TypeId} {c0 c1 c2 c3 c4 c5:Value} (h:w.heap[g]? =some (.cells #[c0,c1,c2,c3,c4,c5] T (0,0))):
  w.cell? ⟨g,0,none⟩=some c0∧w.cell? ⟨g,1,none⟩=some c1∧w.cell? ⟨g,2,none⟩=some c2∧w.cell? ⟨g,3,none⟩=some c3∧w.cell? ⟨g,4,none⟩=some c4∧w.cell? ⟨g,5,none⟩=some c5:=
 ⟨Q3 h 0 rfl,Q3 h 1 rfl,Q3 h 2 rfl,Q3 h 3 rfl,Q3 h 4 rfl,Q3 h 5 rfl⟩
theorem Q2A (c:Cl) (w:World):Calls prog 41 #[.agg (clCells c).toArray] w fun r w'=> r= .returned (.int .i64 c.takes)∧Below w.heap.size w w':=by
 obtain ⟨op,kids,name,mod,num,yes⟩:=c;show Calls prog 41 #[.agg #[.int .i64 op,.int .i64 kids,.string ⟨name.toArray⟩,.string ⟨mod.toArray⟩,.string ⟨num.toArray⟩,.bool yes]] w fun r w'=> r= .returned (.int .i64 (Cl.takes ⟨op,kids,name,mod,num,yes⟩))∧Below w.heap.size w w';have hx:=Qp (w:=w) #[.int .i64 op,.int .i64 kids,.string ⟨name.toArray⟩,.string ⟨mod.toArray⟩,.string ⟨num.toArray⟩,.bool yes] 98;obtain ⟨c0,c1,c2,c3,c4,c5⟩:=cells6 hx.1;have HX:=hd_ hx.2;clear hx;by_cases h4:op≤4
 ·have HE:=hd_ (show Cl.takes ⟨op,kids,name,mod,num,yes⟩=0 from if_pos (Or.inl h4));go_in;go_wp2_with fail;go_ret;exact ⟨by rw[HE.o];rfl,HX.o⟩
 ·by_cases h24:24 < op
  ·have HE:=hd_ (show Cl.takes ⟨op,kids,name,mod,num,yes⟩=0 from if_pos (Or.inr h24));go_in;go_wp2_with fail;go_ret;exact ⟨by rw[HE.o];rfl,HX.o⟩
  ·have hE:Cl.takes ⟨op,kids,name,mod,num,yes⟩=if op≤6 then 1 else if op=21 then 3 else if op=24 then min (max kids 0) 9 else 2:=if_neg (by show ¬ (op≤4∨24 < op);omega);by_cases h6:op≤6
   ·rw[if_pos h6] at hE;have HE:=hd_ hE;clear hE;go_in;go_wp2_with fail;go_ret;exact ⟨by rw[HE.o];rfl,HX.o⟩
   ·rw[if_neg h6] at hE;by_cases h21:op=21
    ·rw[if_pos h21] at hE;subst h21;have HE:=hd_ hE;clear hE h4 h24 h6;go_in;go_wp2_with fail;go_ret;exact ⟨by rw[HE.o];rfl,HX.o⟩
    ·rw[if_neg h21] at hE;by_cases h25:op=24
     ·rw[if_pos h25] at hE;subst h25;obtain ⟨m,hm⟩:∃ m,min (max kids 0) 9=m:=⟨_,rfl⟩
      rw[hm] at hE;have HE:=hd_ hE;have HM:=hd_ hm;clear hE h4 h24 h6 hm;go_in;go_wp2_with fail;go_ret;exact ⟨by rw[HE.o, ←HM.o];rfl,HX.o⟩
     ·rw[if_neg h25] at hE;have HE:=hd_ hE;clear hE;go_in;go_wp2_with fail;go_ret;exact ⟨by rw[HE.o];rfl,HX.o⟩
theorem Q7V {w:World} {n:Nat} {css:List (List Value)} (h8:∀ c∈css,c.length=8) (own:w.ownsRow B 30 8 (.slice ao n co) n css.flatten) (hcl:css.length=n) {N:Nat} (hN:N≤n):
  n≤co∧(co=n - N→RdS w (fun _=> True) 8 (.slice ao (n - (n - N)) 0) (n - (n - N)) (css.drop (n - N)).flatten)∧
  (co≠n - N→RdS w (fun _=> True) 8 (.slice (Option.map (fun x=> x.add ((n - N)*8)) ao) (n - (n - N)) (co - (n - N))) (n - (n - N)) (css.drop (n - N)).flatten):=by
 have hlen:(css.drop (n - N)).flatten.length=(n - (n - N))*8:=by
  rw[GE (K:=8) _ fun c hc=> h8 c (List.mem_of_mem_drop hc),List.length_drop,hcl]
 obtain ⟨_,⟨e1,e2⟩ | ⟨g,cap,cur,e1,hg,hcur,hn,hcap,hsz,htk⟩⟩:=own
 ·injection e1 with e1 _ e3;subst e1 e3 e2;have hN0:N=0:=by omega
  subst hN0;refine ⟨rl_ _,fun _=> ⟨hlen,none,0,rfl,rl_ _,Or.inl ⟨rfl,rfl⟩⟩,fun h=> absurd rfl h⟩
 ·injection e1 with e1 _ e3;subst e1 e3;refine ⟨hn,fun e=> ⟨hlen,_,_,rfl,by omega,Or.inr ⟨g,0,rfl,Or.inr trivial,?_⟩⟩,fun e=> ⟨hlen,_,_,rfl,by omega,Or.inr ⟨g,(n - N)*8,?_,Or.inr trivial,?_⟩⟩⟩
  ·have h0:(css.drop (n - N)).flatten= []:=List.eq_nil_of_length_eq_zero (by rw[hlen];omega);rw[h0];exact YO _ _ _
  ·simp[Addr.add];try omega
  ·intro j v hj;rw[←UE css (n - N) h8,List.getElem?_drop] at hj;rw[Ye hcur];rw[←htk,List.getElem?_take] at hj;split at hj
   ·simpa using hj
   ·cases hj
theorem Q8e {w7 w9:World} {c:Cl} {N:Nat} {a7 a9:Option Addr} {c7 c9 g8 lq cq:Nat} {css:List (List Value)} {bq:Bool} {aq:Option Addr} {zq:Int} {R7:Array Value}
  (hB:V.heap.size=B) (hcl:css.length=o.length) (h8:∀ c∈css,c.length=8) (own:wr.ownsRow B 30 8 (.slice ao o.length co) o.length css.flatten)
  (hrd:∀ (i:Nat) (e:Ex) (c:List Value),o[i]? =some e→css[i]? =some c→RdE wr (OffW B wr (.slice ao o.length co)) e c)
  (hbw:Below B V wr) (hN:c.n o=N) (hb5:Below wr.heap.size wr w5) (hg8:wr.heap.size≤g8) (hg8':g8 < w5.heap.size) (hnum:Num w5 (.agg #[.bool bq,.slice aq lq cq]) zq) (hval:c.val=zq)
  (hm:m=o.length - (o.length - N)) (ho7:w7.ownsRow w5.heap.size 30 8 (.slice a7 m c7) m (css.drop (o.length - N)).flatten) (hg7:(w5.alloc (.cells #[] 30)).grownBy w7 (some w5.heap.size))
  (hR7:w7.heap[g8]? =some (.cells R7 30 (0,0)))
  (ho9:w9.ownsRow B 30 8 (.slice a9 (o.length - N+1) c9) (o.length - N+1) ((css.take (o.length - N)).flatten++ [.int .i64 c.op,.string ⟨c.name.toArray⟩,.string ⟨c.mod.toArray⟩,.bool bq,.slice aq lq cq,.bool c.yes,.slice a7 m c7,.int .i64 0]))
  {R8 R9:Array Value} (hg9d:(((w7.setRow g8 R8).alloc (.cells R9 30)).drew).grownBy w9 (Value.slice ao (o.length - N) co).ownBlock)
  (hatd:∀ k,(Value.slice a9 (o.length - N+1) c9).ownBlock=some k→(Value.slice ao (o.length - N) co).ownBlock=some k∨k=(((w7.setRow g8 R8).alloc (.cells R9 30)).drew).heap.size):
  EL w9 B (.slice a9 (Cl.put o c).length c9) (Cl.put o c)∧Below B V w9∧(Cl.put o c).length=o.length - N+1:=by
 have hg9:(((w7.setRow g8 R8).drew).alloc (.cells R9 30)).grownBy w9 (Value.slice ao (o.length - N) co).ownBlock:=⟨hg9d.os,hg9d.tape,hg9d.output,hg9d.size,hg9d.block⟩
 have hat:∀ k,(Value.slice a9 (o.length - N+1) c9).ownBlock=some k→(Value.slice ao (o.length - N) co).ownBlock=some k∨k=(((w7.setRow g8 R8).drew).alloc (.cells R9 30)).heap.size:=hatd;have hpl:(Cl.put o c).length=o.length - N+1:=by unfold Cl.put;rw[hN,eC_,eN_];simp
 have hs5:=hb5.size;have hsw:=hbw.size;have hs7:=hg7.size;rw[←Q5] at hs7;have hs9:=hg9.size;rw[←Q5] at hs9;have hs8:((w7.setRow g8 R8).drew).heap.size=w7.heap.size:=by show (w7.setRow g8 R8).heap.size=_;rw[Qo]
 rw[hs8] at hs9;have hob:∀ k,(Value.slice ao (o.length - N) co).ownBlock=some k→B≤k∧k < wr.heap.size:=fun k hk=> own.lt k (by cases ao with | none=> cases hk | some a=> exact hk);have hob2:∀ k,(Value.slice ao o.length co).ownBlock≠some k→(Value.slice ao (o.length - N) co).ownBlock≠some k:=fun k hk e=> hk (by cases ao with | none=> cases e | some a=> exact e);have hkeep:∀ k,k < w7.heap.size→k≠g8→k≠w5.heap.size→(Value.slice ao (o.length - N) co).ownBlock≠some k→k < w5.heap.size→w9.heap[k]? =w5.heap[k]? :=fun k h1 h2 h3 h4 h5=> by
  rw[hg9.block k (by rw[←Q5,hs8];omega) (fun e=> h4 e.symm),eJ_ _ _ _ (by rw[hs8];exact h1)];show (w7.setRow g8 R8).heap[k]? =_;rw[Qd h2,hg7.block k (by rw[←Q5];omega) (fun e=> h3 (Option.some.inj e)),eJ_ _ _ _ h5]
 have hkw:∀ k,k < wr.heap.size→(Value.slice ao (o.length - N) co).ownBlock≠some k→w9.heap[k]? =wr.heap[k]? :=fun k h1 h2=> by
  rw[hkeep k (by omega) (by omega) (by omega) h2 (by omega),hb5.block k h1]
 have hft5:FrT [30] w5 w9:=by
  refine ((FrT.of (Qi w5 (.cells #[] 30))).trans (YC (ho:=World.ownsRow_lit (base:=w5.heap.size) (size:=8) w5 #[] 0 (rl_ _) (by decide) rfl) (by exact hg7) (by decide))).trans ?_;refine (Qq hR7 (vs:=R8)).trans ((FrT.of (eB_ _ _).drew).trans ((FrT.of (Qi _ _)).trans (?_:FrT [30] (((w7.setRow g8 R8).drew).alloc (.cells R9 30)) w9)));refine ⟨hg9.os,hg9.tape,hg9.output,hg9.size,fun k x hk hn=> ?_⟩;rw[hg9.block k (Q4 hk) fun e=> ?_,hk];have hb1:=hob k e.symm;obtain ⟨cur,hc⟩:=Qk own (show (Value.slice ao o.length co).ownBlock=some k by cases ao with | none=> cases e | some a=> exact e.symm);have h2:(((w7.setRow g8 R8).drew).alloc (.cells R9 30)).heap[k]? =wr.heap[k]? :=by
   rw[eJ_ _ _ _ (by rw[hs8];omega)];show (w7.setRow g8 R8).heap[k]? =_;rw[Qd (by omega),hg7.block k (by rw[←Q5];omega) (fun e=> by have:=Option.some.inj e;omega),eJ_ _ _ _ (by omega),hb5.block k hb1.2]
  rw[h2,hc] at hk;injection hk with hk;subst hk;simp at hn
 have hftw:FrT [30] wr w9:=(FrT.of hb5).trans hft5;have him:∀ q,OffW B wr (.slice ao o.length co) q→OffW B w9 (.slice a9 (Cl.put o c).length c9) q:=fun q hq=> ⟨hq.1,by have:=hq.2.1;omega,fun e=> by
  rcases hat q (by cases a9 with | none=> cases e | some a=> exact e) with e2 | e2
  ·exact hob2 q hq.2.2 e2
  ·rw[←Q5,hs8] at e2;have:=hq.2.1;omega⟩
 have hold:∀ (i:Nat) (e:Ex) (c':List Value),o[i]? =some e→css[i]? =some c'→RdE w9 (OffW B w9 (.slice a9 (Cl.put o c).length c9)) e c':=fun i e c' h1 h2=>
  ((hrd i e c' h1 h2).keep (fun q hq=> hkw q hq.2.1 (hob2 q hq.2.2)) hftw).imp him
 refine ⟨⟨css.take (o.length - N)++ [[.int .i64 c.op,.string ⟨c.name.toArray⟩,.string ⟨c.mod.toArray⟩,.bool bq,.slice aq lq cq,.bool c.yes,.slice a7 m c7,.int .i64 0]],?_,fun x hx=> ?_,?_,fun i e c' h1 h2=> ?_⟩,?_,hpl⟩
 ·rw[hpl,eC_,eN_];simp;omega
 ·rcases List.mem_append.1 hx with hx | hx
  ·exact h8 x (List.mem_of_mem_take hx)
  ·rw[List.mem_singleton.1 hx];rfl
 ·rw[hpl,List.flatten_append,List.flatten_singleton];exact ho9
 ·unfold Cl.put at h1;rw[hN] at h1;have htl:(o.take (o.length - N)).length=o.length - N:=by rw[eN_];omega
  have htc:(css.take (o.length - N)).length=o.length - N:=by rw[eN_];omega
  rcases eS_ i (o.length - N) with hi | hi
  ·rw[eT_ (by omega),List.getElem?_take,if_pos hi] at h1;rw[eT_ (by omega),List.getElem?_take,if_pos hi] at h2;exact hold i e c' h1 h2
  ·rw[eO_ (by omega),htl] at h1;rw[eO_ (by omega),htc] at h2;cases hd:i - (o.length - N) with
   | succ d=> rw[hd] at h1;simp at h1
   | zero=>
    rw[hd] at h1 h2;simp only[eZ_,Option.some.injEq] at h1 h2;subst h1 h2;obtain ⟨hn1,hn2⟩:bq=decide (zq < 0)∧RdU w5 (.slice aq lq cq) (wd zq):=by
     obtain ⟨s,e1,e2⟩:=hnum;injection e1 with e1;simp only[Array.mk.injEq,List.cons.injEq,Value.bool.injEq,and_true] at e1;exact ⟨e1.1,by rw[e1.2];exact e2⟩
    have hkl:(o.drop (o.length - N)).length=m:=(by rw[List.length_drop,hm]);unfold Cl.ex;rw[hval,hn1];refine RdE.mk (css.drop (o.length - N)) (RdB.frt hn2 hft5 (by decide)) (by rw[List.length_drop,List.length_drop,hcl]) (fun x hx=> h8 x (List.mem_of_mem_drop hx)) ?_ fun i' k' x' h1 h2=> ?_
    ·rw[hkl];refine (RdS.own (Qg ho7 fun k hk=> ?_)).imp fun k hk=> ?_
     ·have:=ho7.lt k hk;rw[hg9.block k (by rw[←Q5,hs8];omega) (fun e=> by have:=hob k e.symm;omega),eJ_ _ _ _ (by rw[hs8];exact this.2)];show (w7.setRow g8 R8).heap[k]? =_;rw[Qd (by omega)]
     ·have h3:=ho7.lt k hk.1;refine ⟨by omega,by omega,fun e=> ?_⟩;rcases hat k (by cases a9 with | none=> cases e | some a=> exact e) with e2 | e2
      ·have:=hob k e2;omega
      ·rw[←Q5,hs8] at e2;omega
    ·rw[List.getElem?_drop] at h1 h2;exact hold _ k' x' h1 h2
 ·refine ⟨hg9.os.trans (hg7.os.trans (hb5.os.trans hbw.os)),hg9.tape.trans (hg7.tape.trans (hb5.tape.trans hbw.tape)),hg9.output.trans (hg7.output.trans (hb5.output.trans hbw.output)),by omega,fun k hk=> ?_⟩;rw[hkw k (by omega) (fun e=> by have:=(hob k e).1;omega)];exact hbw.block k (by omega)
namespace Tp
end Tp
theorem Q3Z {w:World} (h:Num w v z):∃ b a c,v= .agg #[.bool b,.slice a (wd z).length c]∧Num w (.agg #[.bool b,.slice a (wd z).length c]) z:=by
 obtain ⟨s,rfl,h⟩:=h;obtain ⟨a,c,rfl⟩:=RdS.form h;exact ⟨_,a,c,rfl,⟨_,rfl,h⟩⟩
theorem XP {w:World} {T:TypeId} {fr:Nat × Nat} (h:w.heap[g]? =some (.cells zs T fr)):w.setRow g zs=w:=by
 cases w with
 | mk heap os tape output=>
  simp only[World.setRow];congr 1;apply Array.ext_getElem?;intro k;rw[Array.getElem?_modify];split
  ·rename_i e;subst e;have h':heap[g]? =some (.cells zs T fr):=h;rw[h'];rfl
  ·rfl
theorem UF {P:Program} {ops:Array Oper} {rest:List Oper} {o:Oper} {a:Act} {Q:Exit→Act→World→Prop} {w1:World} (hgd:o.guard=none) (ty:TypeId) (x v:Operand) (ho:o.op= .store ty x v)
  (T:TypeId) (g off:Nat) (zs vs R:Array Value) (hx:a.eval x= .pointer (some ⟨g,off,none⟩)) (hg:w1.heap[g]? =some (.cells zs T (0,0))) (hv:a.eval v= .agg vs) (hz:off+vs.size≤zs.size) (hi:(P.info? ty).map (·.size)=some vs.size) (h1:∀ u∈vs.toList,u.oneCell'=true)
  (hR:(zs.toList.take off++vs.toList++zs.toList.drop (off+vs.size)).toArray=R) (h:wpList P ops Q rest (a.put o.dst undef) (w1.setRow g R)):wpList P ops Q (o::rest) a w1:=by
 refine wpList_plain hgd fun K hK=> ?_;have hst:=run_storeCells_at (P:=P) g off T vs.toList 0 zs w1 hg (by simp;omega) h1;have e:(zs.toList.take (off+0)++vs.toList++zs.toList.drop (off+0+vs.toList.length)).toArray=R:=by
  rw[←hR];simp
 rw[e] at hst;cases hq:P.info? ty with
 | none=> simp[hq] at hi
 | some i=>
  have hs:i.size=vs.size:=by simpa [hq] using hi
  unfold Oper.wp execOp;simp only[ho,hx,hv,Instr.storeAt,Instr.sureAddr,Sem.run_bind,Sem.run_pure,Result.andThen_ok,storeVar,sizeOf,typeInfo,Value.cells];simp[hq,hs,hst];exact hK _ _ h
theorem RdE.keepT {ts:List TypeId} {w:World} {P:Nat→Prop} (h:RdE w P e cs) (hk:Keeps P w w') (hf:FrT ts w w') (hu:174∉ts):RdE w' P e cs:=by
 induction h with
 | mk css hs hl hc hv _ ih=> exact .mk css (RdB.frt hs hf hu) hl hc (hv.keep hk) ih
def MBoth (w:World) (r:Ending) (w':World):Prop:=
 ∃ (cs cx:List Value) (ok:Bool),r= .returned (.tuple #[.agg cs.toArray,.agg cx.toArray,.bool ok])∧Below w.heap.size w w'∧
  ((ok=false∧cs= [.int .i64 0,.string ⟨#[]⟩,.string ⟨#[]⟩,.bool false,.slice none 0 0,.bool false,.slice none 0 0,.int .i64 0]∧cx= [.int .i64 0,.string ⟨#[]⟩,.string ⟨#[]⟩,.string ⟨#[]⟩,.bool false,.slice none 0 0,.int .i64 0])∨(ok=true∧∃ e,RdE w' (New w w') e cs∧RdX w' (New w w') e cx∧Ex.Sm e∧Ex.wl e≤5270))
theorem Q74 {w:World} {P:Nat→Prop} {α:Type} {f:α→List Value} (hf:∀ x,(f x).length=K) {l:List α} {a:Option Addr} {n c:Nat} (h:RdS w P K (.slice a n c) l.length (l.flatMap f)) {i:Nat} {x:α} (hi:l[i]? =some x):
  ∃ b off,a=some ⟨b,off,none⟩∧w.rangeAt b (off+i*K) (f x):=by
 obtain ⟨_,a',c',e,_,h4⟩:=h;injection e with e1 e2 e3;subst e1;have hlt:=(List.getElem?_eq_some_iff.1 hi).1;rcases h4 with ⟨_,h4⟩ | ⟨b,off,rfl,h5,h6⟩
 ·omega
 ·refine ⟨b,off,rfl,Y1 (l.map f) (fun c hc=> ?_) (by rw[←List.flatMap_def];exact h6) (by rw[List.getElem?_map,hi];rfl)⟩;obtain ⟨y,_,rfl⟩:=List.mem_map.1 hc;exact hf y
theorem Q7W {w:World} {P:Nat→Prop} {css:List (List Value)} (hcl:css.length=o.length) (hrd:∀ (i:Nat) (e:Ex) (c:List Value),o[i]? =some e→css[i]? =some c→RdE w P e c) (k:Nat):∀ u∈(css.drop k).flatten,u.oneCell'=true:=by
 intro u hu;obtain ⟨c,hc,huc⟩:=List.mem_flatten.1 hu;obtain ⟨i,hi⟩:=List.mem_iff_getElem?.1 (List.mem_of_mem_drop hc);have hlt:=(List.getElem?_eq_some_iff.1 hi).1;exact (hrd i _ c (eA_ (by omega)) hi).ones u huc
def MbRel (V:World) (cls:List Cl) (gk:Nat) (v5 v18:Value) (wr:World):Prop:=
 ∃ (j:Nat) (o:List Ex) (a:Option Addr) (c:Nat),v5= .slice a o.length c∧v18= .int .i64 (j:Int)∧gk=cls.length - j∧j≤cls.length∧Fine j o∧EL wr V.heap.size (.slice a o.length c) o∧Below V.heap.size V wr
theorem Q2B {w:World} {P:Nat→Prop} {cls:List Cl} (h:RdS w P 6 v cls.length (cls.flatMap clCells)) (hP:∀ k,P k→k < w.heap.size):Calls prog 8 #[v] w (MBoth w):=by
 obtain ⟨a,c,rfl⟩:=h.form;have hbx:=box2 w #[.int .i64 0,.string ⟨#[]⟩,.string ⟨#[]⟩,.bool false,.slice none 0 0,.bool false,.slice none 0 0,.int .i64 0] 30 #[.int .i64 0,.string ⟨#[]⟩,.string ⟨#[]⟩,.string ⟨#[]⟩,.bool false,.slice none 0 0,.int .i64 0] 33;obtain ⟨V,hV⟩:∃ V,(w.alloc (.cells #[.int .i64 0,.string ⟨#[]⟩,.string ⟨#[]⟩,.bool false,.slice none 0 0,.bool false,.slice none 0 0,.int .i64 0] 30)).alloc (.cells #[.int .i64 0,.string ⟨#[]⟩,.string ⟨#[]⟩,.string ⟨#[]⟩,.bool false,.slice none 0 0,.int .i64 0] 33)=V:=⟨_,rfl⟩
 have HVV:=hd_ hV;rw[hV] at hbx;have HM:Hid (∀ W,Below V.heap.size V W→W.heap[w.heap.size]? =some (.cells #[.int .i64 0,.string ⟨#[]⟩,.string ⟨#[]⟩,.bool false,.slice none 0 0,.bool false,.slice none 0 0,.int .i64 0] 30 (0,0))∧W.heap[w.heap.size+1]? =some (.cells #[.int .i64 0,.string ⟨#[]⟩,.string ⟨#[]⟩,.string ⟨#[]⟩,.bool false,.slice none 0 0,.int .i64 0] 33 (0,0))∧Below w.heap.size w W):=fun W hb=> ⟨Qf hbx.1 hb,Qf hbx.2.1 hb,hbx.2.2.trans (hb.mono hbx.2.2.size)⟩;have HC:Hid (∀ W,Below V.heap.size V W→∀ (i:Nat) (x:Cl),cls[i]? =some x→∃ b off,a=some ⟨b,off,none⟩∧W.rangeAt b (off+i*6) (clCells x)):=fun W hb i x hi=> Q74 (f:=clCells) (fun _=> rfl) (h.keep (Keeps.of (HM W hb).2.2 hP)) hi;have HVs:=hd_ (Q4 hbx.2.1);clear h hP hbx hV;by_cases h30:30 < cls.length
 ·have h31:(30:Int) < (cls.length:Int):=by omega
  have hm:=HM.o V (eB_ _ _);have H:=hd_ hm;clear hm;go_in;go_wp2_with (first | (rw[HVV.o];refine Qa rfl 30 _ _ rfl 30 w.heap.size #[.int .i64 0,.string ⟨#[]⟩,.string ⟨#[]⟩,.bool false,.slice none 0 0,.bool false,.slice none 0 0,.int .i64 0] #[.int .i64 0,.string ⟨#[]⟩,.string ⟨#[]⟩,.bool false,.slice none 0 0,.bool false,.slice none 0 0,.int .i64 0] rfl H.a rfl rfl Qr (by simp[Value.oneCell']) ?_;rw[XP H.a]) | (refine Qa rfl 33 _ _ rfl 33 (w.heap.size+1) #[.int .i64 0,.string ⟨#[]⟩,.string ⟨#[]⟩,.string ⟨#[]⟩,.bool false,.slice none 0 0,.int .i64 0] #[.int .i64 0,.string ⟨#[]⟩,.string ⟨#[]⟩,.string ⟨#[]⟩,.bool false,.slice none 0 0,.int .i64 0] rfl H.b rfl rfl Xr (by simp[Value.oneCell']) ?_;rw[XP H.b]));refine eG_ (XC rfl _ _ _ _ _ _ _ _ _ _ _ _ rfl rfl H.a H.b underlying30 rfl Qr underlying33 rfl Xr rfl) rfl ?_;exact ⟨[.int .i64 0,.string ⟨#[]⟩,.string ⟨#[]⟩,.bool false,.slice none 0 0,.bool false,.slice none 0 0,.int .i64 0], [.int .i64 0,.string ⟨#[]⟩,.string ⟨#[]⟩,.string ⟨#[]⟩,.bool false,.slice none 0 0,.int .i64 0],false,rfl,H.C,Or.inl ⟨rfl,rfl,rfl⟩⟩
 ·have h31:¬ (30:Int) < (cls.length:Int):=by omega
  have HL:=hd_ h30;have hcl:(cls.length:Int)≤30:=by omega
  clear h30;go_in;go_wp2_with fail;rw[HVV.o];go_loopg [5,18] cls.length (fun k v5 v18 wr=> MbRel V cls k v5 v18 wr)
  case atStart=> exact ⟨0, [],none,0,rfl,rfl,rfl,eV_ _,Fine.nil,EL.nil _ _,eB_ _ _⟩
  case round=>
   obtain ⟨j,o,ao,co,rfl,rfl,hgk,hj,hfi,hel,hbw⟩:=hrel;have HR:=h4_ hgk hfi hel hbw;have hol:=hfi.len (by omega);clear hgk hfi hel hbw;by_cases hlt:j < cls.length
   ·have hlt':(j:Int) < (cls.length:Int):=(by omega);obtain ⟨x,hx⟩:∃ k,cls[j]? =some k:=⟨_,eA_ hlt⟩
    obtain ⟨bk,off,q1,hr⟩:=HC.o wr HR.D j x hx;subst q1;obtain ⟨op,ks,nm,md,nu,ys⟩:=x;have HG:=hd_ (show wr.rangeAt bk (off+j*6) [.int .i64 op,.int .i64 ks,.string ⟨nm.toArray⟩,.string ⟨md.toArray⟩,.string ⟨nu.toArray⟩,.bool ys] from hr);have hx1:=Qp (w:=wr) #[.int .i64 op,.int .i64 ks,.string ⟨nm.toArray⟩,.string ⟨md.toArray⟩,.string ⟨nu.toArray⟩,.bool ys] 98;obtain ⟨W1,hW1⟩:∃ W,wr.alloc (.cells #[.int .i64 op,.int .i64 ks,.string ⟨nm.toArray⟩,.string ⟨md.toArray⟩,.string ⟨nu.toArray⟩,.bool ys] 98)=W:=⟨_,rfl⟩
    rw[hW1] at hx1;have HW1:=hd_ hW1;have hb1:Below V.heap.size V W1:=HR.D.trans (hx1.2.mono HR.D.size);have H1:=h3_ hx1.1 hx1.2 hb1;obtain ⟨a0,a1,a2,a3,a4,a5⟩:=cells6 hx1.1;by_cases hok:Cl.ok ⟨op,ks,nm,md,nu,ys⟩=true
    ·have HOK:=hd_ hok;unfold Cl.ok at hok;simp only[Bool.and_eq_true,decide_eq_true_eq] at hok;obtain ⟨⟨o1,o2⟩,o3⟩:=hok;have p1:decide ((60:Int) < (nm.length:Int))=false:=eK_ (by omega);have p2:decide ((60:Int) < (md.length:Int))=false:=eK_ (by omega);have p3:decide ((80:Int) < (nu.length:Int))=false:=eK_ (by omega);clear hr hx hx1 hW1 hb1 o1 o2 o3;have hx2:=Qp (w:=W1) #[.int .i64 op,.string ⟨nm.toArray⟩,.string ⟨md.toArray⟩,.bool false,.slice none 0 0,.bool ys,.slice none 0 0,.int .i64 0] 30;obtain ⟨W2,hW2⟩:∃ W,W1.alloc (.cells #[.int .i64 op,.string ⟨nm.toArray⟩,.string ⟨md.toArray⟩,.bool false,.slice none 0 0,.bool ys,.slice none 0 0,.int .i64 0] 30)=W:=⟨_,rfl⟩
     rw[hW2] at hx2;have HW2:=hd_ hW2;have hb2:Below V.heap.size V W2:=H1.C.trans (hx2.2.mono H1.C.size);have b12:=Qf H1.a hx2.2;have HB2:=h4_ hx2.1 hx2.2 hb2 b12;obtain ⟨d0,d1,d2,d3,d4,d5⟩:=cells6 b12;clear hx2 hW2 hb2 b12;rcases Decidable.em (op=1) with q1 | q1
     case' inl=>
      have b1:(op==1)=true:=(by simp[q1]);have HQ1:=hd_ q1;clear q1;go_wp2_with (first
       | (refine wpList_load_mid rfl 98 _ rfl bk (off+j*6) rfl _ _ HG.o underlying98 rfl rfl ?_)
       | (refine Q9 rfl 98 _ _ rfl 98 #[.int .i64 0,.int .i64 0,.string ⟨#[]⟩,.string ⟨#[]⟩,.string ⟨#[]⟩,.bool false] #[.int .i64 op,.int .i64 ks,.string ⟨nm.toArray⟩,.string ⟨md.toArray⟩,.string ⟨nu.toArray⟩,.bool ys] rfl rfl rfl Gm (by simp[Value.oneCell']) ?_;rw[HW1.o];refine XB ?_))
      refine Stop.go ?_;go_wp2_with (refine Q9 rfl 30 _ _ rfl 30 #[.int .i64 0,.string ⟨#[]⟩,.string ⟨#[]⟩,.bool false,.slice none 0 0,.bool false,.slice none 0 0,.int .i64 0] #[.int .i64 op,.string ⟨nm.toArray⟩,.string ⟨md.toArray⟩,.bool false,.slice none 0 0,.bool ys,.slice none 0 0,.int .i64 0] rfl rfl rfl Qr (by simp[Value.oneCell']) ?_;rw[HW2.o];refine XB ?_);refine Stop.go ?_;go_wp2_with fail;have hnl:nu.length≤1073741824:=(by have h9:=HOK.o;unfold Cl.ok at h9;simp only[Bool.and_eq_true,decide_eq_true_eq] at h9;omega);refine eH_ (Ue nu hnl W2) ?_;rintro r w3 ⟨⟨v3,rfl,hn3⟩,hb3⟩;obtain ⟨bq,aq,cq,rfl,hn3⟩:=Q3Z hn3;obtain ⟨zq,hzq⟩:∃ z,(Zp.parse nu).1=z:=⟨_,rfl⟩
      rw[hzq] at hn3 ⊢;obtain ⟨lq,hlq⟩:∃ l,(wd zq).length=l:=⟨_,rfl⟩
      rw[hlq] at hn3 ⊢;have hv3:=Qf HB2.a hb3;have H3:=hd_ hv3;have HQ:Hid ((w3.setRow W1.heap.size #[.int .i64 op,.string ⟨nm.toArray⟩,.string ⟨md.toArray⟩,.bool bq,.slice aq lq cq,.bool ys,.slice none 0 0,.int .i64 0]).heap[W1.heap.size]? =some (.cells #[.int .i64 op,.string ⟨nm.toArray⟩,.string ⟨md.toArray⟩,.bool bq,.slice aq lq cq,.bool ys,.slice none 0 0,.int .i64 0] 30 (0,0))∧Num (w3.setRow W1.heap.size #[.int .i64 op,.string ⟨nm.toArray⟩,.string ⟨md.toArray⟩,.bool bq,.slice aq lq cq,.bool ys,.slice none 0 0,.int .i64 0]) (.agg #[.bool bq,.slice aq lq cq]) zq∧Below W1.heap.size W1 (w3.setRow W1.heap.size #[.int .i64 op,.string ⟨nm.toArray⟩,.string ⟨md.toArray⟩,.bool bq,.slice aq lq cq,.bool ys,.slice none 0 0,.int .i64 0])∧W1.heap.size < (w3.setRow W1.heap.size #[.int .i64 op,.string ⟨nm.toArray⟩,.string ⟨md.toArray⟩,.bool bq,.slice aq lq cq,.bool ys,.slice none 0 0,.int .i64 0]).heap.size∧Cl.val ⟨op,ks,nm,md,nu,ys⟩=zq):=⟨Qb hv3,hn3.frt (Qq hv3) (by decide),Qc (HB2.b.trans (hb3.mono HB2.b.size)) (rl_ _) _,by rw[Qo];exact Q4 hv3,by unfold Cl.val;rw[if_pos HQ1.o];exact hzq⟩
      clear hnl hn3 hzq hlq hb3 hv3 d0 d1 d2 d3 d4 d5;dsimp only;go_wp2_with (refine UF rfl 27 _ _ rfl 30 W1.heap.size 3 #[.int .i64 op,.string ⟨nm.toArray⟩,.string ⟨md.toArray⟩,.bool false,.slice none 0 0,.bool ys,.slice none 0 0,.int .i64 0] #[.bool bq,.slice aq lq cq] #[.int .i64 op,.string ⟨nm.toArray⟩,.string ⟨md.toArray⟩,.bool bq,.slice aq lq cq,.bool ys,.slice none 0 0,.int .i64 0] rfl H3.o rfl (by simp) ZU (by simp[Value.oneCell']) rfl ?_;refine XB ?_);refine Stop.go ?_;generalize w3.setRow W1.heap.size #[.int .i64 op,.string ⟨nm.toArray⟩,.string ⟨md.toArray⟩,.bool bq,.slice aq lq cq,.bool ys,.slice none 0 0,.int .i64 0]=W4 at HQ ⊢;clear b1 HQ1 H3
     case' inr=>
      have b1:(op==1)=false:=beq_false_of_ne q1;have HQ1:=hd_ q1;clear q1;go_wp2_with (first
       | (refine wpList_load_mid rfl 98 _ rfl bk (off+j*6) rfl _ _ HG.o underlying98 rfl rfl ?_)
       | (refine Q9 rfl 98 _ _ rfl 98 #[.int .i64 0,.int .i64 0,.string ⟨#[]⟩,.string ⟨#[]⟩,.string ⟨#[]⟩,.bool false] #[.int .i64 op,.int .i64 ks,.string ⟨nm.toArray⟩,.string ⟨md.toArray⟩,.string ⟨nu.toArray⟩,.bool ys] rfl rfl rfl Gm (by simp[Value.oneCell']) ?_;rw[HW1.o];refine XB ?_))
      refine Stop.go ?_;go_wp2_with (refine Q9 rfl 30 _ _ rfl 30 #[.int .i64 0,.string ⟨#[]⟩,.string ⟨#[]⟩,.bool false,.slice none 0 0,.bool false,.slice none 0 0,.int .i64 0] #[.int .i64 op,.string ⟨nm.toArray⟩,.string ⟨md.toArray⟩,.bool false,.slice none 0 0,.bool ys,.slice none 0 0,.int .i64 0] rfl rfl rfl Qr (by simp[Value.oneCell']) ?_;rw[HW2.o];refine XB ?_);refine Stop.go ?_;go_wp2_with fail;obtain ⟨bq,aq,lq,cq,zq,hq⟩:∃ (bq:Bool) (aq:Option Addr) (lq cq:Nat) (zq:Int),W2.heap[W1.heap.size]? =some (.cells #[.int .i64 op,.string ⟨nm.toArray⟩,.string ⟨md.toArray⟩,.bool bq,.slice aq lq cq,.bool ys,.slice none 0 0,.int .i64 0] 30 (0,0))∧Num W2 (.agg #[.bool bq,.slice aq lq cq]) zq∧Below W1.heap.size W1 W2∧W1.heap.size < W2.heap.size∧Cl.val ⟨op,ks,nm,md,nu,ys⟩=zq:=⟨false,none,0,0,0,HB2.a,Num.zero _,HB2.b,Q4 HB2.a,by unfold Cl.val;rw[if_neg HQ1.o]⟩
      have HQ:=hd_ hq;clear hq d0 d1 d2 d3 d4 d5 HW2 HB2;generalize W2=W4 at HQ ⊢;clear b1 HQ1
     all_goals (
      have g7:=Qf H1.a HQ.c;obtain ⟨d0,d1,d2,d3,d4,d5⟩:=cells6 g7;have HG7:=hd_ g7;clear g7
      (try go_wp2_with fail);refine eH_ (Q2A ⟨op,ks,nm,md,nu,ys⟩ W4) ?_;rintro r w5 ⟨rfl,hb5⟩;obtain ⟨tk,htk⟩:∃ t,Cl.takes ⟨op,ks,nm,md,nu,ys⟩=t:=⟨_,rfl⟩
      obtain ⟨N,hN⟩:∃ N,Cl.n ⟨op,ks,nm,md,nu,ys⟩ o=N:=⟨_,rfl⟩
      have hmin:min tk (o.length:Int)=(N:Int):=by
       have h9:=Cl.takes_nonneg ⟨op,ks,nm,md,nu,ys⟩;rw[←hN,Cl.n,htk];rw[htk] at h9;omega
      have hNo:N≤o.length:=(by rw[←hN];exact Nat.min_le_right _ _);have hsub:(o.length:Int) - (N:Int)=((o.length - N:Nat):Int):=(by omega);rw[htk];have HN:=h2_ hN hNo;have H5:=hd_ hb5;clear htk hN hb5 d0 d1 d2 d3 d4 d5;dsimp only;obtain ⟨css,c1,c2,c3,c4⟩:=HR.c;have hbr5:Below wr.heap.size wr w5:=H1.b.trans ((HQ.c.mono H1.b.size).trans (H5.o.mono (eE_ H1.b.size HQ.c.size)));have hx6:=Qi w5 (.cells #[] 30);have hbr6:Below wr.heap.size wr (w5.alloc (.cells #[] 30)):=hbr5.trans (hx6.mono hbr5.size);have htail:=Q7V (w:=w5.alloc (.cells #[] 30)) c2 (Qj c3 hbr6) c1 HN.B;have hR5:=Qf HQ.a H5.o;have hg85:wr.heap.size≤W1.heap.size:=H1.b.size;obtain ⟨cc,hcc⟩:∃ cc,cc=co:=⟨_,rfl⟩
      rw[←hcc] at c3 c4;have HCC:=hd_ hcc;have HEL:=h4_ c1 c2 c3 c4;have hle2:o.length≤co:=htail.1;have hle3:o.length - N≤co:=(by omega);have hwr:IntKind.i64.wrap ((o.length - N:Nat):Int)=((o.length - N:Nat):Int):=(by rw[IntKind.wrap_i64];omega);have H6:=h4_ hbr5 hR5 hg85 (Q4 hR5);have HT:=hd_ htail.2;have hone:=Q7W c1 c4 (o.length - N);have HO:=hd_ hone;obtain ⟨i0,hi0,hz0,hz1,hz2⟩:=Qs Q4n;have HI:=h4_ hi0 hz0 hz1 hz2;obtain ⟨m,hm⟩:∃ m,o.length - (o.length - N)=m:=⟨_,rfl⟩
      have HMM:=hd_ hm;have hml:m≤60:=(by omega);rw[hm] at HT;clear hcc c1 c2 c3 c4 hbr5 hx6 hbr6 htail hR5 hg85 hone hi0 hz0 hz1 hz2;rcases Decidable.em (co=o.length - N) with hco | hco
      case' inl=>
       have hx7:=HT.a hco;have HX7:=hd_ hx7;have HCO:=hd_ hco;clear hx7 hco;have hco2:(co==o.length - N)=true:=by rw[HCO.o];exact beq_self_eq_true _
      case' inr=>
       have hx7:=HT.B hco;have HX7:=hd_ hx7;clear hx7
      all_goals (
       clear hm;go_wp2_with (at_builtin;refine XB ?_);refine Stop.go ?_;simp only[HMM.o];refine QD rfl _ _ 28 rfl w5.heap.size 30 i0 (.agg #[.int .i64 0,.string ⟨#[]⟩,.string ⟨#[]⟩,.bool false,.slice none 0 0,.bool false,.slice none 0 0,.int .i64 0]) 8 112 underlying28 HI.a HI.b HI.c HI.D rfl (by decide) (.slice (some ⟨w5.heap.size,0,none⟩) 0 0) 0 [] rfl (World.ownsRow_lit (base:=w5.heap.size) (size:=8) w5 #[] 0 (rl_ _) (by decide) rfl) rfl HX7.o HO.o (by unfold maxLen;omega) (by omega) (Nat.le_of_lt (X9 _ _)) ?_;intro a7 c7 w7 ho7 hg7 hat7;rw[Nat.zero_add,List.nil_append] at ho7;simp only[Nat.zero_add];replace hg7:(w5.alloc (.cells #[] 30)).grownBy w7 (some w5.heap.size):=hg7;have hR7:w7.heap[W1.heap.size]? =some (.cells #[.int .i64 op,.string ⟨nm.toArray⟩,.string ⟨md.toArray⟩,.bool bq,.slice aq lq cq,.bool ys,.slice none 0 0,.int .i64 0] 30 (0,0)):=by
        rw[hg7.block _ (by rw[←Q5];have:=H6.D;omega) (fun e=> by have:=Option.some.inj e;have:=H6.D;omega),eJ_ _ _ _ H6.D];exact H6.b
       have f6:=Q3 hR7 6 rfl;have z6:=Q6 hR7 6;have H7:=h3_ ho7 hg7 hR7;clear ho7 hg7 hat7 hR7;go_wp2_with fail;have e8:w7.setCell ⟨W1.heap.size,6,none⟩ (.slice a7 m c7)=w7.setRow W1.heap.size #[.int .i64 op,.string ⟨nm.toArray⟩,.string ⟨md.toArray⟩,.bool bq,.slice aq lq cq,.bool ys,.slice a7 m c7,.int .i64 0]:=setCell_eq_setRow w7 _ 6 _ _ (0,0) _ H7.C;rw[e8];clear e8 f6 z6;have hx8:=Qb (vs:= #[.int .i64 op,.string ⟨nm.toArray⟩,.string ⟨md.toArray⟩,.bool bq,.slice aq lq cq,.bool ys,.slice a7 m c7,.int .i64 0]) H7.C;obtain ⟨k0,k1,k2,k3,k4,k5,k6,k7⟩:=cells8 hx8;have HX8:=hd_ hx8;obtain ⟨W8,hW8⟩:∃ W,w7.setRow W1.heap.size #[.int .i64 op,.string ⟨nm.toArray⟩,.string ⟨md.toArray⟩,.bool bq,.slice aq lq cq,.bool ys,.slice a7 m c7,.int .i64 0]=W:=⟨_,rfl⟩
       have HW8:=hd_ hW8;rw[hW8] at k0 k1 k2 k3 k4 k5 k6 k7 HX8 ⊢;have mkS:∀ W:World,Below W8.heap.size W8 W→W.cell? ⟨W1.heap.size,0,none⟩=some (.int .i64 op)∧W.cell? ⟨W1.heap.size,1,none⟩=some (.string ⟨nm.toArray⟩)∧W.cell? ⟨W1.heap.size,2,none⟩=some (.string ⟨md.toArray⟩)∧W.cell? ⟨W1.heap.size,3,none⟩=some (.bool bq)∧W.cell? ⟨W1.heap.size,4,none⟩=some (.slice aq lq cq)∧W.cell? ⟨W1.heap.size,5,none⟩=some (.bool ys)∧W.cell? ⟨W1.heap.size,6,none⟩=some (.slice a7 m c7)∧W.cell? ⟨W1.heap.size,7,none⟩=some (.int .i64 0):=fun W hb=> ⟨(hb.cell (Q7 k0)).trans k0,(hb.cell (Q7 k1)).trans k1,(hb.cell (Q7 k2)).trans k2,(hb.cell (Q7 k3)).trans k3,(hb.cell (Q7 k4)).trans k4,(hb.cell (Q7 k5)).trans k5,(hb.cell (Q7 k6)).trans k6,(hb.cell (Q7 k7)).trans k7⟩;have HS:=hd_ mkS;clear mkS k0 k1 k2 k3 k4 k5 k6 k7 hx8 hW8;refine QE (S:=(fun w'=> w'.cell? ⟨W1.heap.size,0,none⟩=some (.int .i64 op)∧w'.cell? ⟨W1.heap.size,1,none⟩=some (.string ⟨nm.toArray⟩)∧w'.cell? ⟨W1.heap.size,2,none⟩=some (.string ⟨md.toArray⟩)∧w'.cell? ⟨W1.heap.size,3,none⟩=some (.bool bq)∧w'.cell? ⟨W1.heap.size,4,none⟩=some (.slice aq lq cq)∧w'.cell? ⟨W1.heap.size,5,none⟩=some (.bool ys)∧w'.cell? ⟨W1.heap.size,6,none⟩=some (.slice a7 m c7)∧w'.cell? ⟨W1.heap.size,7,none⟩=some (.int .i64 0))) (by simp) (by kernel_rfl) (by kernel_rfl) (HS.o _ ((eB_ _ _).drew)) (fun hHeld=> ?_);simp only[lA_];refine tk_ 0 rfl ?_;(try simp only[Act.put,gP_]);refine tk_ 1 rfl ?_;(try simp only[Act.put,gP_]);refine tk_ 2 rfl ?_;(try simp only[Act.put,gP_]);refine tk_ 3 rfl ?_;(try simp only[Act.put,gP_]);refine tk_ 4 rfl ?_;(try simp only[Act.put,gP_]);refine tk_ 5 rfl ?_;(try simp only[Act.put,gP_]);refine tk_ 6 rfl ?_;(try simp only[Act.put,gP_]);have hbD:=(eB_ W8.heap.size W8).drew;have hx9:=Qp (w:=W8) #[.int .i64 op,.string ⟨nm.toArray⟩,.string ⟨md.toArray⟩,.bool bq,.slice aq lq cq,.bool ys,.slice a7 m c7,.int .i64 0] 30;have hb9:=hx9.2.drew;refine rd_ 7 rfl (fun KK hKK=> ?_);simp only[gA_];go_simp;refine hKK.out _ _ (HS.o _ hb9) (fun hHeld=> ?_);clear hKK KK;(try simp only[Act.put,sA_]);have hlen0:=HEL.a;have how:=Q73 HEL.c (Nat.sub_le o.length N);rw[UD css _ HEL.b] at how;have hob:=how.lt;have hstep:∀ k,k < wr.heap.size→((W8.alloc (.cells #[.int .i64 op,.string ⟨nm.toArray⟩,.string ⟨md.toArray⟩,.bool bq,.slice aq lq cq,.bool ys,.slice a7 m c7,.int .i64 0] 30)).drew).heap[k]? =wr.heap[k]? :=fun k hk=> by
        have h1:=H6.a.size;have h2:=H6.c;have h3:=H7.b.size;rw[←Q5] at h3;show (W8.alloc (.cells #[.int .i64 op,.string ⟨nm.toArray⟩,.string ⟨md.toArray⟩,.bool bq,.slice aq lq cq,.bool ys,.slice a7 m c7,.int .i64 0] 30)).heap[k]? =_;rw[eJ_ _ _ _ (by rw[←HW8.o,Qo];omega)];rw[←HW8.o,Qd (by omega),H7.b.block k (by rw[←Q5];omega) (fun e=> by have:=Option.some.inj e;omega),eJ_ _ _ _ (by omega),H6.a.block k hk]
       have hbase:V.heap.size≤((W8.alloc (.cells #[.int .i64 op,.string ⟨nm.toArray⟩,.string ⟨md.toArray⟩,.bool bq,.slice aq lq cq,.bool ys,.slice a7 m c7,.int .i64 0] 30)).drew).heap.size:=by
        show V.heap.size≤(W8.alloc (.cells #[.int .i64 op,.string ⟨nm.toArray⟩,.string ⟨md.toArray⟩,.bool bq,.slice aq lq cq,.bool ys,.slice a7 m c7,.int .i64 0] 30)).heap.size;have h1:=H6.a.size;have h2:=HR.D.size;have h3:=H7.b.size;have h4:=hx9.2.size;rw[←Q5] at h3;have h5:W8.heap.size=w7.heap.size:=(by rw[←HW8.o,Qo]);omega
       have how9:=Qg how fun k hk=> hstep k (hob k hk).2;refine rd_ 8 rfl (fun KK hKK=> ?_);simp only[gA_];rw[if_pos (by rfl)];refine Yr (m:=1) (xv:= .slice (some ⟨W8.heap.size,0,none⟩) 1 1) (.tmp 78) (.tmp 80) 28 rfl V.heap.size 30 i0 _ 8 112 underlying28 HI.a HI.b HI.c HI.D rfl (by decide) (.slice ao (o.length - N) cc) (o.length - N) (css.take (o.length - N)).flatten (by first | (rw[HCC.o];rfl) | (rw[HCC.o,HCO.o];rfl)) how9 rfl (Ul (w:=(W8.alloc (.cells #[.int .i64 op,.string ⟨nm.toArray⟩,.string ⟨md.toArray⟩,.bool bq,.slice aq lq cq,.bool ys,.slice a7 m c7,.int .i64 0] 30)).drew) (size:=8) (cs:= [.int .i64 op,.string ⟨nm.toArray⟩,.string ⟨md.toArray⟩,.bool bq,.slice aq lq cq,.bool ys,.slice a7 m c7,.int .i64 0]) hx9.1 rfl) (by simp[Value.oneCell']) (by unfold maxLen;omega) (by omega) hbase ?_;intro a9 c9 w9 ho9 hg9 hat9;have hput:=Q8e (c:=⟨op,ks,nm,md,nu,ys⟩) (R7:= #[.int .i64 op,.string ⟨nm.toArray⟩,.string ⟨md.toArray⟩,.bool bq,.slice aq lq cq,.bool ys,.slice none 0 0,.int .i64 0]) (R8:= #[.int .i64 op,.string ⟨nm.toArray⟩,.string ⟨md.toArray⟩,.bool bq,.slice aq lq cq,.bool ys,.slice a7 m c7,.int .i64 0]) (R9:= #[.int .i64 op,.string ⟨nm.toArray⟩,.string ⟨md.toArray⟩,.bool bq,.slice aq lq cq,.bool ys,.slice a7 m c7,.int .i64 0]) rfl HEL.a HEL.b HEL.c HEL.D HR.D HN.a H6.a H6.c H6.D (HQ.b.below H5.o) HQ.E HMM.o.symm H7.a H7.b H7.C ho9 (by rw[HW8.o];exact hg9) (by rw[HW8.o];exact hat9);have hR9:w9.heap[W1.heap.size]? =some (.cells #[.int .i64 op,.string ⟨nm.toArray⟩,.string ⟨md.toArray⟩,.bool bq,.slice aq lq cq,.bool ys,.slice a7 m c7,.int .i64 0] 30 (0,0)):=by
        refine (hg9.block _ ?_ ?_).trans ?_
        ·show _ < (W8.alloc (.cells #[.int .i64 op,.string ⟨nm.toArray⟩,.string ⟨md.toArray⟩,.bool bq,.slice aq lq cq,.bool ys,.slice a7 m c7,.int .i64 0] 30)).heap.size;have h1:=Q4 HX8.o;have h2:=hx9.2.size;omega
        ·intro e;have h1:=(hob _ e.symm).2;have h2:=H6.c;omega
        show (W8.alloc (.cells #[.int .i64 op,.string ⟨nm.toArray⟩,.string ⟨md.toArray⟩,.bool bq,.slice aq lq cq,.bool ys,.slice a7 m c7,.int .i64 0] 30)).heap[W1.heap.size]? =_;rw[eJ_ _ _ _ (Q4 HX8.o)];exact HX8.o
       have HP:=hd_ hput;refine hKK.out _ _ (by obtain ⟨k0,k1,k2,k3,k4,k5,k6,k7⟩:=cells8 hR9;exact ⟨k0,k1,k2,k3,k4,k5,k6,k7⟩) (fun hHeld=> ?_);clear hKK KK hput hR9 ho9 hg9 hat9 how9 hstep hob how hlen0 hx9 hb9 hbD hbase;(try simp only[Act.put,sA_]);refine wpAnyH_done (by kernel_rfl) ?_ _;unfold PeelQ;dsimp only;go_simp;go_wp2_with fail;go_roundg (cls.length - (j+1))
       case measure=> have:=HR.a;omega
       case rel=> exact ⟨j+1,Cl.put o ⟨op,ks,nm,md,nu,ys⟩,a9,c9,by rw[HP.C],by go_num,rfl,by omega,Fine.put HR.b (by omega) HOK.o,HP.a,HP.b⟩))
    ·have hm1:=HM.o W1 H1.C;have HZ:=hd_ hm1;have hway:60 < nm.length∨(¬ 60 < nm.length∧60 < md.length)∨(¬ 60 < nm.length∧¬ 60 < md.length∧80 < nu.length):=by
      unfold Cl.ok at hok;simp only[Bool.and_eq_true,decide_eq_true_eq] at hok;omega
     clear hr hx hx1 hW1 hb1 hok hm1;rcases hway with o1 | ⟨o1,o2⟩ | ⟨o1,o2,o3⟩
     case' inl=>
      have p1:decide ((60:Int) < (nm.length:Int))=true:=eM_ (by omega)
     case' inr.inl=>
      have p1:decide ((60:Int) < (nm.length:Int))=false:=eK_ (by omega);have p2:decide ((60:Int) < (md.length:Int))=true:=eM_ (by omega);clear o2
     case' inr.inr=>
      have p1:decide ((60:Int) < (nm.length:Int))=false:=eK_ (by omega);have p2:decide ((60:Int) < (md.length:Int))=false:=eK_ (by omega);have p3:decide ((80:Int) < (nu.length:Int))=true:=eM_ (by omega);clear o2 o3
     all_goals (
      clear o1;go_wp2_with (first
       | (refine wpList_load_mid rfl 98 _ rfl bk (off+j*6) rfl _ _ HG.o underlying98 rfl rfl ?_)
       | (refine Q9 rfl 98 _ _ rfl 98 #[.int .i64 0,.int .i64 0,.string ⟨#[]⟩,.string ⟨#[]⟩,.string ⟨#[]⟩,.bool false] #[.int .i64 op,.int .i64 ks,.string ⟨nm.toArray⟩,.string ⟨md.toArray⟩,.string ⟨nu.toArray⟩,.bool ys] rfl rfl rfl Gm (by simp[Value.oneCell']) ?_;rw[HW1.o];refine XB ?_))
      refine Stop.go ?_;go_wp2_with (first | (refine Qa rfl 30 _ _ rfl 30 w.heap.size #[.int .i64 0,.string ⟨#[]⟩,.string ⟨#[]⟩,.bool false,.slice none 0 0,.bool false,.slice none 0 0,.int .i64 0] #[.int .i64 0,.string ⟨#[]⟩,.string ⟨#[]⟩,.bool false,.slice none 0 0,.bool false,.slice none 0 0,.int .i64 0] rfl HZ.a rfl rfl Qr (by simp[Value.oneCell']) ?_;rw[XP HZ.a]) | (refine Qa rfl 33 _ _ rfl 33 (w.heap.size+1) #[.int .i64 0,.string ⟨#[]⟩,.string ⟨#[]⟩,.string ⟨#[]⟩,.bool false,.slice none 0 0,.int .i64 0] #[.int .i64 0,.string ⟨#[]⟩,.string ⟨#[]⟩,.string ⟨#[]⟩,.bool false,.slice none 0 0,.int .i64 0] rfl HZ.b rfl rfl Xr (by simp[Value.oneCell']) ?_;rw[XP HZ.b]));refine eG_ (XC rfl _ _ _ _ _ _ _ _ _ _ _ _ rfl rfl HZ.a HZ.b underlying30 rfl Qr underlying33 rfl Xr rfl) rfl ?_;exact ⟨[.int .i64 0,.string ⟨#[]⟩,.string ⟨#[]⟩,.bool false,.slice none 0 0,.bool false,.slice none 0 0,.int .i64 0], [.int .i64 0,.string ⟨#[]⟩,.string ⟨#[]⟩,.string ⟨#[]⟩,.bool false,.slice none 0 0,.int .i64 0],false,rfl,HZ.C,Or.inl ⟨rfl,rfl,rfl⟩⟩)
   ·obtain rfl:cls.length=j:=(by omega);clear hlt hj;have hm1:=HM.o wr HR.D;have HZ:=hd_ hm1;clear hm1;obtain ⟨css,c1,c2,c3,c4⟩:=HR.c;rcases Nat.eq_zero_or_pos o.length with h0 | h0
    ·have h1:(o.length:Int)=0:=(by omega);clear c1 c2 c3 c4;go_wp2_with (first | (refine Qa rfl 30 _ _ rfl 30 w.heap.size #[.int .i64 0,.string ⟨#[]⟩,.string ⟨#[]⟩,.bool false,.slice none 0 0,.bool false,.slice none 0 0,.int .i64 0] #[.int .i64 0,.string ⟨#[]⟩,.string ⟨#[]⟩,.bool false,.slice none 0 0,.bool false,.slice none 0 0,.int .i64 0] rfl HZ.a rfl rfl Qr (by simp[Value.oneCell']) ?_;rw[XP HZ.a]) | (refine Qa rfl 33 _ _ rfl 33 (w.heap.size+1) #[.int .i64 0,.string ⟨#[]⟩,.string ⟨#[]⟩,.string ⟨#[]⟩,.bool false,.slice none 0 0,.int .i64 0] #[.int .i64 0,.string ⟨#[]⟩,.string ⟨#[]⟩,.string ⟨#[]⟩,.bool false,.slice none 0 0,.int .i64 0] rfl HZ.b rfl rfl Xr (by simp[Value.oneCell']) ?_;rw[XP HZ.b]));refine eG_ (XC rfl _ _ _ _ _ _ _ _ _ _ _ _ rfl rfl HZ.a HZ.b underlying30 rfl Qr underlying33 rfl Xr rfl) rfl ?_;exact ⟨[.int .i64 0,.string ⟨#[]⟩,.string ⟨#[]⟩,.bool false,.slice none 0 0,.bool false,.slice none 0 0,.int .i64 0], [.int .i64 0,.string ⟨#[]⟩,.string ⟨#[]⟩,.string ⟨#[]⟩,.bool false,.slice none 0 0,.int .i64 0],false,rfl,HZ.C,Or.inl ⟨rfl,rfl,rfl⟩⟩
    ·have h1:¬ (o.length:Int)=0:=(by omega);have h1b:((o.length:Int)==0)=false:=beq_false_of_ne h1;obtain ⟨e,he⟩:∃ e,o[o.length - 1]? =some e:=⟨_,eA_ (by omega)⟩
     obtain ⟨ce,hce⟩:∃ c,css[o.length - 1]? =some c:=⟨_,eA_ (by omega)⟩
     have hre:=c4 _ e ce he hce;have hfi:=Fine.get HR.b (by have:=HL.o;omega) (eP_ he);obtain ⟨aw,cw,ak,ck,rfl⟩:=hre.form;obtain ⟨ne,hne⟩:∃ b,decide (Ex.num e < 0)=b:=⟨_,rfl⟩
     rw[hne] at hre hce;obtain ⟨be,eao,hrange⟩:∃ b,ao=some ⟨b,0,none⟩∧wr.rangeAt b (0+(o.length - 1)*8) [.int .i64 e.op,.string ⟨e.name.toArray⟩,.string ⟨e.mod.toArray⟩,.bool ne,.slice aw (wd e.num).length cw,.bool e.yes,.slice ak e.kids.length ck,.int .i64 e.pos]:=by
      obtain ⟨_,⟨q1,q2⟩ | ⟨g,cap,cur,q1,q2,hcur,q4,q5,q6,htk⟩⟩:=c3
      ·omega
      ·injection q1 with q1 _ _;refine ⟨g,q1,Y1 css c2 (fun k v hk=> ?_) hce⟩;rw[Nat.zero_add,Ye hcur];rw[←htk,List.getElem?_take] at hk;split at hk
       ·simpa using hk
       ·cases hk
     subst eao;rw[Nat.zero_add] at hrange;have hsub:(o.length:Int) - 1=((o.length - 1:Nat):Int):=(by omega);have hlt1:o.length - 1 < o.length:=(by omega);have hx1:=Qp (w:=wr) #[.int .i64 e.op,.string ⟨e.name.toArray⟩,.string ⟨e.mod.toArray⟩,.bool ne,.slice aw (wd e.num).length cw,.bool e.yes,.slice ak e.kids.length ck,.int .i64 e.pos] 30;obtain ⟨W1,hW1⟩:∃ W,wr.alloc (.cells #[.int .i64 e.op,.string ⟨e.name.toArray⟩,.string ⟨e.mod.toArray⟩,.bool ne,.slice aw (wd e.num).length cw,.bool e.yes,.slice ak e.kids.length ck,.int .i64 e.pos] 30)=W:=⟨_,rfl⟩
     rw[hW1] at hx1;have HW1:=hd_ hW1;have HG:=hd_ hrange;have HF:=hd_ hfi;have hb1:Below V.heap.size V W1:=HR.D.trans (hx1.2.mono HR.D.size);have hPk:∀ k,OffW V.heap.size wr (.slice (some ⟨be,0,none⟩) o.length co) k→k < W1.heap.size:=fun k hk=> eI_ hk.2.1 hx1.2.size;have hre1:=hre.past (fun k hk=> hk.2.1) hx1.2;have H1:=h4_ hre1 hPk hb1 hx1.1;obtain ⟨a0,a1,a2,a3,a4,a5,a6,a7⟩:=cells8 hx1.1;have mkS:∀ W:World,Below W1.heap.size W1 W→W.cell? ⟨wr.heap.size,0,none⟩=some (.int .i64 e.op)∧W.cell? ⟨wr.heap.size,1,none⟩=some (.string ⟨e.name.toArray⟩)∧W.cell? ⟨wr.heap.size,2,none⟩=some (.string ⟨e.mod.toArray⟩)∧W.cell? ⟨wr.heap.size,3,none⟩=some (.bool ne)∧W.cell? ⟨wr.heap.size,4,none⟩=some (.slice aw (wd e.num).length cw)∧W.cell? ⟨wr.heap.size,5,none⟩=some (.bool e.yes)∧W.cell? ⟨wr.heap.size,6,none⟩=some (.slice ak e.kids.length ck)∧W.cell? ⟨wr.heap.size,7,none⟩=some (.int .i64 e.pos):=fun W hb=> ⟨(hb.cell (Q7 a0)).trans a0,(hb.cell (Q7 a1)).trans a1,(hb.cell (Q7 a2)).trans a2,(hb.cell (Q7 a3)).trans a3,(hb.cell (Q7 a4)).trans a4,(hb.cell (Q7 a5)).trans a5,(hb.cell (Q7 a6)).trans a6,(hb.cell (Q7 a7)).trans a7⟩;have HS:=hd_ mkS;clear mkS hx1 hb1 hPk hre1 hre hce he hne hrange c1 c2 c3 c4 hW1 hfi a0 a1 a2 a3 a4 a5 a6 a7;go_wp2_with (first
      | (refine wpList_load_mid rfl 30 _ rfl be ((o.length - 1)*8) rfl _ _ HG.o underlying30 rfl rfl ?_)
      | (refine Q9 rfl 30 _ _ rfl 30 #[.int .i64 0,.string ⟨#[]⟩,.string ⟨#[]⟩,.bool false,.slice none 0 0,.bool false,.slice none 0 0,.int .i64 0] #[.int .i64 e.op,.string ⟨e.name.toArray⟩,.string ⟨e.mod.toArray⟩,.bool ne,.slice aw (wd e.num).length cw,.bool e.yes,.slice ak e.kids.length ck,.int .i64 e.pos] rfl rfl rfl Qr (by simp[Value.oneCell']) ?_;rw[HW1.o]))
     have mk2:∀ W:World,W.heap[wr.heap.size]? =some (.cells #[.int .i64 e.op,.string ⟨e.name.toArray⟩,.string ⟨e.mod.toArray⟩,.bool ne,.slice aw (wd e.num).length cw,.bool e.yes,.slice ak e.kids.length ck,.int .i64 e.pos] 30 (0,0))→W.cell? ⟨wr.heap.size,0,none⟩=some (.int .i64 e.op)∧W.cell? ⟨wr.heap.size,1,none⟩=some (.string ⟨e.name.toArray⟩)∧W.cell? ⟨wr.heap.size,2,none⟩=some (.string ⟨e.mod.toArray⟩)∧W.cell? ⟨wr.heap.size,3,none⟩=some (.bool ne)∧W.cell? ⟨wr.heap.size,4,none⟩=some (.slice aw (wd e.num).length cw)∧W.cell? ⟨wr.heap.size,5,none⟩=some (.bool e.yes)∧W.cell? ⟨wr.heap.size,6,none⟩=some (.slice ak e.kids.length ck)∧W.cell? ⟨wr.heap.size,7,none⟩=some (.int .i64 e.pos):=fun W hb=> (by obtain ⟨a0,a1,a2,a3,a4,a5,a6,a7⟩:=cells8 hb;exact ⟨a0,a1,a2,a3,a4,a5,a6,a7⟩);have HS2:=hd_ mk2;clear mk2 HS;refine Gk (S:=fun w'=> w'.cell? ⟨wr.heap.size,0,none⟩=some (.int .i64 e.op)∧w'.cell? ⟨wr.heap.size,1,none⟩=some (.string ⟨e.name.toArray⟩)∧w'.cell? ⟨wr.heap.size,2,none⟩=some (.string ⟨e.mod.toArray⟩)∧w'.cell? ⟨wr.heap.size,3,none⟩=some (.bool ne)∧w'.cell? ⟨wr.heap.size,4,none⟩=some (.slice aw (wd e.num).length cw)∧w'.cell? ⟨wr.heap.size,5,none⟩=some (.bool e.yes)∧w'.cell? ⟨wr.heap.size,6,none⟩=some (.slice ak e.kids.length ck)∧w'.cell? ⟨wr.heap.size,7,none⟩=some (.int .i64 e.pos)) (by simp) (by kernel_rfl) (by kernel_rfl) (HS2.o _ H1.D) (fun hHeld=> ?_);simp only[lA_];refine tk_ 0 rfl ?_;(try simp only[Act.put,gP_]);refine tk_ 1 rfl ?_;(try simp only[Act.put,gP_]);refine rd_ 2 rfl (fun KK hKK=> ?_);simp only[gA_];go_simp;have hbD:=(eB_ W1.heap.size W1).drew;refine eH_ (Q2z HF.a (H1.a.past H1.b hbD) H1.b) ?_;rintro r w6 ⟨cx,rfl,hrx,hb6⟩;obtain ⟨ax,cxx,rfl⟩:=hrx.form;replace hb6:Below W1.heap.size W1 w6:=hbD.trans (hb6.mono hbD.size);dsimp only;refine hKK.out _ _ (HS2.o _ (Qf H1.D hb6)) (fun hHeld=> ?_);clear hKK KK;(try simp only[Act.put,sA_]);have hm6:=HM.o w6 (H1.c.trans (hb6.mono H1.c.size));have hVw:=HVs.o;have hVr:=HR.D.size;have hrW:wr.heap.size < W1.heap.size:=Q4 H1.D;have hz5:(w6.setRow w.heap.size #[.int .i64 e.op,.string ⟨e.name.toArray⟩,.string ⟨e.mod.toArray⟩,.bool ne,.slice aw (wd e.num).length cw,.bool e.yes,.slice ak e.kids.length ck,.int .i64 e.pos]).heap[w.heap.size+1]? =some (.cells #[.int .i64 0,.string ⟨#[]⟩,.string ⟨#[]⟩,.string ⟨#[]⟩,.bool false,.slice none 0 0,.int .i64 0] 33 (0,0)):=(by rw[Qd (by omega)];exact hm6.2.1);refine rd_ 3 rfl (fun KK hKK=> ?_);simp only[gA_];refine X0 _ _ _ rfl 30 w.heap.size #[.int .i64 0,.string ⟨#[]⟩,.string ⟨#[]⟩,.bool false,.slice none 0 0,.bool false,.slice none 0 0,.int .i64 0] #[.int .i64 e.op,.string ⟨e.name.toArray⟩,.string ⟨e.mod.toArray⟩,.bool ne,.slice aw (wd e.num).length cw,.bool e.yes,.slice ak e.kids.length ck,.int .i64 e.pos] rfl hm6.1 rfl rfl Qr (by simp[Value.oneCell']) ?_;refine hKK.out _ _ (HS2.o _ (by rw[Qd (by omega)];exact Qf H1.D hb6)) (fun hHeld=> ?_);clear hKK KK;(try simp only[Act.put,sA_]);refine rd_ 4 rfl (fun KK hKK=> ?_);simp only[gA_];refine X0 _ _ _ rfl 33 (w.heap.size+1) #[.int .i64 0,.string ⟨#[]⟩,.string ⟨#[]⟩,.string ⟨#[]⟩,.bool false,.slice none 0 0,.int .i64 0] #[.int .i64 e.op,.string ⟨e.name.toArray⟩,.string ⟨e.mod.toArray⟩,.string ⟨(Zp.text e.num).toArray⟩,.bool e.yes,.slice ax e.kids.length cxx,.int .i64 e.pos] rfl hz5 rfl rfl Xr (by simp[Value.oneCell']) ?_;refine hKK.out _ _ (HS2.o _ (by rw[Qd (by omega),Qd (by omega)];exact Qf H1.D hb6)) (fun hHeld=> ?_);clear hKK KK;(try simp only[Act.put,sA_]);have hr1:((w6.setRow w.heap.size #[.int .i64 e.op,.string ⟨e.name.toArray⟩,.string ⟨e.mod.toArray⟩,.bool ne,.slice aw (wd e.num).length cw,.bool e.yes,.slice ak e.kids.length ck,.int .i64 e.pos]).setRow (w.heap.size+1) #[.int .i64 e.op,.string ⟨e.name.toArray⟩,.string ⟨e.mod.toArray⟩,.string ⟨(Zp.text e.num).toArray⟩,.bool e.yes,.slice ax e.kids.length cxx,.int .i64 e.pos]).heap[w.heap.size]? =some (.cells #[.int .i64 e.op,.string ⟨e.name.toArray⟩,.string ⟨e.mod.toArray⟩,.bool ne,.slice aw (wd e.num).length cw,.bool e.yes,.slice ak e.kids.length ck,.int .i64 e.pos] 30 (0,0)):=(by rw[Qd (by omega)];exact Qb hm6.1);have hr2:=Qb (vs:= #[.int .i64 e.op,.string ⟨e.name.toArray⟩,.string ⟨e.mod.toArray⟩,.string ⟨(Zp.text e.num).toArray⟩,.bool e.yes,.slice ax e.kids.length cxx,.int .i64 e.pos]) hz5;have he6:RdE ((w6.setRow w.heap.size #[.int .i64 e.op,.string ⟨e.name.toArray⟩,.string ⟨e.mod.toArray⟩,.bool ne,.slice aw (wd e.num).length cw,.bool e.yes,.slice ak e.kids.length ck,.int .i64 e.pos]).setRow (w.heap.size+1) #[.int .i64 e.op,.string ⟨e.name.toArray⟩,.string ⟨e.mod.toArray⟩,.string ⟨(Zp.text e.num).toArray⟩,.bool e.yes,.slice ax e.kids.length cxx,.int .i64 e.pos]) (OffW V.heap.size wr (.slice (some ⟨be,0,none⟩) o.length co)) e [.int .i64 e.op,.string ⟨e.name.toArray⟩,.string ⟨e.mod.toArray⟩,.bool ne,.slice aw (wd e.num).length cw,.bool e.yes,.slice ak e.kids.length ck,.int .i64 e.pos]:=((H1.a.past H1.b hb6).keepT (fun k hk=> Qd (by have:=hk.1;omega)) (Qq (vs:= #[.int .i64 e.op,.string ⟨e.name.toArray⟩,.string ⟨e.mod.toArray⟩,.bool ne,.slice aw (wd e.num).length cw,.bool e.yes,.slice ak e.kids.length ck,.int .i64 e.pos]) hm6.1) (by decide)).keepT (fun k hk=> Qd (by have:=hk.1;omega)) (Qq (vs:= #[.int .i64 e.op,.string ⟨e.name.toArray⟩,.string ⟨e.mod.toArray⟩,.string ⟨(Zp.text e.num).toArray⟩,.bool e.yes,.slice ax e.kids.length cxx,.int .i64 e.pos]) hz5) (by decide);have hx6:=(hrx.keep (w':=w6.setRow w.heap.size #[.int .i64 e.op,.string ⟨e.name.toArray⟩,.string ⟨e.mod.toArray⟩,.bool ne,.slice aw (wd e.num).length cw,.bool e.yes,.slice ak e.kids.length ck,.int .i64 e.pos]) (fun k hk=> Qd (by have h9:W1.heap.size≤k:=hk.1;omega))).keep (w':=(w6.setRow w.heap.size #[.int .i64 e.op,.string ⟨e.name.toArray⟩,.string ⟨e.mod.toArray⟩,.bool ne,.slice aw (wd e.num).length cw,.bool e.yes,.slice ak e.kids.length ck,.int .i64 e.pos]).setRow (w.heap.size+1) #[.int .i64 e.op,.string ⟨e.name.toArray⟩,.string ⟨e.mod.toArray⟩,.string ⟨(Zp.text e.num).toArray⟩,.bool e.yes,.slice ax e.kids.length cxx,.int .i64 e.pos]) (fun k hk=> Qd (by have h9:W1.heap.size≤k:=hk.1;omega));have hb9:Below w.heap.size w ((w6.setRow w.heap.size #[.int .i64 e.op,.string ⟨e.name.toArray⟩,.string ⟨e.mod.toArray⟩,.bool ne,.slice aw (wd e.num).length cw,.bool e.yes,.slice ak e.kids.length ck,.int .i64 e.pos]).setRow (w.heap.size+1) #[.int .i64 e.op,.string ⟨e.name.toArray⟩,.string ⟨e.mod.toArray⟩,.string ⟨(Zp.text e.num).toArray⟩,.bool e.yes,.slice ax e.kids.length cxx,.int .i64 e.pos]):=Qc (Qc hm6.2.2 (rl_ _) _) (Nat.le_succ _) _;have hs9:((w6.setRow w.heap.size #[.int .i64 e.op,.string ⟨e.name.toArray⟩,.string ⟨e.mod.toArray⟩,.bool ne,.slice aw (wd e.num).length cw,.bool e.yes,.slice ak e.kids.length ck,.int .i64 e.pos]).setRow (w.heap.size+1) #[.int .i64 e.op,.string ⟨e.name.toArray⟩,.string ⟨e.mod.toArray⟩,.string ⟨(Zp.text e.num).toArray⟩,.bool e.yes,.slice ax e.kids.length cxx,.int .i64 e.pos]).heap.size=w6.heap.size:=(by rw[Qo,Qo]);have hs6:=hb6.size;have HFIN:=h5_ hr1 hr2 hb9 (he6.imp (Q:=New w ((w6.setRow w.heap.size #[.int .i64 e.op,.string ⟨e.name.toArray⟩,.string ⟨e.mod.toArray⟩,.bool ne,.slice aw (wd e.num).length cw,.bool e.yes,.slice ak e.kids.length ck,.int .i64 e.pos]).setRow (w.heap.size+1) #[.int .i64 e.op,.string ⟨e.name.toArray⟩,.string ⟨e.mod.toArray⟩,.string ⟨(Zp.text e.num).toArray⟩,.bool e.yes,.slice ax e.kids.length cxx,.int .i64 e.pos])) fun k hk=> ⟨by have:=hk.1;omega,by have:=hk.2.1;omega⟩) (hx6.imp (Q:=New w ((w6.setRow w.heap.size #[.int .i64 e.op,.string ⟨e.name.toArray⟩,.string ⟨e.mod.toArray⟩,.bool ne,.slice aw (wd e.num).length cw,.bool e.yes,.slice ak e.kids.length ck,.int .i64 e.pos]).setRow (w.heap.size+1) #[.int .i64 e.op,.string ⟨e.name.toArray⟩,.string ⟨e.mod.toArray⟩,.string ⟨(Zp.text e.num).toArray⟩,.bool e.yes,.slice ax e.kids.length cxx,.int .i64 e.pos])) fun k hk=> ⟨by have h9:W1.heap.size≤k:=hk.1;omega,by have:=hk.2;omega⟩);clear hr1 hr2 he6 hx6 hb9 hs9 hs6 hz5 hm6 hVw hVr hrW hb6 hrx hbD;refine wpAnyH_done (by kernel_rfl) ?_ _;unfold PeelQ;dsimp only;go_simp;go_wp2_with fail;refine eG_ (XC rfl _ _ _ _ _ _ _ _ _ _ _ _ rfl rfl HFIN.a HFIN.b underlying30 rfl Qr underlying33 rfl Xr rfl) rfl ?_;exact ⟨[.int .i64 e.op,.string ⟨e.name.toArray⟩,.string ⟨e.mod.toArray⟩,.bool ne,.slice aw (wd e.num).length cw,.bool e.yes,.slice ak e.kids.length ck,.int .i64 e.pos], [.int .i64 e.op,.string ⟨e.name.toArray⟩,.string ⟨e.mod.toArray⟩,.string ⟨(Zp.text e.num).toArray⟩,.bool e.yes,.slice ax e.kids.length cxx,.int .i64 e.pos],true,rfl,HFIN.c,Or.inr ⟨rfl,e,HFIN.d,HFIN.E,HF.a,HF.B⟩⟩
end Go.Proofs.YtiecccakcenobaaGreatDoor
namespace Go.Proofs.YtiecccakcenobaaGreatDoor.Lx
open Go.Proofs.Tryz
variable {t:List UInt8}
def rst (l:List UInt8):List UInt8:=rest (l.length+1) l
theorem Q7X:rst []= []:=rfl
theorem Q5y {c:UInt8} (h:blank c=true):rst (c::t)=rst t:=by
 unfold rst;have h1:rest ((c::t).length+1) (c::t)=rest ((c::t).length+1) t:=by
  conv=> lhs;unfold rest
  conv=> rhs;unfold rest
  rw[List.dropWhile_cons,if_pos h]
 rw[h1];exact J7 _ _ _ (by simp only[eL_];omega) (by omega)
theorem Q75:rst (45::45::t)=rst (line t):=by
 unfold rst;have h1:rest ((45::45::t).length+1) (45::45::t)=rest (45::45::t).length (line t):=by
  conv=> lhs;unfold rest
  rw[List.dropWhile_cons,if_neg (by decide)];rfl
 rw[h1];have h2:=Xm (fun c:UInt8=> c !=10) t;exact J7 _ _ _ (by simp only[eL_];unfold line;omega) (by omega)
theorem Gn {c:UInt8} (h:c≠10):line (c::t)=line t:=by
 unfold line;rw[List.dropWhile_cons,if_pos (by simpa using h)]
theorem Q5z:line (10::t)=10::t:=by
 unfold line;rw[List.dropWhile_cons,if_neg (by decide)]
theorem Q76:line []= []:=rfl
theorem L8 {c:UInt8} (h:blank c=false) (h2:∀ r,c::t≠45::45::r):rst (c::t)=c::t:=by
 unfold rst rest;rw[List.dropWhile_cons,if_neg (by simp[h])];split
 ·rename_i r e;exact absurd e (h2 r)
 ·rfl
theorem Q7Y (l:List UInt8):(rst l).length≤l.length:=D6 _ _
def twos:List (List UInt8):= [[60,62], [60,61], [62,61], [38,38], [124,124], [61,62]]
def ones:List UInt8:= [40,41,123,125,44,58,59,46,43,45,42,47,37,61,60,62]
def sgn (l:List UInt8):Nat:=if twos.contains (l.take 2) then 2 else match l with | []=> 0 | c::_=> if ones.contains c then 1 else 0
theorem Q77 (c:UInt8) (t:List UInt8):signList.find? (fun x=> x.isPrefixOf (c::t))=if sgn (c::t)=0 then none else some ((c::t).take (sgn (c::t))):=by
 have e:signList=twos++ones.map fun y=> [y]:=rfl;have h1:twos.find? (fun x=> x.isPrefixOf (c::t))=if twos.contains ((c::t).take 2) then some ((c::t).take 2) else none:=by
  have hp:∀ x∈twos,x.isPrefixOf (c::t)=(x==(c::t).take 2):=by
   intro x hx;have hl:x.length=2:=by
    simp only[twos,List.mem_cons,List.not_mem_nil,or_false] at hx;rcases hx with rfl | rfl | rfl | rfl | rfl | rfl <;> rfl
   rw[Bool.eq_iff_iff,List.isPrefixOf_iff_prefix,List.prefix_iff_eq_take,hl];simp
  have h2:∀ (l:List (List UInt8)),(∀ x∈l,x.isPrefixOf (c::t)=(x==(c::t).take 2))→l.find? (fun x=> x.isPrefixOf (c::t))=if l.contains ((c::t).take 2) then some ((c::t).take 2) else none:=by
   intro l
   induction l with
   | nil=> intro _;simp
   | cons x l ih=>
    intro hl;rw[List.find?_cons,hl x (by simp)];cases hx:(x==(c::t).take 2) with
    | true=>
     have hx2:x=(c::t).take 2:=(by simpa using hx);simp only;rw[if_pos (by rw[hx2];simp),hx2]
    | false=>
     simp only;rw[ih fun y hy=> hl y (by simp[hy])];have hx2:¬ ((c::t).take 2=x):=by
      intro e;rw[←e] at hx;simp at hx
     rw[List.contains_cons];have:((c::t).take 2==x)=false:=(by simpa using hx2);rw[this,Bool.false_or]
  exact h2 twos hp
 have h3:∀ l:List UInt8,(l.map fun y=> [y]).find? (fun x=> x.isPrefixOf (c::t))=if l.contains c then some [c] else none:=by
  intro l
  induction l with
  | nil=> simp
  | cons y l ih=>
   rw[List.map_cons,List.find?_cons,List.contains_cons];have:([y]:List UInt8).isPrefixOf (c::t)=(c==y):=by
    rw[Bool.eq_iff_iff];simp[List.isPrefixOf];exact ⟨fun h=> h.symm,fun h=> h.symm⟩
   rw[this];cases hcy:(c==y) with
   | true=>
    have:c=y:=(by simpa using hcy);subst this;simp
   | false=>
    simp only[Bool.false_or];exact ih
 rw[e,List.find?_append,h1,h3];unfold sgn;by_cases h4:twos.contains ((c::t).take 2)=true
 ·rw[if_pos h4];simp only[if_pos h4];simp
 ·rw[if_neg h4];simp only[if_neg h4];by_cases h5:ones.contains c=true
  ·simp only[if_pos h5];simp
  ·simp only[if_neg h5];simp
end Go.Proofs.YtiecccakcenobaaGreatDoor.Lx
namespace Go.Proofs.YtiecccakcenobaaGreatDoor
open Go.Proofs.Tryz
open Go.RowKit
variable {t:List UInt8} {w:World}
theorem XE (c:UInt8) (w:World):Calls prog 207 #[.int .u8 c.toNat] w fun e w'=> e= .returned (.bool (Lx.letter c))∧w=w':=by
 have e1:Lx.letter c=((decide (97≤(c.toNat:Int)) && decide ((c.toNat:Int)≤122)) || (decide (65≤(c.toNat:Int)) && decide ((c.toNat:Int)≤90))):=by
  unfold Lx.letter;rw[Bool.eq_iff_iff];simp[UInt8.le_iff_toNat_le];omega
 rw[e1];have hc:=c.toNat_lt;have hc':(c.toNat:Int) < 256:=by omega
 have hc0:(0:Int)≤(c.toNat:Int):=by omega
 clear e1 hc;generalize (c.toNat:Int)=x at*;by_cases a:97≤x <;> by_cases b:x≤122 <;> by_cases d:65≤x <;> by_cases f:x≤90
 all_goals
  first
  | (exfalso;omega)
  | (go_in
     go_wp2;go_ret;exact ⟨by simp[*],rfl⟩)
theorem Y2 (c:UInt8) (w:World):Calls prog 208 #[.int .u8 c.toNat] w fun e w'=> e= .returned (.bool (Lx.digit c))∧w=w':=by
 have e1:Lx.digit c=(decide (48≤(c.toNat:Int)) && decide ((c.toNat:Int)≤57)):=by
  unfold Lx.digit;rw[Bool.eq_iff_iff];simp[UInt8.le_iff_toNat_le];omega
 rw[e1];have hc:=c.toNat_lt;have hc':(c.toNat:Int) < 256:=by omega
 have hc0:(0:Int)≤(c.toNat:Int):=by omega
 clear e1 hc;generalize (c.toNat:Int)=x at*;by_cases a:48≤x <;> by_cases b:x≤57
 all_goals
  first
  | (exfalso;omega)
  | (go_in
     go_wp2;go_ret;exact ⟨by simp[*],rfl⟩)
theorem Q4t (c:UInt8) (n:Nat) (hn:n < 256):(c==UInt8.ofNat n)=decide ((c.toNat:Int)=(n:Int)):=by
 rw[Bool.eq_iff_iff];simp only[beq_iff_eq,decide_eq_true_eq];constructor
 ·rintro rfl;simp[UInt8.toNat_ofNat'];omega
 ·intro h;apply UInt8.toNat_inj.1;rw[UInt8.toNat_ofNat'];omega
theorem Q13 (c:UInt8) (w:World):Calls prog 206 #[.int .u8 c.toNat] w fun e w'=> e= .returned (.bool (Lx.blank c))∧w=w':=by
 have e1:Lx.blank c=(((decide ((c.toNat:Int)=32) || decide ((c.toNat:Int)=9)) || decide ((c.toNat:Int)=13)) || decide ((c.toNat:Int)=10)):=by
  unfold Lx.blank;rw[show (32:UInt8)=UInt8.ofNat 32 from rfl,show (9:UInt8)=UInt8.ofNat 9 from rfl,show (13:UInt8)=UInt8.ofNat 13 from rfl,show (10:UInt8)=UInt8.ofNat 10 from rfl,Q4t _ _ (by decide),Q4t _ _ (by decide),Q4t _ _ (by decide),Q4t _ _ (by decide)];rfl
 rw[e1];clear e1;generalize (c.toNat:Int)=x at*;by_cases a:x=32
 ·subst a;go_in;go_wp2;go_ret;exact ⟨by simp,rfl⟩
 ·by_cases b:x=9
  ·subst b;go_in;go_wp2;go_ret;exact ⟨by simp,rfl⟩
  ·by_cases d:x=13
   ·subst d;go_in;go_wp2;go_ret;exact ⟨by simp,rfl⟩
   ·have a':(x==32)=false:=(by simp[a]);have b':(x==9)=false:=(by simp[b]);have d':(x==13)=false:=(by simp[d]);go_in;go_wp2;go_ret;exact ⟨by simp[*];rfl,rfl⟩
theorem Q2C (l:List UInt8) (hl:l.length≤1073741824) (j:Nat) (hj:j≤l.length) (w:World):
  Calls prog 172 #[.string ⟨l.toArray⟩,.int .i64 j] w fun e w'=> e= .returned (.int .i64 ((l.length - (Lx.rst (l.drop j)).length:Nat):Int))∧w=w':=by
 have hl':(l.length:Int)≤1073741824:=by omega
 have hj':(j:Int)≤(l.length:Int):=by omega
 go_in;go_wp2_with fail;go_loopg [1] (l.length - j) (fun k v1 wr=> ∃ i:Nat,k=l.length - i∧i≤l.length∧v1= .int .i64 i∧Lx.rst (l.drop i)=Lx.rst (l.drop j)∧wr=w)
 case atStart=> exact ⟨j,rfl,hj,rfl,rfl,rfl⟩
 case round=>
  obtain ⟨i,hk,hi,rfl,hrs,rfl⟩:=hrel;have HK:=hd_ hk;have HR:=hd_ hrs;clear hk hrs;by_cases hlt:i < l.length
  ·have hlt':(i:Int) < (l.length:Int):=(by omega);have hget:l[i]? =some l[i]:=eA_ hlt;have hdr:l.drop i=l[i]::l.drop (i+1):=List.drop_eq_getElem_cons hlt;have hsz:i < (⟨l.toArray⟩:ByteArray).size:=(by simpa [ByteArray.size] using hlt);have hbc:=Q13 l[i] wr;cases hb:Lx.blank l[i]
   ·rw[hb] at hbc;have HC:=hd_ hbc;clear hbc;by_cases h1:i+1 < l.length
    ·have h1':(i:Int)+1 < (l.length:Int):=(by omega);have hget1:l[i+1]? =some l[i+1]:=eA_ h1;have hsz1:i+1 < (⟨l.toArray⟩:ByteArray).size:=(by simpa [ByteArray.size] using h1);have hdr1:l.drop (i+1)=l[i+1]::l.drop (i+1+1):=List.drop_eq_getElem_cons h1;by_cases h2:l[i]=45
     ·have h2':((((⟨l.toArray⟩:ByteArray)[i]'hsz).toNat:Int)==45)=true:=(by show ((l[i].toNat:Int)==45)=true;rw[h2];rfl);by_cases h3:l[i+1]=45
      ·have h3':((((⟨l.toArray⟩:ByteArray)[i+1]'hsz1).toNat:Int)==45)=true:=(by show ((l[i+1].toNat:Int)==45)=true;rw[h3];rfl);have hrs2:Lx.rst (l.drop i)=Lx.rst (Lx.line (l.drop i)):=by
        rw[hdr,hdr1,h2,h3,Lx.Q75,Lx.Gn (by decide),Lx.Gn (by decide)]
       have HRS:=hd_ hrs2;have H2:=hd_ h2;clear hrs2 hdr hdr1 h3 h2;go_wp2_with (go_at_call 206;refine HC.o.mono ?_;rintro e w' ⟨rfl,rfl⟩);go_loopg [1] (l.length - i) (fun k v1 wr2=> ∃ q:Nat,k=l.length - q∧q≤l.length∧v1= .int .i64 q∧i≤q∧Lx.line (l.drop q)=Lx.line (l.drop i)∧wr2=wr)
       case atStart=> exact ⟨i,rfl,by omega,rfl,rl_ _,rfl,rfl⟩
       case round=>
        obtain ⟨q,hkq,hq,rfl,hiq,hln,rfl⟩:=hrel;have HKQ:=h3_ hkq hiq hln;clear hkq hiq hln;by_cases hql:q < l.length
        ·have hql':(q:Int) < (l.length:Int):=(by omega);have hgq:l[q]? =some l[q]:=eA_ hql;have hszq:q < (⟨l.toArray⟩:ByteArray).size:=(by simpa [ByteArray.size] using hql);have hdq:l.drop q=l[q]::l.drop (q+1):=List.drop_eq_getElem_cons hql;by_cases h10:l[q]=10
         ·have h10':((((⟨l.toArray⟩:ByteArray)[q]'hszq).toNat:Int) !=10)=false:=(by show ((l[q].toNat:Int) !=10)=false;rw[h10];rfl);have H10:=h2_ h10 hdq;clear h10 hdq;go_wp2_with fail;go_roundg (l.length - q)
          case measure=>
           have h1:=HK.o;have h2:=HKQ.b;have h3:q≠i:=by
            rintro rfl;have:=H2.o;rw[H10.a] at this;exact absurd this (by decide)
           omega
          case rel=>
           refine ⟨q,rfl,hq,by go_num,?_,rfl⟩;rw[←HR.o,HRS.o, ←HKQ.C,H10.B,H10.a,Lx.Q5z]
         ·have h10':((((⟨l.toArray⟩:ByteArray)[q]'hszq).toNat:Int) !=10)=true:=by
           show ((l[q].toNat:Int) !=10)=true;have:l[q].toNat≠10:=fun e=> h10 (UInt8.toNat_inj.1 e);simp;omega
          have H10:=h2_ h10 hdq;clear h10 hdq;go_wp2_with fail;go_roundg (l.length - (q+1))
          case measure=> have:=HKQ.a;omega
          case rel=>
           refine ⟨q+1,rfl,by omega,by go_num,by have:=HKQ.b;omega,?_,rfl⟩;rw[←HKQ.C,H10.B,Lx.Gn H10.a]
        ·obtain rfl:q=l.length:=(by omega);go_wp2_with fail;go_roundg (l.length - l.length)
         case measure=> have:=HK.o;omega
         case rel=>
          refine ⟨l.length,rfl,rl_ _,by go_num,?_,rfl⟩;rw[←HR.o,HRS.o, ←HKQ.C,List.drop_length,Lx.Q76]
      ·have h3':((((⟨l.toArray⟩:ByteArray)[i+1]'hsz1).toNat:Int)==45)=false:=by
        show ((l[i+1].toNat:Int)==45)=false;have:l[i+1].toNat≠45:=fun e=> h3 (UInt8.toNat_inj.1 e);simp;omega
       go_wp2_with (go_at_call 206;refine HC.o.mono ?_;rintro e w' ⟨rfl,rfl⟩);go_ret;exact ⟨by rw[←HR.o,hdr,Lx.L8 hb (by intro t e;rw[hdr1] at e;simp only[List.cons.injEq] at e;exact h3 e.2.1)];simp;omega,rfl⟩
     ·have h2':((((⟨l.toArray⟩:ByteArray)[i]'hsz).toNat:Int)==45)=false:=by
       show ((l[i].toNat:Int)==45)=false;have:l[i].toNat≠45:=fun e=> h2 (UInt8.toNat_inj.1 e);simp;omega
      go_wp2_with (go_at_call 206;refine HC.o.mono ?_;rintro e w' ⟨rfl,rfl⟩);go_ret;exact ⟨by rw[←HR.o,hdr,Lx.L8 hb (by intro t e;simp only[List.cons.injEq] at e;exact h2 e.1)];simp;omega,rfl⟩
    ·have h1':(l.length:Int)≤(i:Int)+1:=(by omega);go_wp2_with (go_at_call 206;refine HC.o.mono ?_;rintro e w' ⟨rfl,rfl⟩);go_ret;exact ⟨by rw[←HR.o,hdr,Lx.L8 hb (by intro t e;have hd:l.drop (i+1)= []:=List.drop_eq_nil_of_le (by omega);rw[hd] at e;simp at e)];simp;omega,rfl⟩
   ·rw[hb] at hbc;have HC:=hd_ hbc;clear hbc;go_wp2_with (go_at_call 206;refine HC.o.mono ?_;rintro e w' ⟨rfl,rfl⟩);go_roundg (l.length - (i+1))
    case measure=> have:=HK.o;omega
    case rel=> exact ⟨i+1,rfl,by omega,by go_num,by rw[←HR.o,hdr,Lx.Q5y hb],rfl⟩
  ·obtain rfl:i=l.length:=(by omega);go_wp2;go_ret;have h:=HR.o;rw[List.drop_length] at h;exact ⟨by rw[←h];simp[Lx.Q7X],rfl⟩
theorem Yg {b:Nat} {cs:Array Value} {T:TypeId} {fr:Nat × Nat} (h:w.heap[b]? =some (.cells cs T fr)) (j:Nat) {u:Value} (hj:cs[j]? =some u):w.cell? ⟨b,j,none⟩=some u:=by
 simp[World.cell?,h,hj]
def Lx.rkeys:List (List UInt8):= [[105,109,112,111,114,116], [112,117,98], [102,117,110], [108,101,116], [105,110], [105,102], [116,104,101,110], [101,108,115,101], [97,115,115,101,114,116], [116,114,117,101], [102,97,108,115,101], [110,111,116], [105,110,116], [98,111,111,108], [114,101,115]]
theorem Lx.rkeys_is (x:List UInt8):Lx.rkeys.contains x=Lx.isKey x:=by
 unfold Lx.isKey;have h1:∀ y∈Lx.rkeys,y∈Lx.keyList:=by decide
 have h2:∀ y∈Lx.keyList,y∈Lx.rkeys:=by decide
 rw[Bool.eq_iff_iff,List.contains_iff_mem,List.contains_iff_mem];exact ⟨h1 x,h2 x⟩
theorem Q0b {l:List (List UInt8)} {j:Nat} (hj:j < l.length):l.drop j=l.getD j []::l.drop (j+1):=by
 rw[List.drop_eq_getElem_cons hj];simp[List.getD,eA_ hj]
def rkeysA:Array Value:= #[.string ⟨#[105,109,112,111,114,116]⟩,.string ⟨#[112,117,98]⟩,.string ⟨#[102,117,110]⟩,.string ⟨#[108,101,116]⟩,.string ⟨#[105,110]⟩,.string ⟨#[105,102]⟩,.string ⟨#[116,104,101,110]⟩,.string ⟨#[101,108,115,101]⟩,.string ⟨#[97,115,115,101,114,116]⟩,.string ⟨#[116,114,117,101]⟩,.string ⟨#[102,97,108,115,101]⟩,.string ⟨#[110,111,116]⟩,.string ⟨#[105,110,116]⟩,.string ⟨#[98,111,111,108]⟩,.string ⟨#[114,101,115]⟩]
def rkeysZ:Array Value:= #[.string ⟨#[]⟩,.string ⟨#[]⟩,.string ⟨#[]⟩,.string ⟨#[]⟩,.string ⟨#[]⟩,.string ⟨#[]⟩,.string ⟨#[]⟩,.string ⟨#[]⟩,.string ⟨#[]⟩,.string ⟨#[]⟩,.string ⟨#[]⟩,.string ⟨#[]⟩,.string ⟨#[]⟩,.string ⟨#[]⟩,.string ⟨#[]⟩]
theorem rkeysSize:(prog.info? 273).map (·.size)=some rkeysA.size:=by kernel_rfl
theorem Q2D (w:World):(Instr.build 273 #[(0,.string ⟨#[105,109,112,111,114,116]⟩),(1,.string ⟨#[112,117,98]⟩),(2,.string ⟨#[102,117,110]⟩),(3,.string ⟨#[108,101,116]⟩),(4,.string ⟨#[105,110]⟩),(5,.string ⟨#[105,102]⟩),(6,.string ⟨#[116,104,101,110]⟩),(7,.string ⟨#[101,108,115,101]⟩),(8,.string ⟨#[97,115,115,101,114,116]⟩),(9,.string ⟨#[116,114,117,101]⟩),(10,.string ⟨#[102,97,108,115,101]⟩),(11,.string ⟨#[110,111,116]⟩),(12,.string ⟨#[105,110,116]⟩),(13,.string ⟨#[98,111,111,108]⟩),(14,.string ⟨#[114,101,115]⟩)]).run prog w= .ok (.agg rkeysA) w:=by kernel_rfl
theorem Q2E (w:World):(Instr.alloc 273 true (.tuple #[])).run prog w= .ok (.pointer (some ⟨w.heap.size,0,none⟩)) (w.alloc (.cells rkeysZ 273)):=by kernel_rfl
theorem rkeysZsize:rkeysZ.size=rkeysA.size:=by kernel_rfl
theorem Q5A:∀ u∈rkeysA.toList,u.oneCell'=true:=by
 have h:rkeysA.toList.all (fun u=> u.oneCell')=true:=by rfl
 intro u hu;exact List.all_eq_true.1 h u hu
theorem Q40 (w:World) (j:Nat) (hj:j < 15):(w.alloc (.cells rkeysA 273)).cell? ⟨w.heap.size,j,none⟩=some (.string ⟨(Lx.rkeys.getD j []).toArray⟩):=by
 have h:∀ j,j < 15→rkeysA[j]? =some (.string ⟨(Lx.rkeys.getD j []).toArray⟩):=by
  intro j hj
  match j,hj with
  | 0,_ | 1,_ | 2,_ | 3,_ | 4,_ | 5,_ | 6,_ | 7,_ | 8,_ | 9,_ | 10,_ | 11,_ | 12,_ | 13,_ | 14,_=> rfl
  | m+15,h=> omega
 exact Yg (eD_ w (.cells rkeysA 273)) j (h j hj)
theorem L9 (x:List UInt8) (w:World):Calls prog 209 #[.string ⟨x.toArray⟩] w fun e w'=> e= .returned (.bool (Lx.isKey x))∧Below w.heap.size w w':=by
 rw[←Lx.rkeys_is];have hb:=Q2D;have ha:=Q2E;go_in;go_wp2_with (refine Q9 rfl 273 _ _ rfl 273 rkeysZ rkeysA rfl rfl rkeysZsize rkeysSize Q5A ?_);go_loopg [4] 15 (fun k v wr=> ∃ j:Nat,k=15 - j∧j≤15∧v= .int .i64 j∧Lx.rkeys.contains x=(Lx.rkeys.drop j).contains x∧wr=w.alloc (.cells rkeysA 273))
 case atStart=> exact ⟨0,rfl,by omega,rfl,rfl,rfl⟩
 case round=>
  obtain ⟨j,hk,hj,rfl,hf,rfl⟩:=hrel;have HK:=hd_ hk;have HF:=hd_ hf;clear hk hf hb ha;by_cases hlt:j < 15
  ·have hlt':(j:Int) < 15:=(by omega);have hs:=Q40 w j hlt;have HD:=hd_ (Q0b (l:=Lx.rkeys) (j:=j) hlt);generalize Lx.rkeys.getD j []=y at*;by_cases hy:y=x
   ·subst hy;go_wp2_with fail;go_ret;exact ⟨by rw[HF.o,HD.o];simp,(eB_ _ _).alloc (rl_ _) _⟩
   ·have hyx:(y==x)=false:=(by simpa using hy);have HY:=hd_ hy;clear hy;go_wp2_with fail;go_roundg (15 - (j+1))
    case measure=> have:=HK.o;omega
    case rel=>
     refine ⟨j+1,rfl,by omega,by go_num,?_,rfl⟩;rw[HF.o,HD.o,List.contains_cons];have:(x==y)=false:=(by simpa using fun e:x=y=> HY.o e.symm);rw[this,Bool.false_or]
  ·obtain rfl:j=15:=(by omega);go_wp2_with fail;go_ret;exact ⟨by rw[HF.o];rfl,(eB_ _ _).alloc (rl_ _) _⟩
theorem Lx.twos_len:∀ y∈Lx.twos,y.length=2:=by decide
theorem Lx.sgn_two {c:UInt8} (h:Lx.twos.contains ((c::t).take 2)=true):Lx.sgn (c::t)=2:=by unfold Lx.sgn;rw[if_pos h]
theorem Lx.sgn_one {c:UInt8} (h:Lx.twos.contains ((c::t).take 2)=false):Lx.sgn (c::t)=if Lx.ones.contains c then 1 else 0:=by unfold Lx.sgn;rw[if_neg (by rw[h];simp)]
def twosA:Array Value:= #[.string ⟨#[60,62]⟩,.string ⟨#[60,61]⟩,.string ⟨#[62,61]⟩,.string ⟨#[38,38]⟩,.string ⟨#[124,124]⟩,.string ⟨#[61,62]⟩]
def twosZ:Array Value:= #[.string ⟨#[]⟩,.string ⟨#[]⟩,.string ⟨#[]⟩,.string ⟨#[]⟩,.string ⟨#[]⟩,.string ⟨#[]⟩]
theorem twosSize:(prog.info? 286).map (·.size)=some twosA.size:=by kernel_rfl
theorem Q41 (w:World):(Instr.build 286 #[(0,.string ⟨#[60,62]⟩),(1,.string ⟨#[60,61]⟩),(2,.string ⟨#[62,61]⟩),(3,.string ⟨#[38,38]⟩),(4,.string ⟨#[124,124]⟩),(5,.string ⟨#[61,62]⟩)]).run prog w= .ok (.agg twosA) w:=by kernel_rfl
theorem Q42 (w:World):(Instr.alloc 286 true (.tuple #[])).run prog w= .ok (.pointer (some ⟨w.heap.size,0,none⟩)) (w.alloc (.cells twosZ 286)):=by kernel_rfl
theorem twosZsize:twosZ.size=twosA.size:=by kernel_rfl
theorem Q78:∀ u∈twosA.toList,u.oneCell'=true:=by
 have h:twosA.toList.all (fun u=> u.oneCell')=true:=by rfl
 intro u hu;exact List.all_eq_true.1 h u hu
theorem Q7Z {B:Nat} (h:w.heap[B]? =some (.cells twosA 286 (0,0))) (j:Nat) (hj:j < 6):w.cell? ⟨B,j,none⟩=some (.string ⟨(Lx.twos.getD j []).toArray⟩):=by
 have h2:∀ j,j < 6→twosA[j]? =some (.string ⟨(Lx.twos.getD j []).toArray⟩):=by
  intro j hj
  match j,hj with
  | 0,_ | 1,_ | 2,_ | 3,_ | 4,_ | 5,_=> rfl
  | m+6,h=> omega
 exact Yg h j (h2 j hj)
theorem Q2F (l:List UInt8) (hl:l.length≤1073741824) (j:Nat) (hj:j < l.length) (w:World):
  Calls prog 210 #[.string ⟨l.toArray⟩,.int .i64 j] w fun e w'=> e= .returned (.int .i64 (Lx.sgn (l.drop j):Nat))∧Below w.heap.size w w':=by
 have hl':(l.length:Int)≤1073741824:=by omega
 have hj':(j:Int) < (l.length:Int):=by omega
 have hsz:j < (⟨l.toArray⟩:ByteArray).size:=by simpa [ByteArray.size] using hj
 have hget:l[j]? =some l[j]:=eA_ hj;have HDJ:=hd_ (List.drop_eq_getElem_cons hj:l.drop j=l[j]::l.drop (j+1));have hb:=Q41;have ha:=Q42;go_in;go_wp2_with (refine Q9 rfl 286 _ _ rfl 286 twosZ twosA rfl rfl twosZsize twosSize Q78 ?_);go_loopg [6] 6 (fun k v wr=> ∃ i:Nat,k=6 - i∧i≤6∧v= .int .i64 i∧Lx.twos.contains ((l.drop j).take 2)=(Lx.twos.drop i).contains ((l.drop j).take 2)∧wr.heap[w.heap.size]? =some (.cells twosA 286 (0,0))∧Below w.heap.size w wr)
 case atStart=> exact ⟨0,rfl,by omega,rfl,rfl,eD_ _ _,(eB_ _ _).alloc (rl_ _) _⟩
 case round=>
  obtain ⟨i,hk,hi,rfl,hf,hcs,hbw⟩:=hrel;have HW:=h2_ hcs hbw;clear hcs hbw;have HK:=hd_ hk;have HF:=hd_ hf;clear hk hf hb ha;by_cases hlt:i < 6
  ·have hlt':(i:Int) < 6:=(by omega);have hs:=Q7Z HW.a i hlt;have HD:=hd_ (Q0b (l:=Lx.twos) (j:=i) hlt);have hy2:(Lx.twos.getD i []).length=2:=Lx.twos_len _ (by rw[List.getD,eA_ (show i < Lx.twos.length from hlt)];exact List.getElem_mem _);generalize Lx.twos.getD i []=y at*;by_cases h1:j+1 < l.length
   ·have h1':(j:Int)+1 < (l.length:Int):=(by omega);have h2':(j:Int)+2≤(l.length:Int):=(by omega);have hT:(⟨l.toArray⟩:ByteArray).extract j (j+2)=⟨((l.drop j).take 2).toArray⟩:=(by rw[QC];simp);obtain ⟨T,hTd⟩:∃ T,(l.drop j).take 2=T:=⟨_,rfl⟩
    have hTe:=hd_ hTd;rw[hTd] at HF hT;clear hTd;by_cases hy:T=y
    ·subst hy;have hyx:(T==T)=true:=(by simp);go_wp2_with fail;go_region;go_wp2_with fail;go_ret;exact ⟨by rw[HDJ.o,Lx.sgn_two (by rw[←HDJ.o,hTe.out,HF.o,HD.o];simp)];rfl,HW.B.drew⟩
    ·have hyx:(T==y)=false:=(by simpa using hy);have HY:=hd_ hy;clear hy;go_wp2_with fail;go_region;go_wp2_with fail;go_roundg (6 - (i+1))
     case measure=> have:=HK.o;omega
     case rel=>
      refine ⟨i+1,rfl,by omega,by go_num,?_,HW.a,HW.B.drew⟩;rw[hTe.out,HF.o,HD.o,List.contains_cons];rw[hyx,Bool.false_or]
   ·have h1':(l.length:Int)≤(j:Int)+1:=(by omega);have h1n:¬ ((j:Int)+1 < (l.length:Int)):=(by omega);have h1d:decide ((j:Int)+1 < (l.length:Int))=false:=(by simp;omega);have HY:Hid (((l.drop j).take 2==y)=false):=hd_ (by
     have:((l.drop j).take 2).length≤1:=(by rw[eN_,List.length_drop];omega);apply beq_eq_false_iff_ne.2;intro e;rw[e] at this;omega)
    go_wp2_with fail;go_region;go_wp2_with fail;go_roundg (6 - (i+1))
    case measure=> have:=HK.o;omega
    case rel=>
     refine ⟨i+1,rfl,by omega,by go_num,?_,HW.a,HW.B.drew⟩;rw[HF.o,HD.o,List.contains_cons,HY.o,Bool.false_or]
  ·obtain rfl:i=6:=(by omega);have HTW:Hid (Lx.twos.contains ((l.drop j).take 2)=false):=hd_ (by rw[HF.o];rfl);clear hlt;go_wp2_with fail;go_loopg [8] 16 (fun k v wr=> ∃ i:Nat,k=16 - i∧i≤16∧v= .int .i64 i∧Lx.ones.contains l[j]=(Lx.ones.drop i).contains l[j]∧Below w.heap.size w wr)
   case atStart=> exact ⟨0,rfl,by omega,rfl,rfl,HW.B⟩
   case round=>
    obtain ⟨i,hk,hi,rfl,hf,hbw⟩:=hrel;have HW2:=hd_ hbw;clear hbw;have HK2:=hd_ hk;have HF2:=hd_ hf;clear hk hf;by_cases hlt:i < 16
    ·have hlt':(i:Int) < 16:=(by omega);have hlt2:i < Lx.ones.length:=hlt;have hzo:i < (⟨#[40,41,123,125,44,58,59,46,43,45,42,47,37,61,60,62]⟩:ByteArray).size:=hlt;have hgo:Lx.ones[i]? =some (Lx.ones[i]'hlt2):=eA_ hlt2;have HD:=hd_ (List.drop_eq_getElem_cons hlt2);by_cases hy:l[j]=Lx.ones[i]'hlt2
     ·have hyx:((((⟨l.toArray⟩:ByteArray)[j]'hsz).toNat:Int)==(((⟨#[40,41,123,125,44,58,59,46,43,45,42,47,37,61,60,62]⟩:ByteArray)[i]'hzo).toNat:Int))=true:=by
       show ((l[j].toNat:Int)==((Lx.ones[i]'hlt2).toNat:Int))=true;rw[hy];simp
      have HY:=hd_ hy;clear hy;go_wp2_with fail;go_region;go_wp2_with fail;go_ret;exact ⟨by rw[HDJ.o,Lx.sgn_one (by rw[←HDJ.o];exact HTW.o),HF2.o,HD.o,HY.o,List.contains_cons,beq_self_eq_true,Bool.true_or];rfl,HW2.o.drew⟩
     ·have hyx:((((⟨l.toArray⟩:ByteArray)[j]'hsz).toNat:Int)==(((⟨#[40,41,123,125,44,58,59,46,43,45,42,47,37,61,60,62]⟩:ByteArray)[i]'hzo).toNat:Int))=false:=by
       show ((l[j].toNat:Int)==((Lx.ones[i]'hlt2).toNat:Int))=false;have:l[j].toNat≠(Lx.ones[i]'hlt2).toNat:=fun e=> hy (UInt8.toNat_inj.1 e);simp;omega
      have HY:=hd_ hy;clear hy;go_wp2_with fail;go_region;go_wp2_with fail;go_roundg (16 - (i+1))
      case measure=> have:=HK2.o;omega
      case rel=>
       refine ⟨i+1,rfl,by omega,by go_num,?_,HW2.o.drew⟩;rw[HF2.o,HD.o,List.contains_cons];have:(l[j]==Lx.ones[i]'hlt2)=false:=(by simpa using HY.o);rw[this,Bool.false_or]
    ·obtain rfl:i=16:=(by omega);go_wp2_with fail;go_ret;exact ⟨by rw[HDJ.o,Lx.sgn_one (by rw[←HDJ.o];exact HTW.o),HF2.o];rfl,HW2.o⟩
end Go.Proofs.YtiecccakcenobaaGreatDoor
