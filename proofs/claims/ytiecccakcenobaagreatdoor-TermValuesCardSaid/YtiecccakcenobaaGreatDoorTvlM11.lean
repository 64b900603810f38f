/- A part of the proof. -/
import Derived.Test.YtiecccakcenobaaGreatDoorTvlM10
import Derived.Test.YtiecccakcenobaaGreatDoorRows
import Derived.ProofKit
import Derived.OpenShut
import Derived.JoinedCond
import Derived.Deep.Slices
import Derived.Deep.Fields
import Derived.Deep.Grids
import Derived.ChangeSame
import Derived.Lib.SmallJoins
import Derived.Test.YtiecccakcenobaaGreatDoorCards
import Derived.Test.YtiecccakcenobaaGreatDoorTie
import Derived.ChangeMaps5
import Derived.Lay
import Derived.LaidLaws
import Derived.MakeChecks
import Derived.SevenTiedAt
set_option linter.all false
set_option maxRecDepth 100000
set_option maxHeartbeats 64000000
namespace Go.Proofs.YtiecccakcenobaaGreatDoor
open Go.Proofs.Tryz
open Go.ChangeShapes Go.WideShapes Go.ChangeAt Go.RowKit
variable {e:Ex} {z:Int} {K b b0 fuel k:Nat} {t tb:TypeId} {v:Value} {W W':World}
theorem Jp {H:Type} {enc:TypeId × Value→H} {P:Program} {W W':World} (hl:laidOutB P=true) (hb:Below W.heap.size W W'):
  ∀ (ts:List TypeId) (vs:List Value) (ds:List (DataW H)) (p:List MemPlace),(ts.all fun t=> P.readableRec t && decide (t < P.types.size))=true→
   DataW.TrodAll enc P W 0 (fun _=> true) true ts vs ds p→(∀ x∈p,x.block < W.heap.size)→
   DataW.TrodAll enc P W' 0 (fun b=> decide (b < W.heap.size)) true ts vs ds p
 | [], [], [],_,_,h,_=> h
 | t::ts,v::vs,d::ds,ps,hr,h,hlt=> by
  obtain ⟨p,q,h1,h2,rfl⟩:=h;simp only[List.all_cons,Bool.and_eq_true,decide_eq_true_eq] at hr;exact ⟨p,q,Below.trod hl hr.1.1 hr.1.2 h1 hb (fun x hx=> hlt x (List.mem_append_left _ hx)),
   Jp hl hb ts vs ds q hr.2 h2 (fun x hx=> hlt x (List.mem_append_right _ hx)),rfl⟩
 | [], [],_::_,_,_,h,_=> h.elim
 | [],_::_,_,_,_,h,_=> by cases h
 | _::_, [],_,_,_,h,_=> by cases h
 | _::_,_::_, [],_,_,h,_=> by cases h
theorem Q6H {H:Type} {enc:TypeId × Value→H} {P:Program} {f:Func} {s:ChangeSpec} {args:Array Value} {ds gs:List (DataW H)} {before:List MemPlace}
  (hl:laidOutB P=true) (hr:(f.params.toList.all fun t=> P.readableRec t && decide (t < P.types.size))=true) (hres:f.resultTypes= #[tb]) (htb:P.underlying tb=some .bool) (hv:s.vars= [])
  (hs:(s.fn H ds).results= [.lit (.bool true)]∧(s.fn H ds).args=ds∧(s.fn H ds).vars= [])
  (hW:DataW.Whole enc P f.params.toList s.vars false W args.toList ds gs before) (hb:Below W.heap.size W W'):
  s.post enc P f false true false false W args (.bool true) W':=by
 have hW':=hW;have hlt:=hW.lt;obtain ⟨p,q,hA,hV,rfl,hfz,hnd⟩:=hW;rw[hv] at hV;obtain ⟨rfl,rfl⟩:=trodVars_none hV;refine ⟨ds, [],p++ [], [],p, [],hW',?_,?_,?_,hb.frame _,fun h=> by cases h⟩
 ·rw[List.append_nil,hs.1,hres];exact trodAll_cons_mk (shut_bool htb _) trodAll_mk0
 ·rw[List.append_nil,hs.2.1];exact Jp hl hb _ _ _ _ hr hA (fun x hx=> hlt x (List.mem_append_left _ hx))
 ·rw[List.append_nil,hs.2.2,hv];exact rfl
def LawWalk {H:Type} (enc:TypeId × Value→H) (P:Program) (fid:FuncId) (f:Func) (W:World) (args:Array Value) (ds:List (DataW H)):Prop:=
 (∀ (base:Nat),(∀ (j:Nat) t v,f.params[j]? =some t→args[j]? =some v→Value.okWide P W .any base t v)→∀ p:List MemPlace,DataW.TrodAll enc P W 0 (fun _=> true) true f.params.toList args.toList ds p→
  (∀ x∈p,x.block < W.heap.size)→Calls P fid args W fun e W'=> e= .returned (.bool true)∧Below W.heap.size W W')
theorem Q0Z {H:Type} {enc:TypeId × Value→H} {P:Program} {fid:FuncId} {f:Func} {s:ChangeSpec} {args:Array Value} {ds gs:List (DataW H)} {before:List MemPlace} {base:Nat}
  (hl:laidOutB P=true) (hr:(f.params.toList.all fun t=> P.readableRec t && decide (t < P.types.size))=true) (hres:f.resultTypes= #[tb]) (htb:P.underlying tb=some .bool) (hv:s.vars= [])
  (hs:(s.fn H ds).results= [.lit (.bool true)]∧(s.fn H ds).args=ds∧(s.fn H ds).vars= [])
  (hval:∀ (j:Nat) t v,f.params[j]? =some t→args[j]? =some v→Value.okWide P W .any base t v)
  (hW:DataW.Whole enc P f.params.toList s.vars false W args.toList ds gs before) (h:LawWalk enc P fid f W args ds):
  Calls P fid args W fun e W'=> ∃ v,e= .returned v∧s.post enc P f false true false false W args v W':=by
 have hlt:=hW.lt;obtain ⟨p,q,hA,hV,hp,_⟩:=id hW;refine (h base hval p hA (fun x hx=> hlt x (by rw[hp];exact List.mem_append_left _ hx))).mono fun e W' ⟨he,hb⟩=> ?_;exact ⟨_,he,Q6H hl hr hres htb hv hs hW hb⟩
open Go.RowKit
theorem Q46 {α:Type} {p:Nat→α→Prop}:∀ (n:Nat),(∀ i,i < n→∃ x,p i x)→∃ l:List α,l.length=n∧∀ i x,l[i]? =some x→p i x
 | 0,_=> ⟨[],rfl,fun i x h=> by simp at h⟩
 | n+1,h=> by
  obtain ⟨l,hl,hp⟩:=Q46 n fun i hi=> h i (by omega);obtain ⟨x,hx⟩:=h n (by omega);refine ⟨l++ [x],by simp[hl],fun i y hy=> ?_⟩;rcases eS_ i n with h1 | h1
  ·rw[eT_ (by omega)] at hy;exact hp i y hy
  ·have:=Tr.Zh hy;simp only[eC_,eL_,eU_] at this;obtain rfl:i=n:=(by omega);rw[eO_ (by omega),hl,Nat.sub_self] at hy;simp only[eZ_,Option.some.injEq] at hy;rw[←hy];exact hx
theorem DU {w:World} {off:Nat} {xs ys:List Value} (h:w.rangeAt b off xs) (k:w.rangeAt b (off+xs.length) ys):w.rangeAt b off (xs++ys):=by
 intro j v hj;rcases eS_ j xs.length with h1 | h1
 ·rw[eT_ h1] at hj;exact h j v hj
 ·rw[eO_ h1] at hj;have:=k (j - xs.length) v hj;rw[show off+xs.length+(j - xs.length)=off+j by omega] at this;exact this
theorem Um {w:World} {b s:Nat} {α:Type} {f:α→List Value} (hf:∀ x,(f x).length=s):∀ {l:List α} {off:Nat},(∀ i x,l[i]? =some x→w.rangeAt b (off+i*s) (f x))→w.rangeAt b off (l.flatMap f)
 | [],_,_=> ZC _ _ _
 | y::l,off,h=> by
  rw[List.flatMap_cons];refine DU (by simpa using h 0 y rfl) ?_;rw[hf];refine Um hf fun i x hx=> ?_;have:=h (i+1) x (by simpa using hx);rw[show off+s+i*s=off+(i+1)*s by rw[Nat.add_mul];omega];exact this
open Go.ChangeShapes Go.WideShapes Go.ChangeAt Go.RowKit Go.Deep Go.Joins
section
variable {H:Type} {enc:TypeId × Value→H} {P:Program} {w:World} {base:Nat} {spare:Nat→Bool} {held:Bool}
theorem Un {e:TypeId} {fs:Array Field} {cs:List Value} {x:DataW H × List MemPlace} (ht:P.underlying t=some (.slice e)) (he:P.underlying e=some (.struct fs))
  (hone:oneCellFields P fs=true) (hC:P.cellsOf e=fs.size) (h:DataW.trod enc P w base spare held fuel t cs=some x):
  (cs= [.slice none 0 0]∧x=(.nil, []))∨
  ∃ (a:Addr) (len cap m:Nat),cs= [.slice (some a) len cap]∧len≤cap∧cap≤maxLen∧m=(if spare a.block then cap else len)∧
   ∀ i,i < m→∃ (n:Nat),∀ (j:Nat) (f:Field),fs[j]? =some f→∃ (v:Value) (y:DataW H × List MemPlace),w.cell? (a.add (i*fs.size+j))=some v∧DataW.trod enc P w base spare held n f.type [v]=some y:=by
 rcases open_slice ht h with h0 | ⟨a,len,cap,m,n,D,Pl,hcs,hb,hl,hm,hmm,hx,hi⟩
 ·exact .inl h0
 ·refine .inr ⟨a,len,cap,m,hcs,hl,hm,hmm,fun i him=> ?_⟩;obtain ⟨cs',hc,ht'⟩:=hi i him;rw[hC] at hc;obtain ⟨ys,n',hn',hy,hlen,hyl,hf⟩:=DataW.trod_struct he ht';obtain ⟨_,hcl,hat⟩:=World.cells?_some hc;refine ⟨n',fun j f hj=> ?_⟩;obtain ⟨ho,hk⟩:=hone_of hone j f hj;have hjl:j < fs.size:=(Array.getElem?_eq_some_iff.1 hj).1;have hcell:=hat j hjl;have hv:cs'[j]? =some (cs'[j]'(by omega)):=eA_ (by omega);have h1:=hf j f hj;rw[ho,hk] at h1;have hone':(cs'.drop j).take 1= [cs'[j]'(by omega)]:=by
   rw[List.drop_eq_getElem_cons (by omega)];rfl
  rw[hone'] at h1;have hys:ys[j]? =some (ys[j]'(by omega)):=eA_ (by omega);exact ⟨_,_,by rw[←Go.Deep.add_add,hcell,hv],h1.trans hys⟩
end
theorem Q58 {a:Addr} (h:a.spot=none):a=⟨a.block,a.off,none⟩:=by cases a;simp at h;subst h;rfl
theorem Gm {P:Program} {w:World} {r:Reach} {e:TypeId} {a:Addr} {len cap:Nat} (ht:P.underlying t=some (.slice e)) (h:Cell.okWide P w r b0 t (.slice (some a) len cap)):a.spot=none:=by
 unfold Cell.okWide at h;rw[ht] at h;simp only[Cell.ok,ht] at h;exact h.2.2.2.1
section
variable {H:Type} {enc:TypeId × Value→H} {w:World} {held:Bool}
theorem Uo {y:DataW H × List MemPlace} (h:DataW.trod enc prog w 0 (fun _=> true) held fuel 3 [v]=some y):∃ n,v= .int .i64 n:=by
 obtain ⟨n,hc,_,_⟩:=DataW.trod_int underlying3 h;simp only[List.cons.injEq,and_true] at hc;exact ⟨n,hc⟩
theorem Gv {y:DataW H × List MemPlace} (h:DataW.trod enc prog w 0 (fun _=> true) held fuel 9 [v]=some y):∃ l:List UInt8,v= .string ⟨l.toArray⟩:=by
 obtain ⟨s,hc,_,_⟩:=DataW.trod_string underlying9 h;simp only[List.cons.injEq,and_true] at hc;exact ⟨s.data.toList,by rw[hc]⟩
theorem Zy {P:Program} {r:Reach} {cs:Array Value} {ts:List TypeId} (h:Row.okWide P w r b0 t cs) (hts:P.cellTypes P.depth t=some ts) {i:Nat} {v:Value} (hi:cs[i]? =some v) {u:TypeId} (hu:ts[i % ts.length]? =some u):Cell.okWide P w r b0 u v:=by
 obtain ⟨ts',h1,_,h2⟩:=h;rw[hts] at h1;obtain rfl:=Option.some.inj h1;obtain ⟨u',hu',hc⟩:=h2 i v hi;rw[hu] at hu';obtain rfl:=Option.some.inj hu';exact hc
theorem Q59 {X:Type} {xc:X→List Value} (hxc:∀ x,(xc x).length=K) {t e:TypeId} {fs:Array Field} (hK:fs.size=K) (ht:prog.underlying t=some (.slice e)) (he:prog.underlying e=some (.struct fs))
  (hone:oneCellFields prog fs=true) (hC:prog.cellsOf e=fs.size)
  (hx:∀ (g:Nat→Option Value),(∃ n,∀ (j:Nat) (f:Field),fs[j]? =some f→∃ (v:Value) (y:DataW H × List MemPlace),g j=some v∧DataW.trod enc prog w 0 (fun _=> true) held n f.type [v]=some y)→∃ x:X,∀ j u,(xc x)[j]? =some u→g j=some u)
  {fuel:Nat} {v:Value} {y:DataW H × List MemPlace} (h:DataW.trod enc prog w 0 (fun _=> true) held fuel t [v]=some y) (hsp:∀ a n c,v= .slice (some a) n c→a.spot=none) (hK0:0 < K):
  ∃ l:List X,RdS w (fun k=> k < w.heap.size) K v l.length (l.flatMap xc):=by
 rcases Un ht he hone hC h with ⟨hcs,_⟩ | ⟨a,len,cap,m,hcs,hl,hm,hmm,hf⟩
 ·simp only[List.cons.injEq,and_true] at hcs;subst hcs;exact ⟨[],RdS.nil _ _ _⟩
 ·simp only[List.cons.injEq,and_true] at hcs;subst hcs;simp only[if_true] at hmm;subst hmm;have ha:=Q58 (hsp a len m rfl);obtain ⟨l,hll,hlp⟩:=Q46 (p:=fun i (k:X)=> w.rangeAt a.block (a.off+i*K) (xc k)) len fun i hi=> by
   obtain ⟨n,hn⟩:=hf i (by omega);obtain ⟨x,hx⟩:=hx (fun j=> w.cell? (a.add (i*fs.size+j))) ⟨n,hn⟩;refine ⟨x,fun j u hj=> ?_⟩;have h1:=hx j u hj;rw[hK,ha,Addr.add_mid] at h1;rw[←h1,Nat.add_assoc]
  have hr:=Um (f:=xc) (s:=K) hxc (off:=a.off) hlp;refine ⟨l,by rw[ZD (f:=xc) (s:=K) hxc],some a,m,by rw[hll],by omega,Or.inr ⟨a.block,a.off,by rw[←ha],?_,hr⟩⟩;rcases Nat.eq_zero_or_pos l.length with h0 | h0
  ·exact Or.inl h0
  ·refine Or.inr ?_;obtain ⟨k,hk⟩:∃ k,l[0]? =some k:=⟨_,eA_ h0⟩
   have hck:=hlp 0 k hk;have hlen:=hxc k;obtain ⟨u,hu⟩:∃ u,(xc k)[0]? =some u:=⟨_,eA_ (by omega)⟩
   exact Q9 (hck 0 u hu)
theorem cellsPart:prog.cellsOf 67=2:=by kernel_rfl
theorem cellsSum:prog.cellsOf 56=2:=by kernel_rfl
theorem DV {y:DataW H × List MemPlace} (h:DataW.trod enc prog w 0 (fun _=> true) held fuel 54 [v]=some y) (hsp:∀ a n c,v= .slice (some a) n c→a.spot=none):
  ∃ l:List (Tp.Nm × Int),RdS w (fun k=> k < w.heap.size) 2 v l.length (ptCells l):=by
 refine Q59 (xc:=fun p:Tp.Nm × Int=> [.string ⟨p.1.toArray⟩,.int .i64 p.2]) (fun _=> rfl) rfl underlying54 underlying67 (by kernel_rfl) cellsPart ?_ h hsp (by decide);rintro g ⟨n,hn⟩;obtain ⟨v0,y0,c0,t0⟩:=hn 0 _ rfl;obtain ⟨v1,y1,c1,t1⟩:=hn 1 _ rfl;obtain ⟨k0,rfl⟩:=Gv t0;obtain ⟨k1,rfl⟩:=Uo t1;refine ⟨⟨k0,k1⟩,fun j u hj=> ?_⟩
 match j,hj with
 | 0,hj=> simp only[eZ_,Option.some.injEq] at hj;subst hj;exact c0
 | 1,hj=> simp only[List.getElem?_cons_succ,eZ_,Option.some.injEq] at hj;subst hj;exact c1
 | j+2,hj=> simp at hj
theorem Q2q {r:Reach} {d:DataW H} {p:List MemPlace} (hv:Value.okWide prog w r b0 56 v) (h:DataW.Trod enc prog w 0 (fun _=> true) held 56 v d p):
  ∃ vp n ps,v= .agg #[vp,.int .i64 n]∧RdS w (fun k=> k < w.heap.size) 2 vp ps.length (ptCells ps)∧ -9223372036854775808≤n∧n≤9223372036854775807:=by
 have hv2:=hv;obtain ⟨v0,v1,y0,y1,n,rfl,_,_,h0,h1⟩:=open_agg2 underlying56 (by kernel_rfl) cellsSum hv h;unfold Value.okWide at hv2;rw[underlying56] at hv2;obtain ⟨cs,hcs,_,hrow⟩:=hv2;injection hcs with hcs;subst hcs;have hct:prog.cellTypes prog.depth 56=some [54,3]:=by kernel_rfl
 obtain ⟨ps,hp⟩:=DV h0 fun a n c e=> by
  subst e;exact Gm underlying54 (Zy hrow hct (i:=0) rfl rfl)
 obtain ⟨m,rfl⟩:=Uo h1;have hc:=Zy hrow hct (i:=1) rfl rfl;unfold Cell.okWide at hc;rw[underlying3] at hc;simp only[Cell.ok,underlying3] at hc;exact ⟨v0,m,ps,rfl,hp,(show IntKind.i64=IntKind.i64∧IntKind.i64.has m from hc).2⟩
end
open Go.ChangeShapes Go.WideShapes Go.ChangeAt Go.RowKit Go.Deep
theorem own:ownKnob prog.godebug=none:=by kernel_rfl
theorem laidOut:laidOutB prog=true:=by kernel_rfl
def theLaid:List (String × DataW Unit):=Rows.termPutsRow.laid
theorem Q3I (w:World):laidMetH prog theLaid w=laidMet prog theLaid w:=MakeChecks.laidMetH_plain _ _ _ (by kernel_rfl)
theorem Q6I (os:Os) (args:Array Value):laidMet prog theLaid ((World.laidAll prog os theLaid).forCall (fun _ _=> 0) ⟨#[],args, []⟩).memory:=laidMet_laidAll _ (by kernel_rfl) (by kernel_rfl)
theorem DW {w:World} {P:Nat→Prop} {vp:Value} {ps:List (Tp.Nm × Int)} {n:Int} (h:RdS w P 2 vp ps.length (ptCells ps)) (hP:∀ k,P k→k < w.heap.size) (hn1: -9223372036854775808≤n) (hn2:n≤9223372036854775807):
  Calls prog 14 #[.agg #[vp,.int .i64 n]] w (BothOut ps n w):=by
 obtain ⟨a,c,rfl⟩:=h.form;have hbx:=box3 w #[.slice a ps.length c,.int .i64 n] 56 #[.bool false,.slice none 0 0,.pointer none] 38 #[.slice none 0 0,.slice none 0 0,.int .i64 0,.slice none 0 0] 50;have HH:=h4_ h hP hn1 hn2;obtain ⟨V,hV⟩:∃ V,((w.alloc (.cells #[.slice a ps.length c,.int .i64 n] 56)).alloc (.cells #[.bool false,.slice none 0 0,.pointer none] 38)).alloc (.cells #[.slice none 0 0,.slice none 0 0,.int .i64 0,.slice none 0 0] 50)=V:=⟨_,rfl⟩
 have HVV:=hd_ hV;rw[hV] at hbx;have HB:=hd_ hbx;have s0:=Q3 hbx.1 0 rfl;have s1:=Q3 hbx.1 1 rfl;clear h hP hn1 hn2 hbx hV;go_in;go_wp2_with fail;rw[HVV.o];have mkS:∀ W:World,Below V.heap.size V W→Below V.heap.size V W∧W.cell? ⟨w.heap.size,1,none⟩=some (.int .i64 n):=fun W hb=> ⟨hb,(hb.cell (Q9 s1)).trans s1⟩;have HS:=hd_ mkS;clear mkS;go_cut [5,6] from 9 to 16 (fun v5 v6 wc=> ∃ g h z,v5= .pointer (some ⟨g,0,none⟩)∧v6= .pointer (some ⟨h,0,none⟩)∧(n≠ -9223372036854775808→z=n)∧TwoT V g h ⟨[],n⟩ ⟨[],z⟩ wc)
 case first=>
  refine QC (S:=fun w'=> Below V.heap.size V w'∧w'.cell? ⟨w.heap.size,1,none⟩=some (.int .i64 n)) (by simp) (by kernel_rfl) (by kernel_rfl) (HS.o _ ((eB_ _ _).drew)) (fun hHeld=> ?_);simp only[lA_];refine tk_ 0 rfl ?_;try simp only[Act.put,gP_]
  refine tk_ 1 rfl ?_;try simp only[Act.put,gP_]
  refine tk_ 4 rfl ?_;try simp only[Act.put,gP_]
  refine tk_ 5 rfl ?_;try simp only[Act.put,gP_]
  have bV:=(eB_ V.heap.size V).drew;clear s0 s1 hHeld;obtain ⟨W0,hW0⟩:∃ W',V.drew=W':=⟨_,rfl⟩
  rw[hW0] at bV ⊢;clear hW0;refine wpAnyH_ready (rs:= [2,8,9]) (by kernel_rfl) (by simp) ?_;refine AllReadyH.cons rfl (fun KK hKK=> ?gF1) (AllReadyH.cons rfl (fun KK hKK=> ?g51) (AllReadyH.cons rfl (fun KK hKK=> ?g61) AllReadyH.nil))
  case' gF1=>
   simp only[gA_];go_simp;refine eH_ (QY n HH.c HH.D _) ?_;rintro r wF ⟨v11,rfl,n11,hb⟩;replace bV:=bV.trans (hb.mono bV.size);dsimp only;refine hKK.out _ _ (HS.o _ bV) (fun hHeld=> ?_);clear hKK KK hb;(try simp only[Act.put,sA_]);refine wpAnyH_ready (rs:= [3,8,9]) (by kernel_rfl) (by simp) ?_;refine AllReadyH.cons rfl (fun KK hKK=> ?gN2) (AllReadyH.cons rfl (fun KK hKK=> ?g52) (AllReadyH.cons rfl (fun KK hKK=> ?g62) AllReadyH.nil))
   case' gN2=>
    simp only[gA_];go_simp;refine eH_ (Xe n11) ?_;rintro r wN ⟨v12,rfl,m12,hb⟩;replace bV:=bV.trans (hb.mono bV.size);clear n11;dsimp only;refine hKK.out _ _ (HS.o _ bV) (fun hHeld=> ?_);clear hKK KK hb;(try simp only[Act.put,sA_]);refine wpAnyH_ready (rs:= [6,8,9]) (by kernel_rfl) (by simp) ?_;refine AllReadyH.cons rfl (fun KK hKK=> ?gR3) (AllReadyH.cons rfl (fun KK hKK=> ?g53) (AllReadyH.cons rfl (fun KK hKK=> ?g63) AllReadyH.nil))
    case' gR3=>
     simp only[gA_];go_simp;refine eH_ (XG n HH.c HH.D _) ?_;rintro r wR ⟨v15,z,rfl,hz,z15,hb⟩;obtain ⟨az,cz,rfl,_⟩:=z15.form;replace m12:=m12.below hb;replace bV:=bV.trans (hb.mono bV.size);dsimp only;refine hKK.out _ _ (HS.o _ bV) (fun hHeld=> ?_);clear hKK KK hb;(try simp only[Act.put,sA_]);refine tk_ 7 rfl ?_;(try simp only[Act.put,gP_]);refine wpAnyH_ready (rs:= [8,9]) (by kernel_rfl) (by simp) ?_;refine AllReadyH.cons rfl (fun KK hKK=> ?g54) (AllReadyH.cons rfl (fun KK hKK=> ?g64) AllReadyH.nil)
     case' g54=>
      simp only[gA_];go_simp;have hb:=Qh (w:=wR) #[.bool false,.slice none 0 0,.pointer none] 38;have r5:=hb.1;have hg5:V.heap.size≤_:=bV.size;replace hb:=hb.2;replace m12:=m12.below hb;replace z15:=z15.below hb;replace bV:=bV.trans (hb.mono bV.size);refine hKK.out _ _ (HS.o _ bV) (fun hHeld=> ?_);clear hKK KK hb hHeld;(try simp only[Act.put,sA_]);obtain ⟨W5n,hW5⟩:∃ W',wR.alloc (.cells #[.bool false,.slice none 0 0,.pointer none] 38)=W':=⟨_,rfl⟩
      rw[hW5] at m12 z15 r5 bV ⊢;clear hW5
      rename World=> WZ
     case' g64=>
      simp only[gA_];go_simp;have hb:=Qh (w:=wR) #[.slice none 0 0,.slice none 0 0,.int .i64 0,.slice none 0 0] 50;have r6:=hb.1;have hg6:V.heap.size≤_:=bV.size;replace hb:=hb.2;replace m12:=m12.below hb;replace z15:=z15.below hb;replace bV:=bV.trans (hb.mono bV.size);refine hKK.out _ _ (HS.o _ bV) (fun hHeld=> ?_);clear hKK KK hb hHeld;(try simp only[Act.put,sA_]);obtain ⟨W6n,hW6⟩:∃ W',wR.alloc (.cells #[.slice none 0 0,.slice none 0 0,.int .i64 0,.slice none 0 0] 50)=W':=⟨_,rfl⟩
      rw[hW6] at m12 z15 r6 bV ⊢;clear hW6
      rename World=> WZ
    case' g53=>
     simp only[gA_];go_simp;have hb:=Qh (w:=wN) #[.bool false,.slice none 0 0,.pointer none] 38;have r5:=hb.1;have hg5:V.heap.size≤_:=bV.size;replace hb:=hb.2;replace m12:=m12.below hb;replace bV:=bV.trans (hb.mono bV.size);refine hKK.out _ _ (HS.o _ bV) (fun hHeld=> ?_);clear hKK KK hb hHeld;(try simp only[Act.put,sA_]);obtain ⟨W5n,hW5⟩:∃ W',wN.alloc (.cells #[.bool false,.slice none 0 0,.pointer none] 38)=W':=⟨_,rfl⟩
     rw[hW5] at m12 r5 bV ⊢;clear hW5;refine wpAnyH_ready (rs:= [6,9]) (by kernel_rfl) (by simp) ?_;refine AllReadyH.cons rfl (fun KK hKK=> ?gR5) (AllReadyH.cons rfl (fun KK hKK=> ?g65) AllReadyH.nil)
     case' gR5=>
      simp only[gA_];go_simp;refine eH_ (XG n HH.c HH.D _) ?_;rintro r wR ⟨v15,z,rfl,hz,z15,hb⟩;obtain ⟨az,cz,rfl,_⟩:=z15.form;replace m12:=m12.below hb;replace r5:=Q7 r5 hb;replace bV:=bV.trans (hb.mono bV.size);dsimp only;refine hKK.out _ _ (HS.o _ bV) (fun hHeld=> ?_);clear hKK KK hb;(try simp only[Act.put,sA_]);refine tk_ 7 rfl ?_;try simp only[Act.put,gP_]
      rename World=> WZ
     case' g65=>
      simp only[gA_];go_simp;have hb:=Qh (w:=W5n) #[.slice none 0 0,.slice none 0 0,.int .i64 0,.slice none 0 0] 50;have r6:=hb.1;have hg6:V.heap.size≤_:=bV.size;replace hb:=hb.2;have hne:=(Nat.ne_of_gt (Q4 r5))
      replace m12:=m12.below hb;replace r5:=Q7 r5 hb;replace bV:=bV.trans (hb.mono bV.size);refine hKK.out _ _ (HS.o _ bV) (fun hHeld=> ?_);clear hKK KK hb hHeld;(try simp only[Act.put,sA_]);obtain ⟨W6n,hW6⟩:∃ W',W5n.alloc (.cells #[.slice none 0 0,.slice none 0 0,.int .i64 0,.slice none 0 0] 50)=W':=⟨_,rfl⟩
      rw[hW6] at m12 r5 r6 bV ⊢;clear hW6
      rename World=> WZ
    case' g63=>
     simp only[gA_];go_simp;have hb:=Qh (w:=wN) #[.slice none 0 0,.slice none 0 0,.int .i64 0,.slice none 0 0] 50;have r6:=hb.1;have hg6:V.heap.size≤_:=bV.size;replace hb:=hb.2;replace m12:=m12.below hb;replace bV:=bV.trans (hb.mono bV.size);refine hKK.out _ _ (HS.o _ bV) (fun hHeld=> ?_);clear hKK KK hb hHeld;(try simp only[Act.put,sA_]);obtain ⟨W6n,hW6⟩:∃ W',wN.alloc (.cells #[.slice none 0 0,.slice none 0 0,.int .i64 0,.slice none 0 0] 50)=W':=⟨_,rfl⟩
     rw[hW6] at m12 r6 bV ⊢;clear hW6;refine wpAnyH_ready (rs:= [6,8]) (by kernel_rfl) (by simp) ?_;refine AllReadyH.cons rfl (fun KK hKK=> ?gR6) (AllReadyH.cons rfl (fun KK hKK=> ?g56) AllReadyH.nil)
     case' gR6=>
      simp only[gA_];go_simp;refine eH_ (XG n HH.c HH.D _) ?_;rintro r wR ⟨v15,z,rfl,hz,z15,hb⟩;obtain ⟨az,cz,rfl,_⟩:=z15.form;replace m12:=m12.below hb;replace r6:=Q7 r6 hb;replace bV:=bV.trans (hb.mono bV.size);dsimp only;refine hKK.out _ _ (HS.o _ bV) (fun hHeld=> ?_);clear hKK KK hb;(try simp only[Act.put,sA_]);refine tk_ 7 rfl ?_;try simp only[Act.put,gP_]
      rename World=> WZ
     case' g56=>
      simp only[gA_];go_simp;have hb:=Qh (w:=W6n) #[.bool false,.slice none 0 0,.pointer none] 38;have r5:=hb.1;have hg5:V.heap.size≤_:=bV.size;replace hb:=hb.2;have hne:=(Nat.ne_of_lt (Q4 r6))
      replace m12:=m12.below hb;replace r6:=Q7 r6 hb;replace bV:=bV.trans (hb.mono bV.size);refine hKK.out _ _ (HS.o _ bV) (fun hHeld=> ?_);clear hKK KK hb hHeld;(try simp only[Act.put,sA_]);obtain ⟨W5n,hW5⟩:∃ W',W6n.alloc (.cells #[.bool false,.slice none 0 0,.pointer none] 38)=W':=⟨_,rfl⟩
      rw[hW5] at m12 r6 r5 bV ⊢;clear hW5
      rename World=> WZ
   case' g52=>
    simp only[gA_];go_simp;have hb:=Qh (w:=wF) #[.bool false,.slice none 0 0,.pointer none] 38;have r5:=hb.1;have hg5:V.heap.size≤_:=bV.size;replace hb:=hb.2;replace n11:=n11.below hb;replace bV:=bV.trans (hb.mono bV.size);refine hKK.out _ _ (HS.o _ bV) (fun hHeld=> ?_);clear hKK KK hb hHeld;(try simp only[Act.put,sA_]);obtain ⟨W5n,hW5⟩:∃ W',wF.alloc (.cells #[.bool false,.slice none 0 0,.pointer none] 38)=W':=⟨_,rfl⟩
    rw[hW5] at n11 r5 bV ⊢;clear hW5;refine wpAnyH_ready (rs:= [3,9]) (by kernel_rfl) (by simp) ?_;refine AllReadyH.cons rfl (fun KK hKK=> ?gN7) (AllReadyH.cons rfl (fun KK hKK=> ?g67) AllReadyH.nil)
    case' gN7=>
     simp only[gA_];go_simp;refine eH_ (Xe n11) ?_;rintro r wN ⟨v12,rfl,m12,hb⟩;replace r5:=Q7 r5 hb;replace bV:=bV.trans (hb.mono bV.size);clear n11;dsimp only;refine hKK.out _ _ (HS.o _ bV) (fun hHeld=> ?_);clear hKK KK hb;(try simp only[Act.put,sA_]);refine wpAnyH_ready (rs:= [6,9]) (by kernel_rfl) (by simp) ?_;refine AllReadyH.cons rfl (fun KK hKK=> ?gR8) (AllReadyH.cons rfl (fun KK hKK=> ?g68) AllReadyH.nil)
     case' gR8=>
      simp only[gA_];go_simp;refine eH_ (XG n HH.c HH.D _) ?_;rintro r wR ⟨v15,z,rfl,hz,z15,hb⟩;obtain ⟨az,cz,rfl,_⟩:=z15.form;replace r5:=Q7 r5 hb;replace m12:=m12.below hb;replace bV:=bV.trans (hb.mono bV.size);dsimp only;refine hKK.out _ _ (HS.o _ bV) (fun hHeld=> ?_);clear hKK KK hb;(try simp only[Act.put,sA_]);refine tk_ 7 rfl ?_;try simp only[Act.put,gP_]
      rename World=> WZ
     case' g68=>
      simp only[gA_];go_simp;have hb:=Qh (w:=wN) #[.slice none 0 0,.slice none 0 0,.int .i64 0,.slice none 0 0] 50;have r6:=hb.1;have hg6:V.heap.size≤_:=bV.size;replace hb:=hb.2;have hne:=(Nat.ne_of_gt (Q4 r5))
      replace r5:=Q7 r5 hb;replace m12:=m12.below hb;replace bV:=bV.trans (hb.mono bV.size);refine hKK.out _ _ (HS.o _ bV) (fun hHeld=> ?_);clear hKK KK hb hHeld;(try simp only[Act.put,sA_]);obtain ⟨W6n,hW6⟩:∃ W',wN.alloc (.cells #[.slice none 0 0,.slice none 0 0,.int .i64 0,.slice none 0 0] 50)=W':=⟨_,rfl⟩
      rw[hW6] at r5 m12 r6 bV ⊢;clear hW6
      rename World=> WZ
    case' g67=>
     simp only[gA_];go_simp;have hb:=Qh (w:=W5n) #[.slice none 0 0,.slice none 0 0,.int .i64 0,.slice none 0 0] 50;have r6:=hb.1;have hg6:V.heap.size≤_:=bV.size;replace hb:=hb.2;have hne:=(Nat.ne_of_gt (Q4 r5))
     replace n11:=n11.below hb;replace r5:=Q7 r5 hb;replace bV:=bV.trans (hb.mono bV.size);refine hKK.out _ _ (HS.o _ bV) (fun hHeld=> ?_);clear hKK KK hb hHeld;(try simp only[Act.put,sA_]);obtain ⟨W6n,hW6⟩:∃ W',W5n.alloc (.cells #[.slice none 0 0,.slice none 0 0,.int .i64 0,.slice none 0 0] 50)=W':=⟨_,rfl⟩
     rw[hW6] at n11 r5 r6 bV ⊢;clear hW6;refine wpAnyH_ready (rs:= [3]) (by kernel_rfl) (by simp) ?_;refine AllReadyH.cons rfl (fun KK hKK=> ?gN9) AllReadyH.nil
     case' gN9=>
      simp only[gA_];go_simp;refine eH_ (Xe n11) ?_;rintro r wN ⟨v12,rfl,m12,hb⟩;replace r5:=Q7 r5 hb;replace r6:=Q7 r6 hb;replace bV:=bV.trans (hb.mono bV.size);clear n11;dsimp only;refine hKK.out _ _ (HS.o _ bV) (fun hHeld=> ?_);clear hKK KK hb;try simp only[Act.put,sA_]
      rename World=> WZ
   case' g62=>
    simp only[gA_];go_simp;have hb:=Qh (w:=wF) #[.slice none 0 0,.slice none 0 0,.int .i64 0,.slice none 0 0] 50;have r6:=hb.1;have hg6:V.heap.size≤_:=bV.size;replace hb:=hb.2;replace n11:=n11.below hb;replace bV:=bV.trans (hb.mono bV.size);refine hKK.out _ _ (HS.o _ bV) (fun hHeld=> ?_);clear hKK KK hb hHeld;(try simp only[Act.put,sA_]);obtain ⟨W6n,hW6⟩:∃ W',wF.alloc (.cells #[.slice none 0 0,.slice none 0 0,.int .i64 0,.slice none 0 0] 50)=W':=⟨_,rfl⟩
    rw[hW6] at n11 r6 bV ⊢;clear hW6;refine wpAnyH_ready (rs:= [3,8]) (by kernel_rfl) (by simp) ?_;refine AllReadyH.cons rfl (fun KK hKK=> ?gN10) (AllReadyH.cons rfl (fun KK hKK=> ?g510) AllReadyH.nil)
    case' gN10=>
     simp only[gA_];go_simp;refine eH_ (Xe n11) ?_;rintro r wN ⟨v12,rfl,m12,hb⟩;replace r6:=Q7 r6 hb;replace bV:=bV.trans (hb.mono bV.size);clear n11;dsimp only;refine hKK.out _ _ (HS.o _ bV) (fun hHeld=> ?_);clear hKK KK hb;(try simp only[Act.put,sA_]);refine wpAnyH_ready (rs:= [6,8]) (by kernel_rfl) (by simp) ?_;refine AllReadyH.cons rfl (fun KK hKK=> ?gR11) (AllReadyH.cons rfl (fun KK hKK=> ?g511) AllReadyH.nil)
     case' gR11=>
      simp only[gA_];go_simp;refine eH_ (XG n HH.c HH.D _) ?_;rintro r wR ⟨v15,z,rfl,hz,z15,hb⟩;obtain ⟨az,cz,rfl,_⟩:=z15.form;replace r6:=Q7 r6 hb;replace m12:=m12.below hb;replace bV:=bV.trans (hb.mono bV.size);dsimp only;refine hKK.out _ _ (HS.o _ bV) (fun hHeld=> ?_);clear hKK KK hb;(try simp only[Act.put,sA_]);refine tk_ 7 rfl ?_;try simp only[Act.put,gP_]
      rename World=> WZ
     case' g511=>
      simp only[gA_];go_simp;have hb:=Qh (w:=wN) #[.bool false,.slice none 0 0,.pointer none] 38;have r5:=hb.1;have hg5:V.heap.size≤_:=bV.size;replace hb:=hb.2;have hne:=(Nat.ne_of_lt (Q4 r6))
      replace r6:=Q7 r6 hb;replace m12:=m12.below hb;replace bV:=bV.trans (hb.mono bV.size);refine hKK.out _ _ (HS.o _ bV) (fun hHeld=> ?_);clear hKK KK hb hHeld;(try simp only[Act.put,sA_]);obtain ⟨W5n,hW5⟩:∃ W',wN.alloc (.cells #[.bool false,.slice none 0 0,.pointer none] 38)=W':=⟨_,rfl⟩
      rw[hW5] at r6 m12 r5 bV ⊢;clear hW5
      rename World=> WZ
    case' g510=>
     simp only[gA_];go_simp;have hb:=Qh (w:=W6n) #[.bool false,.slice none 0 0,.pointer none] 38;have r5:=hb.1;have hg5:V.heap.size≤_:=bV.size;replace hb:=hb.2;have hne:=(Nat.ne_of_lt (Q4 r6))
     replace n11:=n11.below hb;replace r6:=Q7 r6 hb;replace bV:=bV.trans (hb.mono bV.size);refine hKK.out _ _ (HS.o _ bV) (fun hHeld=> ?_);clear hKK KK hb hHeld;(try simp only[Act.put,sA_]);obtain ⟨W5n,hW5⟩:∃ W',W6n.alloc (.cells #[.bool false,.slice none 0 0,.pointer none] 38)=W':=⟨_,rfl⟩
     rw[hW5] at n11 r6 r5 bV ⊢;clear hW5;refine wpAnyH_ready (rs:= [3]) (by kernel_rfl) (by simp) ?_;refine AllReadyH.cons rfl (fun KK hKK=> ?gN12) AllReadyH.nil
     case' gN12=>
      simp only[gA_];go_simp;refine eH_ (Xe n11) ?_;rintro r wN ⟨v12,rfl,m12,hb⟩;replace r6:=Q7 r6 hb;replace r5:=Q7 r5 hb;replace bV:=bV.trans (hb.mono bV.size);clear n11;dsimp only;refine hKK.out _ _ (HS.o _ bV) (fun hHeld=> ?_);clear hKK KK hb;try simp only[Act.put,sA_]
      rename World=> WZ
  case' g51=>
   simp only[gA_];go_simp;have hb:=Qh (w:=W0) #[.bool false,.slice none 0 0,.pointer none] 38;have r5:=hb.1;have hg5:V.heap.size≤_:=bV.size;replace hb:=hb.2;replace bV:=bV.trans (hb.mono bV.size);refine hKK.out _ _ (HS.o _ bV) (fun hHeld=> ?_);clear hKK KK hb hHeld;(try simp only[Act.put,sA_]);obtain ⟨W5n,hW5⟩:∃ W',W0.alloc (.cells #[.bool false,.slice none 0 0,.pointer none] 38)=W':=⟨_,rfl⟩
   rw[hW5] at r5 bV ⊢;clear hW5;refine wpAnyH_ready (rs:= [2,9]) (by kernel_rfl) (by simp) ?_;refine AllReadyH.cons rfl (fun KK hKK=> ?gF13) (AllReadyH.cons rfl (fun KK hKK=> ?g613) AllReadyH.nil)
   case' gF13=>
    simp only[gA_];go_simp;refine eH_ (QY n HH.c HH.D _) ?_;rintro r wF ⟨v11,rfl,n11,hb⟩;replace r5:=Q7 r5 hb;replace bV:=bV.trans (hb.mono bV.size);dsimp only;refine hKK.out _ _ (HS.o _ bV) (fun hHeld=> ?_);clear hKK KK hb;(try simp only[Act.put,sA_]);refine wpAnyH_ready (rs:= [3,9]) (by kernel_rfl) (by simp) ?_;refine AllReadyH.cons rfl (fun KK hKK=> ?gN14) (AllReadyH.cons rfl (fun KK hKK=> ?g614) AllReadyH.nil)
    case' gN14=>
     simp only[gA_];go_simp;refine eH_ (Xe n11) ?_;rintro r wN ⟨v12,rfl,m12,hb⟩;replace r5:=Q7 r5 hb;replace bV:=bV.trans (hb.mono bV.size);clear n11;dsimp only;refine hKK.out _ _ (HS.o _ bV) (fun hHeld=> ?_);clear hKK KK hb;(try simp only[Act.put,sA_]);refine wpAnyH_ready (rs:= [6,9]) (by kernel_rfl) (by simp) ?_;refine AllReadyH.cons rfl (fun KK hKK=> ?gR15) (AllReadyH.cons rfl (fun KK hKK=> ?g615) AllReadyH.nil)
     case' gR15=>
      simp only[gA_];go_simp;refine eH_ (XG n HH.c HH.D _) ?_;rintro r wR ⟨v15,z,rfl,hz,z15,hb⟩;obtain ⟨az,cz,rfl,_⟩:=z15.form;replace r5:=Q7 r5 hb;replace m12:=m12.below hb;replace bV:=bV.trans (hb.mono bV.size);dsimp only;refine hKK.out _ _ (HS.o _ bV) (fun hHeld=> ?_);clear hKK KK hb;(try simp only[Act.put,sA_]);refine tk_ 7 rfl ?_;try simp only[Act.put,gP_]
      rename World=> WZ
     case' g615=>
      simp only[gA_];go_simp;have hb:=Qh (w:=wN) #[.slice none 0 0,.slice none 0 0,.int .i64 0,.slice none 0 0] 50;have r6:=hb.1;have hg6:V.heap.size≤_:=bV.size;replace hb:=hb.2;have hne:=(Nat.ne_of_gt (Q4 r5))
      replace r5:=Q7 r5 hb;replace m12:=m12.below hb;replace bV:=bV.trans (hb.mono bV.size);refine hKK.out _ _ (HS.o _ bV) (fun hHeld=> ?_);clear hKK KK hb hHeld;(try simp only[Act.put,sA_]);obtain ⟨W6n,hW6⟩:∃ W',wN.alloc (.cells #[.slice none 0 0,.slice none 0 0,.int .i64 0,.slice none 0 0] 50)=W':=⟨_,rfl⟩
      rw[hW6] at r5 m12 r6 bV ⊢;clear hW6
      rename World=> WZ
    case' g614=>
     simp only[gA_];go_simp;have hb:=Qh (w:=wF) #[.slice none 0 0,.slice none 0 0,.int .i64 0,.slice none 0 0] 50;have r6:=hb.1;have hg6:V.heap.size≤_:=bV.size;replace hb:=hb.2;have hne:=(Nat.ne_of_gt (Q4 r5))
     replace r5:=Q7 r5 hb;replace n11:=n11.below hb;replace bV:=bV.trans (hb.mono bV.size);refine hKK.out _ _ (HS.o _ bV) (fun hHeld=> ?_);clear hKK KK hb hHeld;(try simp only[Act.put,sA_]);obtain ⟨W6n,hW6⟩:∃ W',wF.alloc (.cells #[.slice none 0 0,.slice none 0 0,.int .i64 0,.slice none 0 0] 50)=W':=⟨_,rfl⟩
     rw[hW6] at r5 n11 r6 bV ⊢;clear hW6;refine wpAnyH_ready (rs:= [3]) (by kernel_rfl) (by simp) ?_;refine AllReadyH.cons rfl (fun KK hKK=> ?gN16) AllReadyH.nil
     case' gN16=>
      simp only[gA_];go_simp;refine eH_ (Xe n11) ?_;rintro r wN ⟨v12,rfl,m12,hb⟩;replace r5:=Q7 r5 hb;replace r6:=Q7 r6 hb;replace bV:=bV.trans (hb.mono bV.size);clear n11;dsimp only;refine hKK.out _ _ (HS.o _ bV) (fun hHeld=> ?_);clear hKK KK hb;try simp only[Act.put,sA_]
      rename World=> WZ
   case' g613=>
    simp only[gA_];go_simp;have hb:=Qh (w:=W5n) #[.slice none 0 0,.slice none 0 0,.int .i64 0,.slice none 0 0] 50;have r6:=hb.1;have hg6:V.heap.size≤_:=bV.size;replace hb:=hb.2;have hne:=(Nat.ne_of_gt (Q4 r5))
    replace r5:=Q7 r5 hb;replace bV:=bV.trans (hb.mono bV.size);refine hKK.out _ _ (HS.o _ bV) (fun hHeld=> ?_);clear hKK KK hb hHeld;(try simp only[Act.put,sA_]);obtain ⟨W6n,hW6⟩:∃ W',W5n.alloc (.cells #[.slice none 0 0,.slice none 0 0,.int .i64 0,.slice none 0 0] 50)=W':=⟨_,rfl⟩
    rw[hW6] at r5 r6 bV ⊢;clear hW6;refine wpAnyH_ready (rs:= [2]) (by kernel_rfl) (by simp) ?_;refine AllReadyH.cons rfl (fun KK hKK=> ?gF17) AllReadyH.nil
    case' gF17=>
     simp only[gA_];go_simp;refine eH_ (QY n HH.c HH.D _) ?_;rintro r wF ⟨v11,rfl,n11,hb⟩;replace r5:=Q7 r5 hb;replace r6:=Q7 r6 hb;replace bV:=bV.trans (hb.mono bV.size);dsimp only;refine hKK.out _ _ (HS.o _ bV) (fun hHeld=> ?_);clear hKK KK hb;(try simp only[Act.put,sA_]);refine wpAnyH_ready (rs:= [3]) (by kernel_rfl) (by simp) ?_;refine AllReadyH.cons rfl (fun KK hKK=> ?gN18) AllReadyH.nil
     case' gN18=>
      simp only[gA_];go_simp;refine eH_ (Xe n11) ?_;rintro r wN ⟨v12,rfl,m12,hb⟩;replace r5:=Q7 r5 hb;replace r6:=Q7 r6 hb;replace bV:=bV.trans (hb.mono bV.size);clear n11;dsimp only;refine hKK.out _ _ (HS.o _ bV) (fun hHeld=> ?_);clear hKK KK hb;try simp only[Act.put,sA_]
      rename World=> WZ
  case' g61=>
   simp only[gA_];go_simp;have hb:=Qh (w:=W0) #[.slice none 0 0,.slice none 0 0,.int .i64 0,.slice none 0 0] 50;have r6:=hb.1;have hg6:V.heap.size≤_:=bV.size;replace hb:=hb.2;replace bV:=bV.trans (hb.mono bV.size);refine hKK.out _ _ (HS.o _ bV) (fun hHeld=> ?_);clear hKK KK hb hHeld;(try simp only[Act.put,sA_]);obtain ⟨W6n,hW6⟩:∃ W',W0.alloc (.cells #[.slice none 0 0,.slice none 0 0,.int .i64 0,.slice none 0 0] 50)=W':=⟨_,rfl⟩
   rw[hW6] at r6 bV ⊢;clear hW6;refine wpAnyH_ready (rs:= [2,8]) (by kernel_rfl) (by simp) ?_;refine AllReadyH.cons rfl (fun KK hKK=> ?gF19) (AllReadyH.cons rfl (fun KK hKK=> ?g519) AllReadyH.nil)
   case' gF19=>
    simp only[gA_];go_simp;refine eH_ (QY n HH.c HH.D _) ?_;rintro r wF ⟨v11,rfl,n11,hb⟩;replace r6:=Q7 r6 hb;replace bV:=bV.trans (hb.mono bV.size);dsimp only;refine hKK.out _ _ (HS.o _ bV) (fun hHeld=> ?_);clear hKK KK hb;(try simp only[Act.put,sA_]);refine wpAnyH_ready (rs:= [3,8]) (by kernel_rfl) (by simp) ?_;refine AllReadyH.cons rfl (fun KK hKK=> ?gN20) (AllReadyH.cons rfl (fun KK hKK=> ?g520) AllReadyH.nil)
    case' gN20=>
     simp only[gA_];go_simp;refine eH_ (Xe n11) ?_;rintro r wN ⟨v12,rfl,m12,hb⟩;replace r6:=Q7 r6 hb;replace bV:=bV.trans (hb.mono bV.size);clear n11;dsimp only;refine hKK.out _ _ (HS.o _ bV) (fun hHeld=> ?_);clear hKK KK hb;(try simp only[Act.put,sA_]);refine wpAnyH_ready (rs:= [6,8]) (by kernel_rfl) (by simp) ?_;refine AllReadyH.cons rfl (fun KK hKK=> ?gR21) (AllReadyH.cons rfl (fun KK hKK=> ?g521) AllReadyH.nil)
     case' gR21=>
      simp only[gA_];go_simp;refine eH_ (XG n HH.c HH.D _) ?_;rintro r wR ⟨v15,z,rfl,hz,z15,hb⟩;obtain ⟨az,cz,rfl,_⟩:=z15.form;replace r6:=Q7 r6 hb;replace m12:=m12.below hb;replace bV:=bV.trans (hb.mono bV.size);dsimp only;refine hKK.out _ _ (HS.o _ bV) (fun hHeld=> ?_);clear hKK KK hb;(try simp only[Act.put,sA_]);refine tk_ 7 rfl ?_;try simp only[Act.put,gP_]
      rename World=> WZ
     case' g521=>
      simp only[gA_];go_simp;have hb:=Qh (w:=wN) #[.bool false,.slice none 0 0,.pointer none] 38;have r5:=hb.1;have hg5:V.heap.size≤_:=bV.size;replace hb:=hb.2;have hne:=(Nat.ne_of_lt (Q4 r6))
      replace r6:=Q7 r6 hb;replace m12:=m12.below hb;replace bV:=bV.trans (hb.mono bV.size);refine hKK.out _ _ (HS.o _ bV) (fun hHeld=> ?_);clear hKK KK hb hHeld;(try simp only[Act.put,sA_]);obtain ⟨W5n,hW5⟩:∃ W',wN.alloc (.cells #[.bool false,.slice none 0 0,.pointer none] 38)=W':=⟨_,rfl⟩
      rw[hW5] at r6 m12 r5 bV ⊢;clear hW5
      rename World=> WZ
    case' g520=>
     simp only[gA_];go_simp;have hb:=Qh (w:=wF) #[.bool false,.slice none 0 0,.pointer none] 38;have r5:=hb.1;have hg5:V.heap.size≤_:=bV.size;replace hb:=hb.2;have hne:=(Nat.ne_of_lt (Q4 r6))
     replace r6:=Q7 r6 hb;replace n11:=n11.below hb;replace bV:=bV.trans (hb.mono bV.size);refine hKK.out _ _ (HS.o _ bV) (fun hHeld=> ?_);clear hKK KK hb hHeld;(try simp only[Act.put,sA_]);obtain ⟨W5n,hW5⟩:∃ W',wF.alloc (.cells #[.bool false,.slice none 0 0,.pointer none] 38)=W':=⟨_,rfl⟩
     rw[hW5] at r6 n11 r5 bV ⊢;clear hW5;refine wpAnyH_ready (rs:= [3]) (by kernel_rfl) (by simp) ?_;refine AllReadyH.cons rfl (fun KK hKK=> ?gN22) AllReadyH.nil
     case' gN22=>
      simp only[gA_];go_simp;refine eH_ (Xe n11) ?_;rintro r wN ⟨v12,rfl,m12,hb⟩;replace r6:=Q7 r6 hb;replace r5:=Q7 r5 hb;replace bV:=bV.trans (hb.mono bV.size);clear n11;dsimp only;refine hKK.out _ _ (HS.o _ bV) (fun hHeld=> ?_);clear hKK KK hb;try simp only[Act.put,sA_]
      rename World=> WZ
   case' g519=>
    simp only[gA_];go_simp;have hb:=Qh (w:=W6n) #[.bool false,.slice none 0 0,.pointer none] 38;have r5:=hb.1;have hg5:V.heap.size≤_:=bV.size;replace hb:=hb.2;have hne:=(Nat.ne_of_lt (Q4 r6))
    replace r6:=Q7 r6 hb;replace bV:=bV.trans (hb.mono bV.size);refine hKK.out _ _ (HS.o _ bV) (fun hHeld=> ?_);clear hKK KK hb hHeld;(try simp only[Act.put,sA_]);obtain ⟨W5n,hW5⟩:∃ W',W6n.alloc (.cells #[.bool false,.slice none 0 0,.pointer none] 38)=W':=⟨_,rfl⟩
    rw[hW5] at r6 r5 bV ⊢;clear hW5;refine wpAnyH_ready (rs:= [2]) (by kernel_rfl) (by simp) ?_;refine AllReadyH.cons rfl (fun KK hKK=> ?gF23) AllReadyH.nil
    case' gF23=>
     simp only[gA_];go_simp;refine eH_ (QY n HH.c HH.D _) ?_;rintro r wF ⟨v11,rfl,n11,hb⟩;replace r6:=Q7 r6 hb;replace r5:=Q7 r5 hb;replace bV:=bV.trans (hb.mono bV.size);dsimp only;refine hKK.out _ _ (HS.o _ bV) (fun hHeld=> ?_);clear hKK KK hb;(try simp only[Act.put,sA_]);refine wpAnyH_ready (rs:= [3]) (by kernel_rfl) (by simp) ?_;refine AllReadyH.cons rfl (fun KK hKK=> ?gN24) AllReadyH.nil
     case' gN24=>
      simp only[gA_];go_simp;refine eH_ (Xe n11) ?_;rintro r wN ⟨v12,rfl,m12,hb⟩;replace r6:=Q7 r6 hb;replace r5:=Q7 r5 hb;replace bV:=bV.trans (hb.mono bV.size);clear n11;dsimp only;refine hKK.out _ _ (HS.o _ bV) (fun hHeld=> ?_);clear hKK KK hb;try simp only[Act.put,sA_]
      rename World=> WZ
  all_goals first
   | (
    have tz:=z15;have t5:=r5;clear tz t5;refine rd_ 9 rfl (fun KK hKK=> ?_);simp only[gA_];go_simp;have hb:=Qh (w:=WZ) #[.slice none 0 0,.slice none 0 0,.int .i64 0,.slice none 0 0] 50;have r6:=hb.1;have hg6:V.heap.size≤_:=bV.size;replace hb:=hb.2;have hne:=(Nat.ne_of_gt (Q4 r5))
    replace m12:=m12.below hb;replace z15:=z15.below hb;replace r5:=Q7 r5 hb;replace bV:=bV.trans (hb.mono bV.size);refine hKK.out _ _ (HS.o _ bV) (fun hHeld=> ?_);clear hKK KK hb hHeld;(try simp only[Act.put,sA_]);obtain ⟨W6n,hW6⟩:∃ W',WZ.alloc (.cells #[.slice none 0 0,.slice none 0 0,.int .i64 0,.slice none 0 0] 50)=W':=⟨_,rfl⟩
    rw[hW6] at m12 z15 r5 r6 bV ⊢;clear hW6)
   | (
    have tz:=z15;have t6:=r6;clear tz t6;refine rd_ 8 rfl (fun KK hKK=> ?_);simp only[gA_];go_simp;have hb:=Qh (w:=WZ) #[.bool false,.slice none 0 0,.pointer none] 38;have r5:=hb.1;have hg5:V.heap.size≤_:=bV.size;replace hb:=hb.2;have hne:=(Nat.ne_of_lt (Q4 r6))
    replace m12:=m12.below hb;replace z15:=z15.below hb;replace r6:=Q7 r6 hb;replace bV:=bV.trans (hb.mono bV.size);refine hKK.out _ _ (HS.o _ bV) (fun hHeld=> ?_);clear hKK KK hb hHeld;(try simp only[Act.put,sA_]);obtain ⟨W5n,hW5⟩:∃ W',WZ.alloc (.cells #[.bool false,.slice none 0 0,.pointer none] 38)=W':=⟨_,rfl⟩
    rw[hW5] at m12 z15 r6 r5 bV ⊢;clear hW5)
   | (
    refine rd_ 6 rfl (fun KK hKK=> ?_);simp only[gA_];go_simp;refine eH_ (XG n HH.c HH.D _) ?_;rintro r wR ⟨v15,z,rfl,hz,z15,hb⟩;obtain ⟨az,cz,rfl,_⟩:=z15.form;replace m12:=m12.below hb;replace r5:=Q7 r5 hb;replace r6:=Q7 r6 hb;replace bV:=bV.trans (hb.mono bV.size);dsimp only;refine hKK.out _ _ (HS.o _ bV) (fun hHeld=> ?_);clear hKK KK hb;(try simp only[Act.put,sA_]);refine tk_ 7 rfl ?_;try simp only[Act.put,gP_])
  all_goals (
   refine rd_ 10 rfl (fun KK hKK=> ?_);simp only[gA_];refine QK (B:=V.heap.size) (w0:=V) _ _ rfl rfl r5 rfl rfl m12 hg5 bV ?_;rintro W5 cs5 hfr hw5 hg hs hn hb5;have r6b:=QL hw5 hne r6;refine hKK.out _ _ (HS.o _ hb5) (fun hHeld=> ?_);clear hKK KK hHeld;(try simp only[Act.put,sA_]);refine wpAnyH_done (by kernel_rfl) ?_ _;unfold PeelQ;dsimp only;refine QU (B:=V.heap.size) (w0:=V) _ _ rfl rfl r6b rfl rfl ((Q7W z15).frt hfr (by decide) (by decide) (by decide)) hg6 hb5 ?_;rintro W6 cs6 hw6 hh hs6 hn6 hb6;have r5b:=QL hw6 hne.symm hg;have HL:=hd_ (show TwoT V _ _ ⟨[],n⟩ ⟨[],z⟩ W6 from ⟨⟨cs5,r5b,hs,hn.frt (by rw[hw6];exact Qg r6b) (by decide) (by decide) (by decide)⟩,⟨cs6,hh,hs6,hn6⟩,hb6,hg5,hg6⟩);have HZ:=hd_ hz;clear r5 r6 r6b r5b hg hh hn hn6 hb5 hb6 hw5 hw6 bV m12 z15 hfr hs hs6 hz;go_simp;go_wp2_with fail;go_meet
   case rel=> exact ⟨_,_,_,rfl,rfl,HZ.o,HL.o⟩)
 case rest=>
 obtain ⟨g,h,z,rfl,rfl,hz,hT⟩:=hcut;have HT0:=h2_ hT hz;have s0:=(hT.b.cell (Q9 s0)).trans s0;have s1:=(hT.b.cell (Q9 s1)).trans s1;clear hT hz;by_cases hbig:12 < ps.length∨n < -1099511627776∨1099511627776 < n
 ·obtain ⟨t5,ht5⟩:∃ t:Tp.T,(⟨[],n⟩:Tp.T)=t:=⟨_,rfl⟩
  obtain ⟨t6,ht6⟩:∃ t:Tp.T,(⟨[],z⟩:Tp.T)=t:=⟨_,rfl⟩
  rw[ht5,ht6] at HT0;clear ht5 ht6;rcases hbig with hb | hb | hb
  ·have hb':(12:Int) < (ps.length:Int):=(by omega);go_wp2_with fail;obtain ⟨⟨cs5,r5,z5,m5⟩,⟨cs6,r6,z6,m6⟩,bV,hg,hh⟩:=HT0.a;obtain ⟨b5,x5,c5,o5,e5,m5⟩:=Ql m5;injection e5 with e5;subst e5;obtain ⟨an,cn,af,cf,s6,ad,cd,e6,m6⟩:=Xa m6;injection e6 with e6;subst e6;have k0:=Q3 r5 0 rfl;have k1:=Q3 r5 1 rfl;have k2:=Q3 r5 2 rfl;have j0:=Q3 r6 0 rfl;have j1:=Q3 r6 1 rfl;have j2:=Q3 r6 2 rfl;have j3:=Q3 r6 3 rfl;have q2:=(bV.block _ (Q4 HB.b)).trans HB.b;have q3:=(bV.block _ (Q4 HB.c)).trans HB.c;have hVs:=Q4 HB.c;have bw:=HB.D.trans (bV.mono HB.D.size);have hS:Hid (∀ W:World,(W.heap[g]? =wc.heap[g]? ∧W.heap[h]? =wc.heap[h]?)→(W.heap[g]? =wc.heap[g]? ∧W.heap[h]? =wc.heap[h]?)∧W.cell? ⟨g,0,none⟩=some (.bool b5)∧W.cell? ⟨g,1,none⟩=some (.slice x5 (wd t5.rest).length c5)∧W.cell? ⟨g,2,none⟩=some (.pointer o5)∧W.cell? ⟨h,0,none⟩=some (.slice an t6.l.length cn)∧W.cell? ⟨h,1,none⟩=some (.slice af t6.l.length cf)∧W.cell? ⟨h,2,none⟩=some (.int .i64 s6)∧W.cell? ⟨h,3,none⟩=some (.slice ad (dg t6.rest).length cd)):=fun W hb=> ⟨hb,Q3 (hb.1.trans r5) 0 rfl,Q3 (hb.1.trans r5) 1 rfl,Q3 (hb.1.trans r5) 2 rfl,Q3 (hb.2.trans r6) 0 rfl,Q3 (hb.2.trans r6) 1 rfl,Q3 (hb.2.trans r6) 2 rfl,Q3 (hb.2.trans r6) 3 rfl⟩;have HX:=h8_ m5 m6 q2 q3 bw hg hh hVs;clear r5 z5 m5 r6 z6 m6 bV hg hh k0 k1 k2 j0 j1 j2 j3 q2 q3 hVs bw;refine QC (S:=fun W:World=> (W.heap[g]? =wc.heap[g]? ∧W.heap[h]? =wc.heap[h]?)∧W.cell? ⟨g,0,none⟩=some (.bool b5)∧W.cell? ⟨g,1,none⟩=some (.slice x5 (wd t5.rest).length c5)∧W.cell? ⟨g,2,none⟩=some (.pointer o5)∧W.cell? ⟨h,0,none⟩=some (.slice an t6.l.length cn)∧W.cell? ⟨h,1,none⟩=some (.slice af t6.l.length cf)∧W.cell? ⟨h,2,none⟩=some (.int .i64 s6)∧W.cell? ⟨h,3,none⟩=some (.slice ad (dg t6.rest).length cd)) (by simp) (by kernel_rfl) (by kernel_rfl) (hS.out _ ⟨rfl,rfl⟩) (fun hHeld=> ?_);simp only[lA_];refine tk_ 0 rfl ?_;(try simp only[Act.put,gP_]);refine tk_ 1 rfl ?_;(try simp only[Act.put,gP_]);refine rd_ 2 rfl (fun KK hKK=> ?_);simp only[gA_];refine QK (B:=w.heap.size) (w0:=w) (w1:=wc.drew) _ _ rfl rfl HX.c rfl rfl (HX.a.below (eB_ _ _).drew) (show w.heap.size≤w.heap.size+1 by omega) HX.e.drew ?_;rintro W5 cs5 hfr hw5 hg5 hs5 hn5 hb5;have hS5:=hS.out W5 ⟨by rw[hw5,Qa (by have:=HX.F;omega)];rfl,by rw[hw5,Qa (by have:=HX.F;omega)];rfl⟩;have q3:=QL hw5 (show w.heap.size+2≠w.heap.size+1 by omega) HX.d;refine hKK.out _ _ hS5 (fun hHeld=> ?_);clear hKK KK;(try simp only[Act.put,sA_]);refine rd_ 3 rfl (fun KK hKK=> ?_);simp only[gA_];refine QU (B:=w.heap.size) (w0:=w) _ _ rfl rfl q3 rfl rfl ((HX.b.below (eB_ _ _).drew).frt hfr (by decide) (by decide) (by decide)) (show w.heap.size≤w.heap.size+2 by omega) hb5 ?_;rintro W6 cs6 hw6 hh6 hs6 hn6 hb6;have hS6:=hS.out W6 ⟨by rw[hw6,Qa (by have:=HX.F;omega)];exact hS5.1.1,by rw[hw6,Qa (by have:=HX.F;omega)];exact hS5.1.2⟩;have q5:=QL hw6 (show w.heap.size+1≠w.heap.size+2 by omega) hg5;have hn5b:=hn5.frt (show FrT [50] W5 W6 by rw[hw6];exact Qg q3) (by decide) (by decide) (by decide);refine hKK.out _ _ hS6 (fun hHeld=> ?_);clear hKK KK;(try simp only[Act.put,sA_]);have HL:=h7_ q5 hs5 hh6 hs6 hn5b hn6 hb6;clear q5 hs5 hh6 hs6 hn5 hn5b hn6 hb6 hS5 hS6 q3 hw5 hw6 hfr hb5 hg5 hHeld;refine wpAnyH_done (by kernel_rfl) ?_ _;unfold PeelQ;dsimp only;go_simp;go_wp2_with fail;refine eG_ (QS rfl _ _ (w.heap.size+1) (w.heap.size+2) _ _ _ _ _ _ _ _ rfl rfl HL.a HL.c underlying38 rfl (by rw[HL.b];exact QF) underlying50 rfl (by rw[HL.d];exact QI) rfl) rfl ?_;exact ⟨_,_,_,_,_,rfl,HL.e,HL.f,HL.G,fun h=> by cases h⟩
  ·skip
   go_wp2_with fail
   all_goals
    obtain ⟨⟨cs5,r5,z5,m5⟩,⟨cs6,r6,z6,m6⟩,bV,hg,hh⟩:=HT0.a;obtain ⟨b5,x5,c5,o5,e5,m5⟩:=Ql m5;injection e5 with e5;subst e5;obtain ⟨an,cn,af,cf,s6,ad,cd,e6,m6⟩:=Xa m6;injection e6 with e6;subst e6;have k0:=Q3 r5 0 rfl;have k1:=Q3 r5 1 rfl;have k2:=Q3 r5 2 rfl;have j0:=Q3 r6 0 rfl;have j1:=Q3 r6 1 rfl;have j2:=Q3 r6 2 rfl;have j3:=Q3 r6 3 rfl;have q2:=(bV.block _ (Q4 HB.b)).trans HB.b;have q3:=(bV.block _ (Q4 HB.c)).trans HB.c;have hVs:=Q4 HB.c;have bw:=HB.D.trans (bV.mono HB.D.size);have hS:Hid (∀ W:World,(W.heap[g]? =wc.heap[g]? ∧W.heap[h]? =wc.heap[h]?)→(W.heap[g]? =wc.heap[g]? ∧W.heap[h]? =wc.heap[h]?)∧W.cell? ⟨g,0,none⟩=some (.bool b5)∧W.cell? ⟨g,1,none⟩=some (.slice x5 (wd t5.rest).length c5)∧W.cell? ⟨g,2,none⟩=some (.pointer o5)∧W.cell? ⟨h,0,none⟩=some (.slice an t6.l.length cn)∧W.cell? ⟨h,1,none⟩=some (.slice af t6.l.length cf)∧W.cell? ⟨h,2,none⟩=some (.int .i64 s6)∧W.cell? ⟨h,3,none⟩=some (.slice ad (dg t6.rest).length cd)):=fun W hb=> ⟨hb,Q3 (hb.1.trans r5) 0 rfl,Q3 (hb.1.trans r5) 1 rfl,Q3 (hb.1.trans r5) 2 rfl,Q3 (hb.2.trans r6) 0 rfl,Q3 (hb.2.trans r6) 1 rfl,Q3 (hb.2.trans r6) 2 rfl,Q3 (hb.2.trans r6) 3 rfl⟩;have HX:=h8_ m5 m6 q2 q3 bw hg hh hVs;clear r5 z5 m5 r6 z6 m6 bV hg hh k0 k1 k2 j0 j1 j2 j3 q2 q3 hVs bw;refine QC (S:=fun W:World=> (W.heap[g]? =wc.heap[g]? ∧W.heap[h]? =wc.heap[h]?)∧W.cell? ⟨g,0,none⟩=some (.bool b5)∧W.cell? ⟨g,1,none⟩=some (.slice x5 (wd t5.rest).length c5)∧W.cell? ⟨g,2,none⟩=some (.pointer o5)∧W.cell? ⟨h,0,none⟩=some (.slice an t6.l.length cn)∧W.cell? ⟨h,1,none⟩=some (.slice af t6.l.length cf)∧W.cell? ⟨h,2,none⟩=some (.int .i64 s6)∧W.cell? ⟨h,3,none⟩=some (.slice ad (dg t6.rest).length cd)) (by simp) (by kernel_rfl) (by kernel_rfl) (hS.out _ ⟨rfl,rfl⟩) (fun hHeld=> ?_);simp only[lA_];refine tk_ 0 rfl ?_;(try simp only[Act.put,gP_]);refine tk_ 1 rfl ?_;(try simp only[Act.put,gP_]);refine rd_ 2 rfl (fun KK hKK=> ?_);simp only[gA_];refine QK (B:=w.heap.size) (w0:=w) (w1:=wc.drew) _ _ rfl rfl HX.c rfl rfl (HX.a.below (eB_ _ _).drew) (show w.heap.size≤w.heap.size+1 by omega) HX.e.drew ?_;rintro W5 cs5 hfr hw5 hg5 hs5 hn5 hb5;have hS5:=hS.out W5 ⟨by rw[hw5,Qa (by have:=HX.F;omega)];rfl,by rw[hw5,Qa (by have:=HX.F;omega)];rfl⟩;have q3:=QL hw5 (show w.heap.size+2≠w.heap.size+1 by omega) HX.d;refine hKK.out _ _ hS5 (fun hHeld=> ?_);clear hKK KK;(try simp only[Act.put,sA_]);refine rd_ 3 rfl (fun KK hKK=> ?_);simp only[gA_];refine QU (B:=w.heap.size) (w0:=w) _ _ rfl rfl q3 rfl rfl ((HX.b.below (eB_ _ _).drew).frt hfr (by decide) (by decide) (by decide)) (show w.heap.size≤w.heap.size+2 by omega) hb5 ?_;rintro W6 cs6 hw6 hh6 hs6 hn6 hb6;have hS6:=hS.out W6 ⟨by rw[hw6,Qa (by have:=HX.F;omega)];exact hS5.1.1,by rw[hw6,Qa (by have:=HX.F;omega)];exact hS5.1.2⟩;have q5:=QL hw6 (show w.heap.size+1≠w.heap.size+2 by omega) hg5;have hn5b:=hn5.frt (show FrT [50] W5 W6 by rw[hw6];exact Qg q3) (by decide) (by decide) (by decide);refine hKK.out _ _ hS6 (fun hHeld=> ?_);clear hKK KK;(try simp only[Act.put,sA_]);have HL:=h7_ q5 hs5 hh6 hs6 hn5b hn6 hb6;clear q5 hs5 hh6 hs6 hn5 hn5b hn6 hb6 hS5 hS6 q3 hw5 hw6 hfr hb5 hg5 hHeld;refine wpAnyH_done (by kernel_rfl) ?_ _;unfold PeelQ;dsimp only;go_simp;go_wp2_with fail;refine eG_ (QS rfl _ _ (w.heap.size+1) (w.heap.size+2) _ _ _ _ _ _ _ _ rfl rfl HL.a HL.c underlying38 rfl (by rw[HL.b];exact QF) underlying50 rfl (by rw[HL.d];exact QI) rfl) rfl ?_;exact ⟨_,_,_,_,_,rfl,HL.e,HL.f,HL.G,fun h=> by cases h⟩
  ·skip
   go_wp2_with fail
   all_goals
    obtain ⟨⟨cs5,r5,z5,m5⟩,⟨cs6,r6,z6,m6⟩,bV,hg,hh⟩:=HT0.a;obtain ⟨b5,x5,c5,o5,e5,m5⟩:=Ql m5;injection e5 with e5;subst e5;obtain ⟨an,cn,af,cf,s6,ad,cd,e6,m6⟩:=Xa m6;injection e6 with e6;subst e6;have k0:=Q3 r5 0 rfl;have k1:=Q3 r5 1 rfl;have k2:=Q3 r5 2 rfl;have j0:=Q3 r6 0 rfl;have j1:=Q3 r6 1 rfl;have j2:=Q3 r6 2 rfl;have j3:=Q3 r6 3 rfl;have q2:=(bV.block _ (Q4 HB.b)).trans HB.b;have q3:=(bV.block _ (Q4 HB.c)).trans HB.c;have hVs:=Q4 HB.c;have bw:=HB.D.trans (bV.mono HB.D.size);have hS:Hid (∀ W:World,(W.heap[g]? =wc.heap[g]? ∧W.heap[h]? =wc.heap[h]?)→(W.heap[g]? =wc.heap[g]? ∧W.heap[h]? =wc.heap[h]?)∧W.cell? ⟨g,0,none⟩=some (.bool b5)∧W.cell? ⟨g,1,none⟩=some (.slice x5 (wd t5.rest).length c5)∧W.cell? ⟨g,2,none⟩=some (.pointer o5)∧W.cell? ⟨h,0,none⟩=some (.slice an t6.l.length cn)∧W.cell? ⟨h,1,none⟩=some (.slice af t6.l.length cf)∧W.cell? ⟨h,2,none⟩=some (.int .i64 s6)∧W.cell? ⟨h,3,none⟩=some (.slice ad (dg t6.rest).length cd)):=fun W hb=> ⟨hb,Q3 (hb.1.trans r5) 0 rfl,Q3 (hb.1.trans r5) 1 rfl,Q3 (hb.1.trans r5) 2 rfl,Q3 (hb.2.trans r6) 0 rfl,Q3 (hb.2.trans r6) 1 rfl,Q3 (hb.2.trans r6) 2 rfl,Q3 (hb.2.trans r6) 3 rfl⟩;have HX:=h8_ m5 m6 q2 q3 bw hg hh hVs;clear r5 z5 m5 r6 z6 m6 bV hg hh k0 k1 k2 j0 j1 j2 j3 q2 q3 hVs bw;refine QC (S:=fun W:World=> (W.heap[g]? =wc.heap[g]? ∧W.heap[h]? =wc.heap[h]?)∧W.cell? ⟨g,0,none⟩=some (.bool b5)∧W.cell? ⟨g,1,none⟩=some (.slice x5 (wd t5.rest).length c5)∧W.cell? ⟨g,2,none⟩=some (.pointer o5)∧W.cell? ⟨h,0,none⟩=some (.slice an t6.l.length cn)∧W.cell? ⟨h,1,none⟩=some (.slice af t6.l.length cf)∧W.cell? ⟨h,2,none⟩=some (.int .i64 s6)∧W.cell? ⟨h,3,none⟩=some (.slice ad (dg t6.rest).length cd)) (by simp) (by kernel_rfl) (by kernel_rfl) (hS.out _ ⟨rfl,rfl⟩) (fun hHeld=> ?_);simp only[lA_];refine tk_ 0 rfl ?_;(try simp only[Act.put,gP_]);refine tk_ 1 rfl ?_;(try simp only[Act.put,gP_]);refine rd_ 2 rfl (fun KK hKK=> ?_);simp only[gA_];refine QK (B:=w.heap.size) (w0:=w) (w1:=wc.drew) _ _ rfl rfl HX.c rfl rfl (HX.a.below (eB_ _ _).drew) (show w.heap.size≤w.heap.size+1 by omega) HX.e.drew ?_;rintro W5 cs5 hfr hw5 hg5 hs5 hn5 hb5;have hS5:=hS.out W5 ⟨by rw[hw5,Qa (by have:=HX.F;omega)];rfl,by rw[hw5,Qa (by have:=HX.F;omega)];rfl⟩;have q3:=QL hw5 (show w.heap.size+2≠w.heap.size+1 by omega) HX.d;refine hKK.out _ _ hS5 (fun hHeld=> ?_);clear hKK KK;(try simp only[Act.put,sA_]);refine rd_ 3 rfl (fun KK hKK=> ?_);simp only[gA_];refine QU (B:=w.heap.size) (w0:=w) _ _ rfl rfl q3 rfl rfl ((HX.b.below (eB_ _ _).drew).frt hfr (by decide) (by decide) (by decide)) (show w.heap.size≤w.heap.size+2 by omega) hb5 ?_;rintro W6 cs6 hw6 hh6 hs6 hn6 hb6;have hS6:=hS.out W6 ⟨by rw[hw6,Qa (by have:=HX.F;omega)];exact hS5.1.1,by rw[hw6,Qa (by have:=HX.F;omega)];exact hS5.1.2⟩;have q5:=QL hw6 (show w.heap.size+1≠w.heap.size+2 by omega) hg5;have hn5b:=hn5.frt (show FrT [50] W5 W6 by rw[hw6];exact Qg q3) (by decide) (by decide) (by decide);refine hKK.out _ _ hS6 (fun hHeld=> ?_);clear hKK KK;(try simp only[Act.put,sA_]);have HL:=h7_ q5 hs5 hh6 hs6 hn5b hn6 hb6;clear q5 hs5 hh6 hs6 hn5 hn5b hn6 hb6 hS5 hS6 q3 hw5 hw6 hfr hb5 hg5 hHeld;refine wpAnyH_done (by kernel_rfl) ?_ _;unfold PeelQ;dsimp only;go_simp;go_wp2_with fail;refine eG_ (QS rfl _ _ (w.heap.size+1) (w.heap.size+2) _ _ _ _ _ _ _ _ rfl rfl HL.a HL.c underlying38 rfl (by rw[HL.b];exact QF) underlying50 rfl (by rw[HL.d];exact QI) rfl) rfl ?_;exact ⟨_,_,_,_,_,rfl,HL.e,HL.f,HL.G,fun h=> by cases h⟩
 ·have hb1:(ps.length:Int)≤12:=by omega
  have hb2: -1099511627776≤n:=by omega
  have hb3:n≤1099511627776:=by omega
  have hzn:z=n:=HT0.B (by omega);subst hzn;have HLN:=hd_ (show ps.length≤12 by omega);have HB0:Hid (Fits z []):=⟨by simp,hb2,hb3,fun p hp=> by cases hp⟩
  have hd1:¬ (12:Int) < (ps.length:Int):=by omega
  have hd2:¬ z < -1099511627776:=by omega
  have hd3:¬ 1099511627776 < z:=by omega
  clear hbig hb1 hb2 hb3;go_wp2_with fail;clear s0 s1;go_loopg [36] ps.length (fun k v36 wr=> BoRel V g h z ps k v36 wr)
  case atStart=> exact ⟨0,rfl,rfl,eV_ _,HB0.o,HT0.a⟩
  case round=>
   obtain ⟨j,rfl,hk,hj,hfit,hT⟩:=hrel;have HR:=h3_ hk hfit hT;clear hk hfit hT;by_cases hlt:j < ps.length
   ·have hlt':(j:Int) < (ps.length:Int):=(by omega);obtain ⟨⟨nm,f⟩,hp⟩:∃ p,ps[j]? =some p:=⟨_,eA_ hlt⟩
    have hbw:=HB.D.trans (HR.C.b.mono HB.D.size);obtain ⟨bk,off,ea,hr⟩:=Q3H (HH.a.keep (Keeps.of hbw HH.b)) hp;subst ea;have HG:=hd_ hr;have HPP:=hd_ hp;have hx1:=Qh (w:=wr) #[.string ⟨nm.toArray⟩,.int .i64 f] 67;obtain ⟨W1,hW1⟩:∃ W,wr.alloc (.cells #[.string ⟨nm.toArray⟩,.int .i64 f] 67)=W:=⟨_,rfl⟩
    have HW1:=hd_ hW1;rw[hW1] at hx1;have HT1:=h2_ (HR.C.past hx1.2) hx1.1;clear hr hp hx1 hW1 hbw;obtain ⟨t5,ht5⟩:∃ t:Tp.T,Tp.sum ⟨[],z⟩ (ps.take j)=t:=⟨_,rfl⟩
    rw[ht5] at HT1;have HS5:=hd_ ht5;clear ht5;by_cases hbad:f < -1099511627776∨1099511627776 < f∨40 < nm.length
    ·rcases hbad with hb | hb | hb'
     ·skip
      go_wp2_with (first | (refine wpList_load_mid rfl 67 _ rfl bk (off+j*2) rfl _ _ HG.o underlying67 rfl rfl ?_) | (refine Q8 rfl 67 _ _ rfl 67 #[.string ⟨#[]⟩,.int .i64 0] #[.string ⟨nm.toArray⟩,.int .i64 f] rfl rfl rfl Jc (by simp[Value.oneCell']) ?_))
      all_goals
       rw[HW1.o];obtain ⟨⟨cs5,r5,z5,m5⟩,⟨cs6,r6,z6,m6⟩,bV,hg,hh⟩:=HT1.a;obtain ⟨b5,x5,c5,o5,e5,m5⟩:=Ql m5;injection e5 with e5;subst e5;obtain ⟨an,cn,af,cf,s6,ad,cd,e6,m6⟩:=Xa m6;injection e6 with e6;subst e6;have k0:=Q3 r5 0 rfl;have k1:=Q3 r5 1 rfl;have k2:=Q3 r5 2 rfl;have j0:=Q3 r6 0 rfl;have j1:=Q3 r6 1 rfl;have j2:=Q3 r6 2 rfl;have j3:=Q3 r6 3 rfl;have q2:=(bV.block _ (Q4 HB.b)).trans HB.b;have q3:=(bV.block _ (Q4 HB.c)).trans HB.c;have hVs:=Q4 HB.c;have bw:=HB.D.trans (bV.mono HB.D.size);have hS:Hid (∀ W:World,(W.heap[g]? =W1.heap[g]? ∧W.heap[h]? =W1.heap[h]?)→(W.heap[g]? =W1.heap[g]? ∧W.heap[h]? =W1.heap[h]?)∧W.cell? ⟨g,0,none⟩=some (.bool b5)∧W.cell? ⟨g,1,none⟩=some (.slice x5 (wd t5.rest).length c5)∧W.cell? ⟨g,2,none⟩=some (.pointer o5)∧W.cell? ⟨h,0,none⟩=some (.slice an t5.l.length cn)∧W.cell? ⟨h,1,none⟩=some (.slice af t5.l.length cf)∧W.cell? ⟨h,2,none⟩=some (.int .i64 s6)∧W.cell? ⟨h,3,none⟩=some (.slice ad (dg t5.rest).length cd)):=fun W hb=> ⟨hb,Q3 (hb.1.trans r5) 0 rfl,Q3 (hb.1.trans r5) 1 rfl,Q3 (hb.1.trans r5) 2 rfl,Q3 (hb.2.trans r6) 0 rfl,Q3 (hb.2.trans r6) 1 rfl,Q3 (hb.2.trans r6) 2 rfl,Q3 (hb.2.trans r6) 3 rfl⟩;have HX:=h8_ m5 m6 q2 q3 bw hg hh hVs;clear r5 z5 m5 r6 z6 m6 bV hg hh k0 k1 k2 j0 j1 j2 j3 q2 q3 hVs bw;refine QC (S:=fun W:World=> (W.heap[g]? =W1.heap[g]? ∧W.heap[h]? =W1.heap[h]?)∧W.cell? ⟨g,0,none⟩=some (.bool b5)∧W.cell? ⟨g,1,none⟩=some (.slice x5 (wd t5.rest).length c5)∧W.cell? ⟨g,2,none⟩=some (.pointer o5)∧W.cell? ⟨h,0,none⟩=some (.slice an t5.l.length cn)∧W.cell? ⟨h,1,none⟩=some (.slice af t5.l.length cf)∧W.cell? ⟨h,2,none⟩=some (.int .i64 s6)∧W.cell? ⟨h,3,none⟩=some (.slice ad (dg t5.rest).length cd)) (by simp) (by kernel_rfl) (by kernel_rfl) (hS.out _ ⟨rfl,rfl⟩) (fun hHeld=> ?_);simp only[lA_];refine tk_ 0 rfl ?_;(try simp only[Act.put,gP_]);refine tk_ 1 rfl ?_;(try simp only[Act.put,gP_]);refine rd_ 2 rfl (fun KK hKK=> ?_);simp only[gA_];refine QK (B:=w.heap.size) (w0:=w) (w1:=W1.drew) _ _ rfl rfl HX.c rfl rfl (HX.a.below (eB_ _ _).drew) (show w.heap.size≤w.heap.size+1 by omega) HX.e.drew ?_;rintro W5 cs5 hfr hw5 hg5 hs5 hn5 hb5;have hS5:=hS.out W5 ⟨by rw[hw5,Qa (by have:=HX.F;omega)];rfl,by rw[hw5,Qa (by have:=HX.F;omega)];rfl⟩;have q3:=QL hw5 (show w.heap.size+2≠w.heap.size+1 by omega) HX.d;refine hKK.out _ _ hS5 (fun hHeld=> ?_);clear hKK KK;(try simp only[Act.put,sA_]);refine rd_ 3 rfl (fun KK hKK=> ?_);simp only[gA_];refine QU (B:=w.heap.size) (w0:=w) _ _ rfl rfl q3 rfl rfl ((HX.b.below (eB_ _ _).drew).frt hfr (by decide) (by decide) (by decide)) (show w.heap.size≤w.heap.size+2 by omega) hb5 ?_;rintro W6 cs6 hw6 hh6 hs6 hn6 hb6;have hS6:=hS.out W6 ⟨by rw[hw6,Qa (by have:=HX.F;omega)];exact hS5.1.1,by rw[hw6,Qa (by have:=HX.F;omega)];exact hS5.1.2⟩;have q5:=QL hw6 (show w.heap.size+1≠w.heap.size+2 by omega) hg5;have hn5b:=hn5.frt (show FrT [50] W5 W6 by rw[hw6];exact Qg q3) (by decide) (by decide) (by decide);refine hKK.out _ _ hS6 (fun hHeld=> ?_);clear hKK KK;(try simp only[Act.put,sA_]);have HL:=h7_ q5 hs5 hh6 hs6 hn5b hn6 hb6;clear q5 hs5 hh6 hs6 hn5 hn5b hn6 hb6 hS5 hS6 q3 hw5 hw6 hfr hb5 hg5 hHeld;refine wpAnyH_done (by kernel_rfl) ?_ _;unfold PeelQ;dsimp only;go_simp;go_wp2_with fail;refine eG_ (QS rfl _ _ (w.heap.size+1) (w.heap.size+2) _ _ _ _ _ _ _ _ rfl rfl HL.a HL.c underlying38 rfl (by rw[HL.b];exact QF) underlying50 rfl (by rw[HL.d];exact QI) rfl) rfl ?_;exact ⟨_,_,_,_,_,rfl,HL.e,HL.f,HL.G,fun h=> by cases h⟩
     ·skip
      go_wp2_with (first | (refine wpList_load_mid rfl 67 _ rfl bk (off+j*2) rfl _ _ HG.o underlying67 rfl rfl ?_) | (refine Q8 rfl 67 _ _ rfl 67 #[.string ⟨#[]⟩,.int .i64 0] #[.string ⟨nm.toArray⟩,.int .i64 f] rfl rfl rfl Jc (by simp[Value.oneCell']) ?_))
      all_goals
       rw[HW1.o];obtain ⟨⟨cs5,r5,z5,m5⟩,⟨cs6,r6,z6,m6⟩,bV,hg,hh⟩:=HT1.a;obtain ⟨b5,x5,c5,o5,e5,m5⟩:=Ql m5;injection e5 with e5;subst e5;obtain ⟨an,cn,af,cf,s6,ad,cd,e6,m6⟩:=Xa m6;injection e6 with e6;subst e6;have k0:=Q3 r5 0 rfl;have k1:=Q3 r5 1 rfl;have k2:=Q3 r5 2 rfl;have j0:=Q3 r6 0 rfl;have j1:=Q3 r6 1 rfl;have j2:=Q3 r6 2 rfl;have j3:=Q3 r6 3 rfl;have q2:=(bV.block _ (Q4 HB.b)).trans HB.b;have q3:=(bV.block _ (Q4 HB.c)).trans HB.c;have hVs:=Q4 HB.c;have bw:=HB.D.trans (bV.mono HB.D.size);have hS:Hid (∀ W:World,(W.heap[g]? =W1.heap[g]? ∧W.heap[h]? =W1.heap[h]?)→(W.heap[g]? =W1.heap[g]? ∧W.heap[h]? =W1.heap[h]?)∧W.cell? ⟨g,0,none⟩=some (.bool b5)∧W.cell? ⟨g,1,none⟩=some (.slice x5 (wd t5.rest).length c5)∧W.cell? ⟨g,2,none⟩=some (.pointer o5)∧W.cell? ⟨h,0,none⟩=some (.slice an t5.l.length cn)∧W.cell? ⟨h,1,none⟩=some (.slice af t5.l.length cf)∧W.cell? ⟨h,2,none⟩=some (.int .i64 s6)∧W.cell? ⟨h,3,none⟩=some (.slice ad (dg t5.rest).length cd)):=fun W hb=> ⟨hb,Q3 (hb.1.trans r5) 0 rfl,Q3 (hb.1.trans r5) 1 rfl,Q3 (hb.1.trans r5) 2 rfl,Q3 (hb.2.trans r6) 0 rfl,Q3 (hb.2.trans r6) 1 rfl,Q3 (hb.2.trans r6) 2 rfl,Q3 (hb.2.trans r6) 3 rfl⟩;have HX:=h8_ m5 m6 q2 q3 bw hg hh hVs;clear r5 z5 m5 r6 z6 m6 bV hg hh k0 k1 k2 j0 j1 j2 j3 q2 q3 hVs bw;refine QC (S:=fun W:World=> (W.heap[g]? =W1.heap[g]? ∧W.heap[h]? =W1.heap[h]?)∧W.cell? ⟨g,0,none⟩=some (.bool b5)∧W.cell? ⟨g,1,none⟩=some (.slice x5 (wd t5.rest).length c5)∧W.cell? ⟨g,2,none⟩=some (.pointer o5)∧W.cell? ⟨h,0,none⟩=some (.slice an t5.l.length cn)∧W.cell? ⟨h,1,none⟩=some (.slice af t5.l.length cf)∧W.cell? ⟨h,2,none⟩=some (.int .i64 s6)∧W.cell? ⟨h,3,none⟩=some (.slice ad (dg t5.rest).length cd)) (by simp) (by kernel_rfl) (by kernel_rfl) (hS.out _ ⟨rfl,rfl⟩) (fun hHeld=> ?_);simp only[lA_];refine tk_ 0 rfl ?_;(try simp only[Act.put,gP_]);refine tk_ 1 rfl ?_;(try simp only[Act.put,gP_]);refine rd_ 2 rfl (fun KK hKK=> ?_);simp only[gA_];refine QK (B:=w.heap.size) (w0:=w) (w1:=W1.drew) _ _ rfl rfl HX.c rfl rfl (HX.a.below (eB_ _ _).drew) (show w.heap.size≤w.heap.size+1 by omega) HX.e.drew ?_;rintro W5 cs5 hfr hw5 hg5 hs5 hn5 hb5;have hS5:=hS.out W5 ⟨by rw[hw5,Qa (by have:=HX.F;omega)];rfl,by rw[hw5,Qa (by have:=HX.F;omega)];rfl⟩;have q3:=QL hw5 (show w.heap.size+2≠w.heap.size+1 by omega) HX.d;refine hKK.out _ _ hS5 (fun hHeld=> ?_);clear hKK KK;(try simp only[Act.put,sA_]);refine rd_ 3 rfl (fun KK hKK=> ?_);simp only[gA_];refine QU (B:=w.heap.size) (w0:=w) _ _ rfl rfl q3 rfl rfl ((HX.b.below (eB_ _ _).drew).frt hfr (by decide) (by decide) (by decide)) (show w.heap.size≤w.heap.size+2 by omega) hb5 ?_;rintro W6 cs6 hw6 hh6 hs6 hn6 hb6;have hS6:=hS.out W6 ⟨by rw[hw6,Qa (by have:=HX.F;omega)];exact hS5.1.1,by rw[hw6,Qa (by have:=HX.F;omega)];exact hS5.1.2⟩;have q5:=QL hw6 (show w.heap.size+1≠w.heap.size+2 by omega) hg5;have hn5b:=hn5.frt (show FrT [50] W5 W6 by rw[hw6];exact Qg q3) (by decide) (by decide) (by decide);refine hKK.out _ _ hS6 (fun hHeld=> ?_);clear hKK KK;(try simp only[Act.put,sA_]);have HL:=h7_ q5 hs5 hh6 hs6 hn5b hn6 hb6;clear q5 hs5 hh6 hs6 hn5 hn5b hn6 hb6 hS5 hS6 q3 hw5 hw6 hfr hb5 hg5 hHeld;refine wpAnyH_done (by kernel_rfl) ?_ _;unfold PeelQ;dsimp only;go_simp;go_wp2_with fail;refine eG_ (QS rfl _ _ (w.heap.size+1) (w.heap.size+2) _ _ _ _ _ _ _ _ rfl rfl HL.a HL.c underlying38 rfl (by rw[HL.b];exact QF) underlying50 rfl (by rw[HL.d];exact QI) rfl) rfl ?_;exact ⟨_,_,_,_,_,rfl,HL.e,HL.f,HL.G,fun h=> by cases h⟩
     ·have hb'':(40:Int) < (nm.length:Int):=(by omega);go_wp2_with (first | (refine wpList_load_mid rfl 67 _ rfl bk (off+j*2) rfl _ _ HG.o underlying67 rfl rfl ?_) | (refine Q8 rfl 67 _ _ rfl 67 #[.string ⟨#[]⟩,.int .i64 0] #[.string ⟨nm.toArray⟩,.int .i64 f] rfl rfl rfl Jc (by simp[Value.oneCell']) ?_))
      all_goals
       rw[HW1.o];obtain ⟨⟨cs5,r5,z5,m5⟩,⟨cs6,r6,z6,m6⟩,bV,hg,hh⟩:=HT1.a;obtain ⟨b5,x5,c5,o5,e5,m5⟩:=Ql m5;injection e5 with e5;subst e5;obtain ⟨an,cn,af,cf,s6,ad,cd,e6,m6⟩:=Xa m6;injection e6 with e6;subst e6;have k0:=Q3 r5 0 rfl;have k1:=Q3 r5 1 rfl;have k2:=Q3 r5 2 rfl;have j0:=Q3 r6 0 rfl;have j1:=Q3 r6 1 rfl;have j2:=Q3 r6 2 rfl;have j3:=Q3 r6 3 rfl;have q2:=(bV.block _ (Q4 HB.b)).trans HB.b;have q3:=(bV.block _ (Q4 HB.c)).trans HB.c;have hVs:=Q4 HB.c;have bw:=HB.D.trans (bV.mono HB.D.size);have hS:Hid (∀ W:World,(W.heap[g]? =W1.heap[g]? ∧W.heap[h]? =W1.heap[h]?)→(W.heap[g]? =W1.heap[g]? ∧W.heap[h]? =W1.heap[h]?)∧W.cell? ⟨g,0,none⟩=some (.bool b5)∧W.cell? ⟨g,1,none⟩=some (.slice x5 (wd t5.rest).length c5)∧W.cell? ⟨g,2,none⟩=some (.pointer o5)∧W.cell? ⟨h,0,none⟩=some (.slice an t5.l.length cn)∧W.cell? ⟨h,1,none⟩=some (.slice af t5.l.length cf)∧W.cell? ⟨h,2,none⟩=some (.int .i64 s6)∧W.cell? ⟨h,3,none⟩=some (.slice ad (dg t5.rest).length cd)):=fun W hb=> ⟨hb,Q3 (hb.1.trans r5) 0 rfl,Q3 (hb.1.trans r5) 1 rfl,Q3 (hb.1.trans r5) 2 rfl,Q3 (hb.2.trans r6) 0 rfl,Q3 (hb.2.trans r6) 1 rfl,Q3 (hb.2.trans r6) 2 rfl,Q3 (hb.2.trans r6) 3 rfl⟩;have HX:=h8_ m5 m6 q2 q3 bw hg hh hVs;clear r5 z5 m5 r6 z6 m6 bV hg hh k0 k1 k2 j0 j1 j2 j3 q2 q3 hVs bw;refine QC (S:=fun W:World=> (W.heap[g]? =W1.heap[g]? ∧W.heap[h]? =W1.heap[h]?)∧W.cell? ⟨g,0,none⟩=some (.bool b5)∧W.cell? ⟨g,1,none⟩=some (.slice x5 (wd t5.rest).length c5)∧W.cell? ⟨g,2,none⟩=some (.pointer o5)∧W.cell? ⟨h,0,none⟩=some (.slice an t5.l.length cn)∧W.cell? ⟨h,1,none⟩=some (.slice af t5.l.length cf)∧W.cell? ⟨h,2,none⟩=some (.int .i64 s6)∧W.cell? ⟨h,3,none⟩=some (.slice ad (dg t5.rest).length cd)) (by simp) (by kernel_rfl) (by kernel_rfl) (hS.out _ ⟨rfl,rfl⟩) (fun hHeld=> ?_);simp only[lA_];refine tk_ 0 rfl ?_;(try simp only[Act.put,gP_]);refine tk_ 1 rfl ?_;(try simp only[Act.put,gP_]);refine rd_ 2 rfl (fun KK hKK=> ?_);simp only[gA_];refine QK (B:=w.heap.size) (w0:=w) (w1:=W1.drew) _ _ rfl rfl HX.c rfl rfl (HX.a.below (eB_ _ _).drew) (show w.heap.size≤w.heap.size+1 by omega) HX.e.drew ?_;rintro W5 cs5 hfr hw5 hg5 hs5 hn5 hb5;have hS5:=hS.out W5 ⟨by rw[hw5,Qa (by have:=HX.F;omega)];rfl,by rw[hw5,Qa (by have:=HX.F;omega)];rfl⟩;have q3:=QL hw5 (show w.heap.size+2≠w.heap.size+1 by omega) HX.d;refine hKK.out _ _ hS5 (fun hHeld=> ?_);clear hKK KK;(try simp only[Act.put,sA_]);refine rd_ 3 rfl (fun KK hKK=> ?_);simp only[gA_];refine QU (B:=w.heap.size) (w0:=w) _ _ rfl rfl q3 rfl rfl ((HX.b.below (eB_ _ _).drew).frt hfr (by decide) (by decide) (by decide)) (show w.heap.size≤w.heap.size+2 by omega) hb5 ?_;rintro W6 cs6 hw6 hh6 hs6 hn6 hb6;have hS6:=hS.out W6 ⟨by rw[hw6,Qa (by have:=HX.F;omega)];exact hS5.1.1,by rw[hw6,Qa (by have:=HX.F;omega)];exact hS5.1.2⟩;have q5:=QL hw6 (show w.heap.size+1≠w.heap.size+2 by omega) hg5;have hn5b:=hn5.frt (show FrT [50] W5 W6 by rw[hw6];exact Qg q3) (by decide) (by decide) (by decide);refine hKK.out _ _ hS6 (fun hHeld=> ?_);clear hKK KK;(try simp only[Act.put,sA_]);have HL:=h7_ q5 hs5 hh6 hs6 hn5b hn6 hb6;clear q5 hs5 hh6 hs6 hn5 hn5b hn6 hb6 hS5 hS6 q3 hw5 hw6 hfr hb5 hg5 hHeld;refine wpAnyH_done (by kernel_rfl) ?_ _;unfold PeelQ;dsimp only;go_simp;go_wp2_with fail;refine eG_ (QS rfl _ _ (w.heap.size+1) (w.heap.size+2) _ _ _ _ _ _ _ _ rfl rfl HL.a HL.c underlying38 rfl (by rw[HL.b];exact QF) underlying50 rfl (by rw[HL.d];exact QI) rfl) rfl ?_;exact ⟨_,_,_,_,_,rfl,HL.e,HL.f,HL.G,fun h=> by cases h⟩
    ·have hf1: -1099511627776≤f:=(by omega);have hf2:f≤1099511627776:=(by omega);have hf3:(nm.length:Int)≤40:=(by omega);have hd4:¬ f < -1099511627776:=(by omega);have hd5:¬ 1099511627776 < f:=(by omega);have hd6:¬ (40:Int) < (nm.length:Int):=(by omega);have HF:=hd_ (show nm.length≤40∧ -1099511627776≤f∧f≤1099511627776 from ⟨by omega,by omega,by omega⟩);clear hbad hf1 hf2 hf3;go_wp2_with (first | (refine wpList_load_mid rfl 67 _ rfl bk (off+j*2) rfl _ _ HG.o underlying67 rfl rfl ?_) | (refine Q8 rfl 67 _ _ rfl 67 #[.string ⟨#[]⟩,.int .i64 0] #[.string ⟨nm.toArray⟩,.int .i64 f] rfl rfl rfl Jc (by simp[Value.oneCell']) ?_));rw[HW1.o];refine eH_ (Gf nm (by have:=HF.a;omega) W1) ?_;rintro r w2 ⟨bn,rfl,rfl⟩;dsimp only;cases bn with
     | false=>
      go_wp2_with fail;obtain ⟨⟨cs5,r5,z5,m5⟩,⟨cs6,r6,z6,m6⟩,bV,hg,hh⟩:=HT1.a;obtain ⟨b5,x5,c5,o5,e5,m5⟩:=Ql m5;injection e5 with e5;subst e5;obtain ⟨an,cn,af,cf,s6,ad,cd,e6,m6⟩:=Xa m6;injection e6 with e6;subst e6;have k0:=Q3 r5 0 rfl;have k1:=Q3 r5 1 rfl;have k2:=Q3 r5 2 rfl;have j0:=Q3 r6 0 rfl;have j1:=Q3 r6 1 rfl;have j2:=Q3 r6 2 rfl;have j3:=Q3 r6 3 rfl;have q2:=(bV.block _ (Q4 HB.b)).trans HB.b;have q3:=(bV.block _ (Q4 HB.c)).trans HB.c;have hVs:=Q4 HB.c;have bw:=HB.D.trans (bV.mono HB.D.size);have hS:Hid (∀ W:World,(W.heap[g]? =w2.heap[g]? ∧W.heap[h]? =w2.heap[h]?)→(W.heap[g]? =w2.heap[g]? ∧W.heap[h]? =w2.heap[h]?)∧W.cell? ⟨g,0,none⟩=some (.bool b5)∧W.cell? ⟨g,1,none⟩=some (.slice x5 (wd t5.rest).length c5)∧W.cell? ⟨g,2,none⟩=some (.pointer o5)∧W.cell? ⟨h,0,none⟩=some (.slice an t5.l.length cn)∧W.cell? ⟨h,1,none⟩=some (.slice af t5.l.length cf)∧W.cell? ⟨h,2,none⟩=some (.int .i64 s6)∧W.cell? ⟨h,3,none⟩=some (.slice ad (dg t5.rest).length cd)):=fun W hb=> ⟨hb,Q3 (hb.1.trans r5) 0 rfl,Q3 (hb.1.trans r5) 1 rfl,Q3 (hb.1.trans r5) 2 rfl,Q3 (hb.2.trans r6) 0 rfl,Q3 (hb.2.trans r6) 1 rfl,Q3 (hb.2.trans r6) 2 rfl,Q3 (hb.2.trans r6) 3 rfl⟩;have HX:=h8_ m5 m6 q2 q3 bw hg hh hVs;clear r5 z5 m5 r6 z6 m6 bV hg hh k0 k1 k2 j0 j1 j2 j3 q2 q3 hVs bw;refine QC (S:=fun W:World=> (W.heap[g]? =w2.heap[g]? ∧W.heap[h]? =w2.heap[h]?)∧W.cell? ⟨g,0,none⟩=some (.bool b5)∧W.cell? ⟨g,1,none⟩=some (.slice x5 (wd t5.rest).length c5)∧W.cell? ⟨g,2,none⟩=some (.pointer o5)∧W.cell? ⟨h,0,none⟩=some (.slice an t5.l.length cn)∧W.cell? ⟨h,1,none⟩=some (.slice af t5.l.length cf)∧W.cell? ⟨h,2,none⟩=some (.int .i64 s6)∧W.cell? ⟨h,3,none⟩=some (.slice ad (dg t5.rest).length cd)) (by simp) (by kernel_rfl) (by kernel_rfl) (hS.out _ ⟨rfl,rfl⟩) (fun hHeld=> ?_);simp only[lA_];refine tk_ 0 rfl ?_;(try simp only[Act.put,gP_]);refine tk_ 1 rfl ?_;(try simp only[Act.put,gP_]);refine rd_ 2 rfl (fun KK hKK=> ?_);simp only[gA_];refine QK (B:=w.heap.size) (w0:=w) (w1:=w2.drew) _ _ rfl rfl HX.c rfl rfl (HX.a.below (eB_ _ _).drew) (show w.heap.size≤w.heap.size+1 by omega) HX.e.drew ?_;rintro W5 cs5 hfr hw5 hg5 hs5 hn5 hb5;have hS5:=hS.out W5 ⟨by rw[hw5,Qa (by have:=HX.F;omega)];rfl,by rw[hw5,Qa (by have:=HX.F;omega)];rfl⟩;have q3:=QL hw5 (show w.heap.size+2≠w.heap.size+1 by omega) HX.d;refine hKK.out _ _ hS5 (fun hHeld=> ?_);clear hKK KK;(try simp only[Act.put,sA_]);refine rd_ 3 rfl (fun KK hKK=> ?_);simp only[gA_];refine QU (B:=w.heap.size) (w0:=w) _ _ rfl rfl q3 rfl rfl ((HX.b.below (eB_ _ _).drew).frt hfr (by decide) (by decide) (by decide)) (show w.heap.size≤w.heap.size+2 by omega) hb5 ?_;rintro W6 cs6 hw6 hh6 hs6 hn6 hb6;have hS6:=hS.out W6 ⟨by rw[hw6,Qa (by have:=HX.F;omega)];exact hS5.1.1,by rw[hw6,Qa (by have:=HX.F;omega)];exact hS5.1.2⟩;have q5:=QL hw6 (show w.heap.size+1≠w.heap.size+2 by omega) hg5;have hn5b:=hn5.frt (show FrT [50] W5 W6 by rw[hw6];exact Qg q3) (by decide) (by decide) (by decide);refine hKK.out _ _ hS6 (fun hHeld=> ?_);clear hKK KK;(try simp only[Act.put,sA_]);have HL:=h7_ q5 hs5 hh6 hs6 hn5b hn6 hb6;clear q5 hs5 hh6 hs6 hn5 hn5b hn6 hb6 hS5 hS6 q3 hw5 hw6 hfr hb5 hg5 hHeld;refine wpAnyH_done (by kernel_rfl) ?_ _;unfold PeelQ;dsimp only;go_simp;go_wp2_with fail;refine eG_ (QS rfl _ _ (w.heap.size+1) (w.heap.size+2) _ _ _ _ _ _ _ _ rfl rfl HL.a HL.c underlying38 rfl (by rw[HL.b];exact QF) underlying50 rfl (by rw[HL.d];exact QI) rfl) rfl ?_;exact ⟨_,_,_,_,_,rfl,HL.e,HL.f,HL.G,fun h=> by cases h⟩
     | true=>
      obtain ⟨⟨cs5,r5,z5,m5⟩,⟨cs6,r6,z6,m6⟩,bV,hg,hh⟩:=HT1.a;have hne:=HT1.a.ne;obtain ⟨b5,x5,c5,o5,e5,m5⟩:=Ql m5;injection e5 with e5;subst e5;have k0:=Q3 r5 0 rfl;have k1:=Q3 r5 1 rfl;have k2:=Q3 r5 2 rfl;have p0:=Q3 HT1.B 0 rfl;have p1:=Q3 HT1.B 1 rfl;have mkS:∀ W:World,Below w2.heap.size w2 W→Below w2.heap.size w2 W∧W.cell? ⟨g,0,none⟩=some (.bool b5)∧W.cell? ⟨g,1,none⟩=some (.slice x5 (wd t5.rest).length c5)∧W.cell? ⟨g,2,none⟩=some (.pointer o5)∧W.cell? ⟨wr.heap.size,0,none⟩=some (.string ⟨nm.toArray⟩)∧W.cell? ⟨wr.heap.size,1,none⟩=some (.int .i64 f):=fun W hb=> ⟨hb,(hb.cell (Q9 k0)).trans k0,(hb.cell (Q9 k1)).trans k1,(hb.cell (Q9 k2)).trans k2,(hb.cell (Q9 p0)).trans p0,(hb.cell (Q9 p1)).trans p1⟩;have HS:=hd_ mkS;have hsm:Sm 1000 t5∧Tp.Ok t5.l:=(by rw[←HS5.o];exact HR.b.sm);have H9:=h8_ m5 r5 (show ∃ cs,w2.heap[h]? =some (.cells cs 50 (0,0))∧cs.size=4∧Tz w2 (.agg cs) t5 from ⟨cs6,r6,z6,m6⟩) bV hg hh hne hsm;clear m5 r5 z5 r6 z6 m6 bV hg hh hne hsm mkS k0 k1 k2 p0 p1;go_wp2_with fail;refine QC (S:=fun w'=> Below w2.heap.size w2 w'∧w'.cell? ⟨g,0,none⟩=some (.bool b5)∧w'.cell? ⟨g,1,none⟩=some (.slice x5 (wd t5.rest).length c5)∧w'.cell? ⟨g,2,none⟩=some (.pointer o5)∧w'.cell? ⟨wr.heap.size,0,none⟩=some (.string ⟨nm.toArray⟩)∧w'.cell? ⟨wr.heap.size,1,none⟩=some (.int .i64 f)) (by simp) (by kernel_rfl) (by kernel_rfl) (HS.o _ ((eB_ _ _).drew)) (fun hHeld=> ?_);simp only[lA_];refine tk_ 0 rfl ?_;(try simp only[Act.put,gP_]);refine tk_ 1 rfl ?_;(try simp only[Act.put,gP_]);refine tk_ 2 rfl ?_;(try simp only[Act.put,gP_]);refine tk_ 4 rfl ?_;(try simp only[Act.put,gP_]);refine tk_ 5 rfl ?_;(try simp only[Act.put,gP_]);refine rd_ 3 rfl (fun KK hKK=> ?_);simp only[gA_];go_simp;refine eH_ (Zo _ nm) ?_;rintro r wA ⟨vA,rfl,mA,hbA⟩;have bA:Below w2.heap.size w2 wA:=(eB_ _ _).drew.trans hbA;dsimp only;refine hKK.out _ _ (HS.o _ bA) (fun hHeld=> ?_);clear hKK KK;(try simp only[Act.put,sA_]);refine rd_ 6 rfl (fun KK hKK=> ?_);simp only[gA_];go_simp;refine eH_ (QY f (by have:=HF.B;omega) (by have:=HF.B;omega) _) ?_;rintro r wB ⟨vB,rfl,nB,hbB⟩;have bB:Below w2.heap.size w2 wB:=bA.trans (hbB.mono bA.size);dsimp only;refine hKK.out _ _ (HS.o _ bB) (fun hHeld=> ?_);clear hKK KK;(try simp only[Act.put,sA_]);refine rd_ 7 rfl (fun KK hKK=> ?_);simp only[gA_];go_simp;refine eH_ (YN (mA.below hbB) nB (Yh nm).rise ((Sm.name nm).mono (show 1≤1000 by decide)) ((Q01 HF.b HF.C).mono (by decide)) (by decide)) ?_;rintro r wC ⟨vC,rfl,mC,hbC⟩;have bC:Below w2.heap.size w2 wC:=bB.trans (hbC.mono bB.size);obtain ⟨bc,xc,cc,oc,rfl,mC⟩:=Ql mC;dsimp only;refine hKK.out _ _ (HS.o _ bC) (fun hHeld=> ?_);clear hKK KK;(try simp only[Act.put,sA_]);refine rd_ 8 rfl (fun KK hKK=> ?_);simp only[gA_];go_simp;refine hKK.out _ _ (HS.o _ (bC.alloc bC.size _)) (fun hHeld=> ?_);clear hKK KK;(try simp only[Act.put,sA_]);refine rd_ 9 rfl (fun KK hKK=> ?_);simp only[gA_];go_simp;have hxD:=Qh (w:=wC) #[.bool bc,.slice xc (wd (Tp.add Tp.zero (Tp.name nm) f).rest).length cc,.pointer oc] 38;have bD:=bC.trans (hxD.2.mono bC.size);refine eH_ (Dw (H9.a.below bD) hxD.1 (mC.below hxD.2) H9.I (Tp.YT Tp.Ok.nil _ _).rise H9.h ((Sm.add Sm.zero Tp.Ok.nil (Sm.name nm) (Yh nm).rise (Q01 HF.b HF.C)).mono (show 0+1+13+1≤1000 by decide)) (by decide) (by decide)) ?_;rintro r wE ⟨vE,rfl,mE,hbE⟩;have bE:Below w2.heap.size w2 wE:=bD.trans (hbE.mono bD.size);rw[Tp.Q5k H9.I] at mE;dsimp only;refine hKK.out _ _ (HS.o _ bE) (fun hHeld=> ?_);clear hKK KK;(try simp only[Act.put,sA_]);refine wpAnyH_done (by kernel_rfl) ?_ _;unfold PeelQ;dsimp only;refine QK (B:=V.heap.size) (w0:=V) _ _ rfl rfl ((bE.block _ (Q4 H9.b)).trans H9.b) rfl rfl mE H9.e (H9.d.trans (bE.mono H9.d.size)) ?_;rintro W5 cs5 hfr hw5 hg5 hs5 hn5 hb5;have hgw:g < wr.heap.size:=(by obtain ⟨_,q,_⟩:=HR.C.t;exact Q4 q);obtain ⟨cs6,r6,z6,m6⟩:=H9.c;replace m6:=(m6.below bE).frt hfr (by decide) (by decide) (by decide);have pr:=QL hw5 (show wr.heap.size≠g by omega) ((bE.block _ (Q4 HT1.B)).trans HT1.B);replace r6:=QL hw5 H9.g.symm ((bE.block _ (Q4 r6)).trans r6);obtain ⟨an,cn,af,cf,s6,ad,cd,e6,m6⟩:=Xa m6;injection e6 with e6;subst e6;have j0:=Q3 r6 0 rfl;have j1:=Q3 r6 1 rfl;have j2:=Q3 r6 2 rfl;have j3:=Q3 r6 3 rfl;have p0:=Q3 pr 0 rfl;have p1:=Q3 pr 1 rfl;have mkS2:∀ W:World,Below W5.heap.size W5 W→Below W5.heap.size W5 W∧W.cell? ⟨h,0,none⟩=some (.slice an t5.l.length cn)∧W.cell? ⟨h,1,none⟩=some (.slice af t5.l.length cf)∧W.cell? ⟨h,2,none⟩=some (.int .i64 s6)∧W.cell? ⟨h,3,none⟩=some (.slice ad (dg t5.rest).length cd)∧W.cell? ⟨wr.heap.size,0,none⟩=some (.string ⟨nm.toArray⟩)∧W.cell? ⟨wr.heap.size,1,none⟩=some (.int .i64 f):=fun W hb=> ⟨hb,(hb.cell (Q9 j0)).trans j0,(hb.cell (Q9 j1)).trans j1,(hb.cell (Q9 j2)).trans j2,(hb.cell (Q9 j3)).trans j3,(hb.cell (Q9 p0)).trans p0,(hb.cell (Q9 p1)).trans p1⟩;have HS2:=hd_ mkS2;have HA:=h6_ hg5 hs5 hn5 m6 r6 hb5;clear hg5 hs5 hn5 m6 r6 hb5 hw5 hfr mE hbE bE bD bC bB bA mC hbC nB hbB mA hbA hxD mkS2 j0 j1 j2 j3 p0 p1 pr z6 hgw hHeld;go_simp;go_wp2_with fail;refine QC (S:=fun w'=> Below W5.heap.size W5 w'∧w'.cell? ⟨h,0,none⟩=some (.slice an t5.l.length cn)∧w'.cell? ⟨h,1,none⟩=some (.slice af t5.l.length cf)∧w'.cell? ⟨h,2,none⟩=some (.int .i64 s6)∧w'.cell? ⟨h,3,none⟩=some (.slice ad (dg t5.rest).length cd)∧w'.cell? ⟨wr.heap.size,0,none⟩=some (.string ⟨nm.toArray⟩)∧w'.cell? ⟨wr.heap.size,1,none⟩=some (.int .i64 f)) (by simp) (by kernel_rfl) (by kernel_rfl) (HS2.o _ ((eB_ _ _).drew)) (fun hHeld=> ?_);simp only[lA_];refine tk_ 0 rfl ?_;(try simp only[Act.put,gP_]);refine tk_ 1 rfl ?_;(try simp only[Act.put,gP_]);refine tk_ 2 rfl ?_;(try simp only[Act.put,gP_]);refine tk_ 4 rfl ?_;(try simp only[Act.put,gP_]);refine tk_ 5 rfl ?_;(try simp only[Act.put,gP_]);refine rd_ 3 rfl (fun KK hKK=> ?_);simp only[gA_];go_simp;refine eH_ (Q1T _ nm) ?_;rintro r wA ⟨vA,rfl,mA,hbA⟩;have bA:Below W5.heap.size W5 wA:=(eB_ _ _).drew.trans hbA;dsimp only;refine hKK.out _ _ (HS2.o _ bA) (fun hHeld=> ?_);clear hKK KK;(try simp only[Act.put,sA_]);refine rd_ 6 rfl (fun KK hKK=> ?_);simp only[gA_];go_simp;refine eH_ (XG f (by have:=HF.B;omega) (by have:=HF.B;omega) _) ?_;rintro r wB ⟨vB,zf,rfl,hzf,nB,hbB⟩;have hzf2:zf=f:=hzf (by have:=HF.B;omega);subst hzf2;have bB:Below W5.heap.size W5 wB:=bA.trans (hbB.mono bA.size);dsimp only;refine hKK.out _ _ (HS2.o _ bB) (fun hHeld=> ?_);clear hKK KK;(try simp only[Act.put,sA_]);refine rd_ 7 rfl (fun KK hKK=> ?_);simp only[gA_];go_simp;refine eH_ (Q0J (HA.d.below bB) (mA.below hbB) nB H9.I (Yh nm).rise H9.h ((Sm.name nm).mono (show 1≤1000 by decide)) ((Q01 HF.b HF.C).mono (by decide)) (by decide)) ?_;rintro r wE ⟨vE,rfl,mE,hbE⟩;have bE:Below W5.heap.size W5 wE:=bB.trans (hbE.mono bB.size);dsimp only;refine hKK.out _ _ (HS2.o _ bE) (fun hHeld=> ?_);clear hKK KK;(try simp only[Act.put,sA_]);refine wpAnyH_done (by kernel_rfl) ?_ _;unfold PeelQ;dsimp only;refine QU (B:=V.heap.size) (w0:=V) _ _ rfl rfl ((bE.block _ (Q4 HA.e)).trans HA.e) rfl rfl mE H9.f (HA.F.trans (bE.mono HA.F.size)) ?_;rintro W6 cs6 hw6 hh6 hs6 hn6 hb6;have q5:=QL hw6 H9.g ((bE.block _ (Q4 HA.a)).trans HA.a);have hn5:=(HA.c.below bE).frt (show FrT [50] wE W6 by rw[hw6];exact Qg ((bE.block _ (Q4 HA.e)).trans HA.e)) (by decide) (by decide) (by decide);have HZ:=hd_ (show TwoT V g h (Tp.add t5 (Tp.name nm) zf) (Tp.add t5 (Tp.name nm) zf) W6 from ⟨⟨_,q5,HA.b,hn5⟩,⟨_,hh6,hs6,hn6⟩,hb6,H9.e,H9.f⟩);clear q5 hn5 hh6 hs6 hn6 hb6 hw6 mE hbE bE nB hbB bB mA hbA bA hHeld;go_simp;go_wp2_with fail;go_roundg (ps.length - (j+1))
      case measure=> have:=HR.a;omega
      case rel=> exact ⟨j+1,by go_num,rfl,by omega,HR.b.take HLN.o HPP.o HF.a HF.b HF.C,by rw[Q6G HPP.o,HS5.o];exact HZ.o⟩
   ·obtain rfl:j=ps.length:=(by omega);have HT1:=hd_ HR.C;have HFT:=hd_ HR.b;rw[List.take_length] at HT1 HFT;obtain ⟨t5,ht5⟩:∃ t:Tp.T,Tp.sum ⟨[],z⟩ ps=t:=⟨_,rfl⟩
    rw[ht5] at HT1;have HS5:=hd_ ht5;clear ht5;go_wp2_with fail;obtain ⟨⟨cs5,r5,z5,m5⟩,⟨cs6,r6,z6,m6⟩,bV,hg,hh⟩:=HT1.o;obtain ⟨b5,x5,c5,o5,e5,m5⟩:=Ql m5;injection e5 with e5;subst e5;obtain ⟨an,cn,af,cf,s6,ad,cd,e6,m6⟩:=Xa m6;injection e6 with e6;subst e6;have k0:=Q3 r5 0 rfl;have k1:=Q3 r5 1 rfl;have k2:=Q3 r5 2 rfl;have j0:=Q3 r6 0 rfl;have j1:=Q3 r6 1 rfl;have j2:=Q3 r6 2 rfl;have j3:=Q3 r6 3 rfl;have q2:=(bV.block _ (Q4 HB.b)).trans HB.b;have q3:=(bV.block _ (Q4 HB.c)).trans HB.c;have hVs:=Q4 HB.c;have bw:=HB.D.trans (bV.mono HB.D.size);have hS:Hid (∀ W:World,(W.heap[g]? =wr.heap[g]? ∧W.heap[h]? =wr.heap[h]?)→(W.heap[g]? =wr.heap[g]? ∧W.heap[h]? =wr.heap[h]?)∧W.cell? ⟨g,0,none⟩=some (.bool b5)∧W.cell? ⟨g,1,none⟩=some (.slice x5 (wd t5.rest).length c5)∧W.cell? ⟨g,2,none⟩=some (.pointer o5)∧W.cell? ⟨h,0,none⟩=some (.slice an t5.l.length cn)∧W.cell? ⟨h,1,none⟩=some (.slice af t5.l.length cf)∧W.cell? ⟨h,2,none⟩=some (.int .i64 s6)∧W.cell? ⟨h,3,none⟩=some (.slice ad (dg t5.rest).length cd)):=fun W hb=> ⟨hb,Q3 (hb.1.trans r5) 0 rfl,Q3 (hb.1.trans r5) 1 rfl,Q3 (hb.1.trans r5) 2 rfl,Q3 (hb.2.trans r6) 0 rfl,Q3 (hb.2.trans r6) 1 rfl,Q3 (hb.2.trans r6) 2 rfl,Q3 (hb.2.trans r6) 3 rfl⟩;have HX:=h8_ m5 m6 q2 q3 bw hg hh hVs;clear r5 z5 m5 r6 z6 m6 bV hg hh k0 k1 k2 j0 j1 j2 j3 q2 q3 hVs bw;refine QC (S:=fun W:World=> (W.heap[g]? =wr.heap[g]? ∧W.heap[h]? =wr.heap[h]?)∧W.cell? ⟨g,0,none⟩=some (.bool b5)∧W.cell? ⟨g,1,none⟩=some (.slice x5 (wd t5.rest).length c5)∧W.cell? ⟨g,2,none⟩=some (.pointer o5)∧W.cell? ⟨h,0,none⟩=some (.slice an t5.l.length cn)∧W.cell? ⟨h,1,none⟩=some (.slice af t5.l.length cf)∧W.cell? ⟨h,2,none⟩=some (.int .i64 s6)∧W.cell? ⟨h,3,none⟩=some (.slice ad (dg t5.rest).length cd)) (by simp) (by kernel_rfl) (by kernel_rfl) (hS.out _ ⟨rfl,rfl⟩) (fun hHeld=> ?_);simp only[lA_];refine tk_ 0 rfl ?_;(try simp only[Act.put,gP_]);refine tk_ 1 rfl ?_;(try simp only[Act.put,gP_]);refine rd_ 2 rfl (fun KK hKK=> ?_);simp only[gA_];refine QK (B:=w.heap.size) (w0:=w) (w1:=wr.drew) _ _ rfl rfl HX.c rfl rfl (HX.a.below (eB_ _ _).drew) (show w.heap.size≤w.heap.size+1 by omega) HX.e.drew ?_;rintro W5 cs5 hfr hw5 hg5 hs5 hn5 hb5;have hS5:=hS.out W5 ⟨by rw[hw5,Qa (by have:=HX.F;omega)];rfl,by rw[hw5,Qa (by have:=HX.F;omega)];rfl⟩;have q3:=QL hw5 (show w.heap.size+2≠w.heap.size+1 by omega) HX.d;refine hKK.out _ _ hS5 (fun hHeld=> ?_);clear hKK KK;(try simp only[Act.put,sA_]);refine rd_ 3 rfl (fun KK hKK=> ?_);simp only[gA_];refine QU (B:=w.heap.size) (w0:=w) _ _ rfl rfl q3 rfl rfl ((HX.b.below (eB_ _ _).drew).frt hfr (by decide) (by decide) (by decide)) (show w.heap.size≤w.heap.size+2 by omega) hb5 ?_;rintro W6 cs6 hw6 hh6 hs6 hn6 hb6;have hS6:=hS.out W6 ⟨by rw[hw6,Qa (by have:=HX.F;omega)];exact hS5.1.1,by rw[hw6,Qa (by have:=HX.F;omega)];exact hS5.1.2⟩;have q5:=QL hw6 (show w.heap.size+1≠w.heap.size+2 by omega) hg5;have hn5b:=hn5.frt (show FrT [50] W5 W6 by rw[hw6];exact Qg q3) (by decide) (by decide) (by decide);refine hKK.out _ _ hS6 (fun hHeld=> ?_);clear hKK KK;(try simp only[Act.put,sA_]);have HL:=h7_ q5 hs5 hh6 hs6 hn5b hn6 hb6;clear q5 hs5 hh6 hs6 hn5 hn5b hn6 hb6 hS5 hS6 q3 hw5 hw6 hfr hb5 hg5 hHeld;refine wpAnyH_done (by kernel_rfl) ?_ _;unfold PeelQ;dsimp only;go_simp;go_wp2_with fail;refine eG_ (QS rfl _ _ (w.heap.size+1) (w.heap.size+2) _ _ _ _ _ _ _ _ rfl rfl HL.a HL.c underlying38 rfl (by rw[HL.b];exact QF) underlying50 rfl (by rw[HL.d];exact QI) rfl) rfl ?_;exact ⟨_,_,_,_,_,rfl,HL.e,HL.f,HL.G,fun _=> ⟨HS5.o.symm,rfl,HFT.o⟩⟩
theorem Q47 {n:Nat} (h:n < 10 ^ k):(Zp.dec n).length≤k+1:=by
 unfold Zp.dec;split
 ·simp
 ·rw[List.length_map,List.length_reverse];have:=Zp.Xy (B:=10) (by decide) k n h;omega
theorem Q5a (h:Bd k z):(Zp.text z).length≤k+2:=by
 have h1:=Q47 h;unfold Zp.text;split
 ·simp only[eL_];omega
 ·omega
theorem Q6J {B:Nat}:∀ (ps:List (Tp.Nm × Int)) {t:Tp.T},(∀ p∈ps,p.1.length≤B)→NmB B t.l→NmB B (Tp.sum t ps).l
 | [],_,_,h=> h
 | p::r,t,hp,h=> by
  have h1:NmB B (Tp.add t (Tp.name p.1) p.2).l:=NmB.addL (B:=B) p.2 (u:= [(p.1,1)]) (l:=t.l) h fun q hq=> by rw[List.mem_singleton.1 hq];exact hp p (eX_ ..)
  exact Q6J r (fun q hq=> hp q (eR_ _ hq)) h1
theorem Q6K {t u:Tp.T} (ht:Sm K t) (ot:Tp.Ok t.l) (hu:Sm K u) (ou:Tp.Rise u.l) (s:Tp.Nm):Sm (4*K+10) (Tp.put t s u):=by
 have h0:Bd K (Tp.look t.l s):=Sm.look ht.l s;have h1:Bd K (-(Tp.look t.l s)):=by unfold Bd at h0 ⊢;rw[Int.natAbs_neg];exact h0
 have h2:=Sm.add ht ot (Sm.name s) (Yh s).rise h1;exact (Sm.add h2 (Tp.YT ot _ _) hu ou h0).mono (by omega)
def TxOut (e:Ex) (w:World) (r:Ending) (w':World):Prop:=(∃ l:List UInt8,r= .returned (.tuple #[.string ⟨l.toArray⟩,.int .i64 (if Ex.right e then 0 else 10)]))∧Below w.heap.size w w'
theorem Gw (hs:Ex.Sm e) (hwl:Ex.wl e≤1073741824) {w:World} {P:Nat→Prop} {cs:List Value} (h:RdE w P e cs) (hP:∀ k,P k→k < w.heap.size):
  Calls prog 86 #[.agg cs.toArray,.int .i64 0] w (TxOut e w):=by
 obtain ⟨sv,kv,rfl,_,a,c,rfl⟩:=h.cells;obtain ⟨nb,hnb⟩:∃ x,decide (e.num < 0)=x:=⟨_,rfl⟩
 rw[hnb] at h ⊢;obtain ⟨nk,hnk⟩:∃ x,e.kids.length=x:=⟨_,rfl⟩
 rw[hnk] at h ⊢;have hbx:=Qh (w:=w) #[.int .i64 e.op,.string ⟨e.name.toArray⟩,.string ⟨e.mod.toArray⟩,.bool nb,sv,.bool e.yes,.slice a nk c,.int .i64 e.pos] 30;obtain ⟨V,hV⟩:∃ V,w.alloc (.cells #[.int .i64 e.op,.string ⟨e.name.toArray⟩,.string ⟨e.mod.toArray⟩,.bool nb,sv,.bool e.yes,.slice a nk c,.int .i64 e.pos] 30)=V:=⟨_,rfl⟩
 have HVV:=hd_ hV;rw[hV] at hbx;have HM:Hid (∀ W,Below V.heap.size V W→W.heap[w.heap.size]? =some (.cells #[.int .i64 e.op,.string ⟨e.name.toArray⟩,.string ⟨e.mod.toArray⟩,.bool nb,sv,.bool e.yes,.slice a nk c,.int .i64 e.pos] 30 (0,0))∧Below w.heap.size w W∧RdE W P e [.int .i64 e.op,.string ⟨e.name.toArray⟩,.string ⟨e.mod.toArray⟩,.bool nb,sv,.bool e.yes,.slice a nk c,.int .i64 e.pos]∧∀ k,P k→k < W.heap.size):=fun W hb=> by
  have h1:=hbx.2.trans (hb.mono hbx.2.size);exact ⟨Q7 hbx.1 hb,h1,h.past hP h1,fun k hk=> eI_ (hP k hk) h1.size⟩
 obtain ⟨a0,a1,a2,a3,a4,a5,a6,a7⟩:=cells8 hbx.1;have HR:Hid (∀ W,Below V.heap.size V W→Calls prog 128 #[.agg #[.int .i64 e.op,.string ⟨e.name.toArray⟩,.string ⟨e.mod.toArray⟩,.bool nb,sv,.bool e.yes,.slice a nk c,.int .i64 e.pos],.int .i64 0] W fun r w'=> r= .returned (.bool (Ex.right e))∧Below W.heap.size W w'):=fun W hb=> G2 hs (HM W hb).2.2.1 (HM W hb).2.2.2;obtain ⟨rt,hrt⟩:∃ b,Ex.right e=b:=⟨_,rfl⟩
 have HX:Hid (rt=true→∀ W,Below V.heap.size V W→∀ b,IsW W b b []→(∀ k,P k→k < b)→b≤W.heap.size→Calls prog 129 #[.pointer (some ⟨b,0,none⟩),.agg #[.int .i64 e.op,.string ⟨e.name.toArray⟩,.string ⟨e.mod.toArray⟩,.bool nb,sv,.bool e.yes,.slice a nk c,.int .i64 e.pos]] W fun r w'=> r= .returned (.tuple #[])∧(∃ l,IsW w' b b l)∧Fw b b W w'):=fun ht W hb b hw hp hB=> by
  refine eH_ (Q2o hs hp (hrt.trans ht) W b [] _ (HM W hb).2.2.1 hw hB (by simpa using hwl)) ?_;rintro r w' ⟨h1,⟨l,_,h2⟩,h3⟩;exact ⟨h1,⟨l,h2⟩,h3⟩
 unfold TxOut;rw[hrt] at HR ⊢;clear hs hwl h hP hbx hnb hnk hV hrt;go_in;go_wp2_with fail;rw[HVV.o];refine eH_ (HR.o V (eB_ _ _)) ?_;rintro r w2 ⟨rfl,hb2⟩;have H2:=hd_ hb2;clear a0 a1 a2 a3 a4 a5 a6 a7 hb2;obtain ⟨a0,a1,a2,a3,a4,a5,a6,a7⟩:=cells8 (HM.o _ H2.o).1;dsimp only;cases rt with
 | false=>
  go_wp2_with fail;go_ret2;exact ⟨⟨[],rfl⟩,(HM.o _ H2.o).2.1⟩
 | true=>
  have l0:=Q9 a0;go_wp2_with fail;have hx3:=Qh (w:=w2) #[.pointer none,.slice none 0 0] 204;obtain ⟨V3,hV3⟩:∃ V,w2.alloc (.cells #[.pointer none,.slice none 0 0] 204)=V:=⟨_,rfl⟩
  rw[hV3] at hx3 ⊢;have hw3:IsW V3 w2.heap.size w2.heap.size []:=Or.inl ⟨rl_ _,_,hx3.1,World.ownsRow_nil _ _ _ _,by simp[Value.ownBlock]⟩;have h3:Below V.heap.size V V3:=H2.o.trans (hx3.2.mono H2.o.size);refine eH_ (HX.o (by trivial) V3 h3 w2.heap.size hw3 (HM.o _ H2.o).2.2.2 hx3.2.size) ?_;rintro r w4 ⟨rfl,⟨l,hw4⟩,hf4⟩;have H4:=h3_ hw4 (hx3.2.trans hf4.below) hf4.size;clear hw4 hf4 hw3 h3 hx3 hV3;dsimp only;go_wp2_with fail;refine eH_ (DO w2.heap.size w2.heap.size l w4 H4.a H4.b.size) ?_;rintro r w5 ⟨rfl,hb5⟩;have H5:=hd_ (H4.b.trans hb5);clear hb5;dsimp only;go_wp2_with fail;go_ret2;exact ⟨⟨l,rfl⟩,(HM.o _ H2.o).2.1.trans (H5.o.mono (HM.o _ H2.o).2.1.size)⟩
theorem DX (hs:Ex.Sm e) (hwl:Ex.wl e≤1073741824) {w:World} {P:Nat→Prop} {cs:List Value} (h:RdE w P e cs) (hP:∀ k,P k→k < w.heap.size):
  Calls prog 43 #[.agg cs.toArray] w (TxOut e w):=by
 obtain ⟨sv,kv,rfl,_,a,c,rfl⟩:=h.cells;obtain ⟨nb,hnb⟩:∃ x,decide (e.num < 0)=x:=⟨_,rfl⟩
 rw[hnb] at h ⊢;obtain ⟨nk,hnk⟩:∃ x,e.kids.length=x:=⟨_,rfl⟩
 rw[hnk] at h ⊢;have hbx:=Qh (w:=w) #[.int .i64 e.op,.string ⟨e.name.toArray⟩,.string ⟨e.mod.toArray⟩,.bool nb,sv,.bool e.yes,.slice a nk c,.int .i64 e.pos] 30;obtain ⟨V,hV⟩:∃ V,w.alloc (.cells #[.int .i64 e.op,.string ⟨e.name.toArray⟩,.string ⟨e.mod.toArray⟩,.bool nb,sv,.bool e.yes,.slice a nk c,.int .i64 e.pos] 30)=V:=⟨_,rfl⟩
 have HVV:=hd_ hV;rw[hV] at hbx;obtain ⟨a0,a1,a2,a3,a4,a5,a6,a7⟩:=cells8 hbx.1;have HC:=hd_ (Gw hs hwl (h.past hP hbx.2) (fun k hk=> eI_ (hP k hk) hbx.2.size));have HB:=hd_ hbx.2;unfold TxOut at HC ⊢;obtain ⟨code,hcode⟩:∃ x:Int,(if Ex.right e=true then (0:Int) else 10)=x:=⟨_,rfl⟩
 rw[hcode] at HC ⊢;clear hcode;clear hs hwl h hP hbx hnb hnk hV;go_in;go_wp2_with fail;rw[HVV.o];refine eH_ HC.o ?_;rintro r w2 ⟨⟨l,rfl⟩,hb2⟩;have H2:=hd_ hb2;clear hb2;dsimp only;go_wp2_with fail;go_ret2;exact ⟨⟨l,rfl⟩,HB.o.trans (H2.o.mono HB.o.size)⟩
def Ex.code (e:Ex):Int:=if Ex.right e then (if (Ex.of e).isSome then 0 else 35) else 10
def Ex.term (e:Ex):Tp.T:=if Ex.right e then (Ex.of e).getD Tp.zero else Tp.zero
def TOut (e:Ex) (w:World) (r:Ending) (w':World):Prop:=∃ v,r= .returned (.tuple #[v,.int .i64 (Ex.code e)])∧Tm w' v (Ex.term e)∧Below w.heap.size w w'
theorem Q10 (hs:Ex.Sm e) (hwl:Ex.wl e≤100000) {w:World} {P:Nat→Prop} {cs:List Value} (h:RdE w P e cs) (hP:∀ k,P k→k < w.heap.size):
  Calls prog 9 #[.agg cs.toArray] w (TOut e w):=by
 obtain ⟨sv,kv,rfl,hsv,a,c,rfl⟩:=h.cells;obtain ⟨ax,cs2,rfl⟩:=RdS.form hsv;obtain ⟨nb,hnb⟩:∃ x,decide (e.num < 0)=x:=⟨_,rfl⟩
 rw[hnb] at h ⊢;obtain ⟨nk,hnk⟩:∃ x,e.kids.length=x:=⟨_,rfl⟩
 rw[hnk] at h ⊢;have hbx:=box2 w #[.int .i64 e.op,.string ⟨e.name.toArray⟩,.string ⟨e.mod.toArray⟩,.bool nb,.slice ax (wd e.num).length cs2,.bool e.yes,.slice a nk c,.int .i64 e.pos] 30 #[.bool false,.slice none 0 0,.pointer none] 38;obtain ⟨V,hV⟩:∃ V,(w.alloc (.cells #[.int .i64 e.op,.string ⟨e.name.toArray⟩,.string ⟨e.mod.toArray⟩,.bool nb,.slice ax (wd e.num).length cs2,.bool e.yes,.slice a nk c,.int .i64 e.pos] 30)).alloc (.cells #[.bool false,.slice none 0 0,.pointer none] 38)=V:=⟨_,rfl⟩
 have HVV:=hd_ hV;rw[hV] at hbx;have HM:Hid (∀ W,Below V.heap.size V W→W.heap[w.heap.size]? =some (.cells #[.int .i64 e.op,.string ⟨e.name.toArray⟩,.string ⟨e.mod.toArray⟩,.bool nb,.slice ax (wd e.num).length cs2,.bool e.yes,.slice a nk c,.int .i64 e.pos] 30 (0,0))∧W.heap[w.heap.size+1]? =some (.cells #[.bool false,.slice none 0 0,.pointer none] 38 (0,0))∧Below w.heap.size w W∧RdE W P e [.int .i64 e.op,.string ⟨e.name.toArray⟩,.string ⟨e.mod.toArray⟩,.bool nb,.slice ax (wd e.num).length cs2,.bool e.yes,.slice a nk c,.int .i64 e.pos]∧∀ k,P k→k < W.heap.size):=fun W hb=> by
  have h1:=hbx.2.2.trans (hb.mono hbx.2.2.size);exact ⟨Q7 hbx.1 hb,Q7 hbx.2.1 hb,h1,h.past hP h1,fun k hk=> eI_ (hP k hk) h1.size⟩
 obtain ⟨a0,a1,a2,a3,a4,a5,a6,a7⟩:=cells8 hbx.1;have HF:Hid (Calls prog 43 #[.agg #[.int .i64 e.op,.string ⟨e.name.toArray⟩,.string ⟨e.mod.toArray⟩,.bool nb,.slice ax (wd e.num).length cs2,.bool e.yes,.slice a nk c,.int .i64 e.pos]] V (TxOut e V)):=DX hs (by omega) (HM.o _ (eB_ _ _)).2.2.2.1 (HM.o _ (eB_ _ _)).2.2.2.2;have HO:Hid (Ex.right e=true→∀ W,Below V.heap.size V W→Calls prog 44 #[.agg #[.int .i64 e.op,.string ⟨e.name.toArray⟩,.string ⟨e.mod.toArray⟩,.bool nb,.slice ax (wd e.num).length cs2,.bool e.yes,.slice a nk c,.int .i64 e.pos]] W (OfOut (Ex.of e) W)):=fun hr W hb=> Q6E hs hr hwl (HM.o W hb).2.2.2.1 (HM.o W hb).2.2.2.2;clear hs hwl h hP hsv hnb hnk hbx hV;unfold TxOut at HF;cases hr:Ex.right e with
 | false=>
  have hc:Ex.code e=10:=by unfold Ex.code;rw[hr];rfl
  have ht:Ex.term e=Tp.zero:=by unfold Ex.term;rw[hr];rfl
  rw[hr,if_neg (by decide)] at HF;unfold TOut;rw[hc,ht];clear hr hc ht;go_in;go_wp2_with fail;rw[HVV.o];refine eH_ HF.o ?_;rintro r w2 ⟨⟨l,rfl⟩,hb2⟩;have H2:=hd_ hb2;clear hb2;dsimp only;go_wp2_with (refine Qw rfl _ _ rfl rfl (HM.o _ H2.o).2.1 rfl rfl (Tm.zero _) (show w.heap.size≤w.heap.size+1 by omega) (HM.o _ H2.o).2.2.1 ?_;rintro W cs - hcs hg hs hn hb;have HT:=h4_ hg hs hn hb;clear hg hs hn hb hcs);refine eG_ (Xx rfl rfl HT.a HT.b rfl) rfl ?_;exact ⟨.agg cs,rfl,HT.c,HT.D⟩
 | true=>
  have hc:Ex.code e=if (Ex.of e).isSome=true then 0 else 35:=by unfold Ex.code;rw[hr];rfl
  have ht:Ex.term e=(Ex.of e).getD Tp.zero:=by unfold Ex.term;rw[hr];rfl
  rw[hr,if_pos rfl] at HF;unfold OfOut at HO;unfold TOut;rw[hc,ht];obtain ⟨code,hcode⟩:∃ x:Int,(if (Ex.of e).isSome=true then (0:Int) else 35)=x:=⟨_,rfl⟩
  rw[hcode] at HO ⊢;have HR:=hd_ hr;clear hr hc ht hcode;go_in;go_wp2_with fail;rw[HVV.o];refine eH_ HF.o ?_;rintro r w2 ⟨⟨l,rfl⟩,hb2⟩;have H2:=hd_ hb2;clear a0 a1 a2 a3 a4 a5 a6 a7 hb2;obtain ⟨a0,a1,a2,a3,a4,a5,a6,a7⟩:=cells8 (HM.o _ H2.o).1;dsimp only;go_wp2_with fail;refine eH_ (HO.o HR.o w2 H2.o) ?_;rintro r w3 ⟨v3,rfl,ht3,hb3⟩;have H3:=h2_ ht3 (H2.o.trans (hb3.mono H2.o.size));clear ht3 hb3;dsimp only;go_wp2_with (refine Qw rfl _ _ rfl rfl (HM.o _ H3.B).2.1 rfl rfl H3.a (show w.heap.size≤w.heap.size+1 by omega) (HM.o _ H3.B).2.2.1 ?_;rintro W cs - hcs hg hs hn hb;have HT:=h4_ hg hs hn hb;clear hg hs hn hb hcs);refine eG_ (Xx rfl rfl HT.a HT.b rfl) rfl ?_;exact ⟨.agg cs,rfl,HT.c,HT.D⟩
def ancF:List UInt8:= [50,42,40,120,45,51,41,43,121,45,120]
def ancE:Ex:= .mk 8 [] [] 0 false [.mk 7 [] [] 0 false [.mk 9 [] [] 0 false [.mk 1 [] [] 2 false [] 0,.mk 8 [] [] 0 false [.mk 3 [120] [] 0 false [] 3,.mk 1 [] [] 3 false [] 5] 4] 1,.mk 3 [121] [] 0 false [] 8] 7,.mk 3 [120] [] 0 false [] 10] 9
def ancX:List UInt8:= [49,42,120,43,49,42,121,43,45,54]
theorem Q3J:(Ps.read Ps.form ancF 9).2=(0,0):=by kernel_rfl
theorem Q5b:Ps.read Ps.form ancF 200=((Ps.read Ps.form ancF 9).1,0,0):=by kernel_rfl
theorem Q3K:Tr.check (Ps.read Ps.form ancF 9).1 (Tr.root (Ps.read Ps.form ancF 9).1)=0:=by kernel_rfl
theorem Q3L:wholeOf (Ps.read Ps.form ancF 9).1.toks=ancF:=by kernel_rfl
theorem Q3M:((Ps.read Ps.form ancF 9).1.nodes.all fun x=> x.kind !=7)=true:=by kernel_rfl
theorem Q7D:Ax.formula (Ps.read Ps.form ancF 9).1=some ancE:=by kernel_rfl
theorem DY:Ex.right ancE=true:=by kernel_rfl
theorem Q48:Ex.of ancE=some ⟨[([120],1),([121],1)],-6⟩:=by kernel_rfl
theorem Q03:Tp.text ⟨[([120],1),([121],1)],-6⟩=ancX:=by kernel_rfl
theorem Q7E:Ex.wl ancE≤100000:=by decide
theorem Uq {op pos:Int} {name:List UInt8} {yes:Bool} (hn:name.length≤1000000) (hz:Bd 1000000 z):Ex.Sm (.mk op name [] z yes [] pos):= .mk hn (by simp) hz (by simp) fun k hk=> by cases hk
theorem Q11 {op pos:Int} {a b:Ex} (ha:Ex.Sm a) (hb:Ex.Sm b):Ex.Sm (.mk op [] [] 0 false [a,b] pos):= .mk (by simp) (by simp) (Bd.zero _) (by simp) fun k hk=> by
 rcases List.mem_cons.1 hk with rfl | hk
 ·exact ha
 ·rw[List.mem_singleton.1 hk];exact hb
theorem Q7X:Bd 1000000 2:=Bd.mono (k:=1) (by unfold Bd;decide) (by decide)
theorem Q6L:Bd 1000000 3:=Bd.mono (k:=1) (by unfold Bd;decide) (by decide)
theorem Q7F:Ex.Sm ancE:=Q11 (Q11 (Q11 (Uq (by simp) Q7X) (Q11 (Uq (by simp) (Bd.zero _)) (Uq (by simp) Q6L))) (Uq (by simp) (Bd.zero _))) (Uq (by simp) (Bd.zero _))
def ancT:Tp.T:=⟨[([120],1),([121],1)],-6⟩
theorem Q5c:Ex.code ancE=0:=by unfold Ex.code;rw[DY,Q48];rfl
theorem Q5d:Ex.term ancE=ancT:=by unfold Ex.term;rw[DY,Q48];rfl
theorem Q7G:Sm 1000 ancT:=⟨fun p hp=> by
 have:p.2=1:=by
  rcases List.mem_cons.1 hp with rfl | hp
  ·rfl
  ·rw[List.mem_singleton.1 hp]
 rw[this];exact Bd.mono (k:=1) (by unfold Bd;decide) (by decide),Bd.mono (k:=1) (by unfold Bd;decide) (by decide),by decide⟩
theorem Q3N (l:List UInt8) (dp:Int):ReadSmall l (Ps.read Ps.form l dp).1:=Q3D DM l dp
theorem Lh (w:World):Calls prog 7 #[] w fun e w'=> e= .returned (.bool true)∧Below w.heap.size w w':=by
 have hc1:=Jm ancF (by decide) 9 w;have hs1:=Q3N ancF 9;have f1:=Q3J;have f2:=Q3K;have f3:=Q5b;have f4:=Q3L;have f5:=Q3M;have f6:=Q7D;obtain ⟨⟨T,fe,fp⟩,hr⟩:∃ r,Ps.read Ps.form ancF 9=r:=⟨_,rfl⟩
 rw[hr] at hc1 hs1 f1 f2 f3 f4 f5 f6;simp only[Prod.mk.injEq] at f1;obtain ⟨rfl,rfl⟩:=f1;dsimp only at hs1 f2 f3 f4 f5 f6;have HC1:=hd_ hc1;have HF:=h6_ hs1 f4 f3 f2 (fun x hx=> by simpa using List.all_eq_true.1 f5 x hx:∀ x∈T.nodes,x.kind≠7) f6;clear hc1 hs1 f2 f3 f4 f5 f6 hr;go_in;go_wp2_with fail;rw[show (⟨#[50,42,40,120,45,51,41,43,121,45,120]⟩:ByteArray)=⟨ancF.toArray⟩ from rfl];refine HC1.o.mono ?_;rintro e w1 ⟨vt,vn,rfl,hT,hb⟩;obtain ⟨a1,c1,rfl⟩:∃ a c,vt= .slice a T.toks.length c:=hT.1.form;obtain ⟨a2,c2,rfl⟩:∃ a c,vn= .slice a T.nodes.length c:=by
  obtain ⟨kvs,_,h2,_⟩:=hT.2;exact h2.form
 have h1:=Q6x w1 (.slice a1 T.toks.length c1) (.slice a2 T.nodes.length c2) (.int .i64 0) (.int .i64 0);obtain ⟨V1,hV1⟩:∃ V,(w1.alloc (.cells #[.slice a1 T.toks.length c1,.slice a2 T.nodes.length c2] 90)).alloc (.cells #[.int .i64 0,.int .i64 0] 92)=V:=⟨_,rfl⟩
 have HV1:=hd_ hV1;rw[hV1] at h1;have HT:=h2_ (hT.keep (Keeps.of h1.b fun k hk=> hk.2)) (fun k (hk:w.heap.size≤k∧k < w1.heap.size)=> eI_ hk.2 h1.b.size);have H1:=h2_ h1 (hb.trans (h1.b.mono hb.size));have t0:=Q3 h1.t 0 rfl;have t1:=Q3 h1.t 1 rfl;clear hT hb h1 hV1;dsimp only;go_wp2_with fail;rw[HV1.o];refine eH_ (Gt HT.a HT.B (l:=ancF) (by decide) HF.a HF.b HF.c HF.d HF.e HF.F) ?_;rintro e w2 ⟨v2,rfl,⟨cs,rfl,hre⟩,hb2⟩;obtain ⟨sv,kv,rfl,hsv,ak,ck,rfl⟩:=hre.cells;obtain ⟨ax,cx,rfl⟩:=RdS.form hsv;have H2:=h3_ (H1.a.past hb2) (H1.B.trans (hb2.mono H1.B.size)) hre;clear t0 t1 hb2 hre hsv;dsimp only;have hx3:=Qh (w:=w2) #[.int .i64 ancE.op,.string ⟨ancE.name.toArray⟩,.string ⟨ancE.mod.toArray⟩,.bool (decide (ancE.num < 0)),.slice ax (wd ancE.num).length cx,.bool ancE.yes,.slice ak ancE.kids.length ck,.int .i64 ancE.pos] 30;obtain ⟨V3,hV3⟩:∃ V,w2.alloc (.cells #[.int .i64 ancE.op,.string ⟨ancE.name.toArray⟩,.string ⟨ancE.mod.toArray⟩,.bool (decide (ancE.num < 0)),.slice ax (wd ancE.num).length cx,.bool ancE.yes,.slice ak ancE.kids.length ck,.int .i64 ancE.pos] 30)=V:=⟨_,rfl⟩
 rw[hV3] at hx3;have HV3:=hd_ hV3;have hP3:∀ k,New V1 w2 k→k < V3.heap.size:=fun k hk=> eI_ hk.2 hx3.2.size;have H3:=h5_ hx3.1 (H2.a.past hx3.2) (H2.b.trans (hx3.2.mono H2.b.size)) (H2.C.past (fun k hk=> hk.2) hx3.2) hP3;clear hx3 hV3 hP3;go_wp2_with (refine Q8 rfl 30 _ _ rfl 30 #[.int .i64 0,.string ⟨#[]⟩,.string ⟨#[]⟩,.bool false,.slice none 0 0,.bool false,.slice none 0 0,.int .i64 0] #[.int .i64 ancE.op,.string ⟨ancE.name.toArray⟩,.string ⟨ancE.mod.toArray⟩,.bool (decide (ancE.num < 0)),.slice ax (wd ancE.num).length cx,.bool ancE.yes,.slice ak ancE.kids.length ck,.int .i64 ancE.pos] rfl rfl rfl X1 (by simp[Value.oneCell']) ?_);rw[HV3.o];have hto:=Q10 Q7F Q7E H3.d H3.E;unfold TOut at hto;rw[Q5c,Q5d] at hto;refine eH_ hto ?_;clear hto;rintro e w4 ⟨v4,rfl,ht4,hb4⟩;obtain ⟨b4,x4,c4,o4,rfl,ht4⟩:=Ql ht4;have hx5:=Qh (w:=w4) #[.bool b4,.slice x4 (wd ancT.rest).length c4,.pointer o4] 38;obtain ⟨V5,hV5⟩:∃ V,w4.alloc (.cells #[.bool b4,.slice x4 (wd ancT.rest).length c4,.pointer o4] 38)=V:=⟨_,rfl⟩
 rw[hV5] at hx5;have HV5:=hd_ hV5;have h5:=(H3.b.past hb4).past hx5.2;have k0:=Q3 h5.f 0 rfl;have t0:=Q3 hx5.1 0 rfl;have t1:=Q3 hx5.1 1 rfl;have t2:=Q3 hx5.1 2 rfl;have hw5:Below w.heap.size w V5:=(H3.c.trans (hb4.mono H3.c.size)).trans (hx5.2.mono (eE_ H3.c.size hb4.size));have hts:=Lb (ht4.below hx5.2) Q7G (by decide) (by rw[show Tp.text ancT=ancX from Q03];decide);rw[show Tp.text ancT=ancX from Q03] at hts;have H5:=h2_ hts hw5;rw[←hV5] at k0;clear hts hw5 h5 hx5 ht4 hb4 hV5 t0 t1 t2;dsimp only;go_wp2_with (refine Q8 rfl 38 _ _ rfl 38 #[.bool false,.slice none 0 0,.pointer none] #[.bool b4,.slice x4 (wd ancT.rest).length c4,.pointer o4] rfl rfl rfl QF (by simp[Value.oneCell']) ?_);rw[HV5.o];refine eH_ H5.a ?_;rintro e w6 ⟨rfl,hb6⟩;have H6:=hd_ (H5.B.trans (hb6.mono H5.B.size));clear hb6;dsimp only;go_wp2_with fail;go_ret;exact ⟨by simp[ancX],H6.o⟩
namespace Tp
def evG (m:L):L→Int→Option Int
 | [],a=> some a
 | p::r,a=> if has m p.1 then evG m r (a+look m p.1*p.2) else none
def ev (m:L) (t:T):Option Int:=evG m t.l t.rest
def sumv (f:Nm→Int):L→Int
 | []=> 0
 | p::r=> f p.1*p.2+sumv f r
def full (m:L) (l:L):Bool:=l.all fun p=> has m p.1
theorem Q6M (m:L):∀ (l:L) (a:Int),evG m l a=if full m l then some (a+sumv (look m) l) else none
 | [],a=> by simp[evG,full,sumv]
 | p::r,a=> by
  rw[evG];by_cases h:has m p.1=true
  ·rw[if_pos h,Q6M m r];have hf:full m (p::r)=full m r:=(by unfold full;rw[List.all_cons,h,Bool.true_and]);rw[hf,sumv];split
   ·congr 1;omega
   ·rfl
  ·have hf:full m (p::r)=false:=(by unfold full;rw[List.all_cons];simp[h]);rw[if_neg h,hf];rfl
theorem Q2r (m:L) (t:T):ev m t=if full m t.l then some (t.rest+sumv (look m) t.l) else none:=Q6M m t.l t.rest
theorem Q2s (f:Nm→Int) (s:Nm) (v:Int):∀ {l:L},Rise l→sumv f (ins l s v)=sumv f l+f s*(v - look l s)
 | [],_=> by simp[ins,sumv,look]
 | p::r,h=> by
  rw[ins];by_cases h1:p.1 < s
  ·rw[if_pos h1,sumv,sumv,Q2s f s v h.tail,QE (XJ h1)];omega
  ·rw[if_neg h1];by_cases h2:p.1=s
   ·rw[if_pos h2,sumv,sumv,QJ h2,h2,Int.mul_sub];show f s*v+_=_;omega
   ·rw[if_neg h2,sumv];have h3:look (p::r) s=0:=X7 fun q hq=> by
     rcases List.mem_cons.1 hq with rfl | hq
     ·exact h2
     ·have h4:=h.above q hq;rcases Ze p.1 s with h5 | h5 | h5
      ·exact absurd h5 h1
      ·exact absurd h5 h2
      ·exact (XJ (YZ h5 h4)).symm
    rw[h3,Int.sub_zero];show f s*v+_=_;omega
theorem Q2t (f:Nm→Int) (s:Nm):∀ {l:L},Rise l→sumv f (del l s)=sumv f l - f s*look l s
 | [],_=> by simp[del,sumv,look]
 | p::r,h=> by
  rw[del];by_cases h2:p.1=s
  ·rw[if_pos h2,sumv,QJ h2,h2];omega
  ·rw[if_neg h2,sumv,sumv,Q2t f s h.tail,QE h2];omega
theorem Q5e (f:Nm→Int) {l:L} (h:Rise l) (s:Nm) (v:Int):sumv f (setz l s v)=sumv f l+f s*(v - look l s):=by
 unfold setz;split
 ·rename_i hv;rw[Q2t f s h,hv,Int.zero_sub,Int.mul_neg];omega
 ·exact Q2s f s v h
theorem G4 (f:Nm→Int) (n:Int):∀ (u:L) {l:L},Rise l→sumv f (addL n l u)=sumv f l+n*sumv f u
 | [],l,_=> by simp[addL,sumv]
 | p::u,l,h=> by
  have h1:addL n l (p::u)=addL n (addGo n l p) u:=rfl;have h2:Rise (addGo n l p):=Lp h _ _;rw[h1,G4 f n u h2];unfold addGo;rw[Q5e f h,sumv,show look l p.1+p.2*n - look l p.1=p.2*n from by omega,Int.mul_add];have e:f p.1*(p.2*n)=n*(f p.1*p.2):=by rw[←Int.mul_assoc,Int.mul_comm]
  omega
theorem Q5f (f:Nm→Int) (s:Nm):sumv f (name s).l=f s:=by
 show f s*1+0=f s;omega
theorem Q6N (f:Nm→Int) {t:T} (h:Ok t.l) (u:T) (s:Nm):(put t s u).rest+sumv f (put t s u).l=(t.rest+sumv f t.l)+look t.l s*((u.rest+sumv f u.l) - f s):=by
 unfold put;show (t.rest+0* -(look t.l s)+u.rest*look t.l s)+sumv f (addL (look t.l s) (addL (-(look t.l s)) t.l (name s).l) u.l)=_;rw[G4 f _ _ (Xm _ _ h).rise,G4 f _ _ h.rise,Q5f,Int.zero_mul,Int.mul_sub,Int.mul_add,Int.neg_mul,Int.mul_comm u.rest];omega
theorem Q04 (m:L) (s:Nm) (k:Int):∀ {l:L},Rise l→sumv (look (ins m s k)) l=sumv (look m) l+look l s*(k - look m s)
 | [],_=> by simp[sumv,look]
 | p::r,h=> by
  rw[sumv,sumv,Q04 m s k h.tail,JL];by_cases e:p.1=s
  ·have h3:look r s=0:=X7 fun q hq=> (by rw[←e];exact (XJ (h.above q hq)).symm);rw[if_pos e,QJ e,h3,e,Int.zero_mul,Int.mul_sub,Int.mul_comm k,Int.mul_comm (look m s)];omega
  ·rw[if_neg e,QE e];omega
theorem Q7H (m:L) (s:Nm) (k:Int) (x:Nm):has (ins m s k) x=(decide (x=s) || has m x):=by
 induction m with
 | nil=>
  by_cases h:x=s
  ·subst h;simp[ins,has]
  ·have h':¬ s=x:=fun e=> h e.symm;simp[ins,has,h,h']
 | cons p r ih=>
  rw[ins];by_cases h1:p.1 < s
  ·rw[if_pos h1,has,has,ih];by_cases h2:p.1=x
   ·simp[h2]
   ·simp[h2]
  ·rw[if_neg h1];by_cases h2:p.1=s
   ·rw[if_pos h2,has,has];by_cases h:x=s
    ·subst h;simp
    ·have h':¬ s=x:=fun e=> h e.symm;have h3:¬ p.1=x:=fun e=> h (e.symm.trans h2);simp[h,h',h3]
   ·rw[if_neg h2,has];by_cases h:x=s
    ·subst h;simp
    ·have h':¬ s=x:=fun e=> h e.symm;simp[h,h']
theorem Q49 {m l:L} (h:∀ p∈l,has m p.1=true):full m l=true:=List.all_eq_true.2 h
theorem ZV {m l:L} (h:full m l=true):∀ p∈l,has m p.1=true:=List.all_eq_true.1 h
theorem Q6O {l:L} {s:Nm} {v:Int} {q:Nm × Int} (h:q∈setz l s v):q.1=s∨q∈l:=by
 unfold setz at h;split at h
 ·exact Or.inr (GA h)
 ·rcases Gz h with h | h
  ·exact Or.inl (by rw[h])
  ·exact Or.inr h
theorem JH (n:Int):∀ (u:L) {l:L} {q:Nm × Int},q∈addL n l u→(∃ p∈l,p.1=q.1)∨∃ p∈u,p.1=q.1
 | [],l,q,h=> Or.inl ⟨q,h,rfl⟩
 | p::u,l,q,h=> by
  have h1:addL n l (p::u)=addL n (addGo n l p) u:=rfl;rw[h1] at h;rcases JH n u h with ⟨x,hx,e⟩ | ⟨x,hx,e⟩
  ·rcases Q6O (l:=l) (s:=p.1) hx with h2 | h2
   ·exact Or.inr ⟨p,eX_,by rw[←h2,e]⟩
   ·exact Or.inl ⟨x,h2,e⟩
  ·exact Or.inr ⟨x,eR_ _ hx,e⟩
theorem Li {l:L} {s:Nm} (h:has l s=false):∀ p∈l,p.1≠s:=by
 induction l with
 | nil=> intro p hp;cases hp
 | cons q r ih=>
  rw[has] at h;split at h
  ·cases h
  ·rename_i hq;intro p hp;rcases List.mem_cons.1 hp with rfl | hp
   ·exact hq
   ·exact ih h p hp
theorem Q6P {m:L} {t u:T} {s:Nm} (ht:Ok t.l) (hu:Ok u.l) (h1:full m t.l=true) (h2:full m u.l=true):full m (put t s u).l=true:=by
 refine Q49 fun q hq=> ?_;have hq':q∈addL (look t.l s) (addL (-(look t.l s)) t.l (name s).l) u.l:=hq;by_cases h0:look t.l s=0
 ·have hput:put t s u=t:=by
   have e1:Ok (put t s u).l:=Xm _ _ (Xm _ _ ht);have key:∀ (v l:L),Ok l→addL 0 l v=l:=fun v l hl=> by
    refine ext (Xm 0 v hl).rise hl.rise (Xm 0 v hl).nonz hl.nonz fun x=> ?_;clear hq hq' h1 h2 h0 e1 ht hu
    induction v generalizing l with
    | nil=> rfl
    | cons p v ih=>
     have h3:addL 0 l (p::v)=addL 0 (addGo 0 l p) v:=rfl;rw[h3,ih (addGo 0 l p) (hl.setz _ _)];unfold addGo;rw[Ux hl.rise];split
     ·rename_i e;rw[e];omega
     ·rfl
   have e2:(put t s u).l=t.l:=by
    show addL (look t.l s) (addL (-(look t.l s)) t.l (name s).l) u.l=t.l;rw[h0];show addL 0 (addL 0 t.l _) u.l=t.l;rw[key _ _ (by rw[key _ _ ht];exact ht),key _ _ ht]
   have e3:(put t s u).rest=t.rest:=by
    show t.rest+0* -(look t.l s)+u.rest*look t.l s=t.rest;rw[h0];omega
   cases ht':put t s u with
   | mk a b=>
    rw[ht'] at e2 e3;cases t;simp only at e2 e3;rw[e2,e3]
  rw[hput] at hq;exact ZV h1 q hq
 ·have hs:has m s=true:=by
   cases hh:has t.l s with
   | false=> exact absurd (X7 (Li hh)) h0
   | true=>
    have:∃ p∈t.l,p.1=s:=by
     have key:∀ l:L,has l s=true→∃ p∈l,p.1=s:=by
      intro l
      induction l with
      | nil=> intro h;cases h
      | cons p r ih=>
       intro h;rw[has] at h;split at h
       ·exact ⟨p,eX_,by assumption⟩
       ·obtain ⟨x,hx,e⟩:=ih h;exact ⟨x,eR_ _ hx,e⟩
     exact key t.l hh
    obtain ⟨p,hp,e⟩:=this;rw[←e];exact ZV h1 p hp
  rcases JH _ _ hq' with ⟨x,hx,e⟩ | ⟨x,hx,e⟩
  ·rcases JH _ _ hx with ⟨y,hy,e2⟩ | ⟨y,hy,e2⟩
   ·rw[←e, ←e2];exact ZV h1 y hy
   ·rw[←e, ←e2];rw[List.mem_singleton.1 hy];exact hs
  ·rw[←e];exact ZV h2 x hx
theorem Q7Y {m:L} {t u:T} {s:Nm} {v k:Int} (ht:Ok t.l) (hu:Ok u.l) (h1:ev m t=some v) (h2:ev m u=some k):
  ∃ r,ev m (put t s u)=some r∧ev (ins m s k) t=some r:=by
 rw[Q2r] at h1 h2;split at h1
 ·rename_i f1;split at h2
  ·rename_i f2;injection h1 with h1;injection h2 with h2;refine ⟨_,by rw[Q2r,if_pos (Q6P ht hu f1 f2)],?_⟩;have f3:full (ins m s k) t.l=true:=Q49 fun p hp=> (by rw[Q7H,ZV f1 p hp,Bool.or_true]);rw[Q2r,if_pos f3,Q6N (look m) ht u s,Q04 m s k ht.rise,h2];congr 1;omega
  ·cases h2
 ·cases h1
theorem Q4a {m:L} {t:T} (h:ev m t=none):t.l≠ []:=by
 intro e;rw[Q2r,e] at h;simp[full] at h
def want (m:L):L→Int × Bool→Int × Bool
 | [],a=> a
 | p::r,a=> want m r (a.1+p.2*look m p.1,a.2 && has m p.1)
theorem Q4b (m:L):∀ (l:L) (a:Int × Bool),want m l a=(a.1+sumv (look m) l,a.2 && full m l)
 | [],a=> by simp[want,sumv,full]
 | p::r,a=> by
  rw[want,Q4b m r,sumv,Int.mul_comm p.2];refine Prod.ext ?_ ?_
  ·show a.1+look m p.1*p.2+sumv (look m) r=_;show _=a.1+(look m p.1*p.2+sumv (look m) r);omega
  ·show (a.2 && has m p.1 && full m r)=(a.2 && full m (p::r))
   unfold full;rw[List.all_cons,Bool.and_assoc]
theorem Q7I (m:L) (t:T):ev m t=if (want m t.l (t.rest,true)).2 then some (want m t.l (t.rest,true)).1 else none:=by
 rw[Q4b,Q2r,Bool.true_and]
end Tp
end Go.Proofs.YtiecccakcenobaaGreatDoor
