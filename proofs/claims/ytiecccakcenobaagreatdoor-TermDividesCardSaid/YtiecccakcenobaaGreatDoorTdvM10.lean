/- A part of the proof. -/
import Derived.Test.YtiecccakcenobaaGreatDoorTdvM9
import Derived.Test.YtiecccakcenobaaGreatDoorRows
import Derived.ProofKit
import Derived.OpenShut
import Derived.JoinedCond
import Derived.Deep.Slices
import Derived.Deep.Fields
import Derived.Deep.Grids
import Derived.ChangeSame
import Derived.Lib.SmallJoins
import Derived.Test.YtiecccakcenobaaGreatDoorCards
import Derived.Test.YtiecccakcenobaaGreatDoorTie
import Derived.ChangeMaps5
import Derived.Lay
import Derived.LaidLaws
import Derived.MakeChecks
import Derived.SevenTiedAt
set_option linter.all false
set_option maxRecDepth 100000
set_option maxHeartbeats 64000000
namespace Go.Proofs.YtiecccakcenobaaGreatDoor
open Go.Proofs.Tryz
open Go.ChangeShapes Go.WideShapes Go.ChangeAt Go.RowKit
variable {e:Ex} {b b0 fuel n o0 x0:Nat} {t tb:TypeId} {u0 v:Value} {W W':World}
theorem JD {H:Type} {enc:TypeId × Value->H} {P:Program} {W W':World} (hl:laidOutB P=true) (hb:Below W.heap.size W W'):
  ∀ (ts:List TypeId) (vs:List Value) (ds:List (DataW H)) (p:List MemPlace),(ts.all fun t=> P.readableRec t && decide (t < P.types.size))=true->
   DataW.TrodAll enc P W 0 (fun _=> true) true ts vs ds p->(∀ x∈p,x.block < W.heap.size)->
   DataW.TrodAll enc P W' 0 (fun b=> decide (b < W.heap.size)) true ts vs ds p
 | [], [], [],_,_,h,_=> h
 | t::ts,v::vs,d::ds,ps,hr,h,hlt=> by
  obtain ⟨p,q,h1,h2,rfl⟩:=h;simp only[List.all_cons,Bool.and_eq_true,decide_eq_true_eq] at hr;exact ⟨p,q,Below.trod hl hr.1.1 hr.1.2 h1 hb (fun x hx=> hlt x (List.mem_append_left _ hx)),
   JD hl hb ts vs ds q hr.2 h2 (fun x hx=> hlt x (List.mem_append_right _ hx)),rfl⟩
 | [], [],_::_,_,_,h,_=> h.elim
 | [],_::_,_,_,_,h,_=> by cases h
 | _::_, [],_,_,_,h,_=> by cases h
 | _::_,_::_, [],_,_,h,_=> by cases h
theorem Q7r {H:Type} {enc:TypeId × Value->H} {P:Program} {f:Func} {s:ChangeSpec} {args:Array Value} {ds gs:List (DataW H)} {before:List MemPlace}
  (hl:laidOutB P=true) (hr:(f.params.toList.all fun t=> P.readableRec t && decide (t < P.types.size))=true) (hres:f.resultTypes= #[tb]) (htb:P.underlying tb=some .bool) (hv:s.vars= [])
  (hs:(s.fn H ds).results= [.lit (.bool true)]/\(s.fn H ds).args=ds/\(s.fn H ds).vars= [])
  (hW:DataW.Whole enc P f.params.toList s.vars false W args.toList ds gs before) (hb:Below W.heap.size W W'):
  s.post enc P f false true false false W args (.bool true) W':=by
 have hW':=hW;have hlt:=hW.lt;obtain ⟨p,q,hA,hV,rfl,hfz,hnd⟩:=hW;rw[hv] at hV;obtain ⟨rfl,rfl⟩:=trodVars_none hV;refine ⟨ds, [],p++ [], [],p, [],hW',?_,?_,?_,hb.frame _,fun h=> by cases h⟩
 ·rw[List.append_nil,hs.1,hres];exact trodAll_cons_mk (shut_bool htb _) trodAll_mk0
 ·rw[List.append_nil,hs.2.1];exact JD hl hb _ _ _ _ hr hA (fun x hx=> hlt x (List.mem_append_left _ hx))
 ·rw[List.append_nil,hs.2.2,hv];exact rfl
def LawWalk {H:Type} (enc:TypeId × Value->H) (P:Program) (fid:FuncId) (f:Func) (W:World) (args:Array Value) (ds:List (DataW H)):Prop:=
 (∀ (base:Nat),(∀ (j:Nat) t v,f.params[j]? =some t->args[j]? =some v->Value.okWide P W .any base t v)->∀ p:List MemPlace,DataW.TrodAll enc P W 0 (fun _=> true) true f.params.toList args.toList ds p->
  (∀ x∈p,x.block < W.heap.size)->Calls P fid args W fun e W'=> e= .returned (.bool true)/\Below W.heap.size W W')
theorem Q19 {H:Type} {enc:TypeId × Value->H} {P:Program} {fid:FuncId} {f:Func} {s:ChangeSpec} {args:Array Value} {ds gs:List (DataW H)} {before:List MemPlace} {base:Nat}
  (hl:laidOutB P=true) (hr:(f.params.toList.all fun t=> P.readableRec t && decide (t < P.types.size))=true) (hres:f.resultTypes= #[tb]) (htb:P.underlying tb=some .bool) (hv:s.vars= [])
  (hs:(s.fn H ds).results= [.lit (.bool true)]/\(s.fn H ds).args=ds/\(s.fn H ds).vars= [])
  (hval:∀ (j:Nat) t v,f.params[j]? =some t->args[j]? =some v->Value.okWide P W .any base t v)
  (hW:DataW.Whole enc P f.params.toList s.vars false W args.toList ds gs before) (h:LawWalk enc P fid f W args ds):
  Calls P fid args W fun e W'=> ∃ v,e= .returned v/\s.post enc P f false true false false W args v W':=by
 have hlt:=hW.lt;obtain ⟨p,q,hA,hV,hp,_⟩:=id hW;refine (h base hval p hA (fun x hx=> hlt x (by rw[hp];exact List.mem_append_left _ hx))).mono fun e W' ⟨he,hb⟩=> ?_;exact ⟨_,he,Q7r hl hr hres htb hv hs hW hb⟩
open Go.RowKit
theorem Q4J {α:Type} {p:Nat->α->Prop}:∀ (n:Nat),(∀ i,i < n->∃ x,p i x)->∃ l:List α,l.length=n/\∀ i x,l[i]? =some x->p i x
 | 0,_=> ⟨[],rfl,fun i x h=> by simp at h⟩
 | n+1,h=> by
  obtain ⟨l,hl,hp⟩:=Q4J n fun i hi=> h i (by omega);obtain ⟨x,hx⟩:=h n (by omega);refine ⟨l++ [x],by simp[hl],fun i y hy=> ?_⟩;rcases eS_ i n with h1 | h1
  ·rw[eT_ (by omega)] at hy;exact hp i y hy
  ·have:=Tr.Zm hy;simp only[eC_,eL_,eU_] at this;obtain rfl:i=n:=(by omega);rw[eO_ (by omega),hl,Nat.sub_self] at hy;simp only[eZ_,Option.some.injEq] at hy;rw[<-hy];exact hx
theorem DW {w:World} {off:Nat} {xs ys:List Value} (h:w.rangeAt b off xs) (k:w.rangeAt b (off+xs.length) ys):w.rangeAt b off (xs++ys):=by
 intro j v hj;rcases eS_ j xs.length with h1 | h1
 ·rw[eT_ h1] at hj;exact h j v hj
 ·rw[eO_ h1] at hj;have:=k (j - xs.length) v hj;rw[show off+xs.length+(j - xs.length)=off+j by omega] at this;exact this
theorem Uv {w:World} {b s:Nat} {α:Type} {f:α->List Value} (hf:∀ x,(f x).length=s):∀ {l:List α} {off:Nat},(∀ i x,l[i]? =some x->w.rangeAt b (off+i*s) (f x))->w.rangeAt b off (l.flatMap f)
 | [],_,_=> YL _ _ _
 | y::l,off,h=> by
  rw[List.flatMap_cons];refine DW (by simpa using h 0 y rfl) ?_;rw[hf];refine Uv hf fun i x hx=> ?_;have:=h (i+1) x (by simpa using hx);rw[show off+s+i*s=off+(i+1)*s by rw[Nat.add_mul];omega];exact this
open Go.ChangeShapes Go.WideShapes Go.ChangeAt Go.RowKit Go.Deep Go.Joins
section
variable {H:Type} {enc:TypeId × Value->H} {P:Program} {w:World} {base:Nat} {spare:Nat->Bool} {held:Bool}
theorem Uw {e:TypeId} {fs:Array Field} {cs:List Value} {x:DataW H × List MemPlace} (ht:P.underlying t=some (.slice e)) (he:P.underlying e=some (.struct fs))
  (hone:oneCellFields P fs=true) (hC:P.cellsOf e=fs.size) (h:DataW.trod enc P w base spare held fuel t cs=some x):
  (cs= [.slice none 0 0]/\x=(.nil, []))\/
  ∃ (a:Addr) (len cap m:Nat),cs= [.slice (some a) len cap]/\len<=cap/\cap<=maxLen/\m=(if spare a.block then cap else len)/\
   ∀ i,i < m->∃ (n:Nat),∀ (j:Nat) (f:Field),fs[j]? =some f->∃ (v:Value) (y:DataW H × List MemPlace),w.cell? (a.add (i*fs.size+j))=some v/\DataW.trod enc P w base spare held n f.type [v]=some y:=by
 rcases open_slice ht h with h0 | ⟨a,len,cap,m,n,D,Pl,hcs,hb,hl,hm,hmm,hx,hi⟩
 ·exact .inl h0
 ·refine .inr ⟨a,len,cap,m,hcs,hl,hm,hmm,fun i him=> ?_⟩;obtain ⟨cs',hc,ht'⟩:=hi i him;rw[hC] at hc;obtain ⟨ys,n',hn',hy,hlen,hyl,hf⟩:=DataW.trod_struct he ht';obtain ⟨_,hcl,hat⟩:=World.cells?_some hc;refine ⟨n',fun j f hj=> ?_⟩;obtain ⟨ho,hk⟩:=hone_of hone j f hj;have hjl:j < fs.size:=(Array.getElem?_eq_some_iff.1 hj).1;have hcell:=hat j hjl;have hv:cs'[j]? =some (cs'[j]'(by omega)):=eA_ (by omega);have h1:=hf j f hj;rw[ho,hk] at h1;have hone':(cs'.drop j).take 1= [cs'[j]'(by omega)]:=by
   rw[List.drop_eq_getElem_cons (by omega)];rfl
  rw[hone'] at h1;have hys:ys[j]? =some (ys[j]'(by omega)):=eA_ (by omega);exact ⟨_,_,by rw[<-Go.Deep.add_add,hcell,hv],h1.trans hys⟩
end
theorem Q5P {a:Addr} (h:a.spot=none):a=⟨a.block,a.off,none⟩:=by cases a;simp at h;subst h;rfl
theorem Q2B {P:Program} {w:World} {r:Reach} {e:TypeId} {a:Addr} {len cap:Nat} (ht:P.underlying t=some (.slice e)) (h:Cell.okWide P w r b0 t (.slice (some a) len cap)):a.spot=none:=by
 unfold Cell.okWide at h;rw[ht] at h;simp only[Cell.ok,ht] at h;exact h.2.2.2.1
section
variable {H:Type} {enc:TypeId × Value->H} {w:World} {held:Bool}
theorem Ux {y:DataW H × List MemPlace} (h:DataW.trod enc prog w 0 (fun _=> true) held fuel 3 [v]=some y):∃ n,v= .int .i64 n:=by
 obtain ⟨n,hc,_,_⟩:=DataW.trod_int underlying3 h;simp only[List.cons.injEq,and_true] at hc;exact ⟨n,hc⟩
theorem GB {y:DataW H × List MemPlace} (h:DataW.trod enc prog w 0 (fun _=> true) held fuel 9 [v]=some y):∃ l:List UInt8,v= .string ⟨l.toArray⟩:=by
 obtain ⟨s,hc,_,_⟩:=DataW.trod_string underlying9 h;simp only[List.cons.injEq,and_true] at hc;exact ⟨s.data.toList,by rw[hc]⟩
theorem ZG {P:Program} {r:Reach} {cs:Array Value} {ts:List TypeId} (h:Row.okWide P w r b0 t cs) (hts:P.cellTypes P.depth t=some ts) {i:Nat} {v:Value} (hi:cs[i]? =some v) {u:TypeId} (hu:ts[i % ts.length]? =some u):Cell.okWide P w r b0 u v:=by
 obtain ⟨ts',h1,_,h2⟩:=h;rw[hts] at h1;obtain rfl:=Option.some.inj h1;obtain ⟨u',hu',hc⟩:=h2 i v hi;rw[hu] at hu';obtain rfl:=Option.some.inj hu';exact hc
theorem Q5Q {X:Type} {xc:X->List Value} {K:Nat} (hxc:∀ x,(xc x).length=K) {t e:TypeId} {fs:Array Field} (hK:fs.size=K) (ht:prog.underlying t=some (.slice e)) (he:prog.underlying e=some (.struct fs))
  (hone:oneCellFields prog fs=true) (hC:prog.cellsOf e=fs.size)
  (hx:∀ (g:Nat->Option Value),(∃ n,∀ (j:Nat) (f:Field),fs[j]? =some f->∃ (v:Value) (y:DataW H × List MemPlace),g j=some v/\DataW.trod enc prog w 0 (fun _=> true) held n f.type [v]=some y)->∃ x:X,∀ j u,(xc x)[j]? =some u->g j=some u)
  {fuel:Nat} {v:Value} {y:DataW H × List MemPlace} (h:DataW.trod enc prog w 0 (fun _=> true) held fuel t [v]=some y) (hsp:∀ a n c,v= .slice (some a) n c->a.spot=none) (hK0:0 < K):
  ∃ l:List X,RdS w (fun k=> k < w.heap.size) K v l.length (l.flatMap xc):=by
 rcases Uw ht he hone hC h with ⟨hcs,_⟩ | ⟨a,len,cap,m,hcs,hl,hm,hmm,hf⟩
 ·simp only[List.cons.injEq,and_true] at hcs;subst hcs;exact ⟨[],RdS.nil _ _ _⟩
 ·simp only[List.cons.injEq,and_true] at hcs;subst hcs;simp only[if_true] at hmm;subst hmm;have ha:=Q5P (hsp a len m rfl);obtain ⟨l,hll,hlp⟩:=Q4J (p:=fun i (k:X)=> w.rangeAt a.block (a.off+i*K) (xc k)) len fun i hi=> by
   obtain ⟨n,hn⟩:=hf i (by omega);obtain ⟨x,hx⟩:=hx (fun j=> w.cell? (a.add (i*fs.size+j))) ⟨n,hn⟩;refine ⟨x,fun j u hj=> ?_⟩;have h1:=hx j u hj;rw[hK,ha,Addr.add_mid] at h1;rw[<-h1,Nat.add_assoc]
  have hr:=Uv (f:=xc) (s:=K) hxc (off:=a.off) hlp;refine ⟨l,by rw[ZK (f:=xc) (s:=K) hxc],some a,m,by rw[hll],by omega,Or.inr ⟨a.block,a.off,by rw[<-ha],?_,hr⟩⟩;rcases Nat.eq_zero_or_pos l.length with h0 | h0
  ·exact Or.inl h0
  ·refine Or.inr ?_;obtain ⟨k,hk⟩:∃ k,l[0]? =some k:=⟨_,eA_ h0⟩
   have hck:=hlp 0 k hk;have hlen:=hxc k;obtain ⟨u,hu⟩:∃ u,(xc k)[0]? =some u:=⟨_,eA_ (by omega)⟩
   exact Qd (hck 0 u hu)
theorem cellsPart:prog.cellsOf 67=2:=by kernel_rfl
theorem cellsSum:prog.cellsOf 56=2:=by kernel_rfl
theorem Q4a {y:DataW H × List MemPlace} (h:DataW.trod enc prog w 0 (fun _=> true) held fuel 54 [v]=some y) (hsp:∀ a n c,v= .slice (some a) n c->a.spot=none):
  ∃ l:List (Tp.Nm × Int),RdS w (fun k=> k < w.heap.size) 2 v l.length (ptCells l):=by
 refine Q5Q (xc:=fun p:Tp.Nm × Int=> [.string ⟨p.1.toArray⟩,.int .i64 p.2]) (fun _=> rfl) rfl underlying54 underlying67 (by kernel_rfl) cellsPart ?_ h hsp (by decide);rintro g ⟨n,hn⟩;obtain ⟨v0,y0,c0,t0⟩:=hn 0 _ rfl;obtain ⟨v1,y1,c1,t1⟩:=hn 1 _ rfl;obtain ⟨k0,rfl⟩:=GB t0;obtain ⟨k1,rfl⟩:=Ux t1;refine ⟨⟨k0,k1⟩,fun j u hj=> ?_⟩
 match j,hj with
 | 0,hj=> simp only[eZ_,Option.some.injEq] at hj;subst hj;exact c0
 | 1,hj=> simp only[List.getElem?_cons_succ,eZ_,Option.some.injEq] at hj;subst hj;exact c1
 | j+2,hj=> simp at hj
theorem Q7s {r:Reach} {d:DataW H} {p:List MemPlace} (hv:Value.okWide prog w r b0 56 v) (h:DataW.Trod enc prog w 0 (fun _=> true) held 56 v d p):
  ∃ vp n ps,v= .agg #[vp,.int .i64 n]/\RdS w (fun k=> k < w.heap.size) 2 vp ps.length (ptCells ps)/\ -9223372036854775808<=n/\n<=9223372036854775807:=by
 have hv2:=hv;obtain ⟨v0,v1,y0,y1,n,rfl,_,_,h0,h1⟩:=open_agg2 underlying56 (by kernel_rfl) cellsSum hv h;unfold Value.okWide at hv2;rw[underlying56] at hv2;obtain ⟨cs,hcs,_,hrow⟩:=hv2;injection hcs with hcs;subst hcs;have hct:prog.cellTypes prog.depth 56=some [54,3]:=by kernel_rfl
 obtain ⟨ps,hp⟩:=Q4a h0 fun a n c e=> by
  subst e;exact Q2B underlying54 (ZG hrow hct (i:=0) rfl rfl)
 obtain ⟨m,rfl⟩:=Ux h1;have hc:=ZG hrow hct (i:=1) rfl rfl;unfold Cell.okWide at hc;rw[underlying3] at hc;simp only[Cell.ok,underlying3] at hc;exact ⟨v0,m,ps,rfl,hp,(show IntKind.i64=IntKind.i64/\IntKind.i64.has m from hc).2⟩
end
open Go.ChangeShapes Go.WideShapes Go.ChangeAt Go.RowKit Go.Deep
theorem own:ownKnob prog.godebug=none:=by kernel_rfl
theorem laidOut:laidOutB prog=true:=by kernel_rfl
def theLaid:List (String × DataW Unit):=Rows.termPutsRow.laid
theorem Q4b (w:World):laidMetH prog theLaid w=laidMet prog theLaid w:=MakeChecks.laidMetH_plain _ _ _ (by kernel_rfl)
theorem Q7t (os:Os) (args:Array Value):laidMet prog theLaid ((World.laidAll prog os theLaid).forCall (fun _ _=> 0) ⟨#[],args, []⟩).memory:=laidMet_laidAll _ (by kernel_rfl) (by kernel_rfl)
theorem Q8P {w:World} (h0:w.cell? ⟨x0,o0,none⟩=some u0):Hid (∀ W,Below w.heap.size w W->Below w.heap.size w W/\W.cell? ⟨x0,o0,none⟩=some u0):=hd_ fun W b=> ⟨b,(b.cell (Qd h0)).trans h0⟩
theorem Q8Q {w:World} {x1 x2 x3 x4 o1 o2 o3 o4:Nat} {u1 u2 u3 u4:Value} (h0:w.cell? ⟨x0,o0,none⟩=some u0) (h1:w.cell? ⟨x1,o1,none⟩=some u1) (h2:w.cell? ⟨x2,o2,none⟩=some u2) (h3:w.cell? ⟨x3,o3,none⟩=some u3) (h4:w.cell? ⟨x4,o4,none⟩=some u4):Hid (∀ W,Below w.heap.size w W->Below w.heap.size w W/\W.cell? ⟨x0,o0,none⟩=some u0/\W.cell? ⟨x1,o1,none⟩=some u1/\W.cell? ⟨x2,o2,none⟩=some u2/\W.cell? ⟨x3,o3,none⟩=some u3/\W.cell? ⟨x4,o4,none⟩=some u4):=hd_ fun W b=> ⟨b,(b.cell (Qd h0)).trans h0,(b.cell (Qd h1)).trans h1,(b.cell (Qd h2)).trans h2,(b.cell (Qd h3)).trans h3,(b.cell (Qd h4)).trans h4⟩
theorem rq_ {P:Program} {Q:Exit->Act->World->Prop} {S Pr:World->Prop} {id:Nat} {all:List Oper} {a:Act} {w:World} (hne:all≠ []:=by simp) (hm:P.follows .mixedOrders=true:=by kernel_rfl) (hp:peelableW all.dropLast.toArray (all.getLast hne)=true:=by kernel_rfl) (s:Hid (∀ W,Pr W->S W)) (p:Pr w.drew) (h:S w.drew->wpAnyH P .any all.dropLast.toArray (PeelQ P (all.getLast hne) Q) S all.dropLast.length (Array.replicate all.dropLast.length false) a w.drew):(Code.region id all.toArray true).wp P Q a w:=Gb hne hm hp (s.out _ p) h
theorem Q4c {w:World} {P:Nat->Prop} {vp:Value} {ps:List (Tp.Nm × Int)} {n:Int} (h:RdS w P 2 vp ps.length (ptCells ps)) (hP:∀ k,P k->k < w.heap.size) (hn1: -9223372036854775808<=n) (hn2:n<=9223372036854775807):
  Calls prog 14 #[.agg #[vp,.int .i64 n]] w (BothOut ps n w):=by
 obtain ⟨a,c,rfl⟩:=h.form;have hbx:=box3 w #[.slice a ps.length c,.int .i64 n] 56 #[.bool false,.slice none 0 0,.pointer none] 38 #[.slice none 0 0,.slice none 0 0,.int .i64 0,.slice none 0 0] 50;have HH:=h4_ h hP hn1 hn2;obtain ⟨V,hV⟩:∃ V,((w.alloc (.cells #[.slice a ps.length c,.int .i64 n] 56)).alloc (.cells #[.bool false,.slice none 0 0,.pointer none] 38)).alloc (.cells #[.slice none 0 0,.slice none 0 0,.int .i64 0,.slice none 0 0] 50)=V:=⟨_,rfl⟩
 have HVV:=hd_ hV;rw[hV] at hbx;have HB:=hd_ hbx;have s0:=Q3 hbx.1 0 rfl;have s1:=Q3 hbx.1 1 rfl;clear h hP hn1 hn2 hbx hV;go_in;go_wp2_with fail;rw[HVV.o];have HS:=Q8P s1;go_cut [5,6] from 9 to 16 (fun v5 v6 wc=> ∃ g h z,v5= .pointer (some ⟨g,0,none⟩)/\v6= .pointer (some ⟨h,0,none⟩)/\(n≠ -9223372036854775808->z=n)/\TwoT V g h ⟨[],n⟩ ⟨[],z⟩ wc)
 case first=>
  refine rq_ (s:=HS) (p:=((eB_ _ _).drew)) (h:=fun hHeld=> ?_);simp only[lA_];refine tk_ 0 rfl ?_;refine tk_ 1 rfl ?_;refine tk_ 4 rfl ?_;refine tk_ 5 rfl ?_;try simp only[Act.put,gP_]
  have bV:=(eB_ V.heap.size V).drew;clear s0 s1 hHeld;obtain ⟨W0,hW0⟩:∃ W',V.drew=W':=⟨_,rfl⟩
  rw[hW0] at bV |-;clear hW0;refine wpAnyH_ready (rs:= [2,8,9]) (by kernel_rfl) (by simp) ?_;refine AllReadyH.cons rfl (fun KK hKK=> ?gF1) (AllReadyH.cons rfl (fun KK hKK=> ?g51) (AllReadyH.cons rfl (fun KK hKK=> ?g61) AllReadyH.nil))
  case' gF1=>
   simp only[gA_];go_simp;refine eH_ (QM n HH.c HH.D _) ?_;rintro r wF ⟨v11,rfl,n11,hb⟩;replace bV:=bV.trans (hb.mono bV.size);dsimp only;refine hKK.out _ _ (HS.o _ bV) (fun hHeld=> ?_);clear hKK KK hb;(try simp only[Act.put,sA_]);refine wpAnyH_ready (rs:= [3,8,9]) (by kernel_rfl) (by simp) ?_;refine AllReadyH.cons rfl (fun KK hKK=> ?gN2) (AllReadyH.cons rfl (fun KK hKK=> ?g52) (AllReadyH.cons rfl (fun KK hKK=> ?g62) AllReadyH.nil))
   case' gN2=>
    simp only[gA_];go_simp;refine eH_ (Xg n11) ?_;rintro r wN ⟨v12,rfl,m12,hb⟩;replace bV:=bV.trans (hb.mono bV.size);clear n11;dsimp only;refine hKK.out _ _ (HS.o _ bV) (fun hHeld=> ?_);clear hKK KK hb;(try simp only[Act.put,sA_]);refine wpAnyH_ready (rs:= [6,8,9]) (by kernel_rfl) (by simp) ?_;refine AllReadyH.cons rfl (fun KK hKK=> ?gR3) (AllReadyH.cons rfl (fun KK hKK=> ?g53) (AllReadyH.cons rfl (fun KK hKK=> ?g63) AllReadyH.nil))
    case' gR3=>
     simp only[gA_];go_simp;refine eH_ (XG n HH.c HH.D _) ?_;rintro r wR ⟨v15,z,rfl,hz,z15,hb⟩;obtain ⟨az,cz,rfl,_⟩:=z15.form;replace m12:=m12.below hb;replace bV:=bV.trans (hb.mono bV.size);dsimp only;refine hKK.out _ _ (HS.o _ bV) (fun hHeld=> ?_);clear hKK KK hb;(try simp only[Act.put,sA_]);refine tk_ 7 rfl ?_;(try simp only[Act.put,gP_]);refine wpAnyH_ready (rs:= [8,9]) (by kernel_rfl) (by simp) ?_;refine AllReadyH.cons rfl (fun KK hKK=> ?g54) (AllReadyH.cons rfl (fun KK hKK=> ?g64) AllReadyH.nil)
     case' g54=>
      simp only[gA_];go_simp;have hb:=Qh (w:=wR) #[.bool false,.slice none 0 0,.pointer none] 38;have r5:=hb.1;have hg5:V.heap.size<=_:=bV.size;replace hb:=hb.2;replace m12:=m12.below hb;replace z15:=z15.below hb;replace bV:=bV.trans (hb.mono bV.size);refine hKK.out _ _ (HS.o _ bV) (fun hHeld=> ?_);clear hKK KK hb hHeld;(try simp only[Act.put,sA_]);obtain ⟨W5n,hW5⟩:∃ W',wR.alloc (.cells #[.bool false,.slice none 0 0,.pointer none] 38)=W':=⟨_,rfl⟩
      rw[hW5] at m12 z15 r5 bV |-;clear hW5
      rename World=> WZ
     case' g64=>
      simp only[gA_];go_simp;have hb:=Qh (w:=wR) #[.slice none 0 0,.slice none 0 0,.int .i64 0,.slice none 0 0] 50;have r6:=hb.1;have hg6:V.heap.size<=_:=bV.size;replace hb:=hb.2;replace m12:=m12.below hb;replace z15:=z15.below hb;replace bV:=bV.trans (hb.mono bV.size);refine hKK.out _ _ (HS.o _ bV) (fun hHeld=> ?_);clear hKK KK hb hHeld;(try simp only[Act.put,sA_]);obtain ⟨W6n,hW6⟩:∃ W',wR.alloc (.cells #[.slice none 0 0,.slice none 0 0,.int .i64 0,.slice none 0 0] 50)=W':=⟨_,rfl⟩
      rw[hW6] at m12 z15 r6 bV |-;clear hW6
      rename World=> WZ
    case' g53=>
     simp only[gA_];go_simp;have hb:=Qh (w:=wN) #[.bool false,.slice none 0 0,.pointer none] 38;have r5:=hb.1;have hg5:V.heap.size<=_:=bV.size;replace hb:=hb.2;replace m12:=m12.below hb;replace bV:=bV.trans (hb.mono bV.size);refine hKK.out _ _ (HS.o _ bV) (fun hHeld=> ?_);clear hKK KK hb hHeld;(try simp only[Act.put,sA_]);obtain ⟨W5n,hW5⟩:∃ W',wN.alloc (.cells #[.bool false,.slice none 0 0,.pointer none] 38)=W':=⟨_,rfl⟩
     rw[hW5] at m12 r5 bV |-;clear hW5;refine wpAnyH_ready (rs:= [6,9]) (by kernel_rfl) (by simp) ?_;refine AllReadyH.cons rfl (fun KK hKK=> ?gR5) (AllReadyH.cons rfl (fun KK hKK=> ?g65) AllReadyH.nil)
     case' gR5=>
      simp only[gA_];go_simp;refine eH_ (XG n HH.c HH.D _) ?_;rintro r wR ⟨v15,z,rfl,hz,z15,hb⟩;obtain ⟨az,cz,rfl,_⟩:=z15.form;replace m12:=m12.below hb;replace r5:=Q7 r5 hb;replace bV:=bV.trans (hb.mono bV.size);dsimp only;refine hKK.out _ _ (HS.o _ bV) (fun hHeld=> ?_);clear hKK KK hb;(try simp only[Act.put,sA_]);refine tk_ 7 rfl ?_;try simp only[Act.put,gP_]
      rename World=> WZ
     case' g65=>
      simp only[gA_];go_simp;have hb:=Qh (w:=W5n) #[.slice none 0 0,.slice none 0 0,.int .i64 0,.slice none 0 0] 50;have r6:=hb.1;have hg6:V.heap.size<=_:=bV.size;replace hb:=hb.2;have hne:=(Nat.ne_of_gt (Q4 r5))
      replace m12:=m12.below hb;replace r5:=Q7 r5 hb;replace bV:=bV.trans (hb.mono bV.size);refine hKK.out _ _ (HS.o _ bV) (fun hHeld=> ?_);clear hKK KK hb hHeld;(try simp only[Act.put,sA_]);obtain ⟨W6n,hW6⟩:∃ W',W5n.alloc (.cells #[.slice none 0 0,.slice none 0 0,.int .i64 0,.slice none 0 0] 50)=W':=⟨_,rfl⟩
      rw[hW6] at m12 r5 r6 bV |-;clear hW6
      rename World=> WZ
    case' g63=>
     simp only[gA_];go_simp;have hb:=Qh (w:=wN) #[.slice none 0 0,.slice none 0 0,.int .i64 0,.slice none 0 0] 50;have r6:=hb.1;have hg6:V.heap.size<=_:=bV.size;replace hb:=hb.2;replace m12:=m12.below hb;replace bV:=bV.trans (hb.mono bV.size);refine hKK.out _ _ (HS.o _ bV) (fun hHeld=> ?_);clear hKK KK hb hHeld;(try simp only[Act.put,sA_]);obtain ⟨W6n,hW6⟩:∃ W',wN.alloc (.cells #[.slice none 0 0,.slice none 0 0,.int .i64 0,.slice none 0 0] 50)=W':=⟨_,rfl⟩
     rw[hW6] at m12 r6 bV |-;clear hW6;refine wpAnyH_ready (rs:= [6,8]) (by kernel_rfl) (by simp) ?_;refine AllReadyH.cons rfl (fun KK hKK=> ?gR6) (AllReadyH.cons rfl (fun KK hKK=> ?g56) AllReadyH.nil)
     case' gR6=>
      simp only[gA_];go_simp;refine eH_ (XG n HH.c HH.D _) ?_;rintro r wR ⟨v15,z,rfl,hz,z15,hb⟩;obtain ⟨az,cz,rfl,_⟩:=z15.form;replace m12:=m12.below hb;replace r6:=Q7 r6 hb;replace bV:=bV.trans (hb.mono bV.size);dsimp only;refine hKK.out _ _ (HS.o _ bV) (fun hHeld=> ?_);clear hKK KK hb;(try simp only[Act.put,sA_]);refine tk_ 7 rfl ?_;try simp only[Act.put,gP_]
      rename World=> WZ
     case' g56=>
      simp only[gA_];go_simp;have hb:=Qh (w:=W6n) #[.bool false,.slice none 0 0,.pointer none] 38;have r5:=hb.1;have hg5:V.heap.size<=_:=bV.size;replace hb:=hb.2;have hne:=(Nat.ne_of_lt (Q4 r6))
      replace m12:=m12.below hb;replace r6:=Q7 r6 hb;replace bV:=bV.trans (hb.mono bV.size);refine hKK.out _ _ (HS.o _ bV) (fun hHeld=> ?_);clear hKK KK hb hHeld;(try simp only[Act.put,sA_]);obtain ⟨W5n,hW5⟩:∃ W',W6n.alloc (.cells #[.bool false,.slice none 0 0,.pointer none] 38)=W':=⟨_,rfl⟩
      rw[hW5] at m12 r6 r5 bV |-;clear hW5
      rename World=> WZ
   case' g52=>
    simp only[gA_];go_simp;have hb:=Qh (w:=wF) #[.bool false,.slice none 0 0,.pointer none] 38;have r5:=hb.1;have hg5:V.heap.size<=_:=bV.size;replace hb:=hb.2;replace n11:=n11.below hb;replace bV:=bV.trans (hb.mono bV.size);refine hKK.out _ _ (HS.o _ bV) (fun hHeld=> ?_);clear hKK KK hb hHeld;(try simp only[Act.put,sA_]);obtain ⟨W5n,hW5⟩:∃ W',wF.alloc (.cells #[.bool false,.slice none 0 0,.pointer none] 38)=W':=⟨_,rfl⟩
    rw[hW5] at n11 r5 bV |-;clear hW5;refine wpAnyH_ready (rs:= [3,9]) (by kernel_rfl) (by simp) ?_;refine AllReadyH.cons rfl (fun KK hKK=> ?gN7) (AllReadyH.cons rfl (fun KK hKK=> ?g67) AllReadyH.nil)
    case' gN7=>
     simp only[gA_];go_simp;refine eH_ (Xg n11) ?_;rintro r wN ⟨v12,rfl,m12,hb⟩;replace r5:=Q7 r5 hb;replace bV:=bV.trans (hb.mono bV.size);clear n11;dsimp only;refine hKK.out _ _ (HS.o _ bV) (fun hHeld=> ?_);clear hKK KK hb;(try simp only[Act.put,sA_]);refine wpAnyH_ready (rs:= [6,9]) (by kernel_rfl) (by simp) ?_;refine AllReadyH.cons rfl (fun KK hKK=> ?gR8) (AllReadyH.cons rfl (fun KK hKK=> ?g68) AllReadyH.nil)
     case' gR8=>
      simp only[gA_];go_simp;refine eH_ (XG n HH.c HH.D _) ?_;rintro r wR ⟨v15,z,rfl,hz,z15,hb⟩;obtain ⟨az,cz,rfl,_⟩:=z15.form;replace r5:=Q7 r5 hb;replace m12:=m12.below hb;replace bV:=bV.trans (hb.mono bV.size);dsimp only;refine hKK.out _ _ (HS.o _ bV) (fun hHeld=> ?_);clear hKK KK hb;(try simp only[Act.put,sA_]);refine tk_ 7 rfl ?_;try simp only[Act.put,gP_]
      rename World=> WZ
     case' g68=>
      simp only[gA_];go_simp;have hb:=Qh (w:=wN) #[.slice none 0 0,.slice none 0 0,.int .i64 0,.slice none 0 0] 50;have r6:=hb.1;have hg6:V.heap.size<=_:=bV.size;replace hb:=hb.2;have hne:=(Nat.ne_of_gt (Q4 r5))
      replace r5:=Q7 r5 hb;replace m12:=m12.below hb;replace bV:=bV.trans (hb.mono bV.size);refine hKK.out _ _ (HS.o _ bV) (fun hHeld=> ?_);clear hKK KK hb hHeld;(try simp only[Act.put,sA_]);obtain ⟨W6n,hW6⟩:∃ W',wN.alloc (.cells #[.slice none 0 0,.slice none 0 0,.int .i64 0,.slice none 0 0] 50)=W':=⟨_,rfl⟩
      rw[hW6] at r5 m12 r6 bV |-;clear hW6
      rename World=> WZ
    case' g67=>
     simp only[gA_];go_simp;have hb:=Qh (w:=W5n) #[.slice none 0 0,.slice none 0 0,.int .i64 0,.slice none 0 0] 50;have r6:=hb.1;have hg6:V.heap.size<=_:=bV.size;replace hb:=hb.2;have hne:=(Nat.ne_of_gt (Q4 r5))
     replace n11:=n11.below hb;replace r5:=Q7 r5 hb;replace bV:=bV.trans (hb.mono bV.size);refine hKK.out _ _ (HS.o _ bV) (fun hHeld=> ?_);clear hKK KK hb hHeld;(try simp only[Act.put,sA_]);obtain ⟨W6n,hW6⟩:∃ W',W5n.alloc (.cells #[.slice none 0 0,.slice none 0 0,.int .i64 0,.slice none 0 0] 50)=W':=⟨_,rfl⟩
     rw[hW6] at n11 r5 r6 bV |-;clear hW6;refine wpAnyH_ready (rs:= [3]) (by kernel_rfl) (by simp) ?_;refine AllReadyH.cons rfl (fun KK hKK=> ?gN9) AllReadyH.nil
     case' gN9=>
      simp only[gA_];go_simp;refine eH_ (Xg n11) ?_;rintro r wN ⟨v12,rfl,m12,hb⟩;replace r5:=Q7 r5 hb;replace r6:=Q7 r6 hb;replace bV:=bV.trans (hb.mono bV.size);clear n11;dsimp only;refine hKK.out _ _ (HS.o _ bV) (fun hHeld=> ?_);clear hKK KK hb;try simp only[Act.put,sA_]
      rename World=> WZ
   case' g62=>
    simp only[gA_];go_simp;have hb:=Qh (w:=wF) #[.slice none 0 0,.slice none 0 0,.int .i64 0,.slice none 0 0] 50;have r6:=hb.1;have hg6:V.heap.size<=_:=bV.size;replace hb:=hb.2;replace n11:=n11.below hb;replace bV:=bV.trans (hb.mono bV.size);refine hKK.out _ _ (HS.o _ bV) (fun hHeld=> ?_);clear hKK KK hb hHeld;(try simp only[Act.put,sA_]);obtain ⟨W6n,hW6⟩:∃ W',wF.alloc (.cells #[.slice none 0 0,.slice none 0 0,.int .i64 0,.slice none 0 0] 50)=W':=⟨_,rfl⟩
    rw[hW6] at n11 r6 bV |-;clear hW6;refine wpAnyH_ready (rs:= [3,8]) (by kernel_rfl) (by simp) ?_;refine AllReadyH.cons rfl (fun KK hKK=> ?gN10) (AllReadyH.cons rfl (fun KK hKK=> ?g510) AllReadyH.nil)
    case' gN10=>
     simp only[gA_];go_simp;refine eH_ (Xg n11) ?_;rintro r wN ⟨v12,rfl,m12,hb⟩;replace r6:=Q7 r6 hb;replace bV:=bV.trans (hb.mono bV.size);clear n11;dsimp only;refine hKK.out _ _ (HS.o _ bV) (fun hHeld=> ?_);clear hKK KK hb;(try simp only[Act.put,sA_]);refine wpAnyH_ready (rs:= [6,8]) (by kernel_rfl) (by simp) ?_;refine AllReadyH.cons rfl (fun KK hKK=> ?gR11) (AllReadyH.cons rfl (fun KK hKK=> ?g511) AllReadyH.nil)
     case' gR11=>
      simp only[gA_];go_simp;refine eH_ (XG n HH.c HH.D _) ?_;rintro r wR ⟨v15,z,rfl,hz,z15,hb⟩;obtain ⟨az,cz,rfl,_⟩:=z15.form;replace r6:=Q7 r6 hb;replace m12:=m12.below hb;replace bV:=bV.trans (hb.mono bV.size);dsimp only;refine hKK.out _ _ (HS.o _ bV) (fun hHeld=> ?_);clear hKK KK hb;(try simp only[Act.put,sA_]);refine tk_ 7 rfl ?_;try simp only[Act.put,gP_]
      rename World=> WZ
     case' g511=>
      simp only[gA_];go_simp;have hb:=Qh (w:=wN) #[.bool false,.slice none 0 0,.pointer none] 38;have r5:=hb.1;have hg5:V.heap.size<=_:=bV.size;replace hb:=hb.2;have hne:=(Nat.ne_of_lt (Q4 r6))
      replace r6:=Q7 r6 hb;replace m12:=m12.below hb;replace bV:=bV.trans (hb.mono bV.size);refine hKK.out _ _ (HS.o _ bV) (fun hHeld=> ?_);clear hKK KK hb hHeld;(try simp only[Act.put,sA_]);obtain ⟨W5n,hW5⟩:∃ W',wN.alloc (.cells #[.bool false,.slice none 0 0,.pointer none] 38)=W':=⟨_,rfl⟩
      rw[hW5] at r6 m12 r5 bV |-;clear hW5
      rename World=> WZ
    case' g510=>
     simp only[gA_];go_simp;have hb:=Qh (w:=W6n) #[.bool false,.slice none 0 0,.pointer none] 38;have r5:=hb.1;have hg5:V.heap.size<=_:=bV.size;replace hb:=hb.2;have hne:=(Nat.ne_of_lt (Q4 r6))
     replace n11:=n11.below hb;replace r6:=Q7 r6 hb;replace bV:=bV.trans (hb.mono bV.size);refine hKK.out _ _ (HS.o _ bV) (fun hHeld=> ?_);clear hKK KK hb hHeld;(try simp only[Act.put,sA_]);obtain ⟨W5n,hW5⟩:∃ W',W6n.alloc (.cells #[.bool false,.slice none 0 0,.pointer none] 38)=W':=⟨_,rfl⟩
     rw[hW5] at n11 r6 r5 bV |-;clear hW5;refine wpAnyH_ready (rs:= [3]) (by kernel_rfl) (by simp) ?_;refine AllReadyH.cons rfl (fun KK hKK=> ?gN12) AllReadyH.nil
     case' gN12=>
      simp only[gA_];go_simp;refine eH_ (Xg n11) ?_;rintro r wN ⟨v12,rfl,m12,hb⟩;replace r6:=Q7 r6 hb;replace r5:=Q7 r5 hb;replace bV:=bV.trans (hb.mono bV.size);clear n11;dsimp only;refine hKK.out _ _ (HS.o _ bV) (fun hHeld=> ?_);clear hKK KK hb;try simp only[Act.put,sA_]
      rename World=> WZ
  case' g51=>
   simp only[gA_];go_simp;have hb:=Qh (w:=W0) #[.bool false,.slice none 0 0,.pointer none] 38;have r5:=hb.1;have hg5:V.heap.size<=_:=bV.size;replace hb:=hb.2;replace bV:=bV.trans (hb.mono bV.size);refine hKK.out _ _ (HS.o _ bV) (fun hHeld=> ?_);clear hKK KK hb hHeld;(try simp only[Act.put,sA_]);obtain ⟨W5n,hW5⟩:∃ W',W0.alloc (.cells #[.bool false,.slice none 0 0,.pointer none] 38)=W':=⟨_,rfl⟩
   rw[hW5] at r5 bV |-;clear hW5;refine wpAnyH_ready (rs:= [2,9]) (by kernel_rfl) (by simp) ?_;refine AllReadyH.cons rfl (fun KK hKK=> ?gF13) (AllReadyH.cons rfl (fun KK hKK=> ?g613) AllReadyH.nil)
   case' gF13=>
    simp only[gA_];go_simp;refine eH_ (QM n HH.c HH.D _) ?_;rintro r wF ⟨v11,rfl,n11,hb⟩;replace r5:=Q7 r5 hb;replace bV:=bV.trans (hb.mono bV.size);dsimp only;refine hKK.out _ _ (HS.o _ bV) (fun hHeld=> ?_);clear hKK KK hb;(try simp only[Act.put,sA_]);refine wpAnyH_ready (rs:= [3,9]) (by kernel_rfl) (by simp) ?_;refine AllReadyH.cons rfl (fun KK hKK=> ?gN14) (AllReadyH.cons rfl (fun KK hKK=> ?g614) AllReadyH.nil)
    case' gN14=>
     simp only[gA_];go_simp;refine eH_ (Xg n11) ?_;rintro r wN ⟨v12,rfl,m12,hb⟩;replace r5:=Q7 r5 hb;replace bV:=bV.trans (hb.mono bV.size);clear n11;dsimp only;refine hKK.out _ _ (HS.o _ bV) (fun hHeld=> ?_);clear hKK KK hb;(try simp only[Act.put,sA_]);refine wpAnyH_ready (rs:= [6,9]) (by kernel_rfl) (by simp) ?_;refine AllReadyH.cons rfl (fun KK hKK=> ?gR15) (AllReadyH.cons rfl (fun KK hKK=> ?g615) AllReadyH.nil)
     case' gR15=>
      simp only[gA_];go_simp;refine eH_ (XG n HH.c HH.D _) ?_;rintro r wR ⟨v15,z,rfl,hz,z15,hb⟩;obtain ⟨az,cz,rfl,_⟩:=z15.form;replace r5:=Q7 r5 hb;replace m12:=m12.below hb;replace bV:=bV.trans (hb.mono bV.size);dsimp only;refine hKK.out _ _ (HS.o _ bV) (fun hHeld=> ?_);clear hKK KK hb;(try simp only[Act.put,sA_]);refine tk_ 7 rfl ?_;try simp only[Act.put,gP_]
      rename World=> WZ
     case' g615=>
      simp only[gA_];go_simp;have hb:=Qh (w:=wN) #[.slice none 0 0,.slice none 0 0,.int .i64 0,.slice none 0 0] 50;have r6:=hb.1;have hg6:V.heap.size<=_:=bV.size;replace hb:=hb.2;have hne:=(Nat.ne_of_gt (Q4 r5))
      replace r5:=Q7 r5 hb;replace m12:=m12.below hb;replace bV:=bV.trans (hb.mono bV.size);refine hKK.out _ _ (HS.o _ bV) (fun hHeld=> ?_);clear hKK KK hb hHeld;(try simp only[Act.put,sA_]);obtain ⟨W6n,hW6⟩:∃ W',wN.alloc (.cells #[.slice none 0 0,.slice none 0 0,.int .i64 0,.slice none 0 0] 50)=W':=⟨_,rfl⟩
      rw[hW6] at r5 m12 r6 bV |-;clear hW6
      rename World=> WZ
    case' g614=>
     simp only[gA_];go_simp;have hb:=Qh (w:=wF) #[.slice none 0 0,.slice none 0 0,.int .i64 0,.slice none 0 0] 50;have r6:=hb.1;have hg6:V.heap.size<=_:=bV.size;replace hb:=hb.2;have hne:=(Nat.ne_of_gt (Q4 r5))
     replace r5:=Q7 r5 hb;replace n11:=n11.below hb;replace bV:=bV.trans (hb.mono bV.size);refine hKK.out _ _ (HS.o _ bV) (fun hHeld=> ?_);clear hKK KK hb hHeld;(try simp only[Act.put,sA_]);obtain ⟨W6n,hW6⟩:∃ W',wF.alloc (.cells #[.slice none 0 0,.slice none 0 0,.int .i64 0,.slice none 0 0] 50)=W':=⟨_,rfl⟩
     rw[hW6] at r5 n11 r6 bV |-;clear hW6;refine wpAnyH_ready (rs:= [3]) (by kernel_rfl) (by simp) ?_;refine AllReadyH.cons rfl (fun KK hKK=> ?gN16) AllReadyH.nil
     case' gN16=>
      simp only[gA_];go_simp;refine eH_ (Xg n11) ?_;rintro r wN ⟨v12,rfl,m12,hb⟩;replace r5:=Q7 r5 hb;replace r6:=Q7 r6 hb;replace bV:=bV.trans (hb.mono bV.size);clear n11;dsimp only;refine hKK.out _ _ (HS.o _ bV) (fun hHeld=> ?_);clear hKK KK hb;try simp only[Act.put,sA_]
      rename World=> WZ
   case' g613=>
    simp only[gA_];go_simp;have hb:=Qh (w:=W5n) #[.slice none 0 0,.slice none 0 0,.int .i64 0,.slice none 0 0] 50;have r6:=hb.1;have hg6:V.heap.size<=_:=bV.size;replace hb:=hb.2;have hne:=(Nat.ne_of_gt (Q4 r5))
    replace r5:=Q7 r5 hb;replace bV:=bV.trans (hb.mono bV.size);refine hKK.out _ _ (HS.o _ bV) (fun hHeld=> ?_);clear hKK KK hb hHeld;(try simp only[Act.put,sA_]);obtain ⟨W6n,hW6⟩:∃ W',W5n.alloc (.cells #[.slice none 0 0,.slice none 0 0,.int .i64 0,.slice none 0 0] 50)=W':=⟨_,rfl⟩
    rw[hW6] at r5 r6 bV |-;clear hW6;refine wpAnyH_ready (rs:= [2]) (by kernel_rfl) (by simp) ?_;refine AllReadyH.cons rfl (fun KK hKK=> ?gF17) AllReadyH.nil
    case' gF17=>
     simp only[gA_];go_simp;refine eH_ (QM n HH.c HH.D _) ?_;rintro r wF ⟨v11,rfl,n11,hb⟩;replace r5:=Q7 r5 hb;replace r6:=Q7 r6 hb;replace bV:=bV.trans (hb.mono bV.size);dsimp only;refine hKK.out _ _ (HS.o _ bV) (fun hHeld=> ?_);clear hKK KK hb;(try simp only[Act.put,sA_]);refine wpAnyH_ready (rs:= [3]) (by kernel_rfl) (by simp) ?_;refine AllReadyH.cons rfl (fun KK hKK=> ?gN18) AllReadyH.nil
     case' gN18=>
      simp only[gA_];go_simp;refine eH_ (Xg n11) ?_;rintro r wN ⟨v12,rfl,m12,hb⟩;replace r5:=Q7 r5 hb;replace r6:=Q7 r6 hb;replace bV:=bV.trans (hb.mono bV.size);clear n11;dsimp only;refine hKK.out _ _ (HS.o _ bV) (fun hHeld=> ?_);clear hKK KK hb;try simp only[Act.put,sA_]
      rename World=> WZ
  case' g61=>
   simp only[gA_];go_simp;have hb:=Qh (w:=W0) #[.slice none 0 0,.slice none 0 0,.int .i64 0,.slice none 0 0] 50;have r6:=hb.1;have hg6:V.heap.size<=_:=bV.size;replace hb:=hb.2;replace bV:=bV.trans (hb.mono bV.size);refine hKK.out _ _ (HS.o _ bV) (fun hHeld=> ?_);clear hKK KK hb hHeld;(try simp only[Act.put,sA_]);obtain ⟨W6n,hW6⟩:∃ W',W0.alloc (.cells #[.slice none 0 0,.slice none 0 0,.int .i64 0,.slice none 0 0] 50)=W':=⟨_,rfl⟩
   rw[hW6] at r6 bV |-;clear hW6;refine wpAnyH_ready (rs:= [2,8]) (by kernel_rfl) (by simp) ?_;refine AllReadyH.cons rfl (fun KK hKK=> ?gF19) (AllReadyH.cons rfl (fun KK hKK=> ?g519) AllReadyH.nil)
   case' gF19=>
    simp only[gA_];go_simp;refine eH_ (QM n HH.c HH.D _) ?_;rintro r wF ⟨v11,rfl,n11,hb⟩;replace r6:=Q7 r6 hb;replace bV:=bV.trans (hb.mono bV.size);dsimp only;refine hKK.out _ _ (HS.o _ bV) (fun hHeld=> ?_);clear hKK KK hb;(try simp only[Act.put,sA_]);refine wpAnyH_ready (rs:= [3,8]) (by kernel_rfl) (by simp) ?_;refine AllReadyH.cons rfl (fun KK hKK=> ?gN20) (AllReadyH.cons rfl (fun KK hKK=> ?g520) AllReadyH.nil)
    case' gN20=>
     simp only[gA_];go_simp;refine eH_ (Xg n11) ?_;rintro r wN ⟨v12,rfl,m12,hb⟩;replace r6:=Q7 r6 hb;replace bV:=bV.trans (hb.mono bV.size);clear n11;dsimp only;refine hKK.out _ _ (HS.o _ bV) (fun hHeld=> ?_);clear hKK KK hb;(try simp only[Act.put,sA_]);refine wpAnyH_ready (rs:= [6,8]) (by kernel_rfl) (by simp) ?_;refine AllReadyH.cons rfl (fun KK hKK=> ?gR21) (AllReadyH.cons rfl (fun KK hKK=> ?g521) AllReadyH.nil)
     case' gR21=>
      simp only[gA_];go_simp;refine eH_ (XG n HH.c HH.D _) ?_;rintro r wR ⟨v15,z,rfl,hz,z15,hb⟩;obtain ⟨az,cz,rfl,_⟩:=z15.form;replace r6:=Q7 r6 hb;replace m12:=m12.below hb;replace bV:=bV.trans (hb.mono bV.size);dsimp only;refine hKK.out _ _ (HS.o _ bV) (fun hHeld=> ?_);clear hKK KK hb;(try simp only[Act.put,sA_]);refine tk_ 7 rfl ?_;try simp only[Act.put,gP_]
      rename World=> WZ
     case' g521=>
      simp only[gA_];go_simp;have hb:=Qh (w:=wN) #[.bool false,.slice none 0 0,.pointer none] 38;have r5:=hb.1;have hg5:V.heap.size<=_:=bV.size;replace hb:=hb.2;have hne:=(Nat.ne_of_lt (Q4 r6))
      replace r6:=Q7 r6 hb;replace m12:=m12.below hb;replace bV:=bV.trans (hb.mono bV.size);refine hKK.out _ _ (HS.o _ bV) (fun hHeld=> ?_);clear hKK KK hb hHeld;(try simp only[Act.put,sA_]);obtain ⟨W5n,hW5⟩:∃ W',wN.alloc (.cells #[.bool false,.slice none 0 0,.pointer none] 38)=W':=⟨_,rfl⟩
      rw[hW5] at r6 m12 r5 bV |-;clear hW5
      rename World=> WZ
    case' g520=>
     simp only[gA_];go_simp;have hb:=Qh (w:=wF) #[.bool false,.slice none 0 0,.pointer none] 38;have r5:=hb.1;have hg5:V.heap.size<=_:=bV.size;replace hb:=hb.2;have hne:=(Nat.ne_of_lt (Q4 r6))
     replace r6:=Q7 r6 hb;replace n11:=n11.below hb;replace bV:=bV.trans (hb.mono bV.size);refine hKK.out _ _ (HS.o _ bV) (fun hHeld=> ?_);clear hKK KK hb hHeld;(try simp only[Act.put,sA_]);obtain ⟨W5n,hW5⟩:∃ W',wF.alloc (.cells #[.bool false,.slice none 0 0,.pointer none] 38)=W':=⟨_,rfl⟩
     rw[hW5] at r6 n11 r5 bV |-;clear hW5;refine wpAnyH_ready (rs:= [3]) (by kernel_rfl) (by simp) ?_;refine AllReadyH.cons rfl (fun KK hKK=> ?gN22) AllReadyH.nil
     case' gN22=>
      simp only[gA_];go_simp;refine eH_ (Xg n11) ?_;rintro r wN ⟨v12,rfl,m12,hb⟩;replace r6:=Q7 r6 hb;replace r5:=Q7 r5 hb;replace bV:=bV.trans (hb.mono bV.size);clear n11;dsimp only;refine hKK.out _ _ (HS.o _ bV) (fun hHeld=> ?_);clear hKK KK hb;try simp only[Act.put,sA_]
      rename World=> WZ
   case' g519=>
    simp only[gA_];go_simp;have hb:=Qh (w:=W6n) #[.bool false,.slice none 0 0,.pointer none] 38;have r5:=hb.1;have hg5:V.heap.size<=_:=bV.size;replace hb:=hb.2;have hne:=(Nat.ne_of_lt (Q4 r6))
    replace r6:=Q7 r6 hb;replace bV:=bV.trans (hb.mono bV.size);refine hKK.out _ _ (HS.o _ bV) (fun hHeld=> ?_);clear hKK KK hb hHeld;(try simp only[Act.put,sA_]);obtain ⟨W5n,hW5⟩:∃ W',W6n.alloc (.cells #[.bool false,.slice none 0 0,.pointer none] 38)=W':=⟨_,rfl⟩
    rw[hW5] at r6 r5 bV |-;clear hW5;refine wpAnyH_ready (rs:= [2]) (by kernel_rfl) (by simp) ?_;refine AllReadyH.cons rfl (fun KK hKK=> ?gF23) AllReadyH.nil
    case' gF23=>
     simp only[gA_];go_simp;refine eH_ (QM n HH.c HH.D _) ?_;rintro r wF ⟨v11,rfl,n11,hb⟩;replace r6:=Q7 r6 hb;replace r5:=Q7 r5 hb;replace bV:=bV.trans (hb.mono bV.size);dsimp only;refine hKK.out _ _ (HS.o _ bV) (fun hHeld=> ?_);clear hKK KK hb;(try simp only[Act.put,sA_]);refine wpAnyH_ready (rs:= [3]) (by kernel_rfl) (by simp) ?_;refine AllReadyH.cons rfl (fun KK hKK=> ?gN24) AllReadyH.nil
     case' gN24=>
      simp only[gA_];go_simp;refine eH_ (Xg n11) ?_;rintro r wN ⟨v12,rfl,m12,hb⟩;replace r6:=Q7 r6 hb;replace r5:=Q7 r5 hb;replace bV:=bV.trans (hb.mono bV.size);clear n11;dsimp only;refine hKK.out _ _ (HS.o _ bV) (fun hHeld=> ?_);clear hKK KK hb;try simp only[Act.put,sA_]
      rename World=> WZ
  all_goals first
   | (
    have tz:=z15;have t5:=r5;clear tz t5;refine rd_ 9 rfl (fun KK hKK=> ?_);simp only[gA_];go_simp;have hb:=Qh (w:=WZ) #[.slice none 0 0,.slice none 0 0,.int .i64 0,.slice none 0 0] 50;have r6:=hb.1;have hg6:V.heap.size<=_:=bV.size;replace hb:=hb.2;have hne:=(Nat.ne_of_gt (Q4 r5))
    replace m12:=m12.below hb;replace z15:=z15.below hb;replace r5:=Q7 r5 hb;replace bV:=bV.trans (hb.mono bV.size);refine hKK.out _ _ (HS.o _ bV) (fun hHeld=> ?_);clear hKK KK hb hHeld;(try simp only[Act.put,sA_]);obtain ⟨W6n,hW6⟩:∃ W',WZ.alloc (.cells #[.slice none 0 0,.slice none 0 0,.int .i64 0,.slice none 0 0] 50)=W':=⟨_,rfl⟩
    rw[hW6] at m12 z15 r5 r6 bV |-;clear hW6)
   | (
    have tz:=z15;have t6:=r6;clear tz t6;refine rd_ 8 rfl (fun KK hKK=> ?_);simp only[gA_];go_simp;have hb:=Qh (w:=WZ) #[.bool false,.slice none 0 0,.pointer none] 38;have r5:=hb.1;have hg5:V.heap.size<=_:=bV.size;replace hb:=hb.2;have hne:=(Nat.ne_of_lt (Q4 r6))
    replace m12:=m12.below hb;replace z15:=z15.below hb;replace r6:=Q7 r6 hb;replace bV:=bV.trans (hb.mono bV.size);refine hKK.out _ _ (HS.o _ bV) (fun hHeld=> ?_);clear hKK KK hb hHeld;(try simp only[Act.put,sA_]);obtain ⟨W5n,hW5⟩:∃ W',WZ.alloc (.cells #[.bool false,.slice none 0 0,.pointer none] 38)=W':=⟨_,rfl⟩
    rw[hW5] at m12 z15 r6 r5 bV |-;clear hW5)
   | (
    refine rd_ 6 rfl (fun KK hKK=> ?_);simp only[gA_];go_simp;refine eH_ (XG n HH.c HH.D _) ?_;rintro r wR ⟨v15,z,rfl,hz,z15,hb⟩;obtain ⟨az,cz,rfl,_⟩:=z15.form;replace m12:=m12.below hb;replace r5:=Q7 r5 hb;replace r6:=Q7 r6 hb;replace bV:=bV.trans (hb.mono bV.size);dsimp only;refine hKK.out _ _ (HS.o _ bV) (fun hHeld=> ?_);clear hKK KK hb;(try simp only[Act.put,sA_]);refine tk_ 7 rfl ?_;try simp only[Act.put,gP_])
  all_goals (
   refine rd_ 10 rfl (fun KK hKK=> ?_);simp only[gA_];refine QO (B:=V.heap.size) (w0:=V) _ _ rfl rfl r5 rfl rfl m12 hg5 bV ?_;rintro W5 cs5 hfr hw5 hg hs hn hb5;have r6b:=QP hw5 hne r6;refine hKK.out _ _ (HS.o _ hb5) (fun hHeld=> ?_);clear hKK KK hHeld;(try simp only[Act.put,sA_]);refine wpAnyH_done (by kernel_rfl) ?_ _;unfold PeelQ;dsimp only;refine QW (B:=V.heap.size) (w0:=V) _ _ rfl rfl r6b rfl rfl ((Q8G z15).frt hfr (by decide) (by decide) (by decide)) hg6 hb5 ?_;rintro W6 cs6 hw6 hh hs6 hn6 hb6;have r5b:=QP hw6 hne.symm hg;have HL:=hd_ (show TwoT V _ _ ⟨[],n⟩ ⟨[],z⟩ W6 from ⟨⟨cs5,r5b,hs,hn.frt (by rw[hw6];exact Qe r6b) (by decide) (by decide) (by decide)⟩,⟨cs6,hh,hs6,hn6⟩,hb6,hg5,hg6⟩);have HZ:=hd_ hz;clear r5 r6 r6b r5b hg hh hn hn6 hb5 hb6 hw5 hw6 bV m12 z15 hfr hs hs6 hz;go_simp;go_wp2_with fail;go_meet
   case rel=> exact ⟨_,_,_,rfl,rfl,HZ.o,HL.o⟩)
 case rest=>
 obtain ⟨g,h,z,rfl,rfl,hz,hT⟩:=hcut;have HT0:=h2_ hT hz;have s0:=(hT.b.cell (Qd s0)).trans s0;have s1:=(hT.b.cell (Qd s1)).trans s1;clear hT hz;by_cases hbig:12 < ps.length\/n < -1099511627776\/1099511627776 < n
 ·obtain ⟨t5,ht5⟩:∃ t:Tp.T,(⟨[],n⟩:Tp.T)=t:=⟨_,rfl⟩
  obtain ⟨t6,ht6⟩:∃ t:Tp.T,(⟨[],z⟩:Tp.T)=t:=⟨_,rfl⟩
  rw[ht5,ht6] at HT0;clear ht5 ht6;rcases hbig with hb | hb | hb
  ·have hb':(12:Int) < (ps.length:Int):=(by omega);go_wp2_with fail;obtain ⟨⟨cs5,r5,z5,m5⟩,⟨cs6,r6,z6,m6⟩,bV,hg,hh⟩:=HT0.a;obtain ⟨b5,x5,c5,o5,e5,m5⟩:=Ql m5;injection e5 with e5;subst e5;obtain ⟨an,cn,af,cf,s6,ad,cd,e6,m6⟩:=Xm m6;injection e6 with e6;subst e6;have k0:=Q3 r5 0 rfl;have k1:=Q3 r5 1 rfl;have k2:=Q3 r5 2 rfl;have j0:=Q3 r6 0 rfl;have j1:=Q3 r6 1 rfl;have j2:=Q3 r6 2 rfl;have j3:=Q3 r6 3 rfl;have q2:=(bV.block _ (Q4 HB.b)).trans HB.b;have q3:=(bV.block _ (Q4 HB.c)).trans HB.c;have hVs:=Q4 HB.c;have bw:=HB.D.trans (bV.mono HB.D.size);have hS:Hid (∀ W:World,(W.heap[g]? =wc.heap[g]? /\W.heap[h]? =wc.heap[h]?)->(W.heap[g]? =wc.heap[g]? /\W.heap[h]? =wc.heap[h]?)/\W.cell? ⟨g,0,none⟩=some (.bool b5)/\W.cell? ⟨g,1,none⟩=some (.slice x5 (wd t5.rest).length c5)/\W.cell? ⟨g,2,none⟩=some (.pointer o5)/\W.cell? ⟨h,0,none⟩=some (.slice an t6.l.length cn)/\W.cell? ⟨h,1,none⟩=some (.slice af t6.l.length cf)/\W.cell? ⟨h,2,none⟩=some (.int .i64 s6)/\W.cell? ⟨h,3,none⟩=some (.slice ad (dg t6.rest).length cd)):=fun W hb=> ⟨hb,Q3 (hb.1.trans r5) 0 rfl,Q3 (hb.1.trans r5) 1 rfl,Q3 (hb.1.trans r5) 2 rfl,Q3 (hb.2.trans r6) 0 rfl,Q3 (hb.2.trans r6) 1 rfl,Q3 (hb.2.trans r6) 2 rfl,Q3 (hb.2.trans r6) 3 rfl⟩;have HX:=h8_ m5 m6 q2 q3 bw hg hh hVs;clear r5 z5 m5 r6 z6 m6 bV hg hh k0 k1 k2 j0 j1 j2 j3 q2 q3 hVs bw;refine rq_ (s:=hS) (p:=⟨rfl,rfl⟩) (h:=fun hHeld=> ?_);simp only[lA_];refine tk_ 0 rfl ?_;refine tk_ 1 rfl ?_;(try simp only[Act.put,gP_]);refine rd_ 2 rfl (fun KK hKK=> ?_);simp only[gA_];refine QO (B:=w.heap.size) (w0:=w) (w1:=wc.drew) _ _ rfl rfl HX.c rfl rfl (HX.a.below (eB_ _ _).drew) (show w.heap.size<=w.heap.size+1 by omega) HX.e.drew ?_;rintro W5 cs5 hfr hw5 hg5 hs5 hn5 hb5;have hS5:=hS.out W5 ⟨by rw[hw5,Q8 (by have:=HX.F;omega)];rfl,by rw[hw5,Q8 (by have:=HX.F;omega)];rfl⟩;have q3:=QP hw5 (show w.heap.size+2≠w.heap.size+1 by omega) HX.d;refine hKK.out _ _ hS5 (fun hHeld=> ?_);clear hKK KK;(try simp only[Act.put,sA_]);refine rd_ 3 rfl (fun KK hKK=> ?_);simp only[gA_];refine QW (B:=w.heap.size) (w0:=w) _ _ rfl rfl q3 rfl rfl ((HX.b.below (eB_ _ _).drew).frt hfr (by decide) (by decide) (by decide)) (show w.heap.size<=w.heap.size+2 by omega) hb5 ?_;rintro W6 cs6 hw6 hh6 hs6 hn6 hb6;have hS6:=hS.out W6 ⟨by rw[hw6,Q8 (by have:=HX.F;omega)];exact hS5.1.1,by rw[hw6,Q8 (by have:=HX.F;omega)];exact hS5.1.2⟩;have q5:=QP hw6 (show w.heap.size+1≠w.heap.size+2 by omega) hg5;have hn5b:=hn5.frt (show FrT [50] W5 W6 by rw[hw6];exact Qe q3) (by decide) (by decide) (by decide);refine hKK.out _ _ hS6 (fun hHeld=> ?_);clear hKK KK;(try simp only[Act.put,sA_]);have HL:=h7_ q5 hs5 hh6 hs6 hn5b hn6 hb6;clear q5 hs5 hh6 hs6 hn5 hn5b hn6 hb6 hS5 hS6 q3 hw5 hw6 hfr hb5 hg5 hHeld;refine wpAnyH_done (by kernel_rfl) ?_ _;unfold PeelQ;dsimp only;go_simp;go_wp2_with fail;refine eG_ (QF rfl _ _ (w.heap.size+1) (w.heap.size+2) _ _ _ _ _ _ _ _ rfl rfl HL.a HL.c underlying38 rfl (by rw[HL.b];exact Qy) underlying50 rfl (by rw[HL.d];exact X3) rfl) rfl ?_;exact ⟨_,_,_,_,_,rfl,HL.e,HL.f,HL.G,fun h=> by cases h⟩
  ·skip
   go_wp2_with fail
   all_goals
    obtain ⟨⟨cs5,r5,z5,m5⟩,⟨cs6,r6,z6,m6⟩,bV,hg,hh⟩:=HT0.a;obtain ⟨b5,x5,c5,o5,e5,m5⟩:=Ql m5;injection e5 with e5;subst e5;obtain ⟨an,cn,af,cf,s6,ad,cd,e6,m6⟩:=Xm m6;injection e6 with e6;subst e6;have k0:=Q3 r5 0 rfl;have k1:=Q3 r5 1 rfl;have k2:=Q3 r5 2 rfl;have j0:=Q3 r6 0 rfl;have j1:=Q3 r6 1 rfl;have j2:=Q3 r6 2 rfl;have j3:=Q3 r6 3 rfl;have q2:=(bV.block _ (Q4 HB.b)).trans HB.b;have q3:=(bV.block _ (Q4 HB.c)).trans HB.c;have hVs:=Q4 HB.c;have bw:=HB.D.trans (bV.mono HB.D.size);have hS:Hid (∀ W:World,(W.heap[g]? =wc.heap[g]? /\W.heap[h]? =wc.heap[h]?)->(W.heap[g]? =wc.heap[g]? /\W.heap[h]? =wc.heap[h]?)/\W.cell? ⟨g,0,none⟩=some (.bool b5)/\W.cell? ⟨g,1,none⟩=some (.slice x5 (wd t5.rest).length c5)/\W.cell? ⟨g,2,none⟩=some (.pointer o5)/\W.cell? ⟨h,0,none⟩=some (.slice an t6.l.length cn)/\W.cell? ⟨h,1,none⟩=some (.slice af t6.l.length cf)/\W.cell? ⟨h,2,none⟩=some (.int .i64 s6)/\W.cell? ⟨h,3,none⟩=some (.slice ad (dg t6.rest).length cd)):=fun W hb=> ⟨hb,Q3 (hb.1.trans r5) 0 rfl,Q3 (hb.1.trans r5) 1 rfl,Q3 (hb.1.trans r5) 2 rfl,Q3 (hb.2.trans r6) 0 rfl,Q3 (hb.2.trans r6) 1 rfl,Q3 (hb.2.trans r6) 2 rfl,Q3 (hb.2.trans r6) 3 rfl⟩;have HX:=h8_ m5 m6 q2 q3 bw hg hh hVs;clear r5 z5 m5 r6 z6 m6 bV hg hh k0 k1 k2 j0 j1 j2 j3 q2 q3 hVs bw;refine rq_ (s:=hS) (p:=⟨rfl,rfl⟩) (h:=fun hHeld=> ?_);simp only[lA_];refine tk_ 0 rfl ?_;refine tk_ 1 rfl ?_;(try simp only[Act.put,gP_]);refine rd_ 2 rfl (fun KK hKK=> ?_);simp only[gA_];refine QO (B:=w.heap.size) (w0:=w) (w1:=wc.drew) _ _ rfl rfl HX.c rfl rfl (HX.a.below (eB_ _ _).drew) (show w.heap.size<=w.heap.size+1 by omega) HX.e.drew ?_;rintro W5 cs5 hfr hw5 hg5 hs5 hn5 hb5;have hS5:=hS.out W5 ⟨by rw[hw5,Q8 (by have:=HX.F;omega)];rfl,by rw[hw5,Q8 (by have:=HX.F;omega)];rfl⟩;have q3:=QP hw5 (show w.heap.size+2≠w.heap.size+1 by omega) HX.d;refine hKK.out _ _ hS5 (fun hHeld=> ?_);clear hKK KK;(try simp only[Act.put,sA_]);refine rd_ 3 rfl (fun KK hKK=> ?_);simp only[gA_];refine QW (B:=w.heap.size) (w0:=w) _ _ rfl rfl q3 rfl rfl ((HX.b.below (eB_ _ _).drew).frt hfr (by decide) (by decide) (by decide)) (show w.heap.size<=w.heap.size+2 by omega) hb5 ?_;rintro W6 cs6 hw6 hh6 hs6 hn6 hb6;have hS6:=hS.out W6 ⟨by rw[hw6,Q8 (by have:=HX.F;omega)];exact hS5.1.1,by rw[hw6,Q8 (by have:=HX.F;omega)];exact hS5.1.2⟩;have q5:=QP hw6 (show w.heap.size+1≠w.heap.size+2 by omega) hg5;have hn5b:=hn5.frt (show FrT [50] W5 W6 by rw[hw6];exact Qe q3) (by decide) (by decide) (by decide);refine hKK.out _ _ hS6 (fun hHeld=> ?_);clear hKK KK;(try simp only[Act.put,sA_]);have HL:=h7_ q5 hs5 hh6 hs6 hn5b hn6 hb6;clear q5 hs5 hh6 hs6 hn5 hn5b hn6 hb6 hS5 hS6 q3 hw5 hw6 hfr hb5 hg5 hHeld;refine wpAnyH_done (by kernel_rfl) ?_ _;unfold PeelQ;dsimp only;go_simp;go_wp2_with fail;refine eG_ (QF rfl _ _ (w.heap.size+1) (w.heap.size+2) _ _ _ _ _ _ _ _ rfl rfl HL.a HL.c underlying38 rfl (by rw[HL.b];exact Qy) underlying50 rfl (by rw[HL.d];exact X3) rfl) rfl ?_;exact ⟨_,_,_,_,_,rfl,HL.e,HL.f,HL.G,fun h=> by cases h⟩
  ·skip
   go_wp2_with fail
   all_goals
    obtain ⟨⟨cs5,r5,z5,m5⟩,⟨cs6,r6,z6,m6⟩,bV,hg,hh⟩:=HT0.a;obtain ⟨b5,x5,c5,o5,e5,m5⟩:=Ql m5;injection e5 with e5;subst e5;obtain ⟨an,cn,af,cf,s6,ad,cd,e6,m6⟩:=Xm m6;injection e6 with e6;subst e6;have k0:=Q3 r5 0 rfl;have k1:=Q3 r5 1 rfl;have k2:=Q3 r5 2 rfl;have j0:=Q3 r6 0 rfl;have j1:=Q3 r6 1 rfl;have j2:=Q3 r6 2 rfl;have j3:=Q3 r6 3 rfl;have q2:=(bV.block _ (Q4 HB.b)).trans HB.b;have q3:=(bV.block _ (Q4 HB.c)).trans HB.c;have hVs:=Q4 HB.c;have bw:=HB.D.trans (bV.mono HB.D.size);have hS:Hid (∀ W:World,(W.heap[g]? =wc.heap[g]? /\W.heap[h]? =wc.heap[h]?)->(W.heap[g]? =wc.heap[g]? /\W.heap[h]? =wc.heap[h]?)/\W.cell? ⟨g,0,none⟩=some (.bool b5)/\W.cell? ⟨g,1,none⟩=some (.slice x5 (wd t5.rest).length c5)/\W.cell? ⟨g,2,none⟩=some (.pointer o5)/\W.cell? ⟨h,0,none⟩=some (.slice an t6.l.length cn)/\W.cell? ⟨h,1,none⟩=some (.slice af t6.l.length cf)/\W.cell? ⟨h,2,none⟩=some (.int .i64 s6)/\W.cell? ⟨h,3,none⟩=some (.slice ad (dg t6.rest).length cd)):=fun W hb=> ⟨hb,Q3 (hb.1.trans r5) 0 rfl,Q3 (hb.1.trans r5) 1 rfl,Q3 (hb.1.trans r5) 2 rfl,Q3 (hb.2.trans r6) 0 rfl,Q3 (hb.2.trans r6) 1 rfl,Q3 (hb.2.trans r6) 2 rfl,Q3 (hb.2.trans r6) 3 rfl⟩;have HX:=h8_ m5 m6 q2 q3 bw hg hh hVs;clear r5 z5 m5 r6 z6 m6 bV hg hh k0 k1 k2 j0 j1 j2 j3 q2 q3 hVs bw;refine rq_ (s:=hS) (p:=⟨rfl,rfl⟩) (h:=fun hHeld=> ?_);simp only[lA_];refine tk_ 0 rfl ?_;refine tk_ 1 rfl ?_;(try simp only[Act.put,gP_]);refine rd_ 2 rfl (fun KK hKK=> ?_);simp only[gA_];refine QO (B:=w.heap.size) (w0:=w) (w1:=wc.drew) _ _ rfl rfl HX.c rfl rfl (HX.a.below (eB_ _ _).drew) (show w.heap.size<=w.heap.size+1 by omega) HX.e.drew ?_;rintro W5 cs5 hfr hw5 hg5 hs5 hn5 hb5;have hS5:=hS.out W5 ⟨by rw[hw5,Q8 (by have:=HX.F;omega)];rfl,by rw[hw5,Q8 (by have:=HX.F;omega)];rfl⟩;have q3:=QP hw5 (show w.heap.size+2≠w.heap.size+1 by omega) HX.d;refine hKK.out _ _ hS5 (fun hHeld=> ?_);clear hKK KK;(try simp only[Act.put,sA_]);refine rd_ 3 rfl (fun KK hKK=> ?_);simp only[gA_];refine QW (B:=w.heap.size) (w0:=w) _ _ rfl rfl q3 rfl rfl ((HX.b.below (eB_ _ _).drew).frt hfr (by decide) (by decide) (by decide)) (show w.heap.size<=w.heap.size+2 by omega) hb5 ?_;rintro W6 cs6 hw6 hh6 hs6 hn6 hb6;have hS6:=hS.out W6 ⟨by rw[hw6,Q8 (by have:=HX.F;omega)];exact hS5.1.1,by rw[hw6,Q8 (by have:=HX.F;omega)];exact hS5.1.2⟩;have q5:=QP hw6 (show w.heap.size+1≠w.heap.size+2 by omega) hg5;have hn5b:=hn5.frt (show FrT [50] W5 W6 by rw[hw6];exact Qe q3) (by decide) (by decide) (by decide);refine hKK.out _ _ hS6 (fun hHeld=> ?_);clear hKK KK;(try simp only[Act.put,sA_]);have HL:=h7_ q5 hs5 hh6 hs6 hn5b hn6 hb6;clear q5 hs5 hh6 hs6 hn5 hn5b hn6 hb6 hS5 hS6 q3 hw5 hw6 hfr hb5 hg5 hHeld;refine wpAnyH_done (by kernel_rfl) ?_ _;unfold PeelQ;dsimp only;go_simp;go_wp2_with fail;refine eG_ (QF rfl _ _ (w.heap.size+1) (w.heap.size+2) _ _ _ _ _ _ _ _ rfl rfl HL.a HL.c underlying38 rfl (by rw[HL.b];exact Qy) underlying50 rfl (by rw[HL.d];exact X3) rfl) rfl ?_;exact ⟨_,_,_,_,_,rfl,HL.e,HL.f,HL.G,fun h=> by cases h⟩
 ·have hb1:(ps.length:Int)<=12:=by omega
  have hb2: -1099511627776<=n:=by omega
  have hb3:n<=1099511627776:=by omega
  have hzn:z=n:=HT0.B (by omega);subst hzn;have HLN:=hd_ (show ps.length<=12 by omega);have HB0:Hid (Fits z []):=⟨by simp,hb2,hb3,fun p hp=> by cases hp⟩
  have hd1:¬ (12:Int) < (ps.length:Int):=by omega
  have hd2:¬ z < -1099511627776:=by omega
  have hd3:¬ 1099511627776 < z:=by omega
  clear hbig hb1 hb2 hb3;go_wp2_with fail;clear s0 s1;go_loopg [36] ps.length (fun k v36 wr=> BoRel V g h z ps k v36 wr)
  case atStart=> exact ⟨0,rfl,rfl,eV_ _,HB0.o,HT0.a⟩
  case round=>
   obtain ⟨j,rfl,hk,hj,hfit,hT⟩:=hrel;have HR:=h3_ hk hfit hT;clear hk hfit hT;by_cases hlt:j < ps.length
   ·have hlt':(j:Int) < (ps.length:Int):=(by omega);obtain ⟨⟨nm,f⟩,hp⟩:∃ p,ps[j]? =some p:=⟨_,eA_ hlt⟩
    have hbw:=HB.D.trans (HR.C.b.mono HB.D.size);obtain ⟨bk,off,ea,hr⟩:=Q49 (HH.a.keep (Keeps.of hbw HH.b)) hp;subst ea;have HG:=hd_ hr;have HPP:=hd_ hp;have hx1:=Qh (w:=wr) #[.string ⟨nm.toArray⟩,.int .i64 f] 67;obtain ⟨W1,hW1⟩:∃ W,wr.alloc (.cells #[.string ⟨nm.toArray⟩,.int .i64 f] 67)=W:=⟨_,rfl⟩
    have HW1:=hd_ hW1;rw[hW1] at hx1;have HT1:=h2_ (HR.C.past hx1.2) hx1.1;clear hr hp hx1 hW1 hbw;obtain ⟨t5,ht5⟩:∃ t:Tp.T,Tp.sum ⟨[],z⟩ (ps.take j)=t:=⟨_,rfl⟩
    rw[ht5] at HT1;have HS5:=hd_ ht5;clear ht5;by_cases hbad:f < -1099511627776\/1099511627776 < f\/40 < nm.length
    ·rcases hbad with hb | hb | hb'
     ·skip
      go_wp2_with (first | (refine wpList_load_mid rfl 67 _ rfl bk (off+j*2) rfl _ _ HG.o underlying67 rfl rfl ?_) | (refine Qa rfl 67 _ _ rfl 67 #[.string ⟨#[]⟩,.int .i64 0] #[.string ⟨nm.toArray⟩,.int .i64 f] rfl rfl rfl Jn (by simp[Value.oneCell']) ?_))
      all_goals
       rw[HW1.o];obtain ⟨⟨cs5,r5,z5,m5⟩,⟨cs6,r6,z6,m6⟩,bV,hg,hh⟩:=HT1.a;obtain ⟨b5,x5,c5,o5,e5,m5⟩:=Ql m5;injection e5 with e5;subst e5;obtain ⟨an,cn,af,cf,s6,ad,cd,e6,m6⟩:=Xm m6;injection e6 with e6;subst e6;have k0:=Q3 r5 0 rfl;have k1:=Q3 r5 1 rfl;have k2:=Q3 r5 2 rfl;have j0:=Q3 r6 0 rfl;have j1:=Q3 r6 1 rfl;have j2:=Q3 r6 2 rfl;have j3:=Q3 r6 3 rfl;have q2:=(bV.block _ (Q4 HB.b)).trans HB.b;have q3:=(bV.block _ (Q4 HB.c)).trans HB.c;have hVs:=Q4 HB.c;have bw:=HB.D.trans (bV.mono HB.D.size);have hS:Hid (∀ W:World,(W.heap[g]? =W1.heap[g]? /\W.heap[h]? =W1.heap[h]?)->(W.heap[g]? =W1.heap[g]? /\W.heap[h]? =W1.heap[h]?)/\W.cell? ⟨g,0,none⟩=some (.bool b5)/\W.cell? ⟨g,1,none⟩=some (.slice x5 (wd t5.rest).length c5)/\W.cell? ⟨g,2,none⟩=some (.pointer o5)/\W.cell? ⟨h,0,none⟩=some (.slice an t5.l.length cn)/\W.cell? ⟨h,1,none⟩=some (.slice af t5.l.length cf)/\W.cell? ⟨h,2,none⟩=some (.int .i64 s6)/\W.cell? ⟨h,3,none⟩=some (.slice ad (dg t5.rest).length cd)):=fun W hb=> ⟨hb,Q3 (hb.1.trans r5) 0 rfl,Q3 (hb.1.trans r5) 1 rfl,Q3 (hb.1.trans r5) 2 rfl,Q3 (hb.2.trans r6) 0 rfl,Q3 (hb.2.trans r6) 1 rfl,Q3 (hb.2.trans r6) 2 rfl,Q3 (hb.2.trans r6) 3 rfl⟩;have HX:=h8_ m5 m6 q2 q3 bw hg hh hVs;clear r5 z5 m5 r6 z6 m6 bV hg hh k0 k1 k2 j0 j1 j2 j3 q2 q3 hVs bw;refine rq_ (s:=hS) (p:=⟨rfl,rfl⟩) (h:=fun hHeld=> ?_);simp only[lA_];refine tk_ 0 rfl ?_;refine tk_ 1 rfl ?_;(try simp only[Act.put,gP_]);refine rd_ 2 rfl (fun KK hKK=> ?_);simp only[gA_];refine QO (B:=w.heap.size) (w0:=w) (w1:=W1.drew) _ _ rfl rfl HX.c rfl rfl (HX.a.below (eB_ _ _).drew) (show w.heap.size<=w.heap.size+1 by omega) HX.e.drew ?_;rintro W5 cs5 hfr hw5 hg5 hs5 hn5 hb5;have hS5:=hS.out W5 ⟨by rw[hw5,Q8 (by have:=HX.F;omega)];rfl,by rw[hw5,Q8 (by have:=HX.F;omega)];rfl⟩;have q3:=QP hw5 (show w.heap.size+2≠w.heap.size+1 by omega) HX.d;refine hKK.out _ _ hS5 (fun hHeld=> ?_);clear hKK KK;(try simp only[Act.put,sA_]);refine rd_ 3 rfl (fun KK hKK=> ?_);simp only[gA_];refine QW (B:=w.heap.size) (w0:=w) _ _ rfl rfl q3 rfl rfl ((HX.b.below (eB_ _ _).drew).frt hfr (by decide) (by decide) (by decide)) (show w.heap.size<=w.heap.size+2 by omega) hb5 ?_;rintro W6 cs6 hw6 hh6 hs6 hn6 hb6;have hS6:=hS.out W6 ⟨by rw[hw6,Q8 (by have:=HX.F;omega)];exact hS5.1.1,by rw[hw6,Q8 (by have:=HX.F;omega)];exact hS5.1.2⟩;have q5:=QP hw6 (show w.heap.size+1≠w.heap.size+2 by omega) hg5;have hn5b:=hn5.frt (show FrT [50] W5 W6 by rw[hw6];exact Qe q3) (by decide) (by decide) (by decide);refine hKK.out _ _ hS6 (fun hHeld=> ?_);clear hKK KK;(try simp only[Act.put,sA_]);have HL:=h7_ q5 hs5 hh6 hs6 hn5b hn6 hb6;clear q5 hs5 hh6 hs6 hn5 hn5b hn6 hb6 hS5 hS6 q3 hw5 hw6 hfr hb5 hg5 hHeld;refine wpAnyH_done (by kernel_rfl) ?_ _;unfold PeelQ;dsimp only;go_simp;go_wp2_with fail;refine eG_ (QF rfl _ _ (w.heap.size+1) (w.heap.size+2) _ _ _ _ _ _ _ _ rfl rfl HL.a HL.c underlying38 rfl (by rw[HL.b];exact Qy) underlying50 rfl (by rw[HL.d];exact X3) rfl) rfl ?_;exact ⟨_,_,_,_,_,rfl,HL.e,HL.f,HL.G,fun h=> by cases h⟩
     ·skip
      go_wp2_with (first | (refine wpList_load_mid rfl 67 _ rfl bk (off+j*2) rfl _ _ HG.o underlying67 rfl rfl ?_) | (refine Qa rfl 67 _ _ rfl 67 #[.string ⟨#[]⟩,.int .i64 0] #[.string ⟨nm.toArray⟩,.int .i64 f] rfl rfl rfl Jn (by simp[Value.oneCell']) ?_))
      all_goals
       rw[HW1.o];obtain ⟨⟨cs5,r5,z5,m5⟩,⟨cs6,r6,z6,m6⟩,bV,hg,hh⟩:=HT1.a;obtain ⟨b5,x5,c5,o5,e5,m5⟩:=Ql m5;injection e5 with e5;subst e5;obtain ⟨an,cn,af,cf,s6,ad,cd,e6,m6⟩:=Xm m6;injection e6 with e6;subst e6;have k0:=Q3 r5 0 rfl;have k1:=Q3 r5 1 rfl;have k2:=Q3 r5 2 rfl;have j0:=Q3 r6 0 rfl;have j1:=Q3 r6 1 rfl;have j2:=Q3 r6 2 rfl;have j3:=Q3 r6 3 rfl;have q2:=(bV.block _ (Q4 HB.b)).trans HB.b;have q3:=(bV.block _ (Q4 HB.c)).trans HB.c;have hVs:=Q4 HB.c;have bw:=HB.D.trans (bV.mono HB.D.size);have hS:Hid (∀ W:World,(W.heap[g]? =W1.heap[g]? /\W.heap[h]? =W1.heap[h]?)->(W.heap[g]? =W1.heap[g]? /\W.heap[h]? =W1.heap[h]?)/\W.cell? ⟨g,0,none⟩=some (.bool b5)/\W.cell? ⟨g,1,none⟩=some (.slice x5 (wd t5.rest).length c5)/\W.cell? ⟨g,2,none⟩=some (.pointer o5)/\W.cell? ⟨h,0,none⟩=some (.slice an t5.l.length cn)/\W.cell? ⟨h,1,none⟩=some (.slice af t5.l.length cf)/\W.cell? ⟨h,2,none⟩=some (.int .i64 s6)/\W.cell? ⟨h,3,none⟩=some (.slice ad (dg t5.rest).length cd)):=fun W hb=> ⟨hb,Q3 (hb.1.trans r5) 0 rfl,Q3 (hb.1.trans r5) 1 rfl,Q3 (hb.1.trans r5) 2 rfl,Q3 (hb.2.trans r6) 0 rfl,Q3 (hb.2.trans r6) 1 rfl,Q3 (hb.2.trans r6) 2 rfl,Q3 (hb.2.trans r6) 3 rfl⟩;have HX:=h8_ m5 m6 q2 q3 bw hg hh hVs;clear r5 z5 m5 r6 z6 m6 bV hg hh k0 k1 k2 j0 j1 j2 j3 q2 q3 hVs bw;refine rq_ (s:=hS) (p:=⟨rfl,rfl⟩) (h:=fun hHeld=> ?_);simp only[lA_];refine tk_ 0 rfl ?_;refine tk_ 1 rfl ?_;(try simp only[Act.put,gP_]);refine rd_ 2 rfl (fun KK hKK=> ?_);simp only[gA_];refine QO (B:=w.heap.size) (w0:=w) (w1:=W1.drew) _ _ rfl rfl HX.c rfl rfl (HX.a.below (eB_ _ _).drew) (show w.heap.size<=w.heap.size+1 by omega) HX.e.drew ?_;rintro W5 cs5 hfr hw5 hg5 hs5 hn5 hb5;have hS5:=hS.out W5 ⟨by rw[hw5,Q8 (by have:=HX.F;omega)];rfl,by rw[hw5,Q8 (by have:=HX.F;omega)];rfl⟩;have q3:=QP hw5 (show w.heap.size+2≠w.heap.size+1 by omega) HX.d;refine hKK.out _ _ hS5 (fun hHeld=> ?_);clear hKK KK;(try simp only[Act.put,sA_]);refine rd_ 3 rfl (fun KK hKK=> ?_);simp only[gA_];refine QW (B:=w.heap.size) (w0:=w) _ _ rfl rfl q3 rfl rfl ((HX.b.below (eB_ _ _).drew).frt hfr (by decide) (by decide) (by decide)) (show w.heap.size<=w.heap.size+2 by omega) hb5 ?_;rintro W6 cs6 hw6 hh6 hs6 hn6 hb6;have hS6:=hS.out W6 ⟨by rw[hw6,Q8 (by have:=HX.F;omega)];exact hS5.1.1,by rw[hw6,Q8 (by have:=HX.F;omega)];exact hS5.1.2⟩;have q5:=QP hw6 (show w.heap.size+1≠w.heap.size+2 by omega) hg5;have hn5b:=hn5.frt (show FrT [50] W5 W6 by rw[hw6];exact Qe q3) (by decide) (by decide) (by decide);refine hKK.out _ _ hS6 (fun hHeld=> ?_);clear hKK KK;(try simp only[Act.put,sA_]);have HL:=h7_ q5 hs5 hh6 hs6 hn5b hn6 hb6;clear q5 hs5 hh6 hs6 hn5 hn5b hn6 hb6 hS5 hS6 q3 hw5 hw6 hfr hb5 hg5 hHeld;refine wpAnyH_done (by kernel_rfl) ?_ _;unfold PeelQ;dsimp only;go_simp;go_wp2_with fail;refine eG_ (QF rfl _ _ (w.heap.size+1) (w.heap.size+2) _ _ _ _ _ _ _ _ rfl rfl HL.a HL.c underlying38 rfl (by rw[HL.b];exact Qy) underlying50 rfl (by rw[HL.d];exact X3) rfl) rfl ?_;exact ⟨_,_,_,_,_,rfl,HL.e,HL.f,HL.G,fun h=> by cases h⟩
     ·have hb'':(40:Int) < (nm.length:Int):=(by omega);go_wp2_with (first | (refine wpList_load_mid rfl 67 _ rfl bk (off+j*2) rfl _ _ HG.o underlying67 rfl rfl ?_) | (refine Qa rfl 67 _ _ rfl 67 #[.string ⟨#[]⟩,.int .i64 0] #[.string ⟨nm.toArray⟩,.int .i64 f] rfl rfl rfl Jn (by simp[Value.oneCell']) ?_))
      all_goals
       rw[HW1.o];obtain ⟨⟨cs5,r5,z5,m5⟩,⟨cs6,r6,z6,m6⟩,bV,hg,hh⟩:=HT1.a;obtain ⟨b5,x5,c5,o5,e5,m5⟩:=Ql m5;injection e5 with e5;subst e5;obtain ⟨an,cn,af,cf,s6,ad,cd,e6,m6⟩:=Xm m6;injection e6 with e6;subst e6;have k0:=Q3 r5 0 rfl;have k1:=Q3 r5 1 rfl;have k2:=Q3 r5 2 rfl;have j0:=Q3 r6 0 rfl;have j1:=Q3 r6 1 rfl;have j2:=Q3 r6 2 rfl;have j3:=Q3 r6 3 rfl;have q2:=(bV.block _ (Q4 HB.b)).trans HB.b;have q3:=(bV.block _ (Q4 HB.c)).trans HB.c;have hVs:=Q4 HB.c;have bw:=HB.D.trans (bV.mono HB.D.size);have hS:Hid (∀ W:World,(W.heap[g]? =W1.heap[g]? /\W.heap[h]? =W1.heap[h]?)->(W.heap[g]? =W1.heap[g]? /\W.heap[h]? =W1.heap[h]?)/\W.cell? ⟨g,0,none⟩=some (.bool b5)/\W.cell? ⟨g,1,none⟩=some (.slice x5 (wd t5.rest).length c5)/\W.cell? ⟨g,2,none⟩=some (.pointer o5)/\W.cell? ⟨h,0,none⟩=some (.slice an t5.l.length cn)/\W.cell? ⟨h,1,none⟩=some (.slice af t5.l.length cf)/\W.cell? ⟨h,2,none⟩=some (.int .i64 s6)/\W.cell? ⟨h,3,none⟩=some (.slice ad (dg t5.rest).length cd)):=fun W hb=> ⟨hb,Q3 (hb.1.trans r5) 0 rfl,Q3 (hb.1.trans r5) 1 rfl,Q3 (hb.1.trans r5) 2 rfl,Q3 (hb.2.trans r6) 0 rfl,Q3 (hb.2.trans r6) 1 rfl,Q3 (hb.2.trans r6) 2 rfl,Q3 (hb.2.trans r6) 3 rfl⟩;have HX:=h8_ m5 m6 q2 q3 bw hg hh hVs;clear r5 z5 m5 r6 z6 m6 bV hg hh k0 k1 k2 j0 j1 j2 j3 q2 q3 hVs bw;refine rq_ (s:=hS) (p:=⟨rfl,rfl⟩) (h:=fun hHeld=> ?_);simp only[lA_];refine tk_ 0 rfl ?_;refine tk_ 1 rfl ?_;(try simp only[Act.put,gP_]);refine rd_ 2 rfl (fun KK hKK=> ?_);simp only[gA_];refine QO (B:=w.heap.size) (w0:=w) (w1:=W1.drew) _ _ rfl rfl HX.c rfl rfl (HX.a.below (eB_ _ _).drew) (show w.heap.size<=w.heap.size+1 by omega) HX.e.drew ?_;rintro W5 cs5 hfr hw5 hg5 hs5 hn5 hb5;have hS5:=hS.out W5 ⟨by rw[hw5,Q8 (by have:=HX.F;omega)];rfl,by rw[hw5,Q8 (by have:=HX.F;omega)];rfl⟩;have q3:=QP hw5 (show w.heap.size+2≠w.heap.size+1 by omega) HX.d;refine hKK.out _ _ hS5 (fun hHeld=> ?_);clear hKK KK;(try simp only[Act.put,sA_]);refine rd_ 3 rfl (fun KK hKK=> ?_);simp only[gA_];refine QW (B:=w.heap.size) (w0:=w) _ _ rfl rfl q3 rfl rfl ((HX.b.below (eB_ _ _).drew).frt hfr (by decide) (by decide) (by decide)) (show w.heap.size<=w.heap.size+2 by omega) hb5 ?_;rintro W6 cs6 hw6 hh6 hs6 hn6 hb6;have hS6:=hS.out W6 ⟨by rw[hw6,Q8 (by have:=HX.F;omega)];exact hS5.1.1,by rw[hw6,Q8 (by have:=HX.F;omega)];exact hS5.1.2⟩;have q5:=QP hw6 (show w.heap.size+1≠w.heap.size+2 by omega) hg5;have hn5b:=hn5.frt (show FrT [50] W5 W6 by rw[hw6];exact Qe q3) (by decide) (by decide) (by decide);refine hKK.out _ _ hS6 (fun hHeld=> ?_);clear hKK KK;(try simp only[Act.put,sA_]);have HL:=h7_ q5 hs5 hh6 hs6 hn5b hn6 hb6;clear q5 hs5 hh6 hs6 hn5 hn5b hn6 hb6 hS5 hS6 q3 hw5 hw6 hfr hb5 hg5 hHeld;refine wpAnyH_done (by kernel_rfl) ?_ _;unfold PeelQ;dsimp only;go_simp;go_wp2_with fail;refine eG_ (QF rfl _ _ (w.heap.size+1) (w.heap.size+2) _ _ _ _ _ _ _ _ rfl rfl HL.a HL.c underlying38 rfl (by rw[HL.b];exact Qy) underlying50 rfl (by rw[HL.d];exact X3) rfl) rfl ?_;exact ⟨_,_,_,_,_,rfl,HL.e,HL.f,HL.G,fun h=> by cases h⟩
    ·have hf1: -1099511627776<=f:=(by omega);have hf2:f<=1099511627776:=(by omega);have hf3:(nm.length:Int)<=40:=(by omega);have hd4:¬ f < -1099511627776:=(by omega);have hd5:¬ 1099511627776 < f:=(by omega);have hd6:¬ (40:Int) < (nm.length:Int):=(by omega);have HF:=hd_ (show nm.length<=40/\ -1099511627776<=f/\f<=1099511627776 from ⟨by omega,by omega,by omega⟩);clear hbad hf1 hf2 hf3;go_wp2_with (first | (refine wpList_load_mid rfl 67 _ rfl bk (off+j*2) rfl _ _ HG.o underlying67 rfl rfl ?_) | (refine Qa rfl 67 _ _ rfl 67 #[.string ⟨#[]⟩,.int .i64 0] #[.string ⟨nm.toArray⟩,.int .i64 f] rfl rfl rfl Jn (by simp[Value.oneCell']) ?_));rw[HW1.o];refine eH_ (Q24 nm (by have:=HF.a;omega) W1) ?_;rintro r w2 ⟨bn,rfl,rfl⟩;dsimp only;cases bn with
     | false=>
      go_wp2_with fail;obtain ⟨⟨cs5,r5,z5,m5⟩,⟨cs6,r6,z6,m6⟩,bV,hg,hh⟩:=HT1.a;obtain ⟨b5,x5,c5,o5,e5,m5⟩:=Ql m5;injection e5 with e5;subst e5;obtain ⟨an,cn,af,cf,s6,ad,cd,e6,m6⟩:=Xm m6;injection e6 with e6;subst e6;have k0:=Q3 r5 0 rfl;have k1:=Q3 r5 1 rfl;have k2:=Q3 r5 2 rfl;have j0:=Q3 r6 0 rfl;have j1:=Q3 r6 1 rfl;have j2:=Q3 r6 2 rfl;have j3:=Q3 r6 3 rfl;have q2:=(bV.block _ (Q4 HB.b)).trans HB.b;have q3:=(bV.block _ (Q4 HB.c)).trans HB.c;have hVs:=Q4 HB.c;have bw:=HB.D.trans (bV.mono HB.D.size);have hS:Hid (∀ W:World,(W.heap[g]? =w2.heap[g]? /\W.heap[h]? =w2.heap[h]?)->(W.heap[g]? =w2.heap[g]? /\W.heap[h]? =w2.heap[h]?)/\W.cell? ⟨g,0,none⟩=some (.bool b5)/\W.cell? ⟨g,1,none⟩=some (.slice x5 (wd t5.rest).length c5)/\W.cell? ⟨g,2,none⟩=some (.pointer o5)/\W.cell? ⟨h,0,none⟩=some (.slice an t5.l.length cn)/\W.cell? ⟨h,1,none⟩=some (.slice af t5.l.length cf)/\W.cell? ⟨h,2,none⟩=some (.int .i64 s6)/\W.cell? ⟨h,3,none⟩=some (.slice ad (dg t5.rest).length cd)):=fun W hb=> ⟨hb,Q3 (hb.1.trans r5) 0 rfl,Q3 (hb.1.trans r5) 1 rfl,Q3 (hb.1.trans r5) 2 rfl,Q3 (hb.2.trans r6) 0 rfl,Q3 (hb.2.trans r6) 1 rfl,Q3 (hb.2.trans r6) 2 rfl,Q3 (hb.2.trans r6) 3 rfl⟩;have HX:=h8_ m5 m6 q2 q3 bw hg hh hVs;clear r5 z5 m5 r6 z6 m6 bV hg hh k0 k1 k2 j0 j1 j2 j3 q2 q3 hVs bw;refine rq_ (s:=hS) (p:=⟨rfl,rfl⟩) (h:=fun hHeld=> ?_);simp only[lA_];refine tk_ 0 rfl ?_;refine tk_ 1 rfl ?_;(try simp only[Act.put,gP_]);refine rd_ 2 rfl (fun KK hKK=> ?_);simp only[gA_];refine QO (B:=w.heap.size) (w0:=w) (w1:=w2.drew) _ _ rfl rfl HX.c rfl rfl (HX.a.below (eB_ _ _).drew) (show w.heap.size<=w.heap.size+1 by omega) HX.e.drew ?_;rintro W5 cs5 hfr hw5 hg5 hs5 hn5 hb5;have hS5:=hS.out W5 ⟨by rw[hw5,Q8 (by have:=HX.F;omega)];rfl,by rw[hw5,Q8 (by have:=HX.F;omega)];rfl⟩;have q3:=QP hw5 (show w.heap.size+2≠w.heap.size+1 by omega) HX.d;refine hKK.out _ _ hS5 (fun hHeld=> ?_);clear hKK KK;(try simp only[Act.put,sA_]);refine rd_ 3 rfl (fun KK hKK=> ?_);simp only[gA_];refine QW (B:=w.heap.size) (w0:=w) _ _ rfl rfl q3 rfl rfl ((HX.b.below (eB_ _ _).drew).frt hfr (by decide) (by decide) (by decide)) (show w.heap.size<=w.heap.size+2 by omega) hb5 ?_;rintro W6 cs6 hw6 hh6 hs6 hn6 hb6;have hS6:=hS.out W6 ⟨by rw[hw6,Q8 (by have:=HX.F;omega)];exact hS5.1.1,by rw[hw6,Q8 (by have:=HX.F;omega)];exact hS5.1.2⟩;have q5:=QP hw6 (show w.heap.size+1≠w.heap.size+2 by omega) hg5;have hn5b:=hn5.frt (show FrT [50] W5 W6 by rw[hw6];exact Qe q3) (by decide) (by decide) (by decide);refine hKK.out _ _ hS6 (fun hHeld=> ?_);clear hKK KK;(try simp only[Act.put,sA_]);have HL:=h7_ q5 hs5 hh6 hs6 hn5b hn6 hb6;clear q5 hs5 hh6 hs6 hn5 hn5b hn6 hb6 hS5 hS6 q3 hw5 hw6 hfr hb5 hg5 hHeld;refine wpAnyH_done (by kernel_rfl) ?_ _;unfold PeelQ;dsimp only;go_simp;go_wp2_with fail;refine eG_ (QF rfl _ _ (w.heap.size+1) (w.heap.size+2) _ _ _ _ _ _ _ _ rfl rfl HL.a HL.c underlying38 rfl (by rw[HL.b];exact Qy) underlying50 rfl (by rw[HL.d];exact X3) rfl) rfl ?_;exact ⟨_,_,_,_,_,rfl,HL.e,HL.f,HL.G,fun h=> by cases h⟩
     | true=>
      obtain ⟨⟨cs5,r5,z5,m5⟩,⟨cs6,r6,z6,m6⟩,bV,hg,hh⟩:=HT1.a;have hne:=HT1.a.ne;obtain ⟨b5,x5,c5,o5,e5,m5⟩:=Ql m5;injection e5 with e5;subst e5;have k0:=Q3 r5 0 rfl;have k1:=Q3 r5 1 rfl;have k2:=Q3 r5 2 rfl;have p0:=Q3 HT1.B 0 rfl;have p1:=Q3 HT1.B 1 rfl;have HS:=Q8Q k0 k1 k2 p0 p1;have hsm:Sm 1000 t5/\Tp.Ok t5.l:=(by rw[<-HS5.o];exact HR.b.sm);have H9:=h8_ m5 r5 (show ∃ cs,w2.heap[h]? =some (.cells cs 50 (0,0))/\cs.size=4/\Tz w2 (.agg cs) t5 from ⟨cs6,r6,z6,m6⟩) bV hg hh hne hsm;clear m5 r5 z5 r6 z6 m6 bV hg hh hne hsm k0 k1 k2 p0 p1;go_wp2_with fail;refine rq_ (s:=HS) (p:=((eB_ _ _).drew)) (h:=fun hHeld=> ?_);simp only[lA_];refine tk_ 0 rfl ?_;refine tk_ 1 rfl ?_;refine tk_ 2 rfl ?_;refine tk_ 4 rfl ?_;refine tk_ 5 rfl ?_;(try simp only[Act.put,gP_]);refine rd_ 3 rfl (fun KK hKK=> ?_);simp only[gA_];go_simp;refine eH_ (JP _ nm) ?_;rintro r wA ⟨vA,rfl,mA,hbA⟩;have bA:Below w2.heap.size w2 wA:=(eB_ _ _).drew.trans hbA;dsimp only;refine hKK.out _ _ (HS.o _ bA) (fun hHeld=> ?_);clear hKK KK;(try simp only[Act.put,sA_]);refine rd_ 6 rfl (fun KK hKK=> ?_);simp only[gA_];go_simp;refine eH_ (QM f (by have:=HF.B;omega) (by have:=HF.B;omega) _) ?_;rintro r wB ⟨vB,rfl,nB,hbB⟩;have bB:Below w2.heap.size w2 wB:=bA.trans (hbB.mono bA.size);dsimp only;refine hKK.out _ _ (HS.o _ bB) (fun hHeld=> ?_);clear hKK KK;(try simp only[Act.put,sA_]);refine rd_ 7 rfl (fun KK hKK=> ?_);simp only[gA_];go_simp;refine eH_ (Yi (mA.below hbB) nB (Jg nm).rise ((Sm.name nm).mono (show 1<=1000 by decide)) ((Q0e HF.b HF.C).mono (by decide)) (by decide)) ?_;rintro r wC ⟨vC,rfl,mC,hbC⟩;have bC:Below w2.heap.size w2 wC:=bB.trans (hbC.mono bB.size);obtain ⟨bc,xc,cc,oc,rfl,mC⟩:=Ql mC;dsimp only;refine hKK.out _ _ (HS.o _ bC) (fun hHeld=> ?_);clear hKK KK;(try simp only[Act.put,sA_]);refine rd_ 8 rfl (fun KK hKK=> ?_);simp only[gA_];go_simp;refine hKK.out _ _ (HS.o _ (bC.alloc bC.size _)) (fun hHeld=> ?_);clear hKK KK;(try simp only[Act.put,sA_]);refine rd_ 9 rfl (fun KK hKK=> ?_);simp only[gA_];go_simp;have hxD:=Qh (w:=wC) #[.bool bc,.slice xc (wd (Tp.add Tp.zero (Tp.name nm) f).rest).length cc,.pointer oc] 38;have bD:=bC.trans (hxD.2.mono bC.size);refine eH_ (Dz (H9.a.below bD) hxD.1 (mC.below hxD.2) H9.I (Tp.ZJ Tp.Ok.nil _ _).rise H9.h ((Sm.add Sm.zero Tp.Ok.nil (Sm.name nm) (Jg nm).rise (Q0e HF.b HF.C)).mono (show 0+1+13+1<=1000 by decide)) (by decide) (by decide)) ?_;rintro r wE ⟨vE,rfl,mE,hbE⟩;have bE:Below w2.heap.size w2 wE:=bD.trans (hbE.mono bD.size);rw[Tp.Q68 H9.I] at mE;dsimp only;refine hKK.out _ _ (HS.o _ bE) (fun hHeld=> ?_);clear hKK KK;(try simp only[Act.put,sA_]);refine wpAnyH_done (by kernel_rfl) ?_ _;unfold PeelQ;dsimp only;refine QO (B:=V.heap.size) (w0:=V) _ _ rfl rfl ((bE.block _ (Q4 H9.b)).trans H9.b) rfl rfl mE H9.e (H9.d.trans (bE.mono H9.d.size)) ?_;rintro W5 cs5 hfr hw5 hg5 hs5 hn5 hb5;have hgw:g < wr.heap.size:=(by obtain ⟨_,q,_⟩:=HR.C.t;exact Q4 q);obtain ⟨cs6,r6,z6,m6⟩:=H9.c;replace m6:=(m6.below bE).frt hfr (by decide) (by decide) (by decide);have pr:=QP hw5 (show wr.heap.size≠g by omega) ((bE.block _ (Q4 HT1.B)).trans HT1.B);replace r6:=QP hw5 H9.g.symm ((bE.block _ (Q4 r6)).trans r6);obtain ⟨an,cn,af,cf,s6,ad,cd,e6,m6⟩:=Xm m6;injection e6 with e6;subst e6;have j0:=Q3 r6 0 rfl;have j1:=Q3 r6 1 rfl;have j2:=Q3 r6 2 rfl;have j3:=Q3 r6 3 rfl;have p0:=Q3 pr 0 rfl;have p1:=Q3 pr 1 rfl;have HS2:=Q1Y j0 j1 j2 j3 p0 p1;have HA:=h6_ hg5 hs5 hn5 m6 r6 hb5;clear hg5 hs5 hn5 m6 r6 hb5 hw5 hfr mE hbE bE bD bC bB bA mC hbC nB hbB mA hbA hxD j0 j1 j2 j3 p0 p1 pr z6 hgw hHeld;go_simp;go_wp2_with fail;refine rq_ (s:=HS2) (p:=((eB_ _ _).drew)) (h:=fun hHeld=> ?_);simp only[lA_];refine tk_ 0 rfl ?_;refine tk_ 1 rfl ?_;refine tk_ 2 rfl ?_;refine tk_ 4 rfl ?_;refine tk_ 5 rfl ?_;(try simp only[Act.put,gP_]);refine rd_ 3 rfl (fun KK hKK=> ?_);simp only[gA_];go_simp;refine eH_ (Q23 _ nm) ?_;rintro r wA ⟨vA,rfl,mA,hbA⟩;have bA:Below W5.heap.size W5 wA:=(eB_ _ _).drew.trans hbA;dsimp only;refine hKK.out _ _ (HS2.o _ bA) (fun hHeld=> ?_);clear hKK KK;(try simp only[Act.put,sA_]);refine rd_ 6 rfl (fun KK hKK=> ?_);simp only[gA_];go_simp;refine eH_ (XG f (by have:=HF.B;omega) (by have:=HF.B;omega) _) ?_;rintro r wB ⟨vB,zf,rfl,hzf,nB,hbB⟩;have hzf2:zf=f:=hzf (by have:=HF.B;omega);subst hzf2;have bB:Below W5.heap.size W5 wB:=bA.trans (hbB.mono bA.size);dsimp only;refine hKK.out _ _ (HS2.o _ bB) (fun hHeld=> ?_);clear hKK KK;(try simp only[Act.put,sA_]);refine rd_ 7 rfl (fun KK hKK=> ?_);simp only[gA_];go_simp;refine eH_ (Q0T (HA.d.below bB) (mA.below hbB) nB H9.I (Jg nm).rise H9.h ((Sm.name nm).mono (show 1<=1000 by decide)) ((Q0e HF.b HF.C).mono (by decide)) (by decide)) ?_;rintro r wE ⟨vE,rfl,mE,hbE⟩;have bE:Below W5.heap.size W5 wE:=bB.trans (hbE.mono bB.size);dsimp only;refine hKK.out _ _ (HS2.o _ bE) (fun hHeld=> ?_);clear hKK KK;(try simp only[Act.put,sA_]);refine wpAnyH_done (by kernel_rfl) ?_ _;unfold PeelQ;dsimp only;refine QW (B:=V.heap.size) (w0:=V) _ _ rfl rfl ((bE.block _ (Q4 HA.e)).trans HA.e) rfl rfl mE H9.f (HA.F.trans (bE.mono HA.F.size)) ?_;rintro W6 cs6 hw6 hh6 hs6 hn6 hb6;have q5:=QP hw6 H9.g ((bE.block _ (Q4 HA.a)).trans HA.a);have hn5:=(HA.c.below bE).frt (show FrT [50] wE W6 by rw[hw6];exact Qe ((bE.block _ (Q4 HA.e)).trans HA.e)) (by decide) (by decide) (by decide);have HZ:=hd_ (show TwoT V g h (Tp.add t5 (Tp.name nm) zf) (Tp.add t5 (Tp.name nm) zf) W6 from ⟨⟨_,q5,HA.b,hn5⟩,⟨_,hh6,hs6,hn6⟩,hb6,H9.e,H9.f⟩);clear q5 hn5 hh6 hs6 hn6 hb6 hw6 mE hbE bE nB hbB bB mA hbA bA hHeld;go_simp;go_wp2_with fail;go_roundg (ps.length - (j+1))
      case measure=> have:=HR.a;omega
      case rel=> exact ⟨j+1,by go_num,rfl,by omega,HR.b.take HLN.o HPP.o HF.a HF.b HF.C,by rw[Q7q HPP.o,HS5.o];exact HZ.o⟩
   ·obtain rfl:j=ps.length:=(by omega);have HT1:=hd_ HR.C;have HFT:=hd_ HR.b;rw[List.take_length] at HT1 HFT;obtain ⟨t5,ht5⟩:∃ t:Tp.T,Tp.sum ⟨[],z⟩ ps=t:=⟨_,rfl⟩
    rw[ht5] at HT1;have HS5:=hd_ ht5;clear ht5;go_wp2_with fail;obtain ⟨⟨cs5,r5,z5,m5⟩,⟨cs6,r6,z6,m6⟩,bV,hg,hh⟩:=HT1.o;obtain ⟨b5,x5,c5,o5,e5,m5⟩:=Ql m5;injection e5 with e5;subst e5;obtain ⟨an,cn,af,cf,s6,ad,cd,e6,m6⟩:=Xm m6;injection e6 with e6;subst e6;have k0:=Q3 r5 0 rfl;have k1:=Q3 r5 1 rfl;have k2:=Q3 r5 2 rfl;have j0:=Q3 r6 0 rfl;have j1:=Q3 r6 1 rfl;have j2:=Q3 r6 2 rfl;have j3:=Q3 r6 3 rfl;have q2:=(bV.block _ (Q4 HB.b)).trans HB.b;have q3:=(bV.block _ (Q4 HB.c)).trans HB.c;have hVs:=Q4 HB.c;have bw:=HB.D.trans (bV.mono HB.D.size);have hS:Hid (∀ W:World,(W.heap[g]? =wr.heap[g]? /\W.heap[h]? =wr.heap[h]?)->(W.heap[g]? =wr.heap[g]? /\W.heap[h]? =wr.heap[h]?)/\W.cell? ⟨g,0,none⟩=some (.bool b5)/\W.cell? ⟨g,1,none⟩=some (.slice x5 (wd t5.rest).length c5)/\W.cell? ⟨g,2,none⟩=some (.pointer o5)/\W.cell? ⟨h,0,none⟩=some (.slice an t5.l.length cn)/\W.cell? ⟨h,1,none⟩=some (.slice af t5.l.length cf)/\W.cell? ⟨h,2,none⟩=some (.int .i64 s6)/\W.cell? ⟨h,3,none⟩=some (.slice ad (dg t5.rest).length cd)):=fun W hb=> ⟨hb,Q3 (hb.1.trans r5) 0 rfl,Q3 (hb.1.trans r5) 1 rfl,Q3 (hb.1.trans r5) 2 rfl,Q3 (hb.2.trans r6) 0 rfl,Q3 (hb.2.trans r6) 1 rfl,Q3 (hb.2.trans r6) 2 rfl,Q3 (hb.2.trans r6) 3 rfl⟩;have HX:=h8_ m5 m6 q2 q3 bw hg hh hVs;clear r5 z5 m5 r6 z6 m6 bV hg hh k0 k1 k2 j0 j1 j2 j3 q2 q3 hVs bw;refine rq_ (s:=hS) (p:=⟨rfl,rfl⟩) (h:=fun hHeld=> ?_);simp only[lA_];refine tk_ 0 rfl ?_;refine tk_ 1 rfl ?_;(try simp only[Act.put,gP_]);refine rd_ 2 rfl (fun KK hKK=> ?_);simp only[gA_];refine QO (B:=w.heap.size) (w0:=w) (w1:=wr.drew) _ _ rfl rfl HX.c rfl rfl (HX.a.below (eB_ _ _).drew) (show w.heap.size<=w.heap.size+1 by omega) HX.e.drew ?_;rintro W5 cs5 hfr hw5 hg5 hs5 hn5 hb5;have hS5:=hS.out W5 ⟨by rw[hw5,Q8 (by have:=HX.F;omega)];rfl,by rw[hw5,Q8 (by have:=HX.F;omega)];rfl⟩;have q3:=QP hw5 (show w.heap.size+2≠w.heap.size+1 by omega) HX.d;refine hKK.out _ _ hS5 (fun hHeld=> ?_);clear hKK KK;(try simp only[Act.put,sA_]);refine rd_ 3 rfl (fun KK hKK=> ?_);simp only[gA_];refine QW (B:=w.heap.size) (w0:=w) _ _ rfl rfl q3 rfl rfl ((HX.b.below (eB_ _ _).drew).frt hfr (by decide) (by decide) (by decide)) (show w.heap.size<=w.heap.size+2 by omega) hb5 ?_;rintro W6 cs6 hw6 hh6 hs6 hn6 hb6;have hS6:=hS.out W6 ⟨by rw[hw6,Q8 (by have:=HX.F;omega)];exact hS5.1.1,by rw[hw6,Q8 (by have:=HX.F;omega)];exact hS5.1.2⟩;have q5:=QP hw6 (show w.heap.size+1≠w.heap.size+2 by omega) hg5;have hn5b:=hn5.frt (show FrT [50] W5 W6 by rw[hw6];exact Qe q3) (by decide) (by decide) (by decide);refine hKK.out _ _ hS6 (fun hHeld=> ?_);clear hKK KK;(try simp only[Act.put,sA_]);have HL:=h7_ q5 hs5 hh6 hs6 hn5b hn6 hb6;clear q5 hs5 hh6 hs6 hn5 hn5b hn6 hb6 hS5 hS6 q3 hw5 hw6 hfr hb5 hg5 hHeld;refine wpAnyH_done (by kernel_rfl) ?_ _;unfold PeelQ;dsimp only;go_simp;go_wp2_with fail;refine eG_ (QF rfl _ _ (w.heap.size+1) (w.heap.size+2) _ _ _ _ _ _ _ _ rfl rfl HL.a HL.c underlying38 rfl (by rw[HL.b];exact Qy) underlying50 rfl (by rw[HL.d];exact X3) rfl) rfl ?_;exact ⟨_,_,_,_,_,rfl,HL.e,HL.f,HL.G,fun _=> ⟨HS5.o.symm,rfl,HFT.o⟩⟩
def TxOut (e:Ex) (w:World) (r:Ending) (w':World):Prop:=(∃ l:List UInt8,r= .returned (.tuple #[.string ⟨l.toArray⟩,.int .i64 (if Ex.right e then 0 else 10)]))/\Below w.heap.size w w'
theorem GC (hs:Ex.Sm e) (hwl:Ex.wl e<=1073741824) {w:World} {P:Nat->Prop} {cs:List Value} (h:RdE w P e cs) (hP:∀ k,P k->k < w.heap.size):
  Calls prog 86 #[.agg cs.toArray,.int .i64 0] w (TxOut e w):=by
 obtain ⟨sv,kv,rfl,_,a,c,rfl⟩:=h.cells;obtain ⟨nb,hnb⟩:∃ x,decide (e.num < 0)=x:=⟨_,rfl⟩
 rw[hnb] at h |-;obtain ⟨nk,hnk⟩:∃ x,e.kids.length=x:=⟨_,rfl⟩
 rw[hnk] at h |-;have hbx:=Qh (w:=w) #[.int .i64 e.op,.string ⟨e.name.toArray⟩,.string ⟨e.mod.toArray⟩,.bool nb,sv,.bool e.yes,.slice a nk c,.int .i64 e.pos] 30;obtain ⟨V,hV⟩:∃ V,w.alloc (.cells #[.int .i64 e.op,.string ⟨e.name.toArray⟩,.string ⟨e.mod.toArray⟩,.bool nb,sv,.bool e.yes,.slice a nk c,.int .i64 e.pos] 30)=V:=⟨_,rfl⟩
 have HVV:=hd_ hV;rw[hV] at hbx;have HM:Hid (∀ W,Below V.heap.size V W->W.heap[w.heap.size]? =some (.cells #[.int .i64 e.op,.string ⟨e.name.toArray⟩,.string ⟨e.mod.toArray⟩,.bool nb,sv,.bool e.yes,.slice a nk c,.int .i64 e.pos] 30 (0,0))/\Below w.heap.size w W/\RdE W P e [.int .i64 e.op,.string ⟨e.name.toArray⟩,.string ⟨e.mod.toArray⟩,.bool nb,sv,.bool e.yes,.slice a nk c,.int .i64 e.pos]/\∀ k,P k->k < W.heap.size):=fun W hb=> by
  have h1:=hbx.2.trans (hb.mono hbx.2.size);exact ⟨Q7 hbx.1 hb,h1,h.past hP h1,fun k hk=> eI_ (hP k hk) h1.size⟩
 obtain ⟨a0,a1,a2,a3,a4,a5,a6,a7⟩:=cells8 hbx.1;have HR:Hid (∀ W,Below V.heap.size V W->Calls prog 128 #[.agg #[.int .i64 e.op,.string ⟨e.name.toArray⟩,.string ⟨e.mod.toArray⟩,.bool nb,sv,.bool e.yes,.slice a nk c,.int .i64 e.pos],.int .i64 0] W fun r w'=> r= .returned (.bool (Ex.right e))/\Below W.heap.size W w'):=fun W hb=> G9 hs (HM W hb).2.2.1 (HM W hb).2.2.2;obtain ⟨rt,hrt⟩:∃ b,Ex.right e=b:=⟨_,rfl⟩
 have HX:Hid (rt=true->∀ W,Below V.heap.size V W->∀ b,IsW W b b []->(∀ k,P k->k < b)->b<=W.heap.size->Calls prog 129 #[.pointer (some ⟨b,0,none⟩),.agg #[.int .i64 e.op,.string ⟨e.name.toArray⟩,.string ⟨e.mod.toArray⟩,.bool nb,sv,.bool e.yes,.slice a nk c,.int .i64 e.pos]] W fun r w'=> r= .returned (.tuple #[])/\(∃ l,IsW w' b b l)/\Fw b b W w'):=fun ht W hb b hw hp hB=> by
  refine eH_ (Q2z hs hp (hrt.trans ht) W b [] _ (HM W hb).2.2.1 hw hB (by simpa using hwl)) ?_;rintro r w' ⟨h1,⟨l,_,h2⟩,h3⟩;exact ⟨h1,⟨l,h2⟩,h3⟩
 unfold TxOut;rw[hrt] at HR |-;clear hs hwl h hP hbx hnb hnk hV hrt;go_in;go_wp2_with fail;rw[HVV.o];refine eH_ (HR.o V (eB_ _ _)) ?_;rintro r w2 ⟨rfl,hb2⟩;have H2:=hd_ hb2;clear a0 a1 a2 a3 a4 a5 a6 a7 hb2;obtain ⟨a0,a1,a2,a3,a4,a5,a6,a7⟩:=cells8 (HM.o _ H2.o).1;dsimp only;cases rt with
 | false=>
  go_wp2_with fail;go_ret2;exact ⟨⟨[],rfl⟩,(HM.o _ H2.o).2.1⟩
 | true=>
  have l0:=Qd a0;go_wp2_with fail;have hx3:=Qh (w:=w2) #[.pointer none,.slice none 0 0] 204;obtain ⟨V3,hV3⟩:∃ V,w2.alloc (.cells #[.pointer none,.slice none 0 0] 204)=V:=⟨_,rfl⟩
  rw[hV3] at hx3 |-;have hw3:IsW V3 w2.heap.size w2.heap.size []:=Or.inl ⟨rl_ _,_,hx3.1,World.ownsRow_nil _ _ _ _,by simp[Value.ownBlock]⟩;have h3:Below V.heap.size V V3:=H2.o.trans (hx3.2.mono H2.o.size);refine eH_ (HX.o (by trivial) V3 h3 w2.heap.size hw3 (HM.o _ H2.o).2.2.2 hx3.2.size) ?_;rintro r w4 ⟨rfl,⟨l,hw4⟩,hf4⟩;have H4:=h3_ hw4 (hx3.2.trans hf4.below) hf4.size;clear hw4 hf4 hw3 h3 hx3 hV3;dsimp only;go_wp2_with fail;refine eH_ (DQ w2.heap.size w2.heap.size l w4 H4.a H4.b.size) ?_;rintro r w5 ⟨rfl,hb5⟩;have H5:=hd_ (H4.b.trans hb5);clear hb5;dsimp only;go_wp2_with fail;go_ret2;exact ⟨⟨l,rfl⟩,(HM.o _ H2.o).2.1.trans (H5.o.mono (HM.o _ H2.o).2.1.size)⟩
theorem DX (hs:Ex.Sm e) (hwl:Ex.wl e<=1073741824) {w:World} {P:Nat->Prop} {cs:List Value} (h:RdE w P e cs) (hP:∀ k,P k->k < w.heap.size):
  Calls prog 43 #[.agg cs.toArray] w (TxOut e w):=by
 obtain ⟨sv,kv,rfl,_,a,c,rfl⟩:=h.cells;obtain ⟨nb,hnb⟩:∃ x,decide (e.num < 0)=x:=⟨_,rfl⟩
 rw[hnb] at h |-;obtain ⟨nk,hnk⟩:∃ x,e.kids.length=x:=⟨_,rfl⟩
 rw[hnk] at h |-;have hbx:=Qh (w:=w) #[.int .i64 e.op,.string ⟨e.name.toArray⟩,.string ⟨e.mod.toArray⟩,.bool nb,sv,.bool e.yes,.slice a nk c,.int .i64 e.pos] 30;obtain ⟨V,hV⟩:∃ V,w.alloc (.cells #[.int .i64 e.op,.string ⟨e.name.toArray⟩,.string ⟨e.mod.toArray⟩,.bool nb,sv,.bool e.yes,.slice a nk c,.int .i64 e.pos] 30)=V:=⟨_,rfl⟩
 have HVV:=hd_ hV;rw[hV] at hbx;obtain ⟨a0,a1,a2,a3,a4,a5,a6,a7⟩:=cells8 hbx.1;have HC:=hd_ (GC hs hwl (h.past hP hbx.2) (fun k hk=> eI_ (hP k hk) hbx.2.size));have HB:=hd_ hbx.2;unfold TxOut at HC |-;obtain ⟨code,hcode⟩:∃ x:Int,(if Ex.right e=true then (0:Int) else 10)=x:=⟨_,rfl⟩
 rw[hcode] at HC |-;clear hcode;clear hs hwl h hP hbx hnb hnk hV;go_in;go_wp2_with fail;rw[HVV.o];refine eH_ HC.o ?_;rintro r w2 ⟨⟨l,rfl⟩,hb2⟩;have H2:=hd_ hb2;clear hb2;dsimp only;go_wp2_with fail;go_ret2;exact ⟨⟨l,rfl⟩,HB.o.trans (H2.o.mono HB.o.size)⟩
def Ex.code (e:Ex):Int:=if Ex.right e then (if (Ex.of e).isSome then 0 else 35) else 10
def Ex.term (e:Ex):Tp.T:=if Ex.right e then (Ex.of e).getD Tp.zero else Tp.zero
def TOut (e:Ex) (w:World) (r:Ending) (w':World):Prop:=∃ v,r= .returned (.tuple #[v,.int .i64 (Ex.code e)])/\Tm w' v (Ex.term e)/\Below w.heap.size w w'
theorem Q1a (hs:Ex.Sm e) (hwl:Ex.wl e<=100000) {w:World} {P:Nat->Prop} {cs:List Value} (h:RdE w P e cs) (hP:∀ k,P k->k < w.heap.size):
  Calls prog 9 #[.agg cs.toArray] w (TOut e w):=by
 obtain ⟨sv,kv,rfl,hsv,a,c,rfl⟩:=h.cells;obtain ⟨ax,cs2,rfl⟩:=RdS.form hsv;obtain ⟨nb,hnb⟩:∃ x,decide (e.num < 0)=x:=⟨_,rfl⟩
 rw[hnb] at h |-;obtain ⟨nk,hnk⟩:∃ x,e.kids.length=x:=⟨_,rfl⟩
 rw[hnk] at h |-;have hbx:=box2 w #[.int .i64 e.op,.string ⟨e.name.toArray⟩,.string ⟨e.mod.toArray⟩,.bool nb,.slice ax (wd e.num).length cs2,.bool e.yes,.slice a nk c,.int .i64 e.pos] 30 #[.bool false,.slice none 0 0,.pointer none] 38;obtain ⟨V,hV⟩:∃ V,(w.alloc (.cells #[.int .i64 e.op,.string ⟨e.name.toArray⟩,.string ⟨e.mod.toArray⟩,.bool nb,.slice ax (wd e.num).length cs2,.bool e.yes,.slice a nk c,.int .i64 e.pos] 30)).alloc (.cells #[.bool false,.slice none 0 0,.pointer none] 38)=V:=⟨_,rfl⟩
 have HVV:=hd_ hV;rw[hV] at hbx;have HM:Hid (∀ W,Below V.heap.size V W->W.heap[w.heap.size]? =some (.cells #[.int .i64 e.op,.string ⟨e.name.toArray⟩,.string ⟨e.mod.toArray⟩,.bool nb,.slice ax (wd e.num).length cs2,.bool e.yes,.slice a nk c,.int .i64 e.pos] 30 (0,0))/\W.heap[w.heap.size+1]? =some (.cells #[.bool false,.slice none 0 0,.pointer none] 38 (0,0))/\Below w.heap.size w W/\RdE W P e [.int .i64 e.op,.string ⟨e.name.toArray⟩,.string ⟨e.mod.toArray⟩,.bool nb,.slice ax (wd e.num).length cs2,.bool e.yes,.slice a nk c,.int .i64 e.pos]/\∀ k,P k->k < W.heap.size):=fun W hb=> by
  have h1:=hbx.2.2.trans (hb.mono hbx.2.2.size);exact ⟨Q7 hbx.1 hb,Q7 hbx.2.1 hb,h1,h.past hP h1,fun k hk=> eI_ (hP k hk) h1.size⟩
 obtain ⟨a0,a1,a2,a3,a4,a5,a6,a7⟩:=cells8 hbx.1;have HF:Hid (Calls prog 43 #[.agg #[.int .i64 e.op,.string ⟨e.name.toArray⟩,.string ⟨e.mod.toArray⟩,.bool nb,.slice ax (wd e.num).length cs2,.bool e.yes,.slice a nk c,.int .i64 e.pos]] V (TxOut e V)):=DX hs (by omega) (HM.o _ (eB_ _ _)).2.2.2.1 (HM.o _ (eB_ _ _)).2.2.2.2;have HO:Hid (Ex.right e=true->∀ W,Below V.heap.size V W->Calls prog 44 #[.agg #[.int .i64 e.op,.string ⟨e.name.toArray⟩,.string ⟨e.mod.toArray⟩,.bool nb,.slice ax (wd e.num).length cs2,.bool e.yes,.slice a nk c,.int .i64 e.pos]] W (OfOut (Ex.of e) W)):=fun hr W hb=> Q7o hs hr hwl (HM.o W hb).2.2.2.1 (HM.o W hb).2.2.2.2;clear hs hwl h hP hsv hnb hnk hbx hV;unfold TxOut at HF;cases hr:Ex.right e with
 | false=>
  have hc:Ex.code e=10:=by unfold Ex.code;rw[hr];rfl
  have ht:Ex.term e=Tp.zero:=by unfold Ex.term;rw[hr];rfl
  rw[hr,if_neg (by decide)] at HF;unfold TOut;rw[hc,ht];clear hr hc ht;go_in;go_wp2_with fail;rw[HVV.o];refine eH_ HF.o ?_;rintro r w2 ⟨⟨l,rfl⟩,hb2⟩;have H2:=hd_ hb2;clear hb2;dsimp only;go_wp2_with (refine QC rfl _ _ rfl rfl (HM.o _ H2.o).2.1 rfl rfl (Tm.zero _) (show w.heap.size<=w.heap.size+1 by omega) (HM.o _ H2.o).2.2.1 ?_;rintro W cs - hcs hg hs hn hb;have HT:=h4_ hg hs hn hb;clear hg hs hn hb hcs);refine eG_ (Xx rfl rfl HT.a HT.b rfl) rfl ?_;exact ⟨.agg cs,rfl,HT.c,HT.D⟩
 | true=>
  have hc:Ex.code e=if (Ex.of e).isSome=true then 0 else 35:=by unfold Ex.code;rw[hr];rfl
  have ht:Ex.term e=(Ex.of e).getD Tp.zero:=by unfold Ex.term;rw[hr];rfl
  rw[hr,if_pos rfl] at HF;unfold OfOut at HO;unfold TOut;rw[hc,ht];obtain ⟨code,hcode⟩:∃ x:Int,(if (Ex.of e).isSome=true then (0:Int) else 35)=x:=⟨_,rfl⟩
  rw[hcode] at HO |-;have HR:=hd_ hr;clear hr hc ht hcode;go_in;go_wp2_with fail;rw[HVV.o];refine eH_ HF.o ?_;rintro r w2 ⟨⟨l,rfl⟩,hb2⟩;have H2:=hd_ hb2;clear a0 a1 a2 a3 a4 a5 a6 a7 hb2;obtain ⟨a0,a1,a2,a3,a4,a5,a6,a7⟩:=cells8 (HM.o _ H2.o).1;dsimp only;go_wp2_with fail;refine eH_ (HO.o HR.o w2 H2.o) ?_;rintro r w3 ⟨v3,rfl,ht3,hb3⟩;have H3:=h2_ ht3 (H2.o.trans (hb3.mono H2.o.size));clear ht3 hb3;dsimp only;go_wp2_with (refine QC rfl _ _ rfl rfl (HM.o _ H3.B).2.1 rfl rfl H3.a (show w.heap.size<=w.heap.size+1 by omega) (HM.o _ H3.B).2.2.1 ?_;rintro W cs - hcs hg hs hn hb;have HT:=h4_ hg hs hn hb;clear hg hs hn hb hcs);refine eG_ (Xx rfl rfl HT.a HT.b rfl) rfl ?_;exact ⟨.agg cs,rfl,HT.c,HT.D⟩
def ancF:List UInt8:= [50,42,40,120,45,51,41,43,121,45,120]
def ancE:Ex:= .mk 8 [] [] 0 false [.mk 7 [] [] 0 false [.mk 9 [] [] 0 false [.mk 1 [] [] 2 false [] 0,.mk 8 [] [] 0 false [.mk 3 [120] [] 0 false [] 3,.mk 1 [] [] 3 false [] 5] 4] 1,.mk 3 [121] [] 0 false [] 8] 7,.mk 3 [120] [] 0 false [] 10] 9
def ancX:List UInt8:= [49,42,120,43,49,42,121,43,45,54]
theorem Q4d:(Ps.read Ps.form ancF 9).2=(0,0):=by kernel_rfl
theorem Q5R:Ps.read Ps.form ancF 200=((Ps.read Ps.form ancF 9).1,0,0):=by kernel_rfl
theorem Q4e:Tr.check (Ps.read Ps.form ancF 9).1 (Tr.root (Ps.read Ps.form ancF 9).1)=0:=by kernel_rfl
theorem Q4f:wholeOf (Ps.read Ps.form ancF 9).1.toks=ancF:=by kernel_rfl
theorem Q4g:((Ps.read Ps.form ancF 9).1.nodes.all fun x=> x.kind !=7)=true:=by kernel_rfl
theorem Q8i:Ax.formula (Ps.read Ps.form ancF 9).1=some ancE:=by kernel_rfl
theorem DY:Ex.right ancE=true:=by kernel_rfl
theorem Q4K:Ex.of ancE=some ⟨[([120],1),([121],1)],-6⟩:=by kernel_rfl
theorem Q0g:Tp.text ⟨[([120],1),([121],1)],-6⟩=ancX:=by kernel_rfl
theorem Q8j:Ex.wl ancE<=100000:=by decide
theorem Uy {op pos z:Int} {name:List UInt8} {yes:Bool} (hn:name.length<=1000000) (hz:Bd 1000000 z):Ex.Sm (.mk op name [] z yes [] pos):= .mk hn (by simp) hz (by simp) fun k hk=> by cases hk
theorem Q1b {op pos:Int} {a b:Ex} (ha:Ex.Sm a) (hb:Ex.Sm b):Ex.Sm (.mk op [] [] 0 false [a,b] pos):= .mk (by simp) (by simp) (Bd.zero _) (by simp) fun k hk=> by
 rcases List.mem_cons.1 hk with rfl | hk
 ·exact ha
 ·rw[List.mem_singleton.1 hk];exact hb
theorem Q8H:Bd 1000000 2:=Bd.mono (k:=1) (by unfold Bd;decide) (by decide)
theorem Q7u:Bd 1000000 3:=Bd.mono (k:=1) (by unfold Bd;decide) (by decide)
theorem Q8k:Ex.Sm ancE:=Q1b (Q1b (Q1b (Uy (by simp) Q8H) (Q1b (Uy (by simp) (Bd.zero _)) (Uy (by simp) Q7u))) (Uy (by simp) (Bd.zero _))) (Uy (by simp) (Bd.zero _))
def ancT:Tp.T:=⟨[([120],1),([121],1)],-6⟩
theorem Q5S:Ex.code ancE=0:=by unfold Ex.code;rw[DY,Q4K];rfl
theorem Q5T:Ex.term ancE=ancT:=by unfold Ex.term;rw[DY,Q4K];rfl
theorem Q8l:Sm 1000 ancT:=⟨fun p hp=> by
 have:p.2=1:=by
  rcases List.mem_cons.1 hp with rfl | hp
  ·rfl
  ·rw[List.mem_singleton.1 hp]
 rw[this];exact Bd.mono (k:=1) (by unfold Bd;decide) (by decide),Bd.mono (k:=1) (by unfold Bd;decide) (by decide),by decide⟩
theorem Q4h (l:List UInt8) (dp:Int):ReadSmall l (Ps.read Ps.form l dp).1:=Q45 DO l dp
theorem Lm (w:World):Calls prog 7 #[] w fun e w'=> e= .returned (.bool true)/\Below w.heap.size w w':=by
 have hc1:=JA ancF (by decide) 9 w;have hs1:=Q4h ancF 9;have f1:=Q4d;have f2:=Q4e;have f3:=Q5R;have f4:=Q4f;have f5:=Q4g;have f6:=Q8i;obtain ⟨⟨T,fe,fp⟩,hr⟩:∃ r,Ps.read Ps.form ancF 9=r:=⟨_,rfl⟩
 rw[hr] at hc1 hs1 f1 f2 f3 f4 f5 f6;simp only[Prod.mk.injEq] at f1;obtain ⟨rfl,rfl⟩:=f1;dsimp only at hs1 f2 f3 f4 f5 f6;have HC1:=hd_ hc1;have HF:=h6_ hs1 f4 f3 f2 (fun x hx=> by simpa using List.all_eq_true.1 f5 x hx:∀ x∈T.nodes,x.kind≠7) f6;clear hc1 hs1 f2 f3 f4 f5 f6 hr;go_in;go_wp2_with fail;rw[show (⟨#[50,42,40,120,45,51,41,43,121,45,120]⟩:ByteArray)=⟨ancF.toArray⟩ from rfl];refine HC1.o.mono ?_;rintro e w1 ⟨vt,vn,rfl,hT,hb⟩;obtain ⟨a1,c1,rfl⟩:∃ a c,vt= .slice a T.toks.length c:=hT.1.form;obtain ⟨a2,c2,rfl⟩:∃ a c,vn= .slice a T.nodes.length c:=by
  obtain ⟨kvs,_,h2,_⟩:=hT.2;exact h2.form
 have h1:=Q7h w1 (.slice a1 T.toks.length c1) (.slice a2 T.nodes.length c2) (.int .i64 0) (.int .i64 0);obtain ⟨V1,hV1⟩:∃ V,(w1.alloc (.cells #[.slice a1 T.toks.length c1,.slice a2 T.nodes.length c2] 90)).alloc (.cells #[.int .i64 0,.int .i64 0] 92)=V:=⟨_,rfl⟩
 have HV1:=hd_ hV1;rw[hV1] at h1;have HT:=h2_ (hT.keep (Keeps.of h1.b fun k hk=> hk.2)) (fun k (hk:w.heap.size<=k/\k < w1.heap.size)=> eI_ hk.2 h1.b.size);have H1:=h2_ h1 (hb.trans (h1.b.mono hb.size));have t0:=Q3 h1.t 0 rfl;have t1:=Q3 h1.t 1 rfl;clear hT hb h1 hV1;dsimp only;go_wp2_with fail;rw[HV1.o];refine eH_ (Gz HT.a HT.B (l:=ancF) (by decide) HF.a HF.b HF.c HF.d HF.e HF.F) ?_;rintro e w2 ⟨v2,rfl,⟨cs,rfl,hre⟩,hb2⟩;obtain ⟨sv,kv,rfl,hsv,ak,ck,rfl⟩:=hre.cells;obtain ⟨ax,cx,rfl⟩:=RdS.form hsv;have H2:=h3_ (H1.a.past hb2) (H1.B.trans (hb2.mono H1.B.size)) hre;clear t0 t1 hb2 hre hsv;dsimp only;have hx3:=Qh (w:=w2) #[.int .i64 ancE.op,.string ⟨ancE.name.toArray⟩,.string ⟨ancE.mod.toArray⟩,.bool (decide (ancE.num < 0)),.slice ax (wd ancE.num).length cx,.bool ancE.yes,.slice ak ancE.kids.length ck,.int .i64 ancE.pos] 30;obtain ⟨V3,hV3⟩:∃ V,w2.alloc (.cells #[.int .i64 ancE.op,.string ⟨ancE.name.toArray⟩,.string ⟨ancE.mod.toArray⟩,.bool (decide (ancE.num < 0)),.slice ax (wd ancE.num).length cx,.bool ancE.yes,.slice ak ancE.kids.length ck,.int .i64 ancE.pos] 30)=V:=⟨_,rfl⟩
 rw[hV3] at hx3;have HV3:=hd_ hV3;have hP3:∀ k,New V1 w2 k->k < V3.heap.size:=fun k hk=> eI_ hk.2 hx3.2.size;have H3:=h5_ hx3.1 (H2.a.past hx3.2) (H2.b.trans (hx3.2.mono H2.b.size)) (H2.C.past (fun k hk=> hk.2) hx3.2) hP3;clear hx3 hV3 hP3;go_wp2_with (refine Qa rfl 30 _ _ rfl 30 #[.int .i64 0,.string ⟨#[]⟩,.string ⟨#[]⟩,.bool false,.slice none 0 0,.bool false,.slice none 0 0,.int .i64 0] #[.int .i64 ancE.op,.string ⟨ancE.name.toArray⟩,.string ⟨ancE.mod.toArray⟩,.bool (decide (ancE.num < 0)),.slice ax (wd ancE.num).length cx,.bool ancE.yes,.slice ak ancE.kids.length ck,.int .i64 ancE.pos] rfl rfl rfl X8 (by simp[Value.oneCell']) ?_);rw[HV3.o];have hto:=Q1a Q8k Q8j H3.d H3.E;unfold TOut at hto;rw[Q5S,Q5T] at hto;refine eH_ hto ?_;clear hto;rintro e w4 ⟨v4,rfl,ht4,hb4⟩;obtain ⟨b4,x4,c4,o4,rfl,ht4⟩:=Ql ht4;have hx5:=Qh (w:=w4) #[.bool b4,.slice x4 (wd ancT.rest).length c4,.pointer o4] 38;obtain ⟨V5,hV5⟩:∃ V,w4.alloc (.cells #[.bool b4,.slice x4 (wd ancT.rest).length c4,.pointer o4] 38)=V:=⟨_,rfl⟩
 rw[hV5] at hx5;have HV5:=hd_ hV5;have h5:=(H3.b.past hb4).past hx5.2;have k0:=Q3 h5.f 0 rfl;have t0:=Q3 hx5.1 0 rfl;have t1:=Q3 hx5.1 1 rfl;have t2:=Q3 hx5.1 2 rfl;have hw5:Below w.heap.size w V5:=(H3.c.trans (hb4.mono H3.c.size)).trans (hx5.2.mono (eE_ H3.c.size hb4.size));have hts:=Yc (ht4.below hx5.2) Q8l (by decide) (by rw[show Tp.text ancT=ancX from Q0g];decide);rw[show Tp.text ancT=ancX from Q0g] at hts;have H5:=h2_ hts hw5;rw[<-hV5] at k0;clear hts hw5 h5 hx5 ht4 hb4 hV5 t0 t1 t2;dsimp only;go_wp2_with (refine Qa rfl 38 _ _ rfl 38 #[.bool false,.slice none 0 0,.pointer none] #[.bool b4,.slice x4 (wd ancT.rest).length c4,.pointer o4] rfl rfl rfl Qy (by simp[Value.oneCell']) ?_);rw[HV5.o];refine eH_ H5.a ?_;rintro e w6 ⟨rfl,hb6⟩;have H6:=hd_ (H5.B.trans (hb6.mono H5.B.size));clear hb6;dsimp only;go_wp2_with fail;go_ret;exact ⟨by simp[ancX],H6.o⟩
theorem Q8m {w:World} {base:Nat} {L:List Nat} (h:w.ownsRow base 174 1 v n (u32Cells L)) (hn:0 < n):∃ g c E,v= .slice (some ⟨g,0,none⟩) n c/\base<=g/\n<=c/\w.heap[g]? =some (.cells (u32Cells L++E).toArray 174 (0,0)):=by
 obtain ⟨_,h | ⟨g,cap,cur,rfl,hb,hg,hc,_,_,ht⟩⟩:=h
 ·exact absurd h.2 (by omega)
 ·refine ⟨g,cap,cur.toList.drop (n*1),rfl,hb,hc,?_⟩;rw[<-ht,eW_];exact hg
theorem Q8I {m d:Nat} (hb:2 ^ n=b) (hm:m < b) (hf:m+d*b < B32*B32):bits BinOp.or IntKind.u64 (m:Int) (IntKind.u64.wrap (IntKind.u64.wrap (d:Int)*2 ^ n))=((m+d*b:Nat):Int):=by
 have hb0:0 < b:=Nat.lt_of_le_of_lt (eV_ m) hm;have h1:d*b < B32*B32:=by omega
 have h2:d < B32*B32:=Nat.lt_of_le_of_lt (Nat.le_mul_of_pos_right d hb0) h1;have e:((d:Int)*2 ^ n)=((d*b:Nat):Int):=by rw[<-hb,Int.natCast_mul,Int.natCast_pow];rfl
 rw[QA h2,e,QA h1,u64_or_nat _ _ (by have:B32*B32=18446744073709551616:=rfl;omega) h1,Nat.or_comm,nat_join n _ _ (by rw[hb];exact Nat.mul_mod_left _ _) (by rw[hb];exact hm),Nat.add_comm]
theorem Uz {w:World} {l:List Nat} (h:RdU w v l) (hl:l.length<=1073741823) (hd:Zp.Dig B32 l) (n:Nat) (hn:n < 32):
  Calls prog 180 #[v,.int .i64 (n:Int)] w fun e w'=> ∃ g c E,e= .returned (.slice (some ⟨g,0,none⟩) (l.length+1) c)/\w.heap.size<=g/\l.length+1<=c/\w'.heap[g]? =some (.cells (u32Cells (Zp.scale B32 (2 ^ n) l 0)++E).toArray 174 (0,0))/\Below w.heap.size w w':=by
 obtain ⟨a0,c0,rfl,hc⟩:=h.form;have h2p:0 < 2 ^ n:=Nat.two_pow_pos n;have hb:2 ^ n<=B32:=by have:=Nat.pow_le_pow_right (n:=2) (by omega) (show n<=32 by omega);exact this
 obtain ⟨b,hbn⟩:∃ b,2 ^ n=b:=⟨_,rfl⟩
 rw[hbn] at h2p hb |-;have HH:=h5_ h hd hb h2p hbn;have hl':(l.length:Int)<=1073741823:=by omega
 have hn0:(0:Int)<=(n:Int):=by omega
 have hn1:(n:Int) < 32:=by omega
 have hmk:∀ W:World,(Instr.makeSlice 25 (.int .i64 0) (.int .i64 ((l.length:Int)+1))).run prog W= .ok (.slice (some ⟨W.heap.size,0,none⟩) 0 (l.length+1)) (W.alloc (.cells (u32Cells (List.replicate (l.length+1) 0)).toArray 174)):=fun W=> De (n:=0) (c:=l.length+1) (eV_ _) (by omega) W;clear h hd hb h2p hbn;go_in;go_wp2_with fail;go_loopg [5,6,15] l.length (fun k v7 v2 v16 wr=> ScRel w b 0 l k v7 v2 v16 wr)
 case atStart=>
  refine ⟨_,_,0,0, [],rfl,rfl,rfl,rfl,eV_ _,HH.d,rfl,?_,rfl,(eB_ _ _).alloc (rl_ _) _⟩;have h2:=GF (n:=0) (base:=w.heap.size) (l:=List.replicate (l.length+1) 0) (eD_ w _) (rl_ _) (eV_ _) (by simp;omega);simpa using h2
 case round=>
  clear hmk;obtain ⟨a,c,i,m,done,rfl,rfl,rfl,hk,hi,hm,hdl,hown,hgo,hbl⟩:=hrel;have HR:=h6_ hk hm hdl hown hgo hbl;clear hk hm hdl hown hgo hbl;by_cases hlt:i < l.length
  ·have hlt':(i:Int) < (l.length:Int):=(by omega);obtain ⟨d,hd1,hd2,hd3⟩:=QI HH.b i hlt;obtain ⟨bb,off,rfl,hcell⟩:=(HH.a.below HR.F).cell hlt;rw[hd1] at hcell;have hfit:=LM HH.c hd3 HR.b;obtain ⟨sm,hsm⟩:∃ sm:Nat,m+d*b=sm:=⟨_,rfl⟩
   have hor:=Q8I HH.E HR.b hfit;rw[hsm] at hor;have HD:=h3_ hd2 hsm (Zp.YK (B:=B32) HR.b hd3);clear hd1 hd2 hd3 hfit hsm;go_wp2_with (first
    | (refine app1 rfl _ _ Zq rfl rfl HR.d (rl_ _) HR.F.size HR.F (.int .u32 ((sm:Int) % 4294967296)) rfl rfl rfl (by omega) ?_;rintro a2 c2 w2 ho2 hb2 -;have HA:=h2_ ho2 hb2;clear ho2 hb2))
   go_roundg (l.length - (i+1))
   case measure=> have:=HR.a;omega
   case rel=>
    refine ⟨a2,c2,i+1,sm / B32,done++ [sm % B32],rfl,rfl,by go_num,rfl,by omega,?_,by simp[HR.c],?_,?_,HA.B⟩
    ·have:=HD.C;rwa [HD.b] at this
    ·rw[Za];exact HA.a
    ·rw[<-HR.e,X7 HD.a,eQ_];show _=done++((m+d*b) % B32::Zp.scale B32 b (l.drop (i+1)) ((m+d*b) / B32));rw[HD.b];rfl
  ·obtain rfl:l.length=i:=(by omega);have hmB:m < B32:=eI_ HR.b HH.c;have hw1:(m:Int) % 4294967296=(m:Int):=by
    have:m < 4294967296:=hmB;omega
   clear hmB;go_wp2_with (first
    | (refine app1 rfl _ _ Zq rfl rfl HR.d (rl_ _) HR.F.size HR.F (.int .u32 (m:Int)) rfl rfl rfl (by omega) ?_;rintro a2 c2 w2 ho2 hb2 -;have HA:=h2_ ho2 hb2;clear ho2 hb2))
   go_ret;have h1:=HR.e;rw[List.drop_length,Zp.scale] at h1;have h2:=HA.a;rw[<-Za] at h2;obtain ⟨g,c3,E,e1,e2,e4,e3⟩:=Q8m h2 (Nat.succ_pos _);injection e1 with e1 _ e5;subst e1 e5;exact ⟨g,_,E,rfl,e2,e4,by rw[<-h1];exact e3,HA.B⟩
end Go.Proofs.YtiecccakcenobaaGreatDoor
