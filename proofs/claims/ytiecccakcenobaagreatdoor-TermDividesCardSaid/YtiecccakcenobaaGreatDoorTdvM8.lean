/- A part of the proof. -/
import Derived.Test.YtiecccakcenobaaGreatDoorTdvM7
import Derived.Lib.UnsafeStr
set_option linter.all false
set_option maxRecDepth 100000
set_option maxHeartbeats 64000000
namespace Go.Proofs.YtiecccakcenobaaGreatDoor
open Tryz
open Go.RowKit
variable {s:Ps.St} {W:World}
section
variable {w0:World} {p b:Nat} {tk:List Tr.Tk} {dp:Int}
structure KnowsV (w0:World) (p b:Nat) (tk:List Tr.Tk) (dp:Int) (d:Nat) (n:Int):Prop where
 ex:Knows w0 p b tk dp 114 #[.pointer (some ⟨p,0,none⟩),.int .i64 n] (Ps.lv tk d).ex
 rest:d≠0->Knows w0 p b tk dp 147 #[.pointer (some ⟨p,0,none⟩),.int .i64 n] (Ps.lv tk d).fo/\Knows w0 p b tk dp 234 #[.pointer (some ⟨p,0,none⟩),.int .i64 n] (Ps.lv tk d).ne/\Knows w0 p b tk dp 235 #[.pointer (some ⟨p,0,none⟩),.int .i64 n] (Ps.lv tk d).fa
theorem Q07 (ht:Pc.Toks tk) (hl:tk.length<=1000000) (hdp:dp<=200):∀ (d:Nat) (n:Int),0<=n->n+d=dp+1->KnowsV w0 p b tk dp d n
 | 0,n,_,hd=> ⟨G5 hl (by simpa using hd),fun h=> absurd rfl h⟩
 | d+1,n,h0,hd=> by
  have h1:n<=300:=by omega
  have hd':n+1+d=dp+1:=by omega
  have hs:=Pc.Q0W ht d;have hk:KnowsV w0 p b tk dp d (n+1):=Q07 ht hl hdp d (n+1) (by omega) hd';have ha:=Q2g ht hl h0 h1 hs.ex hk.ex (fun Q W s hQ h hi he hkd=> Q2k ht hl h0 h1 hs.ex hk.ex hQ h hi he hkd);have hfa:=Lh ht hl h0 h1 hd' hs (fun hz=> (hk.rest hz).2.2) ha;have sfa:=Pc.JR ht hs;have hpr:=ZA ht hl (lv:=4) rfl (ts:=Ps.sMul) (by decide) Q13 sfa (Q5y hfa);have spr:=Pc.Yq ht sfa Ps.sMul;have hsu:=ZA ht hl (lv:=3) rfl (ts:=Ps.sSum) (by decide) Q12 spr (G4 (lv:=3) rfl rfl (by decide) hpr);have ssu:=Pc.Yq ht spr Ps.sSum;have hco:=Q5w ht hl (ts:=Ps.sCmp) (by decide) Q11 ssu (G4 (lv:=2) rfl rfl (by decide) hsu);have hne:=Gx ht hl h0 h1 hd' hs (fun hz=> (hk.rest hz).2.1) hco;have sne:=Pc.Yr ht hs;have hcj:=ZA ht hl (lv:=1) rfl (ts:=Ps.sAnd) (by decide) Q10 sne (Q5x hne);have scj:=Pc.Yq ht sne Ps.sAnd;have hdj:=ZA ht hl (lv:=0) rfl (ts:=Ps.sOr) (by decide) Q0Z scj (G4 (lv:=0) rfl rfl (by decide) hcj);have hfo:=DK ht hl h0 h1 hd' hs (fun hz=> (hk.rest hz).1) hdj;have hex:=Ul ht hl h0 h1 hd' rfl hs.ex hk.ex hfo;exact ⟨hex,fun _=> ⟨hfo,hne,hfa⟩⟩
end
section
variable {w0:World} {p b:Nat} {tk:List Tr.Tk} {dp:Int} {Q:Nat->Prop}
theorem KidsI.clause {W V:World} {s:Ps.St} {v:Value} {l:List Int} (h:KidsI Q w0 W p b tk dp s V v l) (y:Bool):KidsI Q w0 W p b tk dp {s with clause:=y} (V.setCell ⟨p,2,none⟩ (.bool y)) v l:=by
 have h2:=Qx (j:=2) h.pi.cell (.bool y);have h3:=h.pi.set (s':={s with clause:=y}) ⟨rfl,rfl⟩ (W':=V.setCell ⟨p,2,none⟩ (.bool y)) rfl rfl rfl (by simp[World.setCell]) h2 (fun k hk=> by rw[Below.heap_setCell _ _ _ _ hk]);exact h.step h3.1 h3.2
end
section
variable {w0:World} {p b:Nat} {tk:List Tr.Tk} {dp:Int}
theorem Q76 {Q:Nat->Prop} (h:PI Q w0 W p b tk dp s):KidsI Q w0 W p b tk dp s W (.slice none 0 0) []:=
 ⟨World.ownsRow_nil _ _ _ _,h.imp fun k _ hq=> ⟨hq,by simp[Value.ownBlock]⟩,FrT.refl _ _⟩
end
section
variable {w0:World} {p b:Nat} {tk:List Tr.Tk} {dp:Int}
theorem Q88 (hi:Pc.Inv tk s) (hl:tk.length<=1000000) (k:Int):Wk tk (Ps.kind tk k s).2:=by
 have h:=Pc.Qg hi hl;have h1:=hi.1;have h2:=hi.2.1;unfold Ps.kind;split
 ·unfold Ps.leaf;rw[if_neg (by omega)];exact ⟨h.1,h.2.1,by show s.used+1<=_;omega,by show (s.nodes++_).length<=_;simp only[eC_,eL_,eU_];omega⟩
 ·exact Wk.fail h 22
theorem Q14 (ht:Pc.Toks tk) (hl:tk.length<=1000000) {ex:Ps.F} {g:Pr.G} (hx:Pc.Sim tk ex g) (hex:Knows w0 p b tk dp 114 #[.pointer (some ⟨p,0,none⟩),.int .i64 1] ex)
  {Q:Nat->Prop} {W:World} {s:Ps.St} (hQ:Up Q W) (h:PI Q w0 W p b tk dp s) (hi:Pc.Inv tk s):
  Calls prog 78 #[.pointer (some ⟨p,0,none⟩)] W fun e W'=> e= .returned (.tuple #[])/\PI Q w0 W' p b tk dp (Ps.alone tk ex s).2/\FrT PTs W W':=by
 have H:=h4_ ht hl hx hex;have HB:=h3_ h.below.size hQ trivial;have K0:=h2_ (Q76 h) hi;have c2:=h.c2;have f2:=h.frozen 2;clear ht hl hx hex hQ h hi;go_in;go_wp2_with fail;clear c2 f2;have h:=K0.a.clause true;obtain ⟨W1,hw⟩:∃ r,W.setCell ⟨p,2,none⟩ (.bool true)=r:=⟨_,rfl⟩
 obtain ⟨s1,hs⟩:∃ r:Ps.St,{s with clause:=true}=r:=⟨_,rfl⟩
 have hin:Pc.Inv tk s1:=by rw[<-hs];exact K0.B
 have HS1:Hid (W.heap.size=W1.heap.size):=by rw[<-hw];exact hd_ (by simp[World.setCell])
 rw[hw,hs] at h;rw[hw];have K1:=h2_ h hin;have HX1:=hd_ hs;clear h hw hs hin;refine (H.D _ _ _ (K1.a.up HB.b) K1.a.pi K1.B).mono ?_;rintro e W2 ⟨rfl,h,g⟩;have K2:=h2_ (K1.a.step h g) (H.c.keep K1.B);clear h g;obtain ⟨⟨x2,s2⟩,hx⟩:∃ r,ex s1=r:=⟨_,rfl⟩
 rw[hx] at K2 |-;have HX2:=hd_ hx;clear hx;dsimp only at K2 |-;go_wp2_with fail;refine (ZZ K2.a.pi (Pc.Qg K2.B H.b) 5).mono ?_;rintro e W3 ⟨rfl,h,g⟩;have hw:=Q88 K2.B H.b 5;obtain ⟨⟨x3,s3⟩,hx⟩:∃ r,Ps.kind tk 5 s2=r:=⟨_,rfl⟩
 rw[hx] at h hw |-;have K3:=h2_ (K2.a.step h g) hw;have HX3:=hd_ hx;clear h g hw hx;dsimp only at K3 |-;go_wp2_with fail;have hal:Below W3.heap.size W3 (W3.alloc (.cells (intCells [x2,x3]).toArray 3)):=XU _ _;refine (Xr (K3.a.pi.past hal) K3.B (Xw W3 [x2,x3] rfl) (fun k hk=> by rw[hk, <-Q5];omega) (by simp) ((K3.a.up HB.b).size hal.size) 18).mono ?_;rintro e W4 ⟨rfl,h,g⟩;have H4:=h2_ (h.imp fun k _ hq=> hq.1) (K3.a.fr.trans ((FrT.of hal).trans g));clear h g hal;dsimp only;go_wp2_with fail;refine bodyPost_end (results_none rfl _ _ _) rfl ?_;have e1:Ps.alone tk ex s=Ps.node 18 [x2,x3] s3:=by simp only[Ps.alone,HX1.o,HX2.o,HX3.o]
 rw[e1];exact ⟨rfl,H4.a,H4.B⟩
end
end Go.Proofs.YtiecccakcenobaaGreatDoor
namespace Go.Proofs.YtiecccakcenobaaGreatDoor.Pc
open Tryz
open Tr
def tkOf (t:Lx.Tok):Tk:=⟨t.kind,t.lead,t.text,t.pos⟩
def SoFar (acc:List Lx.Tok) (p:Nat):Prop:=(∀ t∈acc,t.kind≠5)/\acc.Pairwise (fun a b=> a.pos<=b.pos)/\∀ t∈acc,t.pos<=p
theorem SoFar.snoc {acc:List Lx.Tok} {p q:Nat} (h:SoFar acc p) {t:Lx.Tok} (hk:t.kind≠5) (hp:p<=t.pos) (hq:t.pos<=q):SoFar (acc++ [t]) q:=by
 refine ⟨fun x hx=> ?_,?_,fun x hx=> ?_⟩
 ·rcases List.mem_append.1 hx with hx | hx
  ·exact h.1 x hx
  ·rw[List.mem_singleton.1 hx];exact hk
 ·rw[List.pairwise_append];refine ⟨h.2.1,by simp,fun a ha b hb=> ?_⟩;rw[List.mem_singleton.1 hb];exact eE_ (h.2.2 a ha) hp
 ·rcases List.mem_append.1 hx with hx | hx
  ·exact eE_ (h.2.2 x hx) (eE_ hp hq)
  ·rw[List.mem_singleton.1 hx];exact hq
structure LexedTo (ts:List Lx.Tok):Prop where
 ends:∃ (init:List Lx.Tok) (z:Lx.Tok),ts=init++ [z]/\z.kind=5/\z.text= []/\(∀ t∈init,t.kind≠5)
 rising:ts.Pairwise fun a b=> a.pos<=b.pos
theorem Q5z {r:List UInt8} (he:(Lx.token r).2.2=0) (hk:(Lx.token r).1=5):(Lx.token r).2.1= []:=by
 have h:=(Lx.YA r he).2.1 hk;rw[h];rfl
theorem Q2l:∀ (n:Nat) (r:List UInt8) (p:Nat) (acc:List Lx.Tok),r.length < n->(Lx.lexGo n r p acc).2.1=0->SoFar acc p->LexedTo (Lx.lexGo n r p acc).1
 | 0,_,_,_,h,_,_=> absurd h (by omega)
 | n+1,r,p,acc,h,hz,hs=> by
  by_cases he:(Lx.token (r.drop (Lx.between r).length)).2.2=0
  ·have ht:=Lx.YA (r.drop (Lx.between r).length) he;by_cases hk:(Lx.token (r.drop (Lx.between r).length)).1=5
   ·rw[Lx.UJ he hk];refine ⟨⟨acc,_,rfl,hk,Q5z he hk,hs.1⟩,?_⟩;rw[List.pairwise_append];refine ⟨hs.2.1,by simp,fun a ha b hb=> ?_⟩;rw[List.mem_singleton.1 hb];exact eE_ (hs.2.2 a ha) (Nat.le_add_right _ _)
   ·rw[Lx.GY he hk] at hz |-;have h3:=ht.2.2 hk;have h4:=ht.1.length_le;simp only[List.length_drop] at h4;exact Q2l n _ _ _ (by simp only[List.length_drop];omega) hz (hs.snoc hk (Nat.le_add_right _ _) (Nat.le_add_right _ _))
  ·rw[Lx.UI he] at hz;exact absurd hz he
theorem Q77 {l:List UInt8} (h:(Lx.lex l).2.1=0):LexedTo (Lx.lex l).1:=by
 unfold Lx.lex at h |-;split at h
 ·exact absurd h (by simp)
 ·rename_i hs;rw[if_neg hs];exact Q2l _ _ _ _ (by omega) h ⟨fun t ht=> (by cases ht),List.Pairwise.nil,fun t ht=> (by cases ht)⟩
theorem LexedTo.toks {ts:List Lx.Tok} (h:LexedTo ts):Toks (ts.map tkOf):=by
 obtain ⟨init,z,rfl,h1,h2,h3⟩:=h.ends;refine ⟨by simp,fun k hk=> ?_,fun i k hi hk=> ?_⟩
 ·simp only[List.length_map,eC_,List.length_singleton,Nat.add_sub_cancel,List.map_append] at hk;rw[eO_ (by simp)] at hk;simp only[List.length_map,Nat.sub_self,List.map_cons,List.map_nil,eZ_,Option.some.injEq] at hk;subst hk;exact ⟨by simp[tkOf,h1],h2⟩
 ·simp only[List.length_map,eC_,List.length_singleton] at hi;rw[List.map_append,eT_ (by simp;omega),List.getElem?_map] at hk;cases hx:init[i]? with
  | none=> rw[hx] at hk;cases hk
  | some t=>
   rw[hx] at hk;simp only[Option.map_some,Option.some.injEq] at hk;subst hk;have:=h3 t (eP_ hx);simp only[tkOf];omega
end Go.Proofs.YtiecccakcenobaaGreatDoor.Pc
namespace Go.Proofs.YtiecccakcenobaaGreatDoor.Lx
open Tryz
def whole (l:List Tok):List UInt8:=l.flatMap fun t=> t.lead++t.text
theorem Go:∀ (n:Nat) (r:List UInt8) (p:Nat) (acc:List Tok),r.length < n->(lexGo n r p acc).2.1=0->whole (lexGo n r p acc).1=whole acc++r/\acc.length < (lexGo n r p acc).1.length/\(lexGo n r p acc).1.length<=acc.length+r.length+1
 | 0,_,_,_,h,_=> absurd h (by omega)
 | n+1,r,p,acc,h,hz=> by
  have hb:=Q0r r;by_cases he:(token (r.drop (between r).length)).2.2=0
  ·have ht:=YA (r.drop (between r).length) he;by_cases hk:(token (r.drop (between r).length)).1=5
   ·rw[UJ he hk];have h1:=ht.2.1 hk;rw[h1] at hb;have h2:(token (r.drop (between r).length)).2.1= []:=by
     have h3:=ht.1;rw[h1] at h3 |-;exact List.prefix_nil.1 h3
    have hb1:between r=r:=by
     have:=hb.1;rw[hb.2,List.append_nil] at this;exact this
    refine ⟨?_,by simp,by simp⟩;simp only[whole,List.flatMap_append,List.flatMap_cons,List.flatMap_nil,List.append_nil,h2];rw[hb1]
   ·rw[GY he hk] at hz |-;have h3:=ht.2.2 hk;have h4:=ht.1.length_le;simp only[List.length_drop] at h4;have ih:=Go n _ _ _ (by simp only[List.length_drop];omega) hz;obtain ⟨i1,i2,i3⟩:=ih;refine ⟨?_,?_,?_⟩
    ·rw[i1];simp only[whole,List.flatMap_append,List.flatMap_cons,List.flatMap_nil,List.append_nil,eQ_];congr 1;obtain ⟨y,hy⟩:=ht.1;have h5:(token (r.drop (between r).length)).2.1++(r.drop (between r).length).drop (token (r.drop (between r).length)).2.1.length=r.drop (between r).length:=by
      generalize (token (r.drop (between r).length)).2.1=z at hy;rw[<-hy];simp
     rw[h5];have:=hb.1;rw[hb.2] at this;exact this
    ·simp only[eC_,eL_,eU_] at i2;omega
    ·simp only[eC_,eL_,eU_,List.length_drop] at i3;omega
  ·rw[UI he] at hz;exact absurd hz he
theorem Q08 {l:List UInt8} (h:(lex l).2.1=0):whole (lex l).1=l/\0 < (lex l).1.length/\(lex l).1.length<=l.length+1:=by
 unfold lex at h |-;split at h
 ·exact absurd h (by simp)
 ·rename_i hs;rw[if_neg hs];have:=Go (l.length+1) l 0 [] (by omega) h;simpa [whole] using this
end Go.Proofs.YtiecccakcenobaaGreatDoor.Lx
namespace Go.Proofs.YtiecccakcenobaaGreatDoor
open Tryz
variable {a:Act} {fs ts:Array Value} {e:Ex} {Q:Exit->Act->World->Prop} {n:Int} {l txt:List UInt8} {cs:List Value} {B b o0 o1 o2 x0 x1 x2:Nat} {P:Nat->Prop} {o:Oper} {R:Prop} {t:Tr.T} {u u0 u1 u2 v vn vt x y z:Value} {w w' w0 w1 w2:World}
theorem Q3W (l:List Lx.Tok):wholeOf (l.map toTk)=Lx.whole l:=by
 simp only[wholeOf,Lx.whole,List.flatMap_map];rfl
open Go.RowKit
theorem XH {P:Program} {fn:Func} {p q:Tmp} {ty ty2:TypeId} (h:fn.results= #[.cell p ty,.cell q ty2]) (tmps:Array Value) (w:World) (g g2:Nat) (t t2:TypeId) (cs cs2:Array Value) (fr fr2:Nat × Nat) (d d2:TypeDesc)
  (hp:tmps.getD p undef= .pointer (some ⟨g,0,none⟩)) (hq:tmps.getD q undef= .pointer (some ⟨g2,0,none⟩)) (hg:w.heap[g]? =some (.cells cs t fr)) (hg2:w.heap[g2]? =some (.cells cs2 t2 fr2))
  (hu:P.underlying ty=some d) (hd:(match d with | .struct _ | .array _ _=> true | _=> false)=true) (hi:(P.info? ty).map (·.size)=some cs.size)
  (hu2:P.underlying ty2=some d2) (hd2:(match d2 with | .struct _ | .array _ _=> true | _=> false)=true) (hi2:(P.info? ty2).map (·.size)=some cs2.size):
  (results fn tmps).run P w= .ok (.tuple #[.agg cs,.agg cs2]) w:=by
 have hp':tmps[p]?.getD undef= .pointer (some ⟨g,0,none⟩):=by simpa using hp
 have hq':tmps[q]?.getD undef= .pointer (some ⟨g2,0,none⟩):=by simpa using hq
 simp[results,h,hp',hq',asAddr,run_loadVar_row w g t ty cs fr d hg hu hd hi,run_loadVar_row w g2 t2 ty2 cs2 fr2 d2 hg2 hu2 hd2 hi2]
def Ps.read (what:List Tr.Tk->Nat->Ps.St) (l:List UInt8) (dp:Int):Tr.T × Int × Int:=
 if dp < 1\/200 < dp then (⟨[], []⟩,12,0)
 else if (Lx.lex l).2.1≠0 then (⟨[], []⟩,(Lx.lex l).2.1,(Lx.lex l).2.2)
 else if (what ((Lx.lex l).1.map toTk) dp.toNat).e≠0 then (⟨[], []⟩,(what ((Lx.lex l).1.map toTk) dp.toNat).e,(what ((Lx.lex l).1.map toTk) dp.toNat).pos)
 else (⟨(Lx.lex l).1.map toTk,(what ((Lx.lex l).1.map toTk) dp.toNat).nodes⟩,0,0)
def Ps.form (tk:List Tr.Tk) (d:Nat):Ps.St:=(Ps.alone tk (Ps.lv tk d).ex Ps.St.first).2
def Reads (r:Tr.T × Int × Int) (w:World) (e:Ending) (w':World):Prop:=
 ∃ vt vn,e= .returned (.tuple #[.agg #[vt,vn],.agg #[.int .i64 r.2.1,.int .i64 r.2.2]])/\RdT w' (fun k=> w.heap.size<=k/\k < w'.heap.size) vt vn r.1/\Below w.heap.size w w'
theorem Uo (w:World) (P:Nat->Prop):RdT w P (.slice none 0 0) (.slice none 0 0) ⟨[], []⟩:=
 ⟨⟨rfl,none,0,rfl,rl_ _,Or.inl ⟨rfl,rfl⟩⟩, [],rfl,⟨rfl,none,0,rfl,rl_ _,Or.inl ⟨rfl,rfl⟩⟩,fun i n kv h=> by simp at h⟩
theorem Ys (V:World) (o:Obj):Below V.heap.size V (V.alloc o):=(eB_ _ _).alloc (rl_ _) _
theorem Q5A (h:(Lx.lex l).2.1=0):l.length<=65536:=by
 unfold Lx.lex at h;split at h
 ·exact absurd h (by simp)
 ·omega
def WhatDoes (k:FuncId) (what:List Tr.Tk->Nat->Ps.St):Prop:=
 (∀ (tk:List Tr.Tk) (dp:Int) (w0 W:World) (p b:Nat),Pc.Toks tk->tk.length<=1000000->1<=dp->dp<=200->PI (fun _=> True) w0 W p b tk dp Ps.St.first->
  Calls prog k #[.pointer (some ⟨p,0,none⟩)] W fun e W'=> e= .returned (.tuple #[])/\PI (fun _=> True) w0 W' p b tk dp (what tk dp.toNat)/\FrT PTs W W')/\
 ∀ (tk:List Tr.Tk) (d:Nat),Pc.Toks tk->(what tk d).e=0->(what tk d).nodes.length<=3*tk.length/\∀ n∈(what tk d).nodes,n.kids.length<=(what tk d).nodes.length
structure Two (w W:World) (ts:Array Value) (fs:Array Value):Prop where
 t:W.heap[w.heap.size]? =some (.cells ts 90 (0,0))
 f:W.heap[w.heap.size+1]? =some (.cells fs 92 (0,0))
 b:Below w.heap.size w W
theorem Q4E (w:World):Two w ((w.alloc (.cells #[.slice none 0 0,.slice none 0 0] 90)).alloc (.cells #[.int .i64 0,.int .i64 0] 92)) #[.slice none 0 0,.slice none 0 0] #[.int .i64 0,.int .i64 0]:=
 ⟨by rw[eJ_ _ _ _ (by rw[<-Q5];omega)];exact eD_ _ _,heap_alloc2_new _ _ _,((eB_ _ _).alloc (rl_ _) _).alloc (by rw[<-Q5];omega) _⟩
theorem Two.size {w W:World} {ts fs:Array Value} (h:Two w W ts fs):w.heap.size+2<=W.heap.size:=by
 have:=Q4 h.f;omega
theorem Two.past {W W':World} (h:Two w W ts fs) (hb:Below W.heap.size W W'):Two w W' ts fs:=
 ⟨Q7 h.t hb,Q7 h.f hb,h.b.trans (hb.mono h.b.size)⟩
theorem Two.set {W:World} (h:Two w W ts fs) (us gs:Array Value):Two w ((W.setRow w.heap.size us).setRow (w.heap.size+1) gs) us gs:=
 ⟨by rw[Q8 (by omega)];exact Qb h.t,Qb (by rw[Q8 (by omega)];exact h.f),Q9 (Q9 h.b (rl_ _) _) (by omega) _⟩
theorem Two.set1 {W:World} (h:Two w W ts fs) (us:Array Value):Two w (W.setRow w.heap.size us) us fs:=
 ⟨Qb h.t,by rw[Q8 (by omega)];exact h.f,Q9 h.b (rl_ _) _⟩
theorem Two.drew {w W:World} {ts fs:Array Value} (h:Two w W ts fs):Two w W.drew ts fs:=⟨h.t,h.f,h.b.drew⟩
theorem Ye {W:World} (h:Below w.heap.size w W) {b j:Nat} (hb:w.heap.size<=b) (u:Value):Below w.heap.size w (W.setCell ⟨b,j,none⟩ u):=
 h.trans ⟨rfl,rfl,rfl,by simp[World.setCell],fun k hk=> Below.heap_setCell _ _ _ _ (show k≠b by omega)⟩
theorem Two.sets {W:World} (h:Two w W #[x,y] #[z,u]) (a b c d:Value):
  Two w ((((W.setCell ⟨w.heap.size,0,none⟩ a).setCell ⟨w.heap.size,1,none⟩ b).setCell ⟨w.heap.size+1,0,none⟩ c).setCell ⟨w.heap.size+1,1,none⟩ d) #[a,b] #[c,d]:=by
 refine ⟨?_,?_,?_⟩
 ·rw[Below.heap_setCell _ _ _ _ (show w.heap.size≠w.heap.size+1 by omega),Below.heap_setCell _ _ _ _ (show w.heap.size≠w.heap.size+1 by omega)];exact Qx (j:=1) (Qx (j:=0) h.t a) b
 ·have h1:((W.setCell ⟨w.heap.size,0,none⟩ a).setCell ⟨w.heap.size,1,none⟩ b).heap[w.heap.size+1]? =some (.cells #[z,u] 92 (0,0)):=by
   rw[Below.heap_setCell _ _ _ _ (show w.heap.size+1≠w.heap.size by omega),Below.heap_setCell _ _ _ _ (show w.heap.size+1≠w.heap.size by omega)];exact h.f
  exact Qx (j:=1) (Qx (j:=0) h1 c) d
 ·exact Ye (Ye (Ye (Ye h.b (rl_ _) _) (rl_ _) _) (by omega) _) (by omega) _
theorem Two.frt {W W':World} (h:Two w W ts fs) (hf:FrT PTs W W') (hb:Below w.heap.size w W'):Two w W' ts fs:=⟨hf.cells h.t (by decide),hf.cells h.f (by decide),hb⟩
theorem Q2m {W:World} (h:RdT W (fun k=> B<=k/\k < W.heap.size) vt vn t) (hB:w.heap.size+2<=B) (a b c d:Value):
  RdT ((((W.setCell ⟨w.heap.size,0,none⟩ a).setCell ⟨w.heap.size,1,none⟩ b).setCell ⟨w.heap.size+1,0,none⟩ c).setCell ⟨w.heap.size+1,1,none⟩ d)
   (fun k=> w.heap.size<=k/\k < ((((W.setCell ⟨w.heap.size,0,none⟩ a).setCell ⟨w.heap.size,1,none⟩ b).setCell ⟨w.heap.size+1,0,none⟩ c).setCell ⟨w.heap.size+1,1,none⟩ d).heap.size) vt vn t:=by
 have hs:((((W.setCell ⟨w.heap.size,0,none⟩ a).setCell ⟨w.heap.size,1,none⟩ b).setCell ⟨w.heap.size+1,0,none⟩ c).setCell ⟨w.heap.size+1,1,none⟩ d).heap.size=W.heap.size:=by simp[World.setCell]
 rw[hs];refine (h.keep fun k hk=> ?_).imp fun k hk=> ⟨by omega,hk.2⟩;rw[Below.heap_setCell _ _ _ _ (show k≠w.heap.size+1 by omega),Below.heap_setCell _ _ _ _ (show k≠w.heap.size+1 by omega),Below.heap_setCell _ _ _ _ (show k≠w.heap.size by omega),Below.heap_setCell _ _ _ _ (show k≠w.heap.size by omega)]
theorem Jk {W:World} (h:Two w W #[x,y] #[z,u]):
  (W.cell? ⟨w.heap.size,0,none⟩=some x/\W.cell? ⟨w.heap.size,1,none⟩=some y/\W.cell? ⟨w.heap.size+1,0,none⟩=some z/\W.cell? ⟨w.heap.size+1,1,none⟩=some u)/\
  W.frozen? ⟨w.heap.size,0,none⟩=false/\W.frozen? ⟨w.heap.size,1,none⟩=false/\W.frozen? ⟨w.heap.size+1,0,none⟩=false/\W.frozen? ⟨w.heap.size+1,1,none⟩=false:=
 ⟨⟨Q3 h.t 0 rfl,Q3 h.t 1 rfl,Q3 h.f 0 rfl,Q3 h.f 1 rfl⟩,Qp h.t 0,Qp h.t 1,Qp h.f 0,Qp h.f 1⟩
theorem Q2n (hw:WhatDoes 78 Ps.form) (l:List UInt8) (hl:l.length<=1073741824) (dp:Int) (w:World):
  Calls prog 77 #[.string ⟨l.toArray⟩,.int .i64 dp,.func (.func 78) #[] #[]] w (Reads (Ps.read Ps.form l dp) w):=by
 have HW:=hd_ hw;have H0:=hd_ (Q4E w);clear hw;by_cases hr:dp < 1\/200 < dp
 ·have hrd:Ps.read Ps.form l dp=(⟨[], []⟩,12,0):=by unfold Ps.read;rw[if_pos hr]
  rw[hrd];clear hrd;by_cases h1:dp < 1
  ·clear hr;go_in;go_wp2_with (first | (refine Qc rfl 90 _ _ rfl 90 w.heap.size _ _ rfl H0.o.t rfl rfl rfl (by simp[Value.oneCell']) ?_) | (refine Qc rfl 92 _ _ rfl 92 (w.heap.size+1) _ _ rfl (H0.o.set1 _).f rfl rfl rfl (by simp[Value.oneCell']) ?_));refine eG_ (v:=_) (XH rfl _ _ w.heap.size (w.heap.size+1) _ _ _ _ _ _ _ _ rfl rfl (H0.o.set _ _).t (H0.o.set _ _).f underlying90 rfl rfl underlying92 rfl rfl) rfl ?_;exact ⟨_,_,rfl,Uo _ _,(H0.o.set _ _).b⟩
  ·have h2:200 < dp:=(by omega);clear hr;go_in;go_wp2_with (first | (refine Qc rfl 90 _ _ rfl 90 w.heap.size _ _ rfl H0.o.t rfl rfl rfl (by simp[Value.oneCell']) ?_) | (refine Qc rfl 92 _ _ rfl 92 (w.heap.size+1) _ _ rfl (H0.o.set1 _).f rfl rfl rfl (by simp[Value.oneCell']) ?_));refine eG_ (v:=_) (XH rfl _ _ w.heap.size (w.heap.size+1) _ _ _ _ _ _ _ _ rfl rfl (H0.o.set _ _).t (H0.o.set _ _).f underlying90 rfl rfl underlying92 rfl rfl) rfl ?_;exact ⟨_,_,rfl,Uo _ _,(H0.o.set _ _).b⟩
 ·have h1:1<=dp:=by omega
  have h2:dp<=200:=by omega
  have HR:=hd_ hr;clear hr;obtain ⟨V0,hV0⟩:∃ V,(w.alloc (.cells #[.slice none 0 0,.slice none 0 0] 90)).alloc (.cells #[.int .i64 0,.int .i64 0] 92)=V:=⟨_,rfl⟩
  rw[hV0] at H0;have HV0:=hd_ hV0;have HL:=hd_ (LD l hl V0);clear hV0;by_cases hf:(Lx.lex l).2.1=0
  ·have hto:=(Pc.Q77 hf).toks;have hln:((Lx.lex l).1.map toTk).length<=1000000:=by
    have q1:=(Lx.Q08 hf).2.2;have q2:=Q5A hf;rw[List.length_map];omega
   have hrd:Ps.read Ps.form l dp=if (Ps.form ((Lx.lex l).1.map toTk) dp.toNat).e≠0 then ((⟨[], []⟩:Tr.T),(Ps.form ((Lx.lex l).1.map toTk) dp.toNat).e,(Ps.form ((Lx.lex l).1.map toTk) dp.toNat).pos) else ((⟨(Lx.lex l).1.map toTk,(Ps.form ((Lx.lex l).1.map toTk) dp.toNat).nodes⟩:Tr.T),(0:Int),(0:Int)):=by
    unfold Ps.read;rw[if_neg HR.o,if_neg (by simpa using hf)]
   rw[hrd];clear hrd;obtain ⟨⟨ts,fe,fp⟩,hx⟩:∃ r,Lx.lex l=r:=⟨_,rfl⟩
   rw[hx] at hf hto hln |-;dsimp only at hf hto hln |-;obtain ⟨tk,htk⟩:∃ tk,ts.map toTk=tk:=⟨_,rfl⟩
   have htk2:ts.map Pc.tkOf=tk:=htk;rw[htk] at hln |-;rw[htk2] at hto;subst hf;obtain ⟨s,hs⟩:∃ s,Ps.form tk dp.toNat=s:=⟨_,rfl⟩
   rw[hs];by_cases he:s.e=0
   ·rw[if_neg (by simp[he])];have HE:=hd_ he;clear he;have HS:=hd_ hs;have HX:=h2_ hx htk;have HT:=h2_ hto hln;clear hto hln hx htk htk2 hs;go_in;go_wp2_with fail;rw[HV0.o];refine HL.o.mono ?_;rintro e w1 ⟨v,rfl,ho1,hb1⟩;have H1:=hd_ (H0.o.past hb1);rw[JI] at ho1;have hL0:(Lx.lex l).1.length=((Lx.lex l).1.map toTk).length:=(by rw[List.length_map]);rw[hL0,HX.a] at ho1;rw[HX.a];dsimp only at ho1 |-;rw[HX.B] at ho1;have HO1:=hd_ (RdS.own ho1);have HB1:=hd_ hb1;have hal:Below w1.heap.size w1 (w1.alloc (.cells #[.int .i64 0,.int .i64 fp] 92)):=(eB_ _ _).alloc (rl_ _) _;have h2:=H1.o.past hal;clear HL ho1 hb1 hL0;go_wp2_with fail;obtain ⟨V2,hV2⟩:∃ V,w1.alloc (.cells #[.int .i64 0,.int .i64 fp] 92)=V:=⟨_,rfl⟩
    rw[hV2] at h2 hal |-;have H2:=h2_ h2 hal;clear hV2 h2 hal;refine (Q4w (fun _=> True) (w:=w) (HO1.o.keep (Keeps.of H2.B fun k hk=> hk.2.2)) (by have:=HT.B;omega) H2.a.b).mono ?_;rintro e W3 ⟨b,rfl,hA,_,hb3⟩;have H3:=h2_ hA (H2.a.past hb3);clear hA hb3;dsimp only;go_wp2_with fail;have hp4:PI (fun _=> True) w (W3.alloc (.cells #[.pointer (some ⟨b,0,none⟩),.int .i64 dp,.bool false,.int .i64 0,.int .i64 0] 191)) W3.heap.size b tk dp Ps.St.first:=
     ⟨H3.a.past (Ys _ _),eD_ _ _,by have:=H3.B.size;omega⟩
    refine (HW.a tk dp w _ W3.heap.size b HT.a HT.B h1 h2 hp4).mono ?_;rintro e W5 ⟨rfl,h,g⟩;have h25:Two w W5 #[.slice none 0 0,.slice none 0 0] #[.int .i64 0,.int .i64 0]:=(H3.B.past (Ys _ _)).frt g h.below;have hw2:=HW.B tk dp.toNat HT.a;rw[HS.o] at h hw2;have H5:=h3_ h h25 hw2;have HSZ:=hd_ H3.B.size;clear h g h25 hw2 hp4;dsimp only;go_wp2_with fail;refine (Qv H5.a).mono ?_;rintro e W6 ⟨rfl,rfl⟩;rw[eM_ HE.o];have c0:=H5.a.c0;dsimp only;go_wp2_with fail;have hsm:=H5.C HE.o;refine (Q6w H5.a.anc (by show s.nodes.length<=_;have:=hsm.1;have:=HT.B;omega) (by show tk.length<=_;have:=HT.B;omega) (fun n hn=> by have h1:=hsm.2 n hn;have h2:=hsm.1;have h3:=HT.B;omega)).mono ?_;rintro e W7 ⟨vt,vn,rfl,hT,hb7⟩;obtain ⟨a1,c1,rfl⟩:∃ a c,vt= .slice a tk.length c:=hT.1.form;obtain ⟨a2,c2,rfl⟩:∃ a c,vn= .slice a s.nodes.length c:=by
     obtain ⟨kvs,_,h2,_⟩:=hT.2;exact h2.form
    have h27:=H5.b.past hb7;have H7:=h3_ h27 hT hb7.size;obtain ⟨⟨t0,t1,f0,f1⟩,g0,g1,g2,g3⟩:=Jk h27;clear hT hb7 h27 c0 hsm;dsimp only;go_wp2_with fail;have h9:=H7.a.sets (.slice a1 tk.length c1) (.slice a2 s.nodes.length c2) (.int .i64 0) (.int .i64 0);refine eG_ (v:=_) (XH rfl _ _ w.heap.size (w.heap.size+1) _ _ _ _ _ _ _ _ rfl rfl h9.t h9.f underlying90 rfl rfl underlying92 rfl rfl) rfl ?_;refine ⟨_,_,rfl,Q2m H7.b ?_ _ _ _ _,h9.b⟩;have:=H5.b.size;omega
   ·rw[if_pos he];have HE:=hd_ he;clear he;have HS:=hd_ hs;have HX:=h2_ hx htk;have HT:=h2_ hto hln;clear hto hln hx htk htk2 hs;go_in;go_wp2_with fail;rw[HV0.o];refine HL.o.mono ?_;rintro e w1 ⟨v,rfl,ho1,hb1⟩;have H1:=hd_ (H0.o.past hb1);rw[JI] at ho1;have hL0:(Lx.lex l).1.length=((Lx.lex l).1.map toTk).length:=(by rw[List.length_map]);rw[hL0,HX.a] at ho1;rw[HX.a];dsimp only at ho1 |-;rw[HX.B] at ho1;have HO1:=hd_ (RdS.own ho1);have HB1:=hd_ hb1;have hal:Below w1.heap.size w1 (w1.alloc (.cells #[.int .i64 0,.int .i64 fp] 92)):=(eB_ _ _).alloc (rl_ _) _;have h2:=H1.o.past hal;clear HL ho1 hb1 hL0;go_wp2_with fail;obtain ⟨V2,hV2⟩:∃ V,w1.alloc (.cells #[.int .i64 0,.int .i64 fp] 92)=V:=⟨_,rfl⟩
    rw[hV2] at h2 hal |-;have H2:=h2_ h2 hal;clear hV2 h2 hal;refine (Q4w (fun _=> True) (w:=w) (HO1.o.keep (Keeps.of H2.B fun k hk=> hk.2.2)) (by have:=HT.B;omega) H2.a.b).mono ?_;rintro e W3 ⟨b,rfl,hA,_,hb3⟩;have H3:=h2_ hA (H2.a.past hb3);clear hA hb3;dsimp only;go_wp2_with fail;have hp4:PI (fun _=> True) w (W3.alloc (.cells #[.pointer (some ⟨b,0,none⟩),.int .i64 dp,.bool false,.int .i64 0,.int .i64 0] 191)) W3.heap.size b tk dp Ps.St.first:=
     ⟨H3.a.past (Ys _ _),eD_ _ _,by have:=H3.B.size;omega⟩
    refine (HW.a tk dp w _ W3.heap.size b HT.a HT.B h1 h2 hp4).mono ?_;rintro e W5 ⟨rfl,h,g⟩;have h25:Two w W5 #[.slice none 0 0,.slice none 0 0] #[.int .i64 0,.int .i64 0]:=(H3.B.past (Ys _ _)).frt g h.below;have hw2:=HW.B tk dp.toNat HT.a;rw[HS.o] at h hw2;have H5:=h3_ h h25 hw2;have HSZ:=hd_ H3.B.size;clear h g h25 hw2 hp4;dsimp only;go_wp2_with fail;refine (Qv H5.a).mono ?_;rintro e W6 ⟨rfl,rfl⟩;rw[eK_ HE.o];have c3:=H5.a.c3;have c4:=H5.a.c4;obtain ⟨⟨t0,t1,f0,f1⟩,g0,g1,g2,g3⟩:=Jk H5.b;have hsz:=HSZ.o;have q1:¬ w.heap.size=W3.heap.size:=(by omega);have q2:¬ w.heap.size+1=W3.heap.size:=(by omega);have q3:¬ W3.heap.size=w.heap.size:=(by omega);have q4:¬ W3.heap.size=w.heap.size+1:=(by omega);clear hsz;dsimp only;go_wp2_with fail;go_region
    all_goals
     clear t0 t1 f0 f1 g0 g1 g2 g3 c3 c4 q1 q2 q3 q4;go_wp2_with fail;have h9:=(H5.b.sets (.slice none 0 0) (.slice none 0 0) (.int .i64 s.e) (.int .i64 s.pos)).drew;refine eG_ (v:=_) (XH rfl _ _ w.heap.size (w.heap.size+1) _ _ _ _ _ _ _ _ rfl rfl h9.t h9.f underlying90 rfl rfl underlying92 rfl rfl) rfl ?_;exact ⟨_,_,rfl,Uo _ _,h9.b⟩
  ·have hrd:Ps.read Ps.form l dp=((⟨[], []⟩:Tr.T),((Lx.lex l).2.1:Int),((Lx.lex l).2.2:Int)):=(by unfold Ps.read;rw[if_neg HR.o,if_pos hf]);rw[hrd];clear hrd;obtain ⟨⟨ts,fe,fp⟩,hx⟩:∃ r,Lx.lex l=r:=⟨_,rfl⟩
   rw[hx] at hf |-;dsimp only at hf |-;have HX:=hd_ hx;clear hx;go_in;go_wp2_with fail;rw[HV0.o];refine HL.o.mono ?_;rintro e w1 ⟨v,rfl,ho1,hb1⟩;have H1:=hd_ (H0.o.past hb1);rw[HX.o];clear ho1 hb1 HL;dsimp only;have hfe:((fe:Int) !=0)=true:=(by simp[hf]);have hal:Below w1.heap.size w1 (w1.alloc (.cells #[.int .i64 fe,.int .i64 fp] 92)):=(eB_ _ _).alloc (rl_ _) _;have hnb:=eD_ w1 (.cells #[.int .i64 fe,.int .i64 fp] 92);have h2:=H1.o.past hal;go_wp2_with fail;obtain ⟨V2,hV2⟩:∃ V,w1.alloc (.cells #[.int .i64 fe,.int .i64 fp] 92)=V:=⟨_,rfl⟩
   rw[hV2] at hnb h2 |-;have H2:=hd_ h2;obtain ⟨⟨t0,t1,f0,f1⟩,g0,g1,g2,g3⟩:=Jk h2;have n0:=Q3 hnb 0 rfl;have n1:=Q3 hnb 1 rfl;have hsz:=H1.o.size;have q1:¬ w.heap.size=w1.heap.size:=(by omega);have q2:¬ w.heap.size+1=w1.heap.size:=(by omega);have q3:¬ w1.heap.size=w.heap.size:=(by omega);have q4:¬ w1.heap.size=w.heap.size+1:=(by omega);clear hal hnb hV2 h2;go_region
   all_goals
    clear t0 t1 f0 f1 g0 g1 g2 g3 n0 n1 q1 q2 q3 q4 hsz;go_wp2_with fail;have h9:=(H2.o.sets (.slice none 0 0) (.slice none 0 0) (.int .i64 fe) (.int .i64 fp)).drew;refine eG_ (v:=_) (XH rfl _ _ w.heap.size (w.heap.size+1) _ _ _ _ _ _ _ _ rfl rfl h9.t h9.f underlying90 rfl rfl underlying92 rfl rfl) rfl ?_;exact ⟨_,_,rfl,Uo _ _,h9.b⟩
theorem DN (hw:WhatDoes 78 Ps.form) (l:List UInt8) (hl:l.length<=1073741824) (dp:Int) (w:World):
  Calls prog 38 #[.string ⟨l.toArray⟩,.int .i64 dp] w (Reads (Ps.read Ps.form l dp) w):=by
 have H0:=hd_ (Q4E w);obtain ⟨V0,hV0⟩:∃ V,(w.alloc (.cells #[.slice none 0 0,.slice none 0 0] 90)).alloc (.cells #[.int .i64 0,.int .i64 0] 92)=V:=⟨_,rfl⟩
 rw[hV0] at H0;have HV0:=hd_ hV0;have hc:=Q2n hw l hl dp V0;obtain ⟨⟨T,fe,fp⟩,hr⟩:∃ r,Ps.read Ps.form l dp=r:=⟨_,rfl⟩
 rw[hr] at hc |-;have HC:=hd_ hc;clear hw hV0 hc hr;go_in;go_wp2_with fail;rw[HV0.o];refine HC.o.mono ?_;rintro e w1 ⟨vt,vn,rfl,hT,hb⟩;obtain ⟨a1,c1,rfl⟩:∃ a c,vt= .slice a T.toks.length c:=hT.1.form;obtain ⟨a2,c2,rfl⟩:∃ a c,vn= .slice a T.nodes.length c:=by
  obtain ⟨kvs,_,h2,_⟩:=hT.2;exact h2.form
 have h1:=H0.o.past hb;have H1:=h2_ h1 hT;obtain ⟨⟨t0,t1,f0,f1⟩,g0,g1,g2,g3⟩:=Jk h1;clear hT hb h1;dsimp only;go_wp2_with fail;have h9:=H1.a.sets (.slice a1 T.toks.length c1) (.slice a2 T.nodes.length c2) (.int .i64 fe) (.int .i64 fp);refine eG_ (v:=_) (XH rfl _ _ w.heap.size (w.heap.size+1) _ _ _ _ _ _ _ _ rfl rfl h9.t h9.f underlying90 rfl rfl underlying92 rfl rfl) rfl ?_;exact ⟨_,_,rfl,Q2m H1.B H0.o.size _ _ _ _,h9.b⟩
theorem DO:WhatDoes 78 Ps.form:=by
 refine ⟨fun tk dp w0 W p b ht hl h1 h2 h=> ?_,fun tk d ht he=> ?_⟩
 ·have hk:=Q07 (w0:=w0) (p:=p) (b:=b) ht hl h2 dp.toNat 1 (by omega) (by omega);exact Q14 ht hl (Pc.Q0W ht dp.toNat).ex hk.ex (fun _ _=> trivial) h (Pc.Q05 ht).1
 ·exact (Pc.Q3T ht d).small he
theorem JA (l:List UInt8) (hl:l.length<=1073741824) (dp:Int) (w:World):
  Calls prog 38 #[.string ⟨l.toArray⟩,.int .i64 dp] w (Reads (Ps.read Ps.form l dp) w):=DN DO l hl dp w
inductive RdE (w:World) (P:Nat->Prop):Ex->List Value->Prop where
 | mk {op:Int} {name mod:List UInt8} {num:Int} {yes:Bool} {kids:List Ex} {pos:Int} {s v:Value} (css:List (List Value)) (hs:RdU w s (wd num)) (hl:css.length=kids.length)
   (hc:∀ c∈css,c.length=8) (hv:RdS w P 8 v kids.length css.flatten) (hk:∀ (i:Nat) (k:Ex) (c:List Value),kids[i]? =some k->css[i]? =some c->RdE w P k c):
   RdE w P (.mk op name mod num yes kids pos) [.int .i64 op,.string ⟨name.toArray⟩,.string ⟨mod.toArray⟩,.bool (decide (num < 0)),s,.bool yes,v,.int .i64 pos]
theorem RdE.keep {w w':World} {P:Nat->Prop} {e:Ex} {cs:List Value} (h:RdE w P e cs) (hk:Keeps P w w') (hf:FrT [30] w w'):RdE w' P e cs:=by
 induction h with
 | mk css hs hl hc hv _ ih=> exact .mk css (RdB.frt hs hf (by decide)) hl hc (hv.keep hk) ih
theorem RdE.imp {w:World} {P Q:Nat->Prop} {e:Ex} {cs:List Value} (h:RdE w P e cs) (hq:∀ k,P k->Q k):RdE w Q e cs:=by
 induction h with
 | mk css hs hl hc hv _ ih=> exact .mk css hs hl hc (hv.imp hq) ih
theorem RdE.len (h:RdE w P e cs):cs.length=8:=by cases h;rfl
theorem RdE.ones (h:RdE w P e cs):∀ u∈cs,u.oneCell'=true:=by
 cases h with
 | mk css hs hl hc hv hk=>
  obtain ⟨a,c,rfl⟩:=RdS.form hs;obtain ⟨a2,c2,rfl⟩:=hv.form;simp[Value.oneCell']
theorem RdE.form {w:World} {P:Nat->Prop} {e:Ex} {cs:List Value} (h:RdE w P e cs):∃ aw cw ak ck,cs= [.int .i64 e.op,.string ⟨e.name.toArray⟩,.string ⟨e.mod.toArray⟩,.bool (decide (e.num < 0)),.slice aw (wd e.num).length cw,.bool e.yes,.slice ak e.kids.length ck,.int .i64 e.pos]:=by
 cases h with
 | mk css hs hl hc hv hk=>
  obtain ⟨a,c,rfl⟩:=RdS.form hs;obtain ⟨a2,c2,rfl⟩:=hv.form;exact ⟨a,c,a2,c2,rfl⟩
def ExV (w:World) (P:Nat->Prop) (v:Value) (e:Ex):Prop:=∃ cs,v= .agg cs.toArray/\RdE w P e cs
theorem ExV.imp {w:World} {P Q:Nat->Prop} {v:Value} {e:Ex} (h:ExV w P v e) (hq:∀ k,P k->Q k):ExV w Q v e:=by
 obtain ⟨cs,h1,h2⟩:=h;exact ⟨cs,h1,h2.imp hq⟩
def New (w w':World) (k:Nat):Prop:=w.heap.size<=k/\k < w'.heap.size
def ExOut (w:World) (x:Ex) (e:Ending) (w':World):Prop:=∃ v,e= .returned v/\ExV w' (New w w') v x/\Below w.heap.size w w'
theorem X8:(prog.info? 30).map (·.size)=some 8:=by kernel_rfl
theorem J1 {op:Int} {name mod:List UInt8} {num:Int} {yes:Bool} {pos:Int} {s:Value} (hs:RdU w s (wd num)):
  RdE w P (.mk op name mod num yes [] pos) [.int .i64 op,.string ⟨name.toArray⟩,.string ⟨mod.toArray⟩,.bool (decide (num < 0)),s,.bool yes,.slice none 0 0,.int .i64 pos]:=
 .mk [] hs rfl (fun c hc=> by cases hc) (RdS.nil _ _ _) (fun i k c h _=> by simp at h)
theorem Q4F:wd 0= []:=Zp.QG B32
theorem J2 (w:World):RdU w (.slice none 0 0) (wd 0):=by
 rw[Q4F];exact RdS.nil _ _ _
structure TrR (w:World) (P:Nat->Prop) (vt vn:Value) (t:Tr.T):Prop where
 rd:RdT w P vt vn t
 low:∀ k,P k->k < w.heap.size
 nodes:t.nodes.length<=1000000
 toks:t.toks.length<=1000000
 kids:∀ n∈t.nodes,n.kids.length<=1000000
theorem TrR.below (h:TrR w P vt vn t) (hb:Below w.heap.size w w'):TrR w' P vt vn t:=
 ⟨h.rd.keep (Keeps.of hb h.low),fun k hk=> eI_ (h.low k hk) hb.size,h.nodes,h.toks,h.kids⟩
theorem TrR.form {w:World} {P:Nat->Prop} {vt vn:Value} {t:Tr.T} (h:TrR w P vt vn t):∃ at_ ct an cn,vt= .slice at_ t.toks.length ct/\vn= .slice an t.nodes.length cn:=by
 obtain ⟨a,c,e⟩:=h.rd.1.form;obtain ⟨kvs,_,h2,_⟩:=h.rd.2;obtain ⟨a2,c2,e2⟩:=h2.form;exact ⟨a,c,a2,c2,e,e2⟩
theorem TrR.node {w:World} {P:Nat->Prop} {vt:Value} {an:Option Addr} {nn cn:Nat} {t:Tr.T} (h:TrR w P vt (.slice an nn cn) t) {n:Int} {x:Tr.Nd} (hx:Ax.nd t n=some x):
  ∃ (i b off:Nat) (ak:Option Addr) (ck:Nat),n=(i:Int)/\i < t.nodes.length/\an=some ⟨b,off,none⟩/\w.cell? ⟨b,off+i*3,none⟩=some (.int .i64 x.kind)/\w.cell? ⟨b,off+i*3+1,none⟩=some (.int .i64 x.tok)/\w.cell? ⟨b,off+i*3+2,none⟩=some (.slice ak x.kids.length ck)/\x.kids.length<=1000000/\
   ∀ (j:Nat) (k:Int),x.kids[j]? =some k->∃ b2 o2,ak=some ⟨b2,o2,none⟩/\w.cell? ⟨b2,o2+j,none⟩=some (.int .i64 k):=by
 unfold Ax.nd at hx;split at hx
 ·cases hx
 ·rename_i hn;obtain ⟨b,off,c,kv,e,hb,hr,hk⟩:=h.rd.2.node hx;injection e with e1 e2 e3;obtain ⟨ak,ck,rfl⟩:=hk.form;have hi:=(List.getElem?_eq_some_iff.1 hx).1;refine ⟨n.toNat,b,off,ak,ck,by omega,hi,e1,hr 0 _ rfl,hr 1 _ rfl,hr 2 _ rfl,h.kids x (eP_ hx),fun j k hj=> ?_⟩;obtain ⟨_,a2,c2,e,_,h2⟩:=hk;injection e with e1 _ _;subst e1;have hj2:=(List.getElem?_eq_some_iff.1 hj).1;rcases h2 with ⟨h2,_⟩ | ⟨b2,o2,rfl,_,h2⟩
  ·omega
  ·exact ⟨b2,o2,rfl,h2 j _ (by simp[intCells,hj])⟩
theorem TrR.tok {at_:Option Addr} {nt ct:Nat} (h:TrR w P (.slice at_ nt ct) vn t) {j:Nat} {k:Tr.Tk} (hk:t.toks[j]? =some k):
  ∃ b off,at_=some ⟨b,off,none⟩/\j < t.toks.length/\w.cell? ⟨b,off+j*4,none⟩=some (.int .i64 k.kind)/\w.cell? ⟨b,off+j*4+1,none⟩=some (.string ⟨k.lead.toArray⟩)/\w.cell? ⟨b,off+j*4+2,none⟩=some (.string ⟨k.text.toArray⟩)/\w.cell? ⟨b,off+j*4+3,none⟩=some (.int .i64 k.pos):=by
 obtain ⟨_,a,c,e,_,h2⟩:=h.rd.1;injection e with e1 _ _;subst e1;have hj:=(List.getElem?_eq_some_iff.1 hk).1;rcases h2 with ⟨_,h2⟩ | ⟨b,off,rfl,_,h2⟩
 ·omega
 ·have h3:=QV (f:=tkCells) (s:=4) (fun _=> rfl) h2 hk;exact ⟨b,off,rfl,hj,h3 0 _ rfl,h3 1 _ rfl,h3 2 _ rfl,h3 3 _ rfl⟩
theorem Q8s {k:Tr.Tk} (h:Ax.tk t n=some k):∃ x j,Ax.nd t n=some x/\x.tok=((j:Nat):Int)/\t.toks[j]? =some k:=by
 unfold Ax.tk at h;split at h
 ·cases h
 ·rename_i x hx;split at h
  ·cases h
  ·exact ⟨x,x.tok.toNat,hx,by omega,h⟩
theorem Q2o:(prog.info? 197).map (·.size)=some 4:=by kernel_rfl
theorem Yt (h:TrR w P vt vn t) {n:Int} {k:Tr.Tk} (hk:Ax.tk t n=some k):
  Calls prog 119 #[.agg #[vt,vn],.int .i64 n] w fun e w'=> e= .returned (.agg #[.int .i64 k.kind,.string ⟨k.lead.toArray⟩,.string ⟨k.text.toArray⟩,.int .i64 k.pos])/\Below w.heap.size w w':=by
 obtain ⟨at_,ct,an,cn,rfl,rfl⟩:=h.form;obtain ⟨x,j,hx,hj,hkj⟩:=Q8s hk;have hb2:=(box2 w #[.slice at_ t.toks.length ct,.slice an t.nodes.length cn] 154 #[.int .i64 0,.string ⟨#[]⟩,.string ⟨#[]⟩,.int .i64 0] 197)
 obtain ⟨i,b,off,ak,ck,rfl,hi,rfl,c0,c1,c2,hkl,hkk⟩:=(h.below hb2.2.2).node hx;obtain ⟨bt,ot,rfl,hjl,k0,k1,k2,k3⟩:=(h.below hb2.2.2).tok hkj;rw[hj] at c1;have hi2:(i:Int) < (t.nodes.length:Int):=by omega
 have hj2:(j:Int) < (t.toks.length:Int):=by omega
 have hn2:(t.nodes.length:Int)<=1000000:=by have:=h.nodes;omega
 have ht2:(t.toks.length:Int)<=1000000:=by have:=h.toks;omega
 have a0:=Q3 hb2.1 0 rfl;have a1:=Q3 hb2.1 1 rfl;have r0:=Q3 hb2.2.1 0 rfl;have r1:=Q3 hb2.2.1 1 rfl;have r2:=Q3 hb2.2.1 2 rfl;have r3:=Q3 hb2.2.1 3 rfl;have z0:=Q6 hb2.2.1 0;have z1:=Q6 hb2.2.1 1;have z2:=Q6 hb2.2.1 2;have z3:=Q6 hb2.2.1 3;have HB:=hd_ hb2;clear h hk hx hj hkj hb2 hkl hkk hi hjl;go_in;go_wp2_with fail;go_region;go_wp2_with fail;have hb3:=(box2 w #[.slice (some ⟨bt,ot,none⟩) t.toks.length ct,.slice (some ⟨b,off,none⟩) t.nodes.length cn] 154 #[.int .i64 k.kind,.string ⟨k.lead.toArray⟩,.string ⟨k.text.toArray⟩,.int .i64 k.pos] 197)
 refine eG_ (eY_ rfl _ _ (w.heap.size+1) _ _ _ _ rfl hb3.2.1 underlying197 rfl Q2o) rfl ?_;exact ⟨rfl,hb3.2.2.drew⟩
theorem Q3X (k:Int) (l t:ByteArray) (q:Int) (w:World):(Instr.field 197 (.agg #[.int .i64 k,.string l,.string t,.int .i64 q]) 2).run prog w= .ok (.string t) w:=by kernel_rfl
theorem Uq (h:TrR w P vt vn t) {n:Int} {k:Tr.Tk} (hk:Ax.tk t n=some k):
  Calls prog 123 #[.agg #[vt,vn],.int .i64 n] w fun e w'=> e= .returned (.string ⟨k.text.toArray⟩)/\Below w.heap.size w w':=by
 obtain ⟨at_,ct,an,cn,rfl,rfl⟩:=h.form;have HH:=h2_ h hk;clear h hk;go_in;go_wp2_with fail;have hb:=box1 w #[.slice at_ t.toks.length ct,.slice an t.nodes.length cn] 154;refine (Yt (HH.a.below hb.2) HH.B).mono ?_;rintro e w2 ⟨rfl,hb2⟩;have HB:=hd_ (hb.2.trans (hb2.mono hb.2.size));clear hb hb2;dsimp only;have t2:=Q3X k.kind ⟨k.lead.toArray⟩ ⟨k.text.toArray⟩ k.pos w2;go_wp2_with fail;go_ret;exact ⟨rfl,HB.o⟩
def PtRel (w V:World) (t:Tr.T) (kids:List Int) (ks:List Int) (k:Nat) (v5 v16:Value) (wr:World):Prop:=
 ∃ (i:Nat) (done rest:List Int) (a:Option Addr) (c:Nat),v5= .slice a done.length c/\v16= .int .i64 (i:Int)/\k=kids.length - i/\i<=kids.length/\done.length<=i/\Ax.partsGo t (kids.drop i)=some rest/\done++rest=ks/\
  wr.ownsRow V.heap.size 3 1 (.slice a done.length c) done.length (intCells done)/\Below V.heap.size V wr
theorem Q15 (h:TrR w P vt vn t) {n:Int} {ks:List Int} (hk:Ax.parts t n=some ks):
  Calls prog 158 #[.agg #[vt,vn],.int .i64 n] w fun e w'=> ∃ v,e= .returned v/\w'.ownsRow w.heap.size 3 1 v ks.length (intCells ks)/\Below w.heap.size w w':=by
 obtain ⟨at_,ct,an,cn,rfl,rfl⟩:=h.form;obtain ⟨x,hx,hpg⟩:∃ x,Ax.nd t n=some x/\Ax.partsGo t x.kids=some ks:=by
  unfold Ax.parts at hk;split at hk
  ·cases hk
  ·exact ⟨_,by assumption,hk⟩
 have hn2:(t.nodes.length:Int)<=1000000:=by have:=h.nodes;omega
 have hb1:=box1 w #[.slice at_ t.toks.length ct,.slice an t.nodes.length cn] 154;obtain ⟨i,b,off,ak,ck,rfl,hi,rfl,c0,c1,c2,hkl,hkk⟩:=(h.below hb1.2).node hx;have hi2:(i:Int) < (t.nodes.length:Int):=by omega
 have hkl2:(x.kids.length:Int)<=1000000:=by omega
 have a0:=Q3 hb1.1 0 rfl;have a1:=Q3 hb1.1 1 rfl;have HH:=h6_ h hx hpg hb1 hkk hkl;clear h hk hx hpg hb1 hkk hkl;go_in;go_wp2_with fail;obtain ⟨V,hV⟩:∃ V,w.alloc (.cells #[.slice at_ t.toks.length ct,.slice (some ⟨b,off,none⟩) t.nodes.length cn] 154)=V:=⟨_,rfl⟩
 rw[hV] at HH a0 a1 c0 c1 c2 |-;clear hV;go_loopg [5,16] x.kids.length (fun k v5 v16 wr=> PtRel w V t x.kids ks k v5 v16 wr)
 case atStart=> exact ⟨0, [],ks,none,0,rfl,rfl,rfl,eV_ _,eV_ _,HH.c,rfl,World.ownsRow_nil _ _ _ _,eB_ _ _⟩
 case round=>
  obtain ⟨j,done,rest,ad,cd,rfl,rfl,hm,hj,hdl,hpg,hdr,hown,hb⟩:=hrel;have hwr:Below w.heap.size w wr:=HH.d.2.trans (hb.mono HH.d.2.size);have hbox:=(hb.block _ (Q4 HH.d.1)).trans HH.d.1;clear a0 a1 c0 c1 c2;have a0:=Q3 hbox 0 rfl;have a1:=Q3 hbox 1 rfl;have HR:=h7_ hm hpg hdr hown hb hwr hdl;clear hm hdr hown hb hbox hdl;by_cases hlt:j < x.kids.length
  ·have hlt2:(j:Int) < (x.kids.length:Int):=(by omega);obtain ⟨k,hkj⟩:∃ k,x.kids[j]? =some k:=⟨_,eA_ hlt⟩
   obtain ⟨b2,o2,e1,q0⟩:=HH.e j k hkj;subst e1;have q1:=(HR.e.cell (Qd q0)).trans q0;clear q0;have hdrop:x.kids.drop j=k::x.kids.drop (j+1):=(by rw[List.drop_eq_getElem_cons hlt,(List.getElem?_eq_some_iff.1 hkj).2]);rw[hdrop] at hpg;obtain ⟨y,l,hy,hl,hrest⟩:∃ y l,Ax.nd t k=some y/\Ax.partsGo t (x.kids.drop (j+1))=some l/\rest=(if y.kind=19 then l else k::l):=by
    rw[Ax.partsGo] at hpg;split at hpg
    ·cases hpg
    ·split at hpg
     ·cases hpg
     ·injection hpg with hpg;exact ⟨_,_,by assumption,by assumption,hpg.symm⟩
   obtain ⟨i2,b3,off3,ak3,ck3,hk2,hi3,e3,d0,d1,d2,_,_⟩:=(HH.a.below hwr).node hy;injection e3 with e3;injection e3 with e3 e4;subst e3 e4 hk2;have hi4:(i2:Int) < (t.nodes.length:Int):=(by omega);have HY:=h2_ hl hrest;have hdn:(done.length:Int)<=1000000:=(by have:=HR.G;omega);clear hpg hkj hdrop hy hl hrest hlt hwr hi3;by_cases hkd:y.kind=19
   ·have hkd2:(y.kind !=19)=false:=(by rw[hkd];rfl);have HK:=hd_ hkd;clear hkd;go_wp2_with fail;go_roundg (x.kids.length - (j+1))
    case measure=> have:=HR.a;omega
    case rel=> exact ⟨j+1,done,_,_,_,rfl,by go_num,rfl,by omega,by have:=HR.G;omega,HY.a,by rw[<-HR.c,HY.B,if_pos HK.o],HR.d,HR.e⟩
   ·have hkd2:(y.kind !=19)=true:=bne_iff_ne.2 hkd;have HK:=hd_ hkd;clear hkd;go_wp2_with (refine app1 rfl _ _ XN rfl rfl HR.d (rl_ _) HR.e.size HR.e _ rfl rfl rfl (by omega) ?_;rintro a2 c2' w2 ho2 hb2 -;have HA:=h2_ ho2 hb2;clear ho2 hb2);go_roundg (x.kids.length - (j+1))
    case measure=> have:=HR.a;omega
    case rel=>
     refine ⟨j+1,done++ [(i2:Int)],_,_,_,by rw[eC_];rfl,by go_num,rfl,by omega,by have:=HR.G;rw[eC_];simp;omega,HY.a,by rw[<-HR.c,HY.B,if_neg HK.o,eQ_];rfl,?_,HA.B⟩;have h5:=HA.a;rw[eC_];simpa [intCells] using h5
  ·obtain rfl:x.kids.length=j:=(by omega);rw[List.drop_length,Ax.partsGo] at hpg;injection hpg with hpg;have hd:done=ks:=(by rw[<-HR.c, <-hpg,List.append_nil]);subst hd;clear hpg hlt hwr;go_wp2_with fail;go_ret;exact ⟨_,rfl,Zw HR.d HH.d.2.size,HR.f⟩
def KnowsE (w0:World) (vt vn:Value) (f:Int->Option Ex):Prop:=∀ W,Below w0.heap.size w0 W->∀ n x,f n=some x->Calls prog 80 #[.agg #[vt,vn],.int .i64 n] W (ExOut W x)
theorem KnowsE.past {f:Int->Option Ex} (h:KnowsE w0 vt vn f) (hb:Below w0.heap.size w0 w):KnowsE w vt vn f:=fun W hW n x hx=> h W (hb.trans (hW.mono hb.size)) n x hx
theorem Q89:(prog.info? 30).map (fun i=> (i.zero,i.size,i.bytes))=some (some (.agg #[.int .i64 0,.string ⟨#[]⟩,.string ⟨#[]⟩,.bool false,.slice none 0 0,.bool false,.slice none 0 0,.int .i64 0]),8,112):=by kernel_rfl
theorem Gy {P:Program} {K:Act->World->Prop} (s x:Operand) (t:TypeId)
  (ho:o.op= .call {callee:= .builtin .append,args:= #[s,x],argTypes:= #[t,t]})
  (base:Nat) (e:TypeId) (i:TypeInfo) (z:Value) (size bytes:Nat) (ht:P.underlying t=some (.slice e)) (hi:P.info? e=some i) (hz:i.zero=some z)
  (hsize:i.size=size) (hby:i.bytes=bytes) (hzs:z.cells.size=size) (hsz:0 < size)
  (v:Value) (n:Nat) (xs:List Value) (hs:a.eval s=v) (hown:w.ownsRow base e size v n xs) {R:Nat->Prop} {xv:Value} {m:Nat} {news:List Value} (hxv:a.eval x=xv) (hx:RdS w R size xv m news) (h1:∀ u∈news,u.oneCell'=true)
  (h63:n+m<=maxLen) (hbytes:(n+m)*bytes<=140737488355328) (hbase:base<=w.heap.size)
  (h:∀ a2 cap w',w'.ownsRow base e size (.slice a2 (n+m) cap) (n+m) (xs++news)->w.grownBy w' v.ownBlock->(∀ k,(Value.slice a2 (n+m) cap).ownBlock=some k->v.ownBlock=some k\/k=w.heap.size)->K (a.put o.dst (.slice a2 (n+m) cap)) w'):
  Oper.wp P o a w K Q:=by
 obtain ⟨a2,cap,w',hr,h2,h3,h4⟩:=YE (P:=P) w t o.type base e i z size bytes ht hi hz hsize hby hzs hsz v n xs hown hx h1 h63 hbytes hbase;unfold Oper.wp execOp;simp only[ho,resolve,invoke,builtin,Sem.run_bind,Sem.run_pure,Result.andThen_ok,List.map_toArray,List.map_cons,List.map_nil,hs,hxv,hr];exact h a2 cap w' h2 h3 h4
theorem Gp {t:Tr.T}:∀ {l ks:List Int},Ax.partsGo t l=some ks->ks.length<=l.length
 | [],ks,h=> by
  rw[Ax.partsGo] at h;injection h with h;rw[<-h];exact rl_ _
 | k::r,ks,h=> by
  rw[Ax.partsGo] at h;split at h
  ·cases h
  ·split at h
   ·cases h
   ·rename_i l hl;injection h with h;have h2:=Gp hl;rw[<-h];split <;> simp only[eL_] <;> omega
theorem Q78 {x:Tr.Nd} (h:Ax.nd t n=some x):x∈t.nodes:=by
 unfold Ax.nd at h;split at h
 ·cases h
 ·exact eP_ h
def OffW (B:Nat) (W:World) (v:Value) (k:Nat):Prop:=B<=k/\k < W.heap.size/\v.ownBlock≠some k
def zeroEx:Array Value:= #[.int .i64 0,.string ⟨#[]⟩,.string ⟨#[]⟩,.bool false,.slice none 0 0,.bool false,.slice none 0 0,.int .i64 0]
structure MdI (w:World) (B:Nat) (vt vn pv:Value) (op pos:Int) (ks:List Int) (f:Int->Option Ex) (es:List Ex) (i:Nat) (a:Option Addr) (c:Nat) (done rest:List Ex) (css:List (List Value)) (wr:World):Prop where
 left:Ax.exprs f (ks.drop i)=some rest
 app:done++rest=es
 dlen:done.length=i
 clen:css.length=i
 c8:∀ c∈css,c.length=8
 own:wr.ownsRow B 30 8 (.slice a i c) i css.flatten
 g9:wr.heap[w.heap.size+2]? =some (.cells #[.int .i64 op,.string ⟨#[]⟩,.string ⟨#[]⟩,.bool false,.slice none 0 0,.bool false,.slice a i c,.int .i64 pos] 30 (0,0))
 rds:∀ (j:Nat) (k:Ex) (cs:List Value),done[j]? =some k->css[j]? =some cs->RdE wr (OffW B wr (.slice a i c)) k cs
 box:wr.heap[w.heap.size]? =some (.cells #[vt,vn] 154 (0,0))
 res:wr.heap[w.heap.size+1]? =some (.cells zeroEx 30 (0,0))
 parts:wr.ownsRow B 3 1 pv ks.length (intCells ks)
 below:Below w.heap.size w wr
 size:B<=wr.heap.size
def MdeRel (w:World) (B:Nat) (vt vn pv:Value) (op pos:Int) (ks:List Int) (f:Int->Option Ex) (es:List Ex) (gk:Nat) (v19:Value) (wr:World):Prop:=
 ∃ (i:Nat) (a:Option Addr) (c:Nat) (done rest:List Ex) (css:List (List Value)),v19= .int .i64 (i:Int)/\gk=ks.length - i/\i<=ks.length/\MdI w B vt vn pv op pos ks f es i a c done rest css wr
theorem Q3Y {base n:Nat} {a:Option Addr} {c:Nat} {l:List Int} (h:w.ownsRow base 3 1 (.slice a n c) n (intCells l)) {j:Nat} {k:Int} (hk:l[j]? =some k):∃ b,a=some ⟨b,0,none⟩/\base<=b/\w.cell? ⟨b,j,none⟩=some (.int .i64 k):=by
 obtain ⟨hl,⟨e,h0⟩ | ⟨g,cap,cur,e,hg,hh,_,_,_,ht⟩⟩:=h
 ·have:j < l.length:=(List.getElem?_eq_some_iff.1 hk).1;simp[intCells] at hl;omega
 ·injection e with e1 _ _;subst e1;refine ⟨g,rfl,hg,Q3 hh j ?_⟩;have h2:(intCells l)[j]? =some (.int .i64 k):=by simp[intCells,hk]
  rw[<-ht,List.getElem?_take] at h2;split at h2
  ·simpa using h2
  ·cases h2
theorem XI (h:TrR w P vt vn t) {f:Int->Option Ex} (hf:KnowsE w vt vn f) {op pos n:Int} {es:List Ex} (hm:Ax.made f t op pos n=some es):
  Calls prog 122 #[.agg #[vt,vn],.int .i64 op,.int .i64 pos,.int .i64 n] w (ExOut w (.mk op [] [] 0 false es pos)):=by
 obtain ⟨at_,ct,an,cn,rfl,rfl⟩:=h.form;obtain ⟨ks,hks,hes⟩:∃ ks,Ax.parts t n=some ks/\Ax.exprs f ks=some es:=by
  unfold Ax.made at hm;split at hm
  ·cases hm
  ·exact ⟨_,by assumption,hm⟩
 have hkl:ks.length<=1000000:=by
  have h1:=hks;unfold Ax.parts at h1;split at h1
  ·cases h1
  ·rename_i x hx;exact eE_ (Gp h1) (h.kids x (Q78 hx))
 have HH:=h5_ h hf hks hes hkl;have hkl2:(ks.length:Int)<=1000000:=by omega
 clear h hf hm hks hes hkl;go_in;go_wp2_with fail;obtain ⟨V,hV⟩:∃ V,((w.alloc (.cells #[.slice at_ t.toks.length ct,.slice an t.nodes.length cn] 154)).alloc (.cells #[.int .i64 0,.string ⟨#[]⟩,.string ⟨#[]⟩,.bool false,.slice none 0 0,.bool false,.slice none 0 0,.int .i64 0] 30)).alloc (.cells #[.int .i64 op,.string ⟨#[]⟩,.string ⟨#[]⟩,.bool false,.slice none 0 0,.bool false,.slice none 0 0,.int .i64 pos] 30)=V:=⟨_,rfl⟩
 have hbx:=box3 w #[.slice at_ t.toks.length ct,.slice an t.nodes.length cn] 154 #[.int .i64 0,.string ⟨#[]⟩,.string ⟨#[]⟩,.bool false,.slice none 0 0,.bool false,.slice none 0 0,.int .i64 0] 30 #[.int .i64 op,.string ⟨#[]⟩,.string ⟨#[]⟩,.bool false,.slice none 0 0,.bool false,.slice none 0 0,.int .i64 pos] 30;rw[hV] at hbx |-;have HV:=hd_ hbx;clear hbx hV;go_wp2_with fail;refine (Q15 (HH.a.below HV.D) HH.c).mono ?_;rintro e w1 ⟨pv,rfl,hown,hb⟩;obtain ⟨ap,cp,rfl⟩:=Qj hown;have H1:=h2_ hown hb;clear hown hb;dsimp only;go_wp2_with fail;go_loopg [19] ks.length (fun k v19 wr=> MdeRel w V.heap.size (.slice at_ t.toks.length ct) (.slice an t.nodes.length cn) (.slice ap ks.length cp) op pos ks f es k v19 wr)
 case atStart=>
  exact ⟨0,none,0, [],es, [],rfl,rfl,eV_ _,HH.d,rfl,rfl,rfl,fun c hc=> (by cases hc),World.ownsRow_nil _ _ _ _,(H1.B.block _ (Q4 HV.c)).trans HV.c,fun j k cs h _=> (by simp at h),(H1.B.block _ (Q4 HV.a)).trans HV.a,(H1.B.block _ (Q4 HV.b)).trans HV.b,H1.a,HV.D.trans (H1.B.mono HV.D.size),H1.B.size⟩
 case round=>
  obtain ⟨i,a,c,done,rest,css,rfl,hk,hi,hI⟩:=hrel;have HR:=h2_ hk hI;have b0:=Q3 hI.box 0 rfl;have b1:=Q3 hI.box 1 rfl;have g6:=Q3 hI.g9 6 rfl;clear hk;by_cases hlt:i < ks.length
  ·have hlt2:(i:Int) < (ks.length:Int):=(by omega);obtain ⟨k,hki⟩:∃ k,ks[i]? =some k:=⟨_,eA_ hlt⟩
   obtain ⟨bp,e1,hbp,q0⟩:=Q3Y hI.parts hki;subst e1;obtain ⟨x,l,hx,hl,hrest⟩:∃ x l,f k=some x/\Ax.exprs f (ks.drop (i+1))=some l/\rest=x::l:=by
    have h1:=hI.left;rw[List.drop_eq_getElem_cons hlt,(List.getElem?_eq_some_iff.1 hki).2,Ax.exprs] at h1;split at h1
    ·cases h1
    ·split at h1
     ·cases h1
     ·injection h1 with h1;exact ⟨_,_,by assumption,by assumption,h1.symm⟩
   have HX:=h3_ hx hl hrest;clear hx hl hrest hki hlt hI;go_wp2_with fail;have c0:=b0;have c1:=b1;have c6:=g6;refine XP (S:=fun w'=> w'.cell? ⟨w.heap.size,0,none⟩=some (.slice at_ t.toks.length ct)/\w'.cell? ⟨w.heap.size,1,none⟩=some (.slice an t.nodes.length cn)/\w'.cell? ⟨w.heap.size+1+1,6,none⟩=some (.slice a i c)) (by simp) (by kernel_rfl) (by kernel_rfl) (⟨c0,c1,c6⟩) (fun hHeld=> ?_);simp only[lA_];refine tk_ 0 rfl ?_;refine tk_ 1 rfl ?_;refine tk_ 2 rfl ?_;refine tk_ 3 rfl ?_;(try simp only[Act.put,gP_]);refine rd_ 4 rfl (fun KK hKK=> ?_);simp only[gA_];go_simp;refine (HH.b wr.drew HR.B.below.drew k x HX.a).mono ?_;rintro e w6 ⟨v6,rfl,⟨cs,rfl,hre⟩,hc⟩;obtain ⟨aw,cw,ak,ck,rfl⟩:=hre.form;have hb6:Below wr.heap.size wr w6:=(Qf (B:=wr.heap.size) wr 1).trans hc;have hbox6:=(hb6.block _ (Q4 HR.B.box)).trans HR.B.box;have hg96:=(hb6.block _ (Q4 HR.B.g9)).trans HR.B.g9;have hown6:=Qz HR.B.own hb6;have H6:=h5_ hre hb6 hbox6 hg96 hown6;have d0:=Q3 hbox6 0 rfl;have d1:=Q3 hbox6 1 rfl;have d6:=Q3 hg96 6 rfl;clear hre hc hb6 hbox6 hg96 hown6;dsimp only;refine hKK.out _ _ (⟨d0,d1,d6⟩) (fun hHeld=> ?_);clear hKK KK;(try simp only[Act.put,sA_]);have hal:=Qt w6 (.cells #[.int .i64 x.op,.string ⟨x.name.toArray⟩,.string ⟨x.mod.toArray⟩,.bool (decide (x.num < 0)),.slice aw (wd x.num).length cw,.bool x.yes,.slice ak x.kids.length ck,.int .i64 x.pos] 30);have hbox7:=(hal.block _ (Q4 H6.c)).trans H6.c;have hg97:=(hal.block _ (Q4 H6.d)).trans H6.d;have hown7:=Qz H6.E hal;have hnew7:=eD_ w6 (.cells #[.int .i64 x.op,.string ⟨x.name.toArray⟩,.string ⟨x.mod.toArray⟩,.bool (decide (x.num < 0)),.slice aw (wd x.num).length cw,.bool x.yes,.slice ak x.kids.length ck,.int .i64 x.pos] 30);have e0:=Q3 hbox7 0 rfl;have e1:=Q3 hbox7 1 rfl;have e6:=Q3 hg97 6 rfl;have H7:=h5_ hal hbox7 hg97 hown7 hnew7;clear hal hbox7 hg97 hown7 hnew7;refine rd_ 5 rfl (fun KK hKK=> ?_);simp only[gA_];go_simp;refine hKK.out _ _ (⟨e0,e1,e6⟩) (fun hHeld=> ?_);clear hKK KK;(try simp only[Act.put,sA_]);obtain ⟨i0,hi0,hz0,hz1,hz2⟩:=Qw Q89;refine rd_ 6 rfl (fun KK hKK=> ?_);simp only[gA_];rw[if_pos (by rfl)];refine Gy (m:=1) (xv:= .slice (some ⟨w6.heap.size,0,none⟩) 1 1) (.tmp 24) (.tmp 28) 28 rfl V.heap.size 30 i0 _ 8 112 underlying28 hi0 hz0 hz1 hz2 rfl (by decide) (.slice a i c) i css.flatten rfl H7.d rfl (Q0R (size:=8) (cs:= [.int .i64 x.op,.string ⟨x.name.toArray⟩,.string ⟨x.mod.toArray⟩,.bool (decide (x.num < 0)),.slice aw (wd x.num).length cw,.bool x.yes,.slice ak x.kids.length ck,.int .i64 x.pos]) H7.E rfl) H6.a.ones (by unfold maxLen;omega) (by omega) (eE_ HR.B.size (eE_ H6.b.size H7.a.size)) ?_;intro a2 c2 w8 ho8 hg8 hat8;have hbox8:=XD H7.b H7.d hg8 (by decide);have hg98:=hg8.block _ (Q4 H7.c) (fun e=> by have:=(H7.d.lt _ e.symm).1;have:=Q4 HV.c;omega);have hg98:=hg98.trans H7.c;have f0:=Q3 hbox8 0 rfl;have f1:=Q3 hbox8 1 rfl;have f6:=Q3 hg98 6 rfl;have z6:=Q6 hg98 6;have H8:=h5_ ho8 hg8 hat8 hbox8 hg98;clear ho8 hg8 hat8 hbox8 hg98;refine hKK.out _ _ (⟨f0,f1,f6⟩) (fun hHeld=> ?_);clear hKK KK;(try simp only[Act.put,sA_]);refine tk_ 7 rfl ?_;(try simp only[Act.put,gP_]);refine wpAnyH_done (by kernel_rfl) ?_ _;unfold PeelQ;dsimp only;go_simp;have e9:w8.setCell ⟨w.heap.size+1+1,6,none⟩ (.slice a2 (i+1) c2)=w8.setRow (w.heap.size+2) #[.int .i64 op,.string ⟨#[]⟩,.string ⟨#[]⟩,.bool false,.slice none 0 0,.bool false,.slice a2 (i+1) c2,.int .i64 pos]:=setCell_eq_setRow w8 _ 6 _ _ (0,0) _ H8.E;rw[e9];clear e9 b0 b1 c0 c1 c6 g6 d0 d1 d6 e0 e1 e6 f0 f1 f6 z6;have hVs:V.heap.size<=wr.heap.size:=HR.B.size;have hgB:w.heap.size+2 < V.heap.size:=Q4 HV.c;have hs6:=H6.b.size;have hs7:=H7.a.size;have hs8:=H8.b.size;have hlt7:=Z2 w6 (.cells #[.int .i64 x.op,.string ⟨x.name.toArray⟩,.string ⟨x.mod.toArray⟩,.bool (decide (x.num < 0)),.slice aw (wd x.num).length cw,.bool x.yes,.slice ak x.kids.length ck,.int .i64 x.pos] 30);have hown:∀ k,(Value.slice a i c).ownBlock=some k->V.heap.size<=k/\k < wr.heap.size:=fun k hk=> HR.B.own.lt k hk;have hkeep:∀ k,V.heap.size<=k->k < w6.heap.size->(Value.slice a i c).ownBlock≠some k->(w8.setRow (w.heap.size+2) #[.int .i64 op,.string ⟨#[]⟩,.string ⟨#[]⟩,.bool false,.slice none 0 0,.bool false,.slice a2 (i+1) c2,.int .i64 pos]).heap[k]? =w6.heap[k]? :=fun k h1 h2 h3=> by
    rw[Q8 (by omega),H8.b.block k (by omega) (fun e=> h3 e.symm),H7.a.block k h2]
   have hft:FrT [30] w6 (w8.setRow (w.heap.size+2) #[.int .i64 op,.string ⟨#[]⟩,.string ⟨#[]⟩,.bool false,.slice none 0 0,.bool false,.slice a2 (i+1) c2,.int .i64 pos]):=((FrT.of H7.a).trans (Zd H7.d H8.b (by decide))).trans (Qe H8.E);have hI:MdI w V.heap.size (.slice at_ t.toks.length ct) (.slice an t.nodes.length cn) (.slice (some ⟨bp,0,none⟩) ks.length cp) op pos ks f es (i+1) a2 c2 (done++ [x]) l (css++ [[.int .i64 x.op,.string ⟨x.name.toArray⟩,.string ⟨x.mod.toArray⟩,.bool (decide (x.num < 0)),.slice aw (wd x.num).length cw,.bool x.yes,.slice ak x.kids.length ck,.int .i64 x.pos]]) (w8.setRow (w.heap.size+2) #[.int .i64 op,.string ⟨#[]⟩,.string ⟨#[]⟩,.bool false,.slice none 0 0,.bool false,.slice a2 (i+1) c2,.int .i64 pos]):=by
    refine ⟨HX.b,by rw[eQ_,List.singleton_append, <-HX.C];exact HR.B.app,by rw[eC_,HR.B.dlen];rfl,by rw[eC_,HR.B.clen];rfl,fun c hc=> ?_,?_,Qb H8.E,fun j k cs h1 h2=> ?_,?_,?_,?_,?_,?_⟩
    ·rcases List.mem_append.1 hc with hc | hc
     ·exact HR.B.c8 c hc
     ·rw[List.mem_singleton.1 hc];rfl
    ·rw[List.flatten_append,List.flatten_singleton];exact Qk H8.a fun k hk=> Q8 (by have:=(H8.a.lt k hk).1;omega)
    ·have him:∀ q,V.heap.size<=q->q < w6.heap.size->(Value.slice a i c).ownBlock≠some q->OffW V.heap.size (w8.setRow (w.heap.size+2) #[.int .i64 op,.string ⟨#[]⟩,.string ⟨#[]⟩,.bool false,.slice none 0 0,.bool false,.slice a2 (i+1) c2,.int .i64 pos]) (.slice a2 (i+1) c2) q:=fun q p1 p2 p3=> ⟨p1,by rw[QH];omega,fun e=> by
      rcases H8.c q e with e2 | e2
      ·exact p3 e2
      ·omega⟩
     rcases eS_ j i with hj | hj
     ·rw[eT_ (by rw[HR.B.dlen];exact hj)] at h1;rw[eT_ (by rw[HR.B.clen];exact hj)] at h2;exact ((HR.B.rds j k cs h1 h2).keep (fun q hq=> (hkeep q hq.1 (eI_ hq.2.1 hs6) hq.2.2).trans (H6.b.block q hq.2.1)) ((FrT.of H6.b).trans hft)).imp fun q hq=> him q hq.1 (eI_ hq.2.1 hs6) hq.2.2
     ·rw[eO_ (by rw[HR.B.dlen];exact hj),HR.B.dlen] at h1;rw[eO_ (by rw[HR.B.clen];exact hj),HR.B.clen] at h2;cases hd:j - i with
      | zero=>
       rw[hd] at h1 h2;simp only[eZ_,Option.some.injEq] at h1 h2;subst h1 h2;have hn:∀ q,New wr.drew w6 q->V.heap.size<=q/\q < w6.heap.size/\(Value.slice a i c).ownBlock≠some q:=fun q hq=> ⟨eE_ hVs hq.1,hq.2,fun e=> by have h1:=(hown q e).2;have h2:wr.heap.size<=q:=hq.1;omega⟩;exact (H6.a.keep (fun q hq=> hkeep q (hn q hq).1 (hn q hq).2.1 (hn q hq).2.2) hft).imp fun q hq=> him q (hn q hq).1 (hn q hq).2.1 (hn q hq).2.2
      | succ d=> rw[hd] at h1;simp at h1
    ·rw[Q8 (by omega)];exact H8.d
    ·rw[Q8 (by omega),H8.b.block _ (by have:=Q4 HR.B.res;omega) (fun e=> by have:=(H7.d.lt _ e.symm).1;omega),H7.a.block _ (by have:=Q4 HR.B.res;omega),H6.b.block _ (Q4 HR.B.res)];exact HR.B.res
    ·exact Xe (G0 (Qz (Qz HR.B.parts H6.b) H7.a) H7.d H8.b (by decide)) H8.E (by decide) _
    ·exact Q9 (((HR.B.below.trans (H6.b.mono HR.B.below.size)).trans (H7.a.mono (eE_ HR.B.below.size hs6))).trans ((Yj H7.d H8.b (by omega)).mono (by omega))) (by omega) _
    ·rw[QH];omega
   have HI:=hd_ hI;clear hI hft hkeep hown hVs hgB hs6 hs7 hs8 hlt7;go_wp2_with fail;go_roundg (ks.length - (i+1))
   case measure=> have:=HR.a;omega
   case rel=> exact ⟨i+1,a2,c2,_,_,_,by go_num,rfl,by omega,HI.o⟩
  ·obtain rfl:ks.length=i:=(by omega);have hre:rest= []:=by
    have h1:=hI.left;rw[List.drop_length,Ax.exprs] at h1;injection h1 with h1;exact h1.symm
   have hde:done=es:=(by rw[<-hI.app,hre,List.append_nil]);subst hde;have q0:=Q3 hI.g9 0 rfl;have q1:=Q3 hI.g9 1 rfl;have q2:=Q3 hI.g9 2 rfl;have q3:=Q3 hI.g9 3 rfl;have q4:=Q3 hI.g9 4 rfl;have q5:=Q3 hI.g9 5 rfl;have q7:=Q3 hI.g9 7 rfl;clear hlt hre hi hI;go_wp2_with (refine Qc rfl _ _ _ rfl 30 (w.heap.size+1) zeroEx #[.int .i64 op,.string ⟨#[]⟩,.string ⟨#[]⟩,.bool false,.slice none 0 0,.bool false,.slice a ks.length c,.int .i64 pos] rfl HR.B.res rfl rfl X8 (by simp[Value.oneCell']) ?_);refine eG_ (eY_ rfl _ _ (w.heap.size+1) _ _ _ _ rfl (Qb HR.B.res) underlying30 rfl X8) rfl ?_;have hgB:w.heap.size+2 < V.heap.size:=Q4 HV.c;have hk:∀ q,V.heap.size<=q->(wr.setRow (w.heap.size+1) #[.int .i64 op,.string ⟨#[]⟩,.string ⟨#[]⟩,.bool false,.slice none 0 0,.bool false,.slice a ks.length c,.int .i64 pos]).heap[q]? =wr.heap[q]? :=fun q hq=> Q8 (by omega);have hw:Below w.heap.size w (wr.setRow (w.heap.size+1) #[.int .i64 op,.string ⟨#[]⟩,.string ⟨#[]⟩,.bool false,.slice none 0 0,.bool false,.slice a ks.length c,.int .i64 pos]):=Q9 HR.B.below (by omega) _;have hrow:=RdS.own (Qk HR.B.own fun k e=> hk k (HR.B.own.lt k e).1);refine ⟨_,rfl,⟨[.int .i64 op,.string ⟨#[]⟩,.string ⟨#[]⟩,.bool false,.slice none 0 0,.bool false,.slice a ks.length c,.int .i64 pos],rfl,?_⟩,hw⟩;have hdl:done.length=ks.length:=HR.B.dlen;refine RdE.mk (op:=op) (name:= []) (mod:= []) (num:=0) (yes:=false) (kids:=done) (pos:=pos) css (J2 _) (by rw[HR.B.clen,hdl]) HR.B.c8 (by rw[hdl];exact hrow.imp fun k hk2=> ⟨by have:=hk2.2.1;omega,hk2.2.2⟩) fun j k cs h1 h2=> ?_;exact ((HR.B.rds j k cs h1 h2).keep (fun q hq=> hk q hq.1) (Qe HR.B.res)).imp fun q hq=> ⟨by have:=hq.1;omega,by rw[QH];exact hq.2.1⟩
def asgA:Array Value:= #[.string ⟨#[43]⟩,.string ⟨#[45]⟩,.string ⟨#[42]⟩,.string ⟨#[47]⟩,.string ⟨#[37]⟩,.string ⟨#[61]⟩,.string ⟨#[60,62]⟩,.string ⟨#[60]⟩,.string ⟨#[60,61]⟩,.string ⟨#[62]⟩,.string ⟨#[62,61]⟩,.string ⟨#[38,38]⟩,.string ⟨#[124,124]⟩,.string ⟨#[61,62]⟩]
def asgZ:Array Value:= #[.string ⟨#[]⟩,.string ⟨#[]⟩,.string ⟨#[]⟩,.string ⟨#[]⟩,.string ⟨#[]⟩,.string ⟨#[]⟩,.string ⟨#[]⟩,.string ⟨#[]⟩,.string ⟨#[]⟩,.string ⟨#[]⟩,.string ⟨#[]⟩,.string ⟨#[]⟩,.string ⟨#[]⟩,.string ⟨#[]⟩]
theorem asgSize:(prog.info? 234).map (·.size)=some asgA.size:=by kernel_rfl
theorem Q5B (w:World):(Instr.build 234 #[(0,.string ⟨#[43]⟩),(1,.string ⟨#[45]⟩),(2,.string ⟨#[42]⟩),(3,.string ⟨#[47]⟩),(4,.string ⟨#[37]⟩),(5,.string ⟨#[61]⟩),(6,.string ⟨#[60,62]⟩),(7,.string ⟨#[60]⟩),(8,.string ⟨#[60,61]⟩),(9,.string ⟨#[62]⟩),(10,.string ⟨#[62,61]⟩),(11,.string ⟨#[38,38]⟩),(12,.string ⟨#[124,124]⟩),(13,.string ⟨#[61,62]⟩)]).run prog w= .ok (.agg asgA) w:=by kernel_rfl
theorem Q5C (w:World):(Instr.alloc 234 true (.tuple #[])).run prog w= .ok (.pointer (some ⟨w.heap.size,0,none⟩)) (w.alloc (.cells asgZ 234)):=by kernel_rfl
theorem asgZsize:asgZ.size=asgA.size:=by kernel_rfl
theorem Q8a:∀ u∈asgA.toList,u.oneCell'=true:=by
 have h:asgA.toList.all (fun u=> u.oneCell')=true:=by rfl
 intro u hu;exact List.all_eq_true.1 h u hu
theorem Q5D (w:World):Calls prog 157 #[] w fun e w'=> e= .returned (.agg asgA)/\w.alloc (.cells asgA 234)=w':=by
 have hb:=Q5B;have ha:=Q5C;go_in;go_wp2_with (refine Qa rfl 234 _ _ rfl 234 asgZ asgA rfl rfl asgZsize asgSize Q8a ?_);exact eG_ (v:=_) (eY_ rfl _ _ w.heap.size _ _ _ _ rfl (eD_ _ _) underlying234 rfl asgSize) rfl ⟨rfl,rfl⟩
theorem Q8E (w:World):∀ j:Nat,j < 14->(Instr.index 234 (.agg asgA) (.int .i64 j)).run prog w= .ok (.string ⟨(Ax.signs.getD j []).toArray⟩) w:=by
 intro j hj
 match j,hj with
 | 0,_ | 1,_ | 2,_ | 3,_ | 4,_ | 5,_ | 6,_ | 7,_ | 8,_ | 9,_ | 10,_ | 11,_ | 12,_ | 13,_=> refine Eq.trans ?_ rfl;kernel_rfl
 | n+14,h=> omega
theorem Q79:∃ S:Array Value,S.size=14/\(∀ (w:World) (j:Nat),j < 14->(Instr.index 234 (.agg S) (.int .i64 j)).run prog w= .ok (.string ⟨(Ax.signs.getD j []).toArray⟩) w)/\∀ w,Calls prog 157 #[] w fun e w'=> e= .returned (.agg S)/\w.alloc (.cells S 234)=w':=
 ⟨asgA,rfl,Q8E,Q5D⟩
def TkAt (B:Nat) (w0:World) (k:Tr.Tk) (g:Nat) (W:World):Prop:=W.heap[g]? =some (.cells #[.int .i64 k.kind,.string ⟨k.lead.toArray⟩,.string ⟨k.text.toArray⟩,.int .i64 k.pos] 197 (0,0))/\Below B w0 W/\B<=g
theorem Q2p {W:World} (k:Tr.Tk) (hb:Below B w0 W) (hB:B<=w0.heap.size):TkAt B w0 k W.heap.size (W.alloc (.cells #[.int .i64 k.kind,.string ⟨k.lead.toArray⟩,.string ⟨k.text.toArray⟩,.int .i64 k.pos] 197)):=
 ⟨eD_ _ _,hb.alloc (eE_ hB hb.size) _,eE_ hB hb.size⟩
theorem DP {W:World} (k:Tr.Tk) (hb:Below B w0 W) {g:Nat} {cs:Array Value} (hg:W.heap[g]? =some (.cells cs 197 (0,0))) (hs:cs.size=4) (hB:B<=g):
  TkAt B w0 k g ((((W.setCell ⟨g,0,none⟩ (.int .i64 k.kind)).setCell ⟨g,1,none⟩ (.string ⟨k.lead.toArray⟩)).setCell ⟨g,2,none⟩ (.string ⟨k.text.toArray⟩)).setCell ⟨g,3,none⟩ (.int .i64 k.pos)):=by
 rw[YH hg hs];exact ⟨Qb hg,Q9 hb hB _,hB⟩
theorem J3 {W:World} (h:Below B w W) {g:Nat} (hg:B<=g) (x y z u:Value):Below B w ((((W.setCell ⟨g,0,none⟩ x).setCell ⟨g,1,none⟩ y).setCell ⟨g,2,none⟩ z).setCell ⟨g,3,none⟩ u):=(Zx h hg x y z).setCell (p:=⟨g,3,none⟩) hg u
theorem XS {fn:Func} {g:Nat} {cs:Array Value} {tmps:Array Value} {p:Tmp} (h:fn.results= #[.cell p 30]) (hp:tmps.getD p undef= .pointer (some ⟨g,0,none⟩)) (hg:w.heap[g]? =some (.cells cs 30 (0,0))) (hs:cs.size=8):
  (results fn tmps).run prog w= .ok (.agg cs) w:=
 eY_ h _ _ g _ _ _ _ hp hg underlying30 rfl (by rw[hs];exact X8)
theorem QQ {ops:Array Oper} {rest:List Oper} (hgd:o.guard=none) (x v:Operand) (ho:o.op= .store 30 x v)
  {g:Nat} {zs:Array Value} (hx:a.eval x= .pointer (some ⟨g,0,none⟩)) (hg:w2.heap[g]? =some (.cells zs 30 (0,0))) (hz:zs.size=8) {val:Value} {e:Ex} (hv:a.eval v=val) (hn:ExV w2 (New w1 w2) val e) (hg1:g < w1.heap.size) (h01:w0.heap.size<=g) (hb:Below w0.heap.size w0 w2)
  (h:∀ W cs,W.heap[g]? =some (.cells cs 30 (0,0))->cs.size=8->ExV W (New w0 W) (.agg cs) e->Below w0.heap.size w0 W->wpList prog ops Q rest (a.put o.dst undef) W):
  wpList prog ops Q (o::rest) a w2:=by
 obtain ⟨cs,rfl,hr⟩:=hn;have hl:cs.toArray.size=8:=by simpa using hr.len
 refine Qc hgd _ x v ho _ g zs cs.toArray hx hg hv (by rw[hz,hl]) (by rw[hl];exact X8) (by simpa using hr.ones) ?_;refine h _ cs.toArray (Qb hg) hl ⟨cs,rfl,(hr.keep (fun k hk=> Q8 (by have:=hk.1;omega)) (Qe hg)).imp fun k hk=> ⟨by have:=hk.1;omega,by rw[QH];exact hk.2⟩⟩ (Q9 hb h01 _)
theorem Q4G (x y:List UInt8):((⟨x.toArray⟩:ByteArray).toList==(⟨y.toArray⟩:ByteArray).toList)=decide (x=y):=by
 rw[XA,XA];exact QS x y
theorem ZB {f:Int->Option Ex} {op pos:Int} {name mod:List UInt8} (h:Ax.wrap f t op pos name mod n=some e):∃ es,Ax.made f t op pos n=some es/\e= .mk op name mod 0 false es pos:=by
 unfold Ax.wrap at h;split at h
 ·cases h
 ·injection h with h;exact ⟨_,by assumption,h.symm⟩
theorem Q5E {f:Int->Option Ex} {x:Tr.Nd} (h:Ax.binary f t n x=some e):∃ k s,x.kids[1]? =some k/\Ax.tk t k=some s/\
  ((Ax.signs.findIdx? (·==s.text)=none/\e=Ex.none)\/∃ (i:Nat) (es:List Ex),Ax.signs.findIdx? (·==s.text)=some i/\Ax.made f t (7+(i:Int)) s.pos n=some es/\e= .mk (7+(i:Int)) [] [] 0 false es s.pos):=by
 unfold Ax.binary at h;split at h
 ·cases h
 ·rename_i k hk;split at h
  ·cases h
  ·rename_i s hs;refine ⟨k,s,hk,hs,?_⟩;split at h
   ·rename_i hf;injection h with h;exact Or.inl ⟨hf,h.symm⟩
   ·rename_i i hf;obtain ⟨es,h1,h2⟩:=ZB h;exact Or.inr ⟨i,es,hf,h1,h2⟩
def SgRel (V wc:World) (txt:List UInt8) (gk:Nat) (v20:Value) (wr:World):Prop:=∃ j:Nat,v20= .int .i64 (j:Int)/\gk=14 - j/\j<=14/\(∀ m,m < j->Ax.signs.getD m []≠txt)/\wr=wc
theorem Q7a {j:Nat} (hj:j < 14) (h:∀ m,m < j->Ax.signs.getD m []≠txt) (he:Ax.signs.getD j []=txt):Ax.signs.findIdx? (·==txt)=some j:=by
 have hl:Ax.signs.length=14:=rfl;rw[List.findIdx?_eq_some_iff_getElem];refine ⟨by omega,?_,fun m hm=> ?_⟩
 ·rw[List.getD_eq_getElem?_getD,eA_ (by omega)] at he;exact beq_iff_eq.2 he
 ·have h2:=h m hm;rw[List.getD_eq_getElem?_getD,eA_ (by omega)] at h2;intro e;exact h2 (beq_iff_eq.1 e)
theorem Q8b (h:∀ m,m < 14->Ax.signs.getD m []≠txt):Ax.signs.findIdx? (·==txt)=none:=by
 rw[List.findIdx?_eq_none_iff];intro y hy;obtain ⟨m,hm,rfl⟩:=List.getElem_of_mem hy;have hl:Ax.signs.length=14:=rfl;have h2:=h m (by omega);rw[List.getD_eq_getElem?_getD,eA_ hm] at h2;exact beq_false_of_ne h2
theorem Q8t {x3 o3:Nat} {u3:Value} (h0:w.cell? ⟨x0,o0,none⟩=some u0) (h1:w.cell? ⟨x1,o1,none⟩=some u1) (h2:w.cell? ⟨x2,o2,none⟩=some u2) (h3:w.cell? ⟨x3,o3,none⟩=some u3):Hid (∀ W,Below w.heap.size w W->Below w.heap.size w W/\W.cell? ⟨x0,o0,none⟩=some u0/\W.cell? ⟨x1,o1,none⟩=some u1/\W.cell? ⟨x2,o2,none⟩=some u2/\W.cell? ⟨x3,o3,none⟩=some u3):=hd_ fun W b=> ⟨b,(b.cell (Qd h0)).trans h0,(b.cell (Qd h1)).trans h1,(b.cell (Qd h2)).trans h2,(b.cell (Qd h3)).trans h3⟩
theorem Li (h:TrR w P vt vn t) {f:Int->Option Ex} (hf:KnowsE w vt vn f) {n:Int} {x:Tr.Nd} {e:Ex} (hx:Ax.nd t n=some x) (hbn:Ax.binary f t n x=some e):
  Calls prog 120 #[.agg #[vt,vn],.int .i64 n] w (ExOut w e):=by
 obtain ⟨at_,ct,an,cn,rfl,rfl⟩:=h.form;obtain ⟨S,hSs,hSa,hSc⟩:=Q79;obtain ⟨k,s,hk1,hks,hcase⟩:=Q5E hbn;have hn2:(t.nodes.length:Int)<=1000000:=by have:=h.nodes;omega
 have hbx:=box2 w #[.slice at_ t.toks.length ct,.slice an t.nodes.length cn] 154 #[.int .i64 0,.string ⟨#[]⟩,.string ⟨#[]⟩,.bool false,.slice none 0 0,.bool false,.slice none 0 0,.int .i64 0] 30;obtain ⟨i,b,off,ak,ck,hni,hi,e0,c0,c1,c2,hkl,hkk⟩:=(h.below hbx.2.2).node hx;subst hni e0;obtain ⟨b2,o2,e0,q0⟩:=hkk 1 k hk1;subst e0;have hi2:(i:Int) < (t.nodes.length:Int):=by omega
 have hk2:(1:Int) < (x.kids.length:Int):=by have:=(List.getElem?_eq_some_iff.1 hk1).1;omega
 have hk3:(x.kids.length:Int)<=1000000:=by omega
 have HH:=h7_ h hf hks hcase hSa hSc hx;clear hkk hk1 hbn hkl hcase hks hSa hSc hx h hf hi;go_in;go_wp2_with fail;obtain ⟨V,hV⟩:∃ V,(w.alloc (.cells #[.slice at_ t.toks.length ct,.slice (some ⟨b,off,none⟩) t.nodes.length cn] 154)).alloc (.cells #[.int .i64 0,.string ⟨#[]⟩,.string ⟨#[]⟩,.bool false,.slice none 0 0,.bool false,.slice none 0 0,.int .i64 0] 30)=V:=⟨_,rfl⟩
 rw[hV] at hbx c0 c1 c2 q0 |-;have a0:=Q3 hbx.1 0 rfl;have a1:=Q3 hbx.1 1 rfl;have HS:=Q8t a0 a1 c2 q0;have HV:=hd_ hbx;clear hbx hV a0 a1 c0 c1;go_cut [5] from 8 to 18 (fun v5 wc=> ∃ g,v5= .pointer (some ⟨g,0,none⟩)/\TkAt V.heap.size V s g wc)
 case first=>
  go_region_held3 (fun w'=> Below V.heap.size V w'/\w'.cell? ⟨w.heap.size,0,none⟩=some (.slice at_ t.toks.length ct)/\w'.cell? ⟨w.heap.size,1,none⟩=some (.slice (some ⟨b,off,none⟩) t.nodes.length cn)/\w'.cell? ⟨b,off+i*3+2,none⟩=some (.slice (some ⟨b2,o2,none⟩) x.kids.length ck)/\w'.cell? ⟨b2,o2+1,none⟩=some (.int .i64 k)) (first | exact HS.o _ ((eB_ _ _).drew) | exact HS.o _ (YG (by assumption) (rl_ _) _) | exact HS.o _ hb7 | exact HS.o _ (hb7.alloc hb7.size _) | exact HS.o _ (J3 (QJ (by assumption)) (rl_ _) _ _ _ _)) ((go_at_call 119;refine eH_ (Yt (HH.a.below (HV.C.trans ((QJ (by assumption)).mono HV.C.size))) HH.c) ?_;rintro e w6 ⟨rfl,hc7⟩;have hb7:Below V.heap.size V w6:=Xa hc7 (by assumption) (rl_ _);(first | (have hz6:=(hc7.block _ (Q4 (eD_ V (.cells #[.int .i64 0,.string ⟨#[]⟩,.string ⟨#[]⟩,.int .i64 0] 197)))).trans (eD_ V (.cells #[.int .i64 0,.string ⟨#[]⟩,.string ⟨#[]⟩,.int .i64 0] 197));have r0:=Q3 hz6 0 rfl;have r1:=Q3 hz6 1 rfl;have r2:=Q3 hz6 2 rfl;have r3:=Q3 hz6 3 rfl;have z0:=Q6 hz6 0;have z1:=Q6 hz6 1;have z2:=Q6 hz6 2;have z3:=Q6 hz6 3) | skip);clear hc7))
  all_goals (
   rename_i hh;clear hh;go_wp2_with fail;go_meet
   case rel=> first | exact ⟨_,rfl,Q2p s hb7 (rl_ _)⟩ | exact ⟨_,rfl,DP s hb7 hz6 rfl (rl_ _)⟩)
 case rest=>
  obtain ⟨g5,rfl,hg5,hb5,hB5⟩:=hcut;have HC:=h3_ hg5 hb5 hB5;clear hg5 hb5 hB5 c2 q0;go_wp2_with fail;refine (HH.f wc).mono ?_;rintro e w1 ⟨rfl,hw1⟩;have hb1:Below V.heap.size V w1:=by rw[<-hw1];exact HC.b.alloc HC.b.size _
  have hg1:w1.heap[g5]? =some (.cells #[.int .i64 s.kind,.string ⟨s.lead.toArray⟩,.string ⟨s.text.toArray⟩,.int .i64 s.pos] 197 (0,0)):=by rw[<-hw1];exact (eJ_ _ _ _ (Q4 HC.a)).trans HC.a
  have hw:Below w.heap.size w w1:=HV.C.trans (hb1.mono HV.C.size);have hbox:=(hb1.block _ (Q4 HV.a)).trans HV.a;have hres:=(hb1.block _ (Q4 HV.b)).trans HV.b;have H1:=h4_ hw hbox hres hg1;have a0:=Q3 hbox 0 rfl;have a1:=Q3 hbox 1 rfl;have t2:=Q3 hg1 2 rfl;have t3:=Q3 hg1 3 rfl;clear hw1 hb1 hg1 hw hbox hres;dsimp only;go_wp2_with fail;go_loopg [20] 14 (fun gk v20 wr=> SgRel V w1 s.text gk v20 wr)
  case atStart=> exact ⟨0,rfl,rfl,by omega,fun m hm=> by omega,rfl⟩
  case round=>
   obtain ⟨j,rfl,hgk,hj,hno,rfl⟩:=hrel;have HR:=h2_ hgk hno;clear hgk hno;by_cases hlt:j < 14
   ·have hlt2:(j:Int) < 14:=(by omega);have hs:=fun w=> HH.e w j hlt;have HJ:=hd_ hlt;clear hlt;obtain ⟨y,hy⟩:∃ y,Ax.signs.getD j []=y:=⟨_,rfl⟩
    rw[hy] at hs;have he:=Q4G y s.text;have he2:=QS y s.text;have hw7:IntKind.i64.wrap (7+(j:Int))=7+(j:Int):=(by rw[IntKind.wrap_i64];omega);have HY:=hd_ hy;clear hy;by_cases hyt:y=s.text
    ·rw[eM_ hyt] at he he2;have hfi:=Q7a HJ.o HR.B (HY.o.trans hyt);obtain ⟨es,hmade,hex⟩:∃ es,Ax.made f t (7+(j:Int)) s.pos (i:Int)=some es/\e= .mk (7+(j:Int)) [] [] 0 false es s.pos:=by
      rcases HH.d with ⟨h1,_⟩ | ⟨i2,es,h1,h2,h3⟩
      ·rw[hfi] at h1;cases h1
      ·rw[hfi] at h1;injection h1 with h1;subst h1;exact ⟨es,h2,h3⟩
     have HM:=h2_ hmade hex;clear hfi hmade hex hyt;go_wp2_with fail;refine (XI (HH.a.below H1.a) (HH.b.past H1.a) HM.a).mono ?_;rintro e2 w9 ⟨v9,rfl,hv9,hb9⟩;have hres9:=(hb9.block _ (Q4 H1.c)).trans H1.c;have H9:=h3_ hv9 hres9 (H1.a.trans (hb9.mono H1.a.size));clear hv9 hres9 hb9;dsimp only;go_wp2_with (refine QQ rfl _ _ rfl rfl H9.b rfl rfl H9.a (Q4 H1.c) (show w.heap.size<=w.heap.size+1 by omega) H9.C ?_;rintro W cs hg hs2 hv hb;have HT:=h4_ hg hs2 hv hb;clear hg hs2 hv hb);refine eG_ (XS rfl rfl HT.a HT.b) rfl ?_;exact ⟨_,rfl,by rw[HM.B];exact HT.c,HT.D⟩
    ·rw[eK_ hyt] at he he2;have HN:=hd_ hyt;clear hyt;go_wp2_with fail;go_roundg (14 - (j+1))
     case measure=> have:=HR.a;have:=HJ.o;omega
     case rel=>
      refine ⟨j+1,by go_num,rfl,by have:=HJ.o;omega,fun m hm=> ?_,rfl⟩;rcases eS_ m j with h1 | h1
      ·exact HR.B m h1
      ·obtain rfl:m=j:=(by omega);rw[HY.o];exact HN.o
   ·obtain rfl:j=14:=(by omega);have hfi:=Q8b HR.B;have hex:e=Ex.none:=by
     rcases HH.d with ⟨_,h1⟩ | ⟨i2,es,h1,_⟩
     ·exact h1
     ·rw[hfi] at h1;cases h1
    have HX:=hd_ hex;clear hfi hex;go_wp2_with (refine Qc rfl _ _ _ rfl 30 (w.heap.size+1) #[.int .i64 0,.string ⟨#[]⟩,.string ⟨#[]⟩,.bool false,.slice none 0 0,.bool false,.slice none 0 0,.int .i64 0] #[.int .i64 0,.string ⟨#[]⟩,.string ⟨#[]⟩,.bool false,.slice none 0 0,.bool false,.slice none 0 0,.int .i64 0] rfl H1.c rfl rfl X8 (by simp[Value.oneCell']) ?_);refine eG_ (XS rfl rfl (Qb H1.c) rfl) rfl ?_;exact ⟨_,rfl,⟨[.int .i64 0,.string ⟨#[]⟩,.string ⟨#[]⟩,.bool false,.slice none 0 0,.bool false,.slice none 0 0,.int .i64 0],rfl,by rw[HX.o];exact J1 (J2 _)⟩,Q9 H1.a (by omega) _⟩
theorem Q8c {f:Int->Option Ex} {x:Tr.Nd} (h:Ax.call f t n x=some e):∃ k0 k1 a b,x.kids[0]? =some k0/\x.kids[1]? =some k1/\Ax.tk t k0=some a/\Ax.tk t k1=some b/\
  ((b.text= [46]/\∃ k2 c es,x.kids[2]? =some k2/\Ax.tk t k2=some c/\Ax.made f t 24 a.pos n=some es/\e= .mk 24 c.text a.text 0 false es a.pos)\/(b.text≠ [46]/\∃ es,Ax.made f t 24 a.pos n=some es/\e= .mk 24 a.text [] 0 false es a.pos)):=by
 unfold Ax.call at h;split at h
 ·rename_i k0 k1 h0 h1;split at h
  ·rename_i a b ha hb;refine ⟨k0,k1,a,b,h0,h1,ha,hb,?_⟩;split at h
   ·rename_i hd;split at h
    ·cases h
    ·rename_i k2 h2;split at h
     ·cases h
     ·rename_i c hc;obtain ⟨es,q1,q2⟩:=ZB h;exact Or.inl ⟨hd,k2,c,es,h2,hc,q1,q2⟩
   ·rename_i hd;obtain ⟨es,q1,q2⟩:=ZB h;exact Or.inr ⟨hd,es,q1,q2⟩
  ·cases h
 ·cases h
theorem Q09 {op:Int} {n0 m0:List UInt8} {num:Int} {yes:Bool} {kids:List Ex} {pos:Int} {c1 c2 c3 c4 c5 c6 c7 c8:Value} (h:RdE w P (.mk op n0 m0 num yes kids pos) [c1,c2,c3,c4,c5,c6,c7,c8]) (n m:List UInt8):
  RdE w P (.mk op n m num yes kids pos) [c1,.string ⟨n.toArray⟩,.string ⟨m.toArray⟩,c4,c5,c6,c7,c8]:=by
 cases h with
 | mk css hs hl hc hv hk=> exact .mk css hs hl hc hv hk
def Half (g:Nat) (V W:World) (c0 c3 c4 c5 c6 c7:Value):Prop:=Below g V W/\∃ x y,W.heap[g]? =some (.cells #[c0,x,y,c3,c4,c5,c6,c7] 30 (0,0))
theorem Q2q {W:World} {g:Nat} {c0 c3 c4 c5 c6 c7:Value} {T:TypeId} (h:W.heap[g]? =some (.cells #[c0,x,y,c3,c4,c5,c6,c7] T (0,0))) (v:Value):(W.setCell ⟨g,1,none⟩ v).heap[g]? =some (.cells #[c0,v,y,c3,c4,c5,c6,c7] T (0,0)):=by
 rw[setCell_eq_setRow W g 1 _ _ (0,0) v h];exact Qb h
theorem Q2r {W:World} {g:Nat} {c0 c3 c4 c5 c6 c7:Value} {T:TypeId} (h:W.heap[g]? =some (.cells #[c0,x,y,c3,c4,c5,c6,c7] T (0,0))) (v:Value):(W.setCell ⟨g,2,none⟩ v).heap[g]? =some (.cells #[c0,x,v,c3,c4,c5,c6,c7] T (0,0)):=by
 rw[setCell_eq_setRow W g 2 _ _ (0,0) v h];exact Qb h
section
variable {g:Nat} {V W W':World} {c0 c3 c4 c5 c6 c7:Value}
theorem Half.drew (h:Half g V W c0 c3 c4 c5 c6 c7):Half g V W.drew c0 c3 c4 c5 c6 c7:=⟨h.1.drew,h.2⟩
theorem Half.set1 (h:Half g V W c0 c3 c4 c5 c6 c7) (v:Value):Half g V (W.setCell ⟨g,1,none⟩ v) c0 c3 c4 c5 c6 c7:=by
 obtain ⟨hb,x,y,hg⟩:=h;exact ⟨hb.setCell (p:=⟨g,1,none⟩) (rl_ _) v,v,y,Q2q hg v⟩
theorem Half.set2 (h:Half g V W c0 c3 c4 c5 c6 c7) (v:Value):Half g V (W.setCell ⟨g,2,none⟩ v) c0 c3 c4 c5 c6 c7:=by
 obtain ⟨hb,x,y,hg⟩:=h;exact ⟨hb.setCell (p:=⟨g,2,none⟩) (rl_ _) v,x,v,Q2r hg v⟩
theorem Q5F (hb:Below W.heap.size W W') (h:Half g V W c0 c3 c4 c5 c6 c7/\R):Half g V W' c0 c3 c4 c5 c6 c7:=by
 obtain ⟨⟨h1,x,y,hg⟩,_⟩:=h;exact ⟨h1.trans (hb.mono (Nat.le_of_lt (Q4 hg))),x,y,(hb.block _ (Q4 hg)).trans hg⟩
theorem Q3Z (hw:Below B w V) (hB:B<=g) (h:Half g V W c0 c3 c4 c5 c6 c7/\R):Below B w W:=hw.trans (h.1.1.mono hB)
theorem Q7b (h:Half g V W c0 c3 c4 c5 c6 c7) (a c:Value):((W.setCell ⟨g,2,none⟩ a).setCell ⟨g,1,none⟩ c).heap[g]? =some (.cells #[c0,c,a,c3,c4,c5,c6,c7] 30 (0,0))/\Below g V ((W.setCell ⟨g,2,none⟩ a).setCell ⟨g,1,none⟩ c):=by
 obtain ⟨x,y,hg⟩:=h.2;exact ⟨Q2q (Q2r hg a) c,((h.set2 a).set1 c).1⟩
end
theorem Ur (x:List UInt8) (l:List UInt8):((⟨x.toArray⟩:ByteArray).toList==(⟨l.toArray⟩:ByteArray).toList)=decide (x=l):=Q4G x l
theorem Q8u (h0:w.cell? ⟨x0,o0,none⟩=some u0) (h1:w.cell? ⟨x1,o1,none⟩=some u1) (h2:w.cell? ⟨x2,o2,none⟩=some u2):Hid (∀ W,Below w.heap.size w W->Below w.heap.size w W/\W.cell? ⟨x0,o0,none⟩=some u0/\W.cell? ⟨x1,o1,none⟩=some u1/\W.cell? ⟨x2,o2,none⟩=some u2):=hd_ fun W b=> ⟨b,(b.cell (Qd h0)).trans h0,(b.cell (Qd h1)).trans h1,(b.cell (Qd h2)).trans h2⟩
theorem Q2s (h:TrR w P vt vn t) {f:Int->Option Ex} (hf:KnowsE w vt vn f) {n:Int} {x:Tr.Nd} {e:Ex} (hx:Ax.nd t n=some x) (hcl:Ax.call f t n x=some e):
  Calls prog 121 #[.agg #[vt,vn],.int .i64 n] w (ExOut w e):=by
 obtain ⟨at_,ct,an,cn,rfl,rfl⟩:=h.form;obtain ⟨k,k1,s,sb,hk0,hk1,hks,hkb,hcase⟩:=Q8c hcl;have hn2:(t.nodes.length:Int)<=1000000:=by have:=h.nodes;omega
 have hbx:=box2 w #[.slice at_ t.toks.length ct,.slice an t.nodes.length cn] 154 #[.int .i64 0,.string ⟨#[]⟩,.string ⟨#[]⟩,.bool false,.slice none 0 0,.bool false,.slice none 0 0,.int .i64 0] 30;obtain ⟨i,b,off,ak,ck,hni,hi,e0,c0,c1,c2,hkl,hkk⟩:=(h.below hbx.2.2).node hx;subst hni e0;obtain ⟨b2,o2,e0,q0⟩:=hkk 0 k hk0;subst e0;have hall:=hkk;obtain ⟨b3,o3,e0,q1⟩:=hkk 1 k1 hk1;injection e0 with e0;injection e0 with e0 e1;subst e0 e1;have hi2:(i:Int) < (t.nodes.length:Int):=by omega
 have hk2:(1:Int) < (x.kids.length:Int):=by have:=(List.getElem?_eq_some_iff.1 hk1).1;omega
 have hk2a:(0:Int) < (x.kids.length:Int):=by omega
 have hk2b:¬ x.kids= []:=by intro h0;rw[h0] at hk2;exact absurd hk2 (by decide)
 have hk2c:0 < x.kids.length:=by omega
 have hk3:(x.kids.length:Int)<=1000000:=by omega
 have HH:=h7_ h hf hks hkb hcase hall trivial;clear hkk hk0 hk1 hcl hkl hcase hks hkb hx h hf hi hall;go_in;have a0:=Q3 hbx.1 0 rfl;have a1:=Q3 hbx.1 1 rfl;go_wp2_with fail;obtain ⟨V,hV⟩:∃ V,(w.alloc (.cells #[.slice at_ t.toks.length ct,.slice (some ⟨b,off,none⟩) t.nodes.length cn] 154)).alloc (.cells #[.int .i64 0,.string ⟨#[]⟩,.string ⟨#[]⟩,.bool false,.slice none 0 0,.bool false,.slice none 0 0,.int .i64 0] 30)=V:=⟨_,rfl⟩
 rw[hV] at hbx c0 c1 c2 q0 q1 a0 a1 HH |-;rw[Nat.add_zero] at q0;have HS:=Q8u a0 a1 q0;have HV:=h2_ hbx q1;clear hbx hV a0 a1 c0 c1 c2 q1;go_cut [6] from 15 to 19 (fun v6 wc=> ∃ g,v6= .pointer (some ⟨g,0,none⟩)/\TkAt V.heap.size V s g wc)
 case first=>
  go_region_held3 (fun w'=> Below V.heap.size V w'/\w'.cell? ⟨w.heap.size,0,none⟩=some (.slice at_ t.toks.length ct)/\w'.cell? ⟨w.heap.size,1,none⟩=some (.slice (some ⟨b,off,none⟩) t.nodes.length cn)/\w'.cell? ⟨b2,o2,none⟩=some (.int .i64 k)) (first | exact HS.o _ ((eB_ _ _).drew) | exact HS.o _ (((eB_ _ _).alloc (rl_ _) _).drew) | exact HS.o _ (YG (by assumption) (rl_ _) _) | exact HS.o _ hb7 | exact HS.o _ (hb7.alloc hb7.size _) | exact HS.o _ (J3 (QJ (by assumption)) (rl_ _) _ _ _ _)) ((go_at_call 119;refine eH_ (Yt (HH.a.below (HV.a.2.2.trans ((QJ (by assumption)).mono HV.a.2.2.size))) HH.c) ?_;rintro e w6 ⟨rfl,hc7⟩;have hb7:Below V.heap.size V w6:=Xa hc7 (by assumption) (rl_ _);(first | (have hz6:=(hc7.block _ (Q4 (eD_ V (.cells #[.int .i64 0,.string ⟨#[]⟩,.string ⟨#[]⟩,.int .i64 0] 197)))).trans (eD_ V (.cells #[.int .i64 0,.string ⟨#[]⟩,.string ⟨#[]⟩,.int .i64 0] 197));have r0:=Q3 hz6 0 rfl;have r1:=Q3 hz6 1 rfl;have r2:=Q3 hz6 2 rfl;have r3:=Q3 hz6 3 rfl;have z0:=Q6 hz6 0;have z1:=Q6 hz6 1;have z2:=Q6 hz6 2;have z3:=Q6 hz6 3) | skip);clear hc7))
  all_goals (
   rename_i hh;clear hh;go_wp2_with fail;go_meet
   case rel=> first | exact ⟨_,rfl,Q2p s hb7 (rl_ _)⟩ | exact ⟨_,rfl,DP s hb7 hz6 rfl (rl_ _)⟩)
 case rest=>
  obtain ⟨w4,rfl⟩:∃ w4,w4=wc:=⟨wc,rfl⟩
  obtain ⟨g5,rfl,hg5,hb5,hB5⟩:=hcut;have hbox:=(hb5.block _ (Q4 HV.a.1)).trans HV.a.1;have hw:=HV.a.2.2.trans (hb5.mono HV.a.2.2.size);have a0:=Q3 hbox 0 rfl;have a1:=Q3 hbox 1 rfl;have t2:=Q3 hg5 2 rfl;have t3:=Q3 hg5 3 rfl;have HC:=h5_ hg5 hb5 hB5 hbox hw;clear hg5 hb5 hB5 hbox hw q0;obtain ⟨es,hmade⟩:∃ es,Ax.made f t 24 s.pos (i:Int)=some es:=by
   rcases HH.e with ⟨_,_,_,es,_,_,h1,_⟩ | ⟨_,es,h1,_⟩
   ·exact ⟨es,h1⟩
   ·exact ⟨es,h1⟩
  have HM:=hd_ hmade;clear hmade;go_wp2_with fail;refine (XI (HH.a.below HC.E) (HH.b.past HC.E) HM.o).mono ?_;rintro e2 w6 ⟨v6,rfl,⟨cs,rfl,hre⟩,hb6⟩;obtain ⟨aw,cw,ak,ckk,rfl⟩:=hre.form;have H6:=h2_ hre hb6;clear hre hb6 a0 a1 t2 t3;dsimp only[Ex.op,Ex.name,Ex.mod,Ex.num,Ex.yes,Ex.kids,Ex.pos];obtain ⟨W7,hW7⟩:∃ W7,w6.alloc (.cells #[.int .i64 24,.string ⟨#[]⟩,.string ⟨#[]⟩,.bool false,.slice aw (wd 0).length cw,.bool false,.slice ak es.length ckk,.int .i64 s.pos] 30)=W7:=⟨_,rfl⟩
  have hg7:W7.heap[w6.heap.size]? =some (.cells #[.int .i64 24,.string ⟨#[]⟩,.string ⟨#[]⟩,.bool false,.slice aw (wd 0).length cw,.bool false,.slice ak es.length ckk,.int .i64 s.pos] 30 (0,0)):=by rw[<-hW7];exact eD_ _ _
  have hb7:Below w6.heap.size w6 W7:=by rw[<-hW7];exact Qt _ _
  have t6:=Q3 ((hb7.block _ (eI_ (Q4 HC.a) H6.B.size)).trans ((H6.B.block _ (Q4 HC.a)).trans HC.a)) 2 rfl;rw[<-hW7] at t6;clear hg7 hb7 hW7 W7;go_wp2_with (refine Qa rfl 30 _ _ rfl 30 #[.int .i64 0,.string ⟨#[]⟩,.string ⟨#[]⟩,.bool false,.slice none 0 0,.bool false,.slice none 0 0,.int .i64 0] #[.int .i64 24,.string ⟨#[]⟩,.string ⟨#[]⟩,.bool false,.slice aw (wd 0).length cw,.bool false,.slice ak es.length ckk,.int .i64 s.pos] rfl rfl rfl X8 (by simp[Value.oneCell']) ?_);obtain ⟨V8,hV8⟩:∃ V8,w6.alloc (.cells #[.int .i64 24,.string ⟨s.text.toArray⟩,.string ⟨#[]⟩,.bool false,.slice aw (wd 0).length cw,.bool false,.slice ak es.length ckk,.int .i64 s.pos] 30)=V8:=⟨_,rfl⟩
  have hg8:V8.heap[w6.heap.size]? =some (.cells #[.int .i64 24,.string ⟨s.text.toArray⟩,.string ⟨#[]⟩,.bool false,.slice aw (wd 0).length cw,.bool false,.slice ak es.length ckk,.int .i64 s.pos] 30 (0,0)):=by rw[<-hV8];exact eD_ _ _
  have hb8:Below w6.heap.size w6 V8:=by rw[<-hV8];exact Qt _ _
  rw[hV8];have hwc:Below w4.heap.size w4 V8:=H6.B.trans (hb8.mono H6.B.size);have hw8:Below w.heap.size w V8:=HC.E.trans (hwc.mono HC.E.size);have hk8:Below V.heap.size V V8:=HC.b.trans (hwc.mono HC.b.size);have hvb:=(hk8.block _ (Q4 HV.a.1)).trans HV.a.1;have z0:=Q3 hvb 0 rfl;have z1:=Q3 hvb 1 rfl;have z2:=(hk8.cell (Qd HV.B)).trans HV.B;have mkS:∀ W:World,Below V8.heap.size V8 W->Below V8.heap.size V8 W/\W.cell? ⟨w.heap.size,0,none⟩=some (.slice at_ t.toks.length ct)/\W.cell? ⟨w.heap.size,1,none⟩=some (.slice (some ⟨b,off,none⟩) t.nodes.length cn)/\W.cell? ⟨b2,o2+1,none⟩=some (.int .i64 k1):=fun W hb=> ⟨hb,(hb.cell (Qd z0)).trans z0,(hb.cell (Qd z1)).trans z1,(hb.cell (Qd z2)).trans z2⟩;clear z0 z1 z2 hvb;have HL:=hd_ (eI_ (Q4 HV.a.1) (eE_ HC.b.size H6.B.size));have H8:=h6_ hg8 hb8 hwc hw8 hk8 mkS;clear hg8 hb8 hwc hw8 hk8 mkS t6 hV8;have he:=Ur sb.text [46];have he2:=QS sb.text [46];obtain ⟨dt,hdt⟩:∃ dt,decide (sb.text= [46])=dt:=⟨_,rfl⟩
  rw[hdt] at he he2;have HD:=hd_ hdt;clear hdt;go_cut [33] from 28 to 33 (fun v33 w5=> v33= .bool dt/\Below V8.heap.size V8 w5)
  case first=>
   go_region_held3 (fun w'=> Below V8.heap.size V8 w'/\w'.cell? ⟨w.heap.size,0,none⟩=some (.slice at_ t.toks.length ct)/\w'.cell? ⟨w.heap.size,1,none⟩=some (.slice (some ⟨b,off,none⟩) t.nodes.length cn)/\w'.cell? ⟨b2,o2+1,none⟩=some (.int .i64 k1)) (first | exact H8.F _ ((eB_ _ _).drew) | exact H8.F _ hb7) ((go_at_call 123;refine eH_ (Uq (HH.a.below (H8.d.trans ((QJ (by assumption)).mono H8.d.size))) HH.d) ?_;rintro e w7 ⟨rfl,hc7⟩;have hb7:Below V8.heap.size V8 w7:=Xa hc7 (by assumption) (rl_ _);clear hc7))
   all_goals (
    rename_i hh;clear hh;go_wp2_with fail;go_meet
    case rel=> exact ⟨rfl,hb7⟩)
  case rest=>
   obtain ⟨rfl,hb5⟩:=hcut;have hc5:=H8.F _ hb5;cases dt with
   | false=>
    have hex:∃ es2,Ax.made f t 24 s.pos (i:Int)=some es2/\e=Ex.mk 24 s.text [] 0 false es2 s.pos:=by
     rcases HH.e with ⟨h1,_⟩ | ⟨_,h1⟩
     ·exact absurd h1 (of_decide_eq_false HD.o)
     ·exact h1
    have hg:=(hb5.block _ (Q4 H8.a)).trans H8.a;have hbg:Below w6.heap.size V8 wc:=hb5.mono (Nat.le_of_lt (Q4 H8.a));have y0:=Q3 hg 0 rfl;have y1:=Q3 hg 1 rfl;have y2:=Q3 hg 2 rfl;have y3:=Q3 hg 3 rfl;have y4:=Q3 hg 4 rfl;have y5:=Q3 hg 5 rfl;have y6:=Q3 hg 6 rfl;have y7:=Q3 hg 7 rfl;have hres:wc.heap[w.heap.size+1]? =some (.cells #[.int .i64 0,.string ⟨#[]⟩,.string ⟨#[]⟩,.bool false,.slice none 0 0,.bool false,.slice none 0 0,.int .i64 0] 30 (0,0)):=(hbg.block _ (eI_ (Q4 HV.a.2.1) (eE_ HC.b.size H6.B.size))).trans ((H8.e.block _ (Q4 HV.a.2.1)).trans HV.a.2.1);have hre:RdE wc (New w4 w6) (.mk 24 s.text [] 0 false es s.pos) [.int .i64 24,.string ⟨s.text.toArray⟩,.string ⟨#[]⟩,.bool false,.slice aw (wd 0).length cw,.bool false,.slice ak es.length ckk,.int .i64 s.pos]:=Q09 (H6.a.keep (fun k hk=> (hbg.block k hk.2).trans (H8.b.block k hk.2)) (FrT.of (H8.b.trans hbg))) s.text [];have hwW:Below w.heap.size w wc:=H8.d.trans (hbg.mono (Nat.le_of_lt HL.o));obtain ⟨es2,hm2,hexx⟩:=hex;rw[HM.o] at hm2;injection hm2 with hm2;subst hm2;have HE:=h5_ hres hre hwW hbg.size hexx;clear hres hre hwW hexx hg hbg hc5 hb5;go_wp2_with (refine QQ rfl _ _ rfl rfl HE.a rfl rfl ⟨_,rfl,HE.b.imp fun k hk=> ⟨hk.1,eI_ hk.2 (eE_ H8.b.size HE.d)⟩⟩ (w1:=w4) (eI_ (Q4 HV.a.2.1) HC.b.size) (show w.heap.size<=w.heap.size+1 by omega) HE.c ?_;rintro W cs hg hs2 hv hb;have HT:=h4_ hg hs2 hv hb;clear hg hs2 hv hb);refine eG_ (XS rfl rfl HT.a HT.b) rfl ?_;exact ⟨_,rfl,by rw[HE.E];exact HT.c,HT.D⟩
   | true=>
    have hex:∃ k2 c,x.kids[2]? =some k2/\Ax.tk t k2=some c/\∃ es2,Ax.made f t 24 s.pos (i:Int)=some es2/\e=Ex.mk 24 c.text s.text 0 false es2 s.pos:=by
     rcases HH.e with ⟨_,k2,c,es,h1,h2,h3,h4⟩ | ⟨h1,_⟩
     ·exact ⟨k2,c,h1,h2,es,h3,h4⟩
     ·exact absurd (of_decide_eq_true HD.o) h1
    obtain ⟨k2,c,hx2,hc2,hex⟩:=hex;obtain ⟨b4,o4,e4,q4⟩:=HH.f 2 k2 hx2;injection e4 with e4;injection e4 with e4 e5;subst e4 e5;have hk4:(2:Int) < (x.kids.length:Int):=(by have:=(List.getElem?_eq_some_iff.1 hx2).1;omega);have hvb:=(H8.e.block _ (Q4 HV.a.1)).trans HV.a.1;have z0:=Q3 hvb 0 rfl;have z1:=Q3 hvb 1 rfl;have z2:=(H8.e.cell (Qd q4)).trans q4;have z3:=Q3 ((H8.c.block _ (Q4 HC.a)).trans HC.a) 2 rfl;have z4:=eI_ (Qd q4) (eE_ HC.b.size H6.B.size);have z5:=eI_ (Q4 HC.a) H6.B.size;have mkS:∀ W:World,Half w6.heap.size V8 W (.int .i64 24) (.bool false) (.slice aw (wd 0).length cw) (.bool false) (.slice ak es.length ckk) (.int .i64 s.pos)->Half w6.heap.size V8 W (.int .i64 24) (.bool false) (.slice aw (wd 0).length cw) (.bool false) (.slice ak es.length ckk) (.int .i64 s.pos)/\W.cell? ⟨w.heap.size,0,none⟩=some (.slice at_ t.toks.length ct)/\W.cell? ⟨w.heap.size,1,none⟩=some (.slice (some ⟨b,off,none⟩) t.nodes.length cn)/\W.cell? ⟨b2,o2+2,none⟩=some (.int .i64 k2)/\W.cell? ⟨g5,2,none⟩=some (.string ⟨s.text.toArray⟩):=fun W hb=> ⟨hb,(hb.1.cell HL.o).trans z0,(hb.1.cell HL.o).trans z1,(hb.1.cell z4).trans z2,(hb.1.cell z5).trans z3⟩;have hh5:Half w6.heap.size V8 wc (.int .i64 24) (.bool false) (.slice aw (wd 0).length cw) (.bool false) (.slice ak es.length ckk) (.int .i64 s.pos):=⟨hb5.mono (Nat.le_of_lt (Q4 H8.a)),_,_,(hb5.block _ (Q4 H8.a)).trans H8.a⟩
    have H9:=h4_ mkS hh5 hc2 hex;clear mkS hh5 hc2 hex z0 z1 z2 z3 z4 z5 q4 hvb hb5 hx2;go_wp2_with fail;go_region_held3 (fun w'=> Half w6.heap.size V8 w' (.int .i64 24) (.bool false) (.slice aw (wd 0).length cw) (.bool false) (.slice ak es.length ckk) (.int .i64 s.pos)/\w'.cell? ⟨w.heap.size,0,none⟩=some (.slice at_ t.toks.length ct)/\w'.cell? ⟨w.heap.size,1,none⟩=some (.slice (some ⟨b,off,none⟩) t.nodes.length cn)/\w'.cell? ⟨b2,o2+2,none⟩=some (.int .i64 k2)/\w'.cell? ⟨g5,2,none⟩=some (.string ⟨s.text.toArray⟩)) (first | exact H9.a _ (H9.b.drew) | exact H9.a _ hb7 | exact H9.a _ (hb7.set2 _) | exact H9.a _ ((hb7.set2 _).set1 _)) ((go_at_call 123;refine eH_ (Uq (HH.a.below (Q3Z H8.d (Nat.le_of_lt HL.o) (by assumption))) H9.c) ?_;rintro e w7 ⟨rfl,hc7⟩;have hb7:Half w6.heap.size V8 w7 (.int .i64 24) (.bool false) (.slice aw (wd 0).length cw) (.bool false) (.slice ak es.length ckk) (.int .i64 s.pos):=Q5F hc7 (by assumption);obtain ⟨x7,x8,hz7⟩:=hb7.2;have r1:=Q3 hz7 1 rfl;have r2:=Q3 hz7 2 rfl;have f1:=Q6 hz7 1;have f2:=Q6 hz7 2;clear hc7))
    all_goals (
     rename_i hh;clear hh;have hf:=Q7b hb7 (.string ⟨s.text.toArray⟩) (.string ⟨c.text.toArray⟩);obtain ⟨W9,hW9⟩:∃ W9,(w7.setCell ⟨w6.heap.size,2,none⟩ (.string ⟨s.text.toArray⟩)).setCell ⟨w6.heap.size,1,none⟩ (.string ⟨c.text.toArray⟩)=W9:=⟨_,rfl⟩
     rw[hW9] at hf |-;obtain ⟨hg,hbg⟩:=hf;have hex:=H9.D;have y0:=Q3 hg 0 rfl;have y1:=Q3 hg 1 rfl;have y2:=Q3 hg 2 rfl;have y3:=Q3 hg 3 rfl;have y4:=Q3 hg 4 rfl;have y5:=Q3 hg 5 rfl;have y6:=Q3 hg 6 rfl;have y7:=Q3 hg 7 rfl;have hres:W9.heap[w.heap.size+1]? =some (.cells #[.int .i64 0,.string ⟨#[]⟩,.string ⟨#[]⟩,.bool false,.slice none 0 0,.bool false,.slice none 0 0,.int .i64 0] 30 (0,0)):=(hbg.block _ (eI_ (Q4 HV.a.2.1) (eE_ HC.b.size H6.B.size))).trans ((H8.e.block _ (Q4 HV.a.2.1)).trans HV.a.2.1);have hre:RdE W9 (New w4 w6) (.mk 24 c.text s.text 0 false es s.pos) [.int .i64 24,.string ⟨c.text.toArray⟩,.string ⟨s.text.toArray⟩,.bool false,.slice aw (wd 0).length cw,.bool false,.slice ak es.length ckk,.int .i64 s.pos]:=Q09 (H6.a.keep (fun k hk=> (hbg.block k hk.2).trans (H8.b.block k hk.2)) (FrT.of (H8.b.trans hbg))) c.text s.text;have hwW:Below w.heap.size w W9:=H8.d.trans (hbg.mono (Nat.le_of_lt HL.o));obtain ⟨es2,hm2,hexx⟩:=hex;rw[HM.o] at hm2;injection hm2 with hm2;subst hm2;have HE:=h5_ hres hre hwW hbg.size hexx;clear hres hre hwW hexx hg hbg hb7 hW9 r1 r2 f1 f2 hz7;go_wp2_with (refine QQ rfl _ _ rfl rfl HE.a rfl rfl ⟨_,rfl,HE.b.imp fun k hk=> ⟨hk.1,eI_ hk.2 (eE_ H8.b.size HE.d)⟩⟩ (w1:=w4) (eI_ (Q4 HV.a.2.1) HC.b.size) (show w.heap.size<=w.heap.size+1 by omega) HE.c ?_;rintro W cs hg hs2 hv hb;have HT:=h4_ hg hs2 hv hb;clear hg hs2 hv hb);refine eG_ (XS rfl rfl HT.a HT.b) rfl ?_;exact ⟨_,rfl,by rw[HE.E];exact HT.c,HT.D⟩
     )
theorem Yu (h:Below B w w') (n:Nat):Below B w (w'.drewN n):=⟨h.os,h.tape,h.output,h.size,h.block⟩
theorem Q5G:(prog.info? 157).map (·.size)=some 3:=by kernel_rfl
theorem Qs {P:Program} {K:Act->World->Prop} (ty:TypeId) (x v:Operand) (ho:o.op= .store ty x v)
  (T:TypeId) (g:Nat) (zs vs:Array Value) (hx:a.eval x= .pointer (some ⟨g,0,none⟩)) (hg:w1.heap[g]? =some (.cells zs T (0,0))) (hv:a.eval v= .agg vs) (hz:zs.size=vs.size) (hi:(P.info? ty).map (·.size)=some vs.size) (h1:∀ u∈vs.toList,u.oneCell'=true)
  (h:K (a.put o.dst undef) (w1.setRow g vs)):Oper.wp P o a w1 K Q:=by
 have hst:=run_storeCells_at (P:=P) g 0 T vs.toList 0 zs w1 hg (by simp;omega) h1;have e:(zs.toList.take (0+0)++vs.toList++zs.toList.drop (0+0+vs.toList.length)).toArray=vs:=by
  have hd:zs.toList.drop (0+0+vs.toList.length)= []:=List.drop_eq_nil_of_le (by simp;omega);rw[hd];simp
 rw[e] at hst;cases hq:P.info? ty with
 | none=> simp[hq] at hi
 | some i=>
  have hs:i.size=vs.size:=by simpa [hq] using hi
  unfold Oper.wp execOp;simp only[ho,hx,hv,Instr.storeAt,Instr.sureAddr,Sem.run_bind,Sem.run_pure,Result.andThen_ok,storeVar,sizeOf,typeInfo,Value.cells];simp[hq,hs,hst];exact h
theorem JB {K:Act->World->Prop} (x v:Operand) (ho:o.op= .store 30 x v)
  {g:Nat} {zs:Array Value} (hx:a.eval x= .pointer (some ⟨g,0,none⟩)) (hg:w2.heap[g]? =some (.cells zs 30 (0,0))) (hz:zs.size=8) {val:Value} {e:Ex} (hv:a.eval v=val) (hn:ExV w2 (New w1 w2) val e) (hg1:g < w1.heap.size) (h01:w0.heap.size<=g) (hb:Below w0.heap.size w0 w2)
  (h:∀ W cs,W.heap[g]? =some (.cells cs 30 (0,0))->cs.size=8->ExV W (New w0 W) (.agg cs) e->Below w0.heap.size w0 W->K (a.put o.dst undef) W):
  Oper.wp prog o a w2 K Q:=by
 obtain ⟨cs,rfl,hr⟩:=hn;have hl:cs.toArray.size=8:=by simpa using hr.len
 refine Qs _ x v ho _ g zs cs.toArray hx hg hv (by rw[hz,hl]) (by rw[hl];exact X8) (by simpa using hr.ones) ?_;refine h _ cs.toArray (Qb hg) hl ⟨cs,rfl,(hr.keep (fun k hk=> Q8 (by have:=hk.1;omega)) (Qe hg)).imp fun k hk=> ⟨by have:=hk.1;omega,by rw[QH];exact hk.2⟩⟩ (Q9 hb h01 _)
theorem Q7c {x:Tr.Nd} {a:Tr.Tk} (h:Ax.first t x=some a):∃ k0 y,x.kids[0]? =some k0/\Ax.nd t k0=some y/\((y.kind=19/\Ax.tk t k0=some a)\/(y.kind≠19/\a=⟨0, [], [],0⟩)):=by
 unfold Ax.first at h;split at h
 ·cases h
 ·rename_i k hk;split at h
  ·cases h
  ·rename_i y hy;split at h
   ·rename_i h19;exact ⟨k,y,hk,hy,Or.inl ⟨h19,h⟩⟩
   ·rename_i h19;injection h with h;exact ⟨k,y,hk,hy,Or.inr ⟨h19,h.symm⟩⟩
def Tok4 (g:Nat) (V W:World):Prop:=Below g V W/\∃ c0 c1 c2 c3,W.heap[g]? =some (.cells #[c0,c1,c2,c3] 197 (0,0))
theorem Tok4.drew {g:Nat} {V W:World} (h:Tok4 g V W):Tok4 g V W.drew:=⟨h.1.drew,h.2⟩
theorem Q5H {g:Nat} {V W W':World} (hb:Below W.heap.size W W') (h:Tok4 g V W/\R):Tok4 g V W':=by
 obtain ⟨⟨h1,a,b,c,d,hg⟩,_⟩:=h;exact ⟨h1.trans (hb.mono (Nat.le_of_lt (Q4 hg))),a,b,c,d,(hb.block _ (Q4 hg)).trans hg⟩
theorem Q40 {g:Nat} {V W:World} (hw:Below B w V) (hB:B<=g) (h:Tok4 g V W/\R):Below B w W:=hw.trans (h.1.1.mono hB)
theorem Q7d {g:Nat} {V W:World} (h:Tok4 g V W) (x y z u:Value):Tok4 g V ((((W.setCell ⟨g,0,none⟩ x).setCell ⟨g,1,none⟩ y).setCell ⟨g,2,none⟩ z).setCell ⟨g,3,none⟩ u):=by
 obtain ⟨h1,a,b,c,d,hg⟩:=h;refine ⟨J3 h1 (rl_ _) x y z u,x,y,z,u,?_⟩;rw[YH hg rfl];exact Qb hg
theorem Q41 (h:TrR w P vt vn t) (htx:∀ k∈t.toks,k.text.length<=1073741824) {f:Int->Option Ex} (hf:KnowsE w vt vn f) {n:Int} {x:Tr.Nd} {a:Tr.Tk} {e:Ex} (hx:Ax.nd t n=some x) (ha:Ax.first t x=some a) (hnd:Ax.node f t n x a=some e) (h7:x.kind≠7):
  Calls prog 80 #[.agg #[vt,vn],.int .i64 n] w (ExOut w e):=by
 obtain ⟨at_,ct,an,cn,rfl,rfl⟩:=h.form;obtain ⟨k,y,hk0,hy,hcase⟩:=Q7c ha;have hn2:(t.nodes.length:Int)<=1000000:=by have:=h.nodes;omega
 obtain ⟨kd,hkd⟩:∃ kd,x.kind=kd:=⟨_,rfl⟩
 obtain ⟨yk,hyk⟩:∃ yk,y.kind=yk:=⟨_,rfl⟩
 have hbx0:=box2 w #[.slice at_ t.toks.length ct,.slice an t.nodes.length cn] 154 #[.int .i64 0,.string ⟨#[]⟩,.string ⟨#[]⟩,.bool false,.slice none 0 0,.bool false,.slice none 0 0,.int .i64 0] 30;obtain ⟨i,b,off,ak,ck,hni,hi,e0,c0,c1,c2,hkl,hkk⟩:=(h.below hbx0.2.2).node hx;subst hni e0;obtain ⟨j,bj,offj,ak2,ck2,hnj,hj,e0,d0,_,_,_,_⟩:=(h.below hbx0.2.2).node hy;injection e0 with e0;injection e0 with e0 e1;subst hnj e0 e1;obtain ⟨b2,o2,e0,q0⟩:=hkk 0 (j:Int) hk0;subst e0;have hall:=hkk;rw[hkd] at c0;rw[hyk] at d0 hcase;have hi2:(i:Int) < (t.nodes.length:Int):=by omega
 have hj2:(j:Int) < (t.nodes.length:Int):=by omega
 have hk1:(0:Int) < (x.kids.length:Int):=by have:=(List.getElem?_eq_some_iff.1 hk0).1;omega
 have hk1b:¬ x.kids= []:=by intro h0;rw[h0] at hk1;exact absurd hk1 (by decide)
 have hk1c:0 < x.kids.length:=by omega
 have hk3:(x.kids.length:Int)<=1000000:=by omega
 have HX:=hd_ hx;have H7:=hd_ h7;have HH:=h9_ h hf hcase hnd hall hkd htx hyk hx;clear h7 hkk hk0 hkl hcase hnd hx hy h hf hi hall ha hkd htx hj hyk;rw[Nat.add_zero] at q0;have a0:=Q3 hbx0.1 0 rfl;have a1:=Q3 hbx0.1 1 rfl;have hbx:=box4 w #[.slice at_ t.toks.length ct,.slice (some ⟨b,off,none⟩) t.nodes.length cn] 154 #[.int .i64 0,.string ⟨#[]⟩,.string ⟨#[]⟩,.bool false,.slice none 0 0,.bool false,.slice none 0 0,.int .i64 0] 30 #[.int .i64 kd,.int .i64 x.tok,.slice (some ⟨b2,o2,none⟩) x.kids.length ck] 157 #[.int .i64 0,.string ⟨#[]⟩,.string ⟨#[]⟩,.int .i64 0] 197;have HB0:=hd_ hbx0;clear hbx0;have HD:=hd_ d0;clear d0;have HQ:=hd_ q0;clear q0;go_in;go_wp2_with (first | refine Qa rfl 157 _ _ rfl 157 #[.int .i64 0,.int .i64 0,.slice none 0 0] #[.int .i64 kd,.int .i64 x.tok,.slice (some ⟨b2,o2,none⟩) x.kids.length ck] rfl rfl rfl Q5G (by simp[Value.oneCell']) ?_ | refine Qa rfl 197 _ _ rfl 197 #[.int .i64 0,.string ⟨#[]⟩,.string ⟨#[]⟩,.int .i64 0] #[.int .i64 0,.string ⟨#[]⟩,.string ⟨#[]⟩,.int .i64 0] rfl rfl rfl Q2o (by simp[Value.oneCell']) ?_);obtain ⟨V,hV⟩:∃ V,((((w.alloc (.cells #[.slice at_ t.toks.length ct,.slice (some ⟨b,off,none⟩) t.nodes.length cn] 154)).alloc (.cells #[.int .i64 0,.string ⟨#[]⟩,.string ⟨#[]⟩,.bool false,.slice none 0 0,.bool false,.slice none 0 0,.int .i64 0] 30)).alloc (.cells #[.int .i64 kd,.int .i64 x.tok,.slice (some ⟨b2,o2,none⟩) x.kids.length ck] 157)).alloc (.cells #[.int .i64 0,.string ⟨#[]⟩,.string ⟨#[]⟩,.int .i64 0] 197))=V:=⟨_,rfl⟩
 have d0:V.cell? ⟨b,off+j*3,none⟩=some (.int .i64 yk):=by rw[<-hV];exact ((Y5 _ _ _).cell (Qd HD.o)).trans HD.o
 have q0:V.cell? ⟨b2,o2,none⟩=some (.int .i64 (j:Int)):=by rw[<-hV];exact ((Y5 _ _ _).cell (Qd HQ.o)).trans HQ.o
 have hb2:b2 < w.heap.size+1+1:=by have:=Qd HQ.o;rw[<-Q5, <-Q5] at this;exact this
 have HH2:∀ (m:Nat) (k:Int),x.kids[m]? =some k->b2 < w.heap.size+1+1/\V.cell? ⟨b2,o2+m,none⟩=some (.int .i64 k):=by
  intro m k hm;obtain ⟨b3,o3,e3,h3⟩:=HH.e m k hm;injection e3 with e3;injection e3 with e3 e4;subst e3 e4;refine ⟨hb2,?_⟩;rw[<-hV];exact ((Y5 _ _ _).cell (Qd h3)).trans h3
 rw[hV] at hbx |-;clear a0 a1 c0 c1 c2 hV;have a0:=Q3 hbx.1 0 rfl;have a1:=Q3 hbx.1 1 rfl;have n2:=Q3 hbx.2.2.1 2 rfl;have mkS:∀ W:World,Tok4 (w.heap.size+1+1+1) V W->Tok4 (w.heap.size+1+1+1) V W/\W.cell? ⟨w.heap.size,0,none⟩=some (.slice at_ t.toks.length ct)/\W.cell? ⟨w.heap.size,1,none⟩=some (.slice (some ⟨b,off,none⟩) t.nodes.length cn)/\W.cell? ⟨w.heap.size+1+1,2,none⟩=some (.slice (some ⟨b2,o2,none⟩) x.kids.length ck)/\W.cell? ⟨b2,o2,none⟩=some (.int .i64 (j:Int)):=fun W hb=> ⟨hb,(hb.1.cell (show w.heap.size < (w.heap.size+1+1+1) by omega)).trans a0,(hb.1.cell (show w.heap.size < (w.heap.size+1+1+1) by omega)).trans a1,(hb.1.cell (show w.heap.size+1+1 < (w.heap.size+1+1+1) by omega)).trans n2,(hb.1.cell (show b2 < (w.heap.size+1+1+1) by omega)).trans q0⟩;have HV:=hd_ hbx;have HS:=hd_ mkS;have HK:=hd_ HH2;clear hbx mkS HH2 hb2;go_cut [27] from 17 to 27 (fun v27 wc=> Hid (v27= .bool (decide (yk=19)))/\∃ q,wc=V.drewN q)
 case first=>
  go_quiet (fail);go_wp2_with fail;go_meet
  case rel=> exact ⟨hd_ (by first | rfl | simp),_,rfl⟩
 case rest=>
 obtain ⟨hv27,q27,rfl⟩:=hcut;go_wp2_with fail;go_cut [27] from 28 to 33 (fun v27 wc=> TkAt (w.heap.size+1+1+1) V a (w.heap.size+1+1+1) wc)
 case first=>
  by_cases h19:yk=19
  ·have hta:Ax.tk t (j:Int)=some a:=by
    rcases HH.c with ⟨_,h1⟩ | ⟨h1,_⟩
    ·exact h1
    ·exact absurd h19 h1
   have HT:=hd_ hta;clear hta;rw[hv27.out,eM_ h19];have ht0:∀ q,Tok4 (w.heap.size+1+1+1) V (V.drewN q):=fun q=> ⟨Yu (eB_ _ _) q,_,_,_,_,HV.d⟩;have H0:=hd_ ht0;clear ht0;go_wp2_with fail
   trace_state
   go_region_held3 (fun w'=> Tok4 (w.heap.size+1+1+1) V w'/\w'.cell? ⟨w.heap.size,0,none⟩=some (.slice at_ t.toks.length ct)/\w'.cell? ⟨w.heap.size,1,none⟩=some (.slice (some ⟨b,off,none⟩) t.nodes.length cn)/\w'.cell? ⟨w.heap.size+1+1,2,none⟩=some (.slice (some ⟨b2,o2,none⟩) x.kids.length ck)/\w'.cell? ⟨b2,o2,none⟩=some (.int .i64 (j:Int))) (first | exact HS.o _ (H0.o _).drew | exact HS.o _ hb7 | exact HS.o _ (Q7d hb7 _ _ _ _)) ((go_at_call 119;refine eH_ (Yt (HH.a.below (Q40 HV.e (show w.heap.size<=(w.heap.size+1+1+1) by omega) (by assumption))) HT.o) ?_;rintro e w7 ⟨rfl,hc7⟩;have hb7:Tok4 (w.heap.size+1+1+1) V w7:=Q5H hc7 (by assumption);obtain ⟨y0,y1,y2,y3,hz7⟩:=hb7.2;have r0:=Q3 hz7 0 rfl;have r1:=Q3 hz7 1 rfl;have r2:=Q3 hz7 2 rfl;have r3:=Q3 hz7 3 rfl;have f0:=Q6 hz7 0;have f1:=Q6 hz7 1;have f2:=Q6 hz7 2;have f3:=Q6 hz7 3;clear hc7))
   all_goals (
    rename_i hh;clear hh;go_wp2_with fail;go_meet
    case rel=> exact DP a hb7.1 hz7 rfl (rl_ _))
  ·have hta:a=⟨0, [], [],0⟩:=by
    rcases HH.c with ⟨h1,_⟩ | ⟨_,h1⟩
    ·exact absurd h1 h19
    ·exact h1
   have HT:=hd_ hta;clear hta;rw[hv27.out,eK_ h19];go_wp2_with fail;go_meet
   case rel=> rw[HT.o];exact ⟨HV.d,Yu (eB_ _ _) _,rl_ _⟩
 case rest=>
  obtain ⟨hg6,hb6,_⟩:=hcut;have hw:=HV.e.trans (hb6.mono (show w.heap.size<=(w.heap.size+1+1+1) by omega));have hbox:=(hb6.block _ (show w.heap.size < (w.heap.size+1+1+1) by omega)).trans HV.a;have hres:=(hb6.block _ (show w.heap.size+1 < (w.heap.size+1+1+1) by omega)).trans HV.b;have hnode:=(hb6.block _ (show w.heap.size+1+1 < (w.heap.size+1+1+1) by omega)).trans HV.c;clear a0 a1 n2 q0 d0 hv27;have a0:=Q3 hbox 0 rfl;have a1:=Q3 hbox 1 rfl;have n0:=Q3 hnode 0 rfl;have n2:=Q3 hnode 2 rfl;have t2:=Q3 hg6 2 rfl;have t3:=Q3 hg6 3 rfl;have HC:=h5_ hg6 hb6 hbox hres hw;clear hg6 hb6 hbox hres hw hnode;have hnd:=HH.d;have hkd:=HH.f;unfold Ax.node at hnd;rw[hkd] at hnd;have HN:=hd_ hnd;clear hnd hkd;by_cases h12:kd=12
  ·subst h12;have hnd:=HN.o;rw[if_pos rfl] at hnd;obtain ⟨k1,hx1,hfk⟩:∃ k1,x.kids[1]? =some k1/\f k1=some e:=by
    split at hnd
    ·cases hnd
    ·rename_i k1 hx1;exact ⟨k1,hx1,hnd⟩
   have hk12:(1:Int) < (x.kids.length:Int):=(by have:=(List.getElem?_eq_some_iff.1 hx1).1;omega);have z1:=HK.o 1 k1 hx1;have b1:=(HC.b.cell (show b2 < (w.heap.size+1+1+1) by have:=z1.1;omega)).trans z1.2;have mkS:∀ W:World,Below wc.heap.size wc W->Below wc.heap.size wc W/\W.cell? ⟨w.heap.size,0,none⟩=some (.slice at_ t.toks.length ct)/\W.cell? ⟨w.heap.size,1,none⟩=some (.slice (some ⟨b,off,none⟩) t.nodes.length cn)/\W.cell? ⟨w.heap.size+1+1,2,none⟩=some (.slice (some ⟨b2,o2,none⟩) x.kids.length ck)/\W.cell? ⟨b2,o2+1,none⟩=some (.int .i64 k1):=fun W hb=> ⟨hb,(hb.cell (Qd a0)).trans a0,(hb.cell (Qd a1)).trans a1,(hb.cell (Qd n2)).trans n2,(hb.cell (Qd b1)).trans b1⟩;have HM:=h2_ hfk mkS;clear hfk mkS z1 b1 hnd hx1;go_wp2_with fail;refine XP (S:=fun w'=> Below wc.heap.size wc w'/\w'.cell? ⟨w.heap.size,0,none⟩=some (.slice at_ t.toks.length ct)/\w'.cell? ⟨w.heap.size,1,none⟩=some (.slice (some ⟨b,off,none⟩) t.nodes.length cn)/\w'.cell? ⟨w.heap.size+1+1,2,none⟩=some (.slice (some ⟨b2,o2,none⟩) x.kids.length ck)/\w'.cell? ⟨b2,o2+1,none⟩=some (.int .i64 k1)) (by simp) (by kernel_rfl) (by kernel_rfl) (HM.B _ ((eB_ _ _).drew)) (fun hHeld=> ?_);simp only[lA_];refine tk_ 0 rfl ?_;refine tk_ 1 rfl ?_;refine tk_ 2 rfl ?_;refine tk_ 3 rfl ?_;refine tk_ 4 rfl ?_;(try simp only[Act.put,gP_]);refine rd_ 5 rfl (fun KK hKK=> ?_);simp only[gA_];go_simp;refine (HH.b wc.drew HC.E.drew k1 e HM.a).mono ?_;rintro e2 w9 ⟨v9,rfl,hv9,hb9⟩;have hb9:Below wc.heap.size wc w9:=(eB_ _ _).drew.trans hb9;have hres9:=(hb9.block _ (Q4 HC.d)).trans HC.d;have H9:=h3_ hv9 hres9 (HC.E.trans (hb9.mono HC.E.size));clear hv9 hres9;dsimp only;refine hKK.out _ _ (HM.B _ hb9) (fun hHeld=> ?_);clear hKK KK;(try simp only[Act.put,sA_]);refine wpAnyH_done (by kernel_rfl) ?_ _;unfold PeelQ;dsimp only;refine JB (w0:=w) (w1:=wc) _ _ rfl rfl H9.b rfl rfl H9.a (Q4 HC.d) (show w.heap.size<=w.heap.size+1 by omega) H9.C ?_;rintro W cs hg hs2 hv hb;have HT:=h4_ hg hs2 hv hb;clear hg hs2 hv hb;go_wp2_with fail;refine eG_ (XS rfl rfl HT.a HT.b) rfl ?_;exact ⟨_,rfl,HT.c,HT.D⟩
  by_cases h10:kd=10
  ·subst h10;have hnd:=HN.o;rw[if_neg (by decide)] at hnd;rw[if_pos rfl] at hnd;have HM:=h2_ hnd (Eq.refl e);clear hnd;go_wp2_with fail;refine (Li (HH.a.below HC.E) (HH.b.past HC.E) HX.o HM.a).mono ?_;rintro e2 w9 ⟨v9,rfl,hv9,hb9⟩;have hres9:=(hb9.block _ (Q4 HC.d)).trans HC.d;have H9:=h3_ hv9 hres9 (HC.E.trans (hb9.mono HC.E.size));clear hv9 hres9 hb9;go_wp2_with (refine QQ rfl _ _ rfl rfl H9.b rfl rfl H9.a (Q4 HC.d) (show w.heap.size<=w.heap.size+1 by omega) H9.C ?_;rintro W cs hg hs2 hv hb;have HT:=h4_ hg hs2 hv hb;clear hg hs2 hv hb);refine eG_ (XS rfl rfl HT.a HT.b) rfl ?_;exact ⟨_,rfl,(by first | exact HT.c | (rw[HM.B];exact HT.c)),HT.D⟩
  by_cases h13:kd=13
  ·subst h13;have hnd:=HN.o;rw[if_neg (by decide)] at hnd;rw[if_neg (by decide)] at hnd;rw[if_pos rfl] at hnd;have HM:=h2_ hnd (Eq.refl e);clear hnd;go_wp2_with fail;refine (Q2s (HH.a.below HC.E) (HH.b.past HC.E) HX.o HM.a).mono ?_;rintro e2 w9 ⟨v9,rfl,hv9,hb9⟩;have hres9:=(hb9.block _ (Q4 HC.d)).trans HC.d;have H9:=h3_ hv9 hres9 (HC.E.trans (hb9.mono HC.E.size));clear hv9 hres9 hb9;go_wp2_with (refine QQ rfl _ _ rfl rfl H9.b rfl rfl H9.a (Q4 HC.d) (show w.heap.size<=w.heap.size+1 by omega) H9.C ?_;rintro W cs hg hs2 hv hb;have HT:=h4_ hg hs2 hv hb;clear hg hs2 hv hb);refine eG_ (XS rfl rfl HT.a HT.b) rfl ?_;exact ⟨_,rfl,(by first | exact HT.c | (rw[HM.B];exact HT.c)),HT.D⟩
  by_cases h11:kd=11
  ·subst h11;have hnd:=HN.o;rw[if_neg (by decide)] at hnd;rw[if_neg (by decide)] at hnd;rw[if_neg (by decide)] at hnd;rw[if_pos rfl] at hnd;have he:=Ur a.text [110,111,116];have he2:=QS a.text [110,111,116];by_cases hno:a.text= [110,111,116]
   ·rw[if_pos hno] at hnd;rw[eM_ hno] at he he2;obtain ⟨es,hm,hex⟩:=ZB hnd;have HM:=h2_ hm hex;clear hm hex hnd hno;go_wp2_with fail;refine (XI (HH.a.below HC.E) (HH.b.past HC.E) HM.a).mono ?_;rintro e2 w9 ⟨v9,rfl,hv9,hb9⟩;have hres9:=(hb9.block _ (Q4 HC.d)).trans HC.d;have H9:=h3_ hv9 hres9 (HC.E.trans (hb9.mono HC.E.size));clear hv9 hres9 hb9;go_wp2_with (refine QQ rfl _ _ rfl rfl H9.b rfl rfl H9.a (Q4 HC.d) (show w.heap.size<=w.heap.size+1 by omega) H9.C ?_;rintro W cs hg hs2 hv hb;have HT:=h4_ hg hs2 hv hb;clear hg hs2 hv hb);refine eG_ (XS rfl rfl HT.a HT.b) rfl ?_;exact ⟨_,rfl,(by first | exact HT.c | (rw[HM.B];exact HT.c)),HT.D⟩
   ·rw[if_neg hno] at hnd;rw[eK_ hno] at he he2;obtain ⟨es,hm,hex⟩:=ZB hnd;have HM:=h2_ hm hex;clear hm hex hnd hno;go_wp2_with fail;refine (XI (HH.a.below HC.E) (HH.b.past HC.E) HM.a).mono ?_;rintro e2 w9 ⟨v9,rfl,hv9,hb9⟩;have hres9:=(hb9.block _ (Q4 HC.d)).trans HC.d;have H9:=h3_ hv9 hres9 (HC.E.trans (hb9.mono HC.E.size));clear hv9 hres9 hb9;go_wp2_with (refine QQ rfl _ _ rfl rfl H9.b rfl rfl H9.a (Q4 HC.d) (show w.heap.size<=w.heap.size+1 by omega) H9.C ?_;rintro W cs hg hs2 hv hb;have HT:=h4_ hg hs2 hv hb;clear hg hs2 hv hb);refine eG_ (XS rfl rfl HT.a HT.b) rfl ?_;exact ⟨_,rfl,(by first | exact HT.c | (rw[HM.B];exact HT.c)),HT.D⟩
  by_cases h8:kd=8
  ·subst h8;have hnd:=HN.o;rw[if_neg (by decide)] at hnd;rw[if_neg (by decide)] at hnd;rw[if_neg (by decide)] at hnd;rw[if_neg (by decide)] at hnd;rw[if_pos rfl] at hnd;obtain ⟨es,hm,hex⟩:=ZB hnd;have HM:=h2_ hm hex;clear hm hex hnd;go_wp2_with fail;refine (XI (HH.a.below HC.E) (HH.b.past HC.E) HM.a).mono ?_;rintro e2 w9 ⟨v9,rfl,hv9,hb9⟩;have hres9:=(hb9.block _ (Q4 HC.d)).trans HC.d;have H9:=h3_ hv9 hres9 (HC.E.trans (hb9.mono HC.E.size));clear hv9 hres9 hb9;go_wp2_with (refine QQ rfl _ _ rfl rfl H9.b rfl rfl H9.a (Q4 HC.d) (show w.heap.size<=w.heap.size+1 by omega) H9.C ?_;rintro W cs hg hs2 hv hb;have HT:=h4_ hg hs2 hv hb;clear hg hs2 hv hb);refine eG_ (XS rfl rfl HT.a HT.b) rfl ?_;exact ⟨_,rfl,(by first | exact HT.c | (rw[HM.B];exact HT.c)),HT.D⟩
  by_cases h9:kd=9
  ·subst h9;have hnd:=HN.o;rw[if_neg (by decide)] at hnd;rw[if_neg (by decide)] at hnd;rw[if_neg (by decide)] at hnd;rw[if_neg (by decide)] at hnd;rw[if_neg (by decide)] at hnd;rw[if_pos rfl] at hnd;obtain ⟨es,hm,hex⟩:=ZB hnd;have HM:=h2_ hm hex;clear hm hex hnd;go_wp2_with fail;refine (XI (HH.a.below HC.E) (HH.b.past HC.E) HM.a).mono ?_;rintro e2 w9 ⟨v9,rfl,hv9,hb9⟩;have hres9:=(hb9.block _ (Q4 HC.d)).trans HC.d;have H9:=h3_ hv9 hres9 (HC.E.trans (hb9.mono HC.E.size));clear hv9 hres9 hb9;go_wp2_with (refine QQ rfl _ _ rfl rfl H9.b rfl rfl H9.a (Q4 HC.d) (show w.heap.size<=w.heap.size+1 by omega) H9.C ?_;rintro W cs hg hs2 hv hb;have HT:=h4_ hg hs2 hv hb;clear hg hs2 hv hb);refine eG_ (XS rfl rfl HT.a HT.b) rfl ?_;exact ⟨_,rfl,(by first | exact HT.c | (rw[HM.B];exact HT.c)),HT.D⟩
  by_cases h7:kd=7
  ·subst h7;exact absurd HH.f H7.o
  by_cases h15:kd=15
  ·subst h15;have hnd:=HN.o;rw[if_neg (by decide)] at hnd;rw[if_neg (by decide)] at hnd;rw[if_neg (by decide)] at hnd;rw[if_neg (by decide)] at hnd;rw[if_neg (by decide)] at hnd;rw[if_neg (by decide)] at hnd;rw[if_neg (by decide)] at hnd;rw[if_pos rfl] at hnd;injection hnd with hnd;have hlt:a.text.length<=1073741824:=by
    rcases HH.c with ⟨_,h1⟩ | ⟨_,h1⟩
    ·obtain ⟨_,m,_,_,h2⟩:=Q8s h1;exact HH.g a (eP_ h2)
    ·rw[h1];decide
   have HM:=h2_ hnd.symm hlt;clear hnd hlt;go_wp2_with fail;refine (Q0K a.text HM.B wc).mono ?_;rintro e2 w9 ⟨⟨v9,rfl,s9,rfl,hu9⟩,hb9⟩;obtain ⟨z,hz⟩:∃ z,(Zp.parse a.text).1=z:=⟨_,rfl⟩
   obtain ⟨ok9,hok⟩:∃ z,(Zp.parse a.text).2=z:=⟨_,rfl⟩
   rw[hz] at hu9;rw[hz,hok];obtain ⟨nb,hnb⟩:∃ nb,decide (z < 0)=nb:=⟨_,rfl⟩
   rw[hnb];obtain ⟨a9,c9,rfl⟩:=RdS.form hu9;obtain ⟨W10,hW10⟩:∃ W10,w9.alloc (.cells #[.bool nb,.slice a9 (wd z).length c9] 27)=W10:=⟨_,rfl⟩
   have hb10:Below wc.heap.size wc W10:=(by rw[<-hW10];exact hb9.alloc hb9.size _);have hr10:W10.heap[w9.heap.size]? =some (.cells #[.bool nb,.slice a9 (wd z).length c9] 27 (0,0)):=(by rw[<-hW10];exact eD_ _ _);have hu10:RdU W10 (.slice a9 (wd z).length c9) (wd z):=(by rw[<-hW10];exact RdU.below hu9 (Qt _ _));have hres10:=(hb10.block _ (Q4 HC.d)).trans HC.d;have ht10:=(hb10.block _ (Q4 HC.a)).trans HC.a;have t13:=Q3 ht10 3 rfl;have k0:=Q3 hr10 0 rfl;have k1:=Q3 hr10 1 rfl;rw[<-hW10] at t13;have H9:=h6_ hres10 hu10 (HC.E.trans (hb10.mono HC.E.size)) hW10 hz hnb;clear hres10 hu10 hb10 hb9 hu9 hz hok hnb ht10 hr10 k0 k1 hW10;dsimp only;go_wp2_with (first | refine Qa rfl 27 _ _ rfl 27 #[.bool false,.slice none 0 0] #[.bool nb,.slice a9 (wd z).length c9] rfl rfl rfl Qq (by simp[Value.oneCell']) ?_ | (rw[H9.d];refine Qc rfl _ _ _ rfl 30 (w.heap.size+1) #[.int .i64 0,.string ⟨#[]⟩,.string ⟨#[]⟩,.bool false,.slice none 0 0,.bool false,.slice none 0 0,.int .i64 0] #[.int .i64 1,.string ⟨#[]⟩,.string ⟨#[]⟩,.bool nb,.slice a9 (wd z).length c9,.bool false,.slice none 0 0,.int .i64 a.pos] rfl H9.a rfl rfl X8 (by simp[Value.oneCell']) ?_));refine eG_ (XS rfl rfl (Qb H9.a) rfl) rfl ?_;exact ⟨_,rfl,⟨[.int .i64 1,.string ⟨#[]⟩,.string ⟨#[]⟩,.bool nb,.slice a9 (wd z).length c9,.bool false,.slice none 0 0,.int .i64 a.pos],rfl,by rw[HM.a,H9.e, <-H9.F];exact J1 (RdB.frt H9.b (Qe H9.a) (by decide))⟩,Q9 H9.c (by omega) _⟩
  by_cases h16:kd=16
  ·subst h16;have hnd:=HN.o;rw[if_neg (by decide)] at hnd;rw[if_neg (by decide)] at hnd;rw[if_neg (by decide)] at hnd;rw[if_neg (by decide)] at hnd;rw[if_neg (by decide)] at hnd;rw[if_neg (by decide)] at hnd;rw[if_neg (by decide)] at hnd;rw[if_neg (by decide)] at hnd;rw[if_pos rfl] at hnd;injection hnd with hnd;obtain ⟨d,hd⟩:∃ d,decide (a.text= [116,114,117,101])=d:=⟨_,rfl⟩
   have he:=Ur a.text [116,114,117,101];have he2:=QS a.text [116,114,117,101];rw[hd] at he he2;rw[he2] at hnd;have HM:=hd_ hnd.symm;clear hnd hd;go_wp2_with (refine Qc rfl _ _ _ rfl 30 (w.heap.size+1) #[.int .i64 0,.string ⟨#[]⟩,.string ⟨#[]⟩,.bool false,.slice none 0 0,.bool false,.slice none 0 0,.int .i64 0] #[.int .i64 2,.string ⟨#[]⟩,.string ⟨#[]⟩,.bool false,.slice none 0 0,.bool d,.slice none 0 0,.int .i64 a.pos] rfl HC.d rfl rfl X8 (by simp[Value.oneCell']) ?_);refine eG_ (XS rfl rfl (Qb HC.d) rfl) rfl ?_;exact ⟨_,rfl,⟨[.int .i64 2,.string ⟨#[]⟩,.string ⟨#[]⟩,.bool false,.slice none 0 0,.bool d,.slice none 0 0,.int .i64 a.pos],rfl,by rw[HM.o];exact J1 (J2 _)⟩,Q9 HC.E (by omega) _⟩
  by_cases h17:kd=17
  ·subst h17;have hnd:=HN.o;rw[if_neg (by decide)] at hnd;rw[if_neg (by decide)] at hnd;rw[if_neg (by decide)] at hnd;rw[if_neg (by decide)] at hnd;rw[if_neg (by decide)] at hnd;rw[if_neg (by decide)] at hnd;rw[if_neg (by decide)] at hnd;rw[if_neg (by decide)] at hnd;rw[if_neg (by decide)] at hnd;rw[if_pos rfl] at hnd;injection hnd with hnd;have HM:=hd_ hnd.symm;clear hnd;go_wp2_with (refine Qc rfl _ _ _ rfl 30 (w.heap.size+1) #[.int .i64 0,.string ⟨#[]⟩,.string ⟨#[]⟩,.bool false,.slice none 0 0,.bool false,.slice none 0 0,.int .i64 0] #[.int .i64 4,.string ⟨#[]⟩,.string ⟨#[]⟩,.bool false,.slice none 0 0,.bool false,.slice none 0 0,.int .i64 a.pos] rfl HC.d rfl rfl X8 (by simp[Value.oneCell']) ?_);refine eG_ (XS rfl rfl (Qb HC.d) rfl) rfl ?_;exact ⟨_,rfl,⟨[.int .i64 4,.string ⟨#[]⟩,.string ⟨#[]⟩,.bool false,.slice none 0 0,.bool false,.slice none 0 0,.int .i64 a.pos],rfl,by rw[HM.o];exact J1 (J2 _)⟩,Q9 HC.E (by omega) _⟩
  have hnd:=HN.o;rw[if_neg h12] at hnd;rw[if_neg h10] at hnd;rw[if_neg h13] at hnd;rw[if_neg h11] at hnd;rw[if_neg h8] at hnd;rw[if_neg h9] at hnd;rw[if_neg h7] at hnd;rw[if_neg h15] at hnd;rw[if_neg h16] at hnd;rw[if_neg h17] at hnd;injection hnd with hnd;have HM:=hd_ hnd.symm;clear hnd;go_wp2_with (refine Qc rfl _ _ _ rfl 30 (w.heap.size+1) #[.int .i64 0,.string ⟨#[]⟩,.string ⟨#[]⟩,.bool false,.slice none 0 0,.bool false,.slice none 0 0,.int .i64 0] #[.int .i64 3,.string ⟨a.text.toArray⟩,.string ⟨#[]⟩,.bool false,.slice none 0 0,.bool false,.slice none 0 0,.int .i64 a.pos] rfl HC.d rfl rfl X8 (by simp[Value.oneCell']) ?_);refine eG_ (XS rfl rfl (Qb HC.d) rfl) rfl ?_;exact ⟨_,rfl,⟨[.int .i64 3,.string ⟨a.text.toArray⟩,.string ⟨#[]⟩,.bool false,.slice none 0 0,.bool false,.slice none 0 0,.int .i64 a.pos],rfl,by rw[HM.o];exact J1 (J2 _)⟩,Q9 HC.E (by omega) _⟩
theorem Gq {w:World} {P:Nat->Prop} {vt vn:Value} {t:Tr.T} (h:TrR w P vt vn t) (htx:∀ k∈t.toks,k.text.length<=1073741824) (h7:∀ x∈t.nodes,x.kind≠7):∀ g,KnowsE w vt vn (Ax.expr t g)
 | 0=> fun W hW n x hx=> by rw[Ax.expr] at hx;cases hx
 | g+1=> fun W hW n e hx=> by
  unfold Ax.expr at hx;split at hx
  ·cases hx
  ·rename_i x hn;split at hx
   ·cases hx
   ·rename_i a ha;exact Q41 (h.below hW) htx ((Gq h htx h7 g).past hW) hn ha hx (h7 x (Q78 hn))
theorem liesW:liesAt prog prog.depth 204 (2 / prog.cellsOf 204) 0 108 1=true:=by kernel_rfl
theorem Q42:prog.cellsOf 5=1:=by kernel_rfl
theorem Q7e (b:Nat) (w:World) (h0:w.cell? ⟨b,0,none⟩=some (.pointer none)) (hsh:w.shape? b=some (204,2)) (hfz:w.frozen? ⟨b,0,none⟩=false):
  Calls prog 91 #[.pointer (some ⟨b,0,none⟩)] w fun e w'=> e= .returned (.tuple #[])/\w'=w.setCell ⟨b,0,none⟩ (.pointer (some ⟨b,0,none⟩)):=by
 obtain ⟨j,hj,hjs⟩:=Option.map_eq_some_iff.1 sizeB;go_in;go_wp2;rw[Lib.run_to_unsafe w ⟨b,0,none⟩ underlying105 underlying211 hj (by rw[hjs];decide) hsh (Nat.zero_lt_succ 1)];simp only[Result.andThen];rw[Oper.upon_value];go_wp2;rw[run_callFunc_extern Tryz.func132 (by kernel_rfl) (by kernel_rfl) (by kernel_rfl) (e:=Extern.AbiNoEscape.same) (by kernel_rfl)];rw[Lib.run_noEscape];simp only[Result.andThen];rw[Oper.upon_value];go_wp2;rw[Lib.run_from_unsafe w ⟨b,0,none⟩ underlying211 underlying105 hj hsh liesW];simp only[Result.andThen];rw[Oper.upon_value];go_wp2;go_end0;exact ⟨rfl,rfl⟩
theorem Q7f (B b:Nat) (bs:List Value) (w:World) (h:Lib.IsBuilder 204 5 B b bs w):
  Calls prog 91 #[.pointer (some ⟨b,0,none⟩)] w fun e w'=> e= .returned (.tuple #[])/\(Lib.BuilderAt 204 5 B b (.pointer (some ⟨b,0,none⟩)) bs w'/\Below B w w'/\NB b w w'):=by
 rcases h with h | h
 ·refine (Q7e b w h.cell0 h.shape h.frozen0).mono ?_;rintro e w' ⟨rfl,rfl⟩;exact ⟨rfl,h.used _,(eB_ B w).setCell (p:=⟨b,0,none⟩) h.1 _,NB.setCell _ _⟩
 ·refine (D5 b w h.cell0).mono ?_;rintro e w' ⟨rfl,rfl⟩;exact ⟨rfl,h,eB_ B _,NB.refl _ _⟩
theorem Q8O (B b:Nat) (bs:List Value) (s:ByteArray) (w:World) (h:Lib.IsBuilder 204 5 B b bs w) (hlen:bs.length+s.size<=140737488355328) (hBw:B<=w.heap.size):
  Calls prog 48 #[.pointer (some ⟨b,0,none⟩),.string s] w fun e w'=> e= .returned (.tuple #[.int .i64 s.size,.nilIface])/\(Lib.IsBuilder 204 5 B b (bs++Lib.strCells s) w'/\Below B w w'/\NB b w w'):=by
 obtain ⟨i0,hi,hz0,hz1,hz2⟩:=Qw LG;go_in;go_wp2_with (go_at_call 91;refine (Q7f B b bs _ h).mono ?_);rintro e w1 ⟨rfl,h1,hb1,hnb1⟩;have HNB1:=hd_ hnb1;clear hnb1;obtain ⟨hB,v,hbk,hown,hne⟩:=h1;have c0:w1.cell? ⟨b,0,none⟩=some (.pointer (some ⟨b,0,none⟩)):=by rw[Lib.cell_of_heap hbk];rfl
 have c1:w1.cell? ⟨b,1,none⟩=some v:=by rw[Lib.cell_of_heap hbk];rfl
 go_wp2_with (at_builtin;refine Lib.wpList_append_own_string _ rfl _ _ 106 9 rfl B 5 i0 underlying106 underlying9 hi hz0 hz1 hz2 _ _ _ rfl hown s rfl ?c3 ?c4 ?c5 ?_)
 case c3=> unfold maxLen;omega
 case c4=> omega
 case c5=> have:=hb1.size;omega
 intro v' w2 hown' hgrow _;have hlt:b < w1.heap.size:=by
  rcases eS_ b w1.heap.size with h' | h'
  ·exact h'
  ·simp[Array.getElem?_eq_none h'] at hbk
 have hb2:w2.heap[b]? =some (.cells #[.pointer (some ⟨b,0,none⟩),v] 204 (0,0)):=by
  rw[hgrow.block b hlt (fun e=> hne e.symm)];exact hbk
 have d0:w2.cell? ⟨b,0,none⟩=some (.pointer (some ⟨b,0,none⟩)):=by rw[Lib.cell_of_heap hb2];rfl
 have d1:w2.cell? ⟨b,1,none⟩=some v:=by rw[Lib.cell_of_heap hb2];rfl
 have f1:w2.frozen? ⟨b,1,none⟩=false:=Lib.frozen_of_heap hb2 1;obtain ⟨ao,n',cap,rfl⟩:∃ ao n' cap,v'= .slice ao n' cap:=by
  rcases hown'.2 with ⟨hv,_⟩ | ⟨g,cap,cur,hv,_⟩
  ·exact ⟨_,_,_,hv⟩
  ·exact ⟨_,_,_,hv⟩
 go_wp2;go_ret2;refine ⟨rfl,?_,?_,(HNB1.o.trans (NB.grown hgrow hown)).trans (NB.setCell _ _)⟩
 ·exact Or.inr (Lib.BuilderAt.put (T:=204) (e:=5) hB hb2 (bs':=bs++Lib.strCells s) (by simpa [Lib.strCells_length] using hown') (by decide))
 ·exact (hb1.grown hgrow (by have:=hb1.size;omega) (fun k hk=> (hown.lt k hk).1)).setCell (p:=⟨b,1,none⟩) hB _
theorem wrs (B b:Nat) (l:List UInt8) (w:World) (h:Lib.IsBuilder 204 5 B b (Lib.byteCells l) w) (h0:l≠ []):
  Calls prog 49 #[.pointer (some ⟨b,0,none⟩)] w fun e w'=> e= .returned (.string ⟨l.toArray⟩)/\Below B w w':=by
 obtain ⟨p,hB,v,hbk,hown,hne⟩:∃ p,Lib.BuilderAt 204 5 B b p (Lib.byteCells l) w:=by
  rcases h with h | h
  ·exact ⟨_,h⟩
  ·exact ⟨_,h⟩
 have hl0:l.length≠0:=by simpa using h0
 rw[Lib.byteCells_length] at hown;obtain ⟨g,cap,cur,rfl,hbg,hg,hnc,hcm,hcs,htake⟩:∃ g cap cur,v= .slice (some ⟨g,0,none⟩) l.length cap/\B<=g/\w.heap[g]? =some (.cells cur 5 (0,0))/\l.length<=cap/\cap<=maxLen/\cur.size=cap*1/\cur.toList.take (l.length*1)=Lib.byteCells l:=by
  rcases hown.2 with ⟨_,hz⟩ | ⟨g,cap,cur,hv,r⟩
  ·exact absurd hz hl0
  ·exact ⟨g,cap,cur,hv,r⟩
 have c1:w.drew.cell? ⟨b,1,none⟩=some (.slice (some ⟨g,0,none⟩) l.length cap):=by
  have:w.drew.heap[b]? =some (.cells #[p,.slice (some ⟨g,0,none⟩) l.length cap] 204 (0,0)):=hbk;rw[Lib.cell_of_heap this];rfl
 have hSD:(Builtin.unsafeSliceData_ #[106] 167 #[.slice (some ⟨g,0,none⟩) l.length cap]).run prog w.drew= .ok (.pointer (some ⟨g,0,none⟩)) w.drew:=
  Lib.run_unsafeSliceData_row _ _ _ _ _ _ (by omega)
 have hUS:(Builtin.unsafeString_ #[167,3] 9 #[.pointer (some ⟨g,0,none⟩),.int .i64 l.length]).run prog w.drew= .ok (.string ⟨l.toArray⟩) (w.drew.freeze ⟨g,0,none⟩ l.length):=by
  refine Lib.run_unsafeString_row w.drew 167 3 9 5 underlying167 Q42 g cur.size (by have hg':w.drew.heap[g]? =some (.cells cur 5 (0,0)):=hg;simp[World.shape?,hg']) l h0 (by omega) (by unfold maxLen at hcm;omega) ?_;intro j x hx;have:=hown.cells (g:=g) rfl j (.int .u8 x.toNat) (by simp[Lib.byteCells,hx]);exact this
 go_in;go_wp2;go_region
 all_goals (go_wp2;go_ret;exact ⟨rfl,Lib.below_freeze (Below.drew (eB_ B w)) (p:=⟨g,0,none⟩) hbg _⟩)
theorem G7 (W:World) (q:Option Addr):(Builtin.unsafeString_ #[167,3] 9 #[.pointer q,.int .i64 0]).run prog W= .ok (.string .empty) W:=
 Lib.run_unsafeString_none W _ _ _ q
theorem Q8d (B b:Nat) (p:Value) (w:World) (hbk:w.heap[b]? =some (.cells #[p,.slice none 0 0] 204 (0,0))):
  Calls prog 49 #[.pointer (some ⟨b,0,none⟩)] w fun e w'=> e= .returned (.string ⟨#[]⟩)/\Below B w w':=by
 have hUS:=G7;have c1:w.drew.cell? ⟨b,1,none⟩=some (.slice none 0 0):=by
  have:w.drew.heap[b]? =some (.cells #[p,.slice none 0 0] 204 (0,0)):=hbk;rw[Lib.cell_of_heap this];rfl
 have hSD:(Builtin.unsafeSliceData_ #[106] 167 #[.slice none 0 0]).run prog w.drew= .ok (.pointer none) w.drew:=rfl;go_in;go_wp2;go_region
 all_goals (go_wp2;go_ret;exact ⟨rfl,Below.drew (eB_ B w)⟩)
theorem Q43 (B b g:Nat) (p:Value) (cur:Array Value) (w:World) (hBw:B<=w.heap.size) (hbk:w.heap[b]? =some (.cells #[p,.slice (some ⟨g,0,none⟩) 0 0] 204 (0,0))) (hg:w.heap[g]? =some (.cells cur 5 (0,0))):
  Calls prog 49 #[.pointer (some ⟨b,0,none⟩)] w fun e w'=> e= .returned (.string ⟨#[]⟩)/\Below B w w':=by
 have hUS:=G7;have hlt:b < w.heap.size:=by
  rcases eS_ b w.heap.size with h' | h'
  ·exact h'
  ·simp[Array.getElem?_eq_none h'] at hbk
 have c1:w.drew.cell? ⟨b,1,none⟩=some (.slice (some ⟨g,0,none⟩) 0 0):=by
  have:w.drew.heap[b]? =some (.cells #[p,.slice (some ⟨g,0,none⟩) 0 0] 204 (0,0)):=hbk;rw[Lib.cell_of_heap this];rfl
 have hSD:(Builtin.unsafeSliceData_ #[106] 167 #[.slice (some ⟨g,0,none⟩) 0 0]).run prog w.drew= .ok (.pointer (some ⟨w.drew.heap.size,0,none⟩)) (w.drew.alloc (.view ⟨g,0,none⟩ 5)):=
  Lib.run_unsafeSliceData_zero w.drew _ _ 5 underlying167 ⟨g,0,none⟩ 0 (5,cur.size) (by have hg':w.drew.heap[g]? =some (.cells cur 5 (0,0)):=hg;simp[World.shape?,hg'])
 have c2:(w.drew.alloc (.view ⟨g,0,none⟩ 5)).cell? ⟨b,1,none⟩=some (.slice (some ⟨g,0,none⟩) 0 0):=by
  have:(w.drew.alloc (.view ⟨g,0,none⟩ 5)).heap[b]? =_:=(Lib.alloc_old w.drew _ b hlt).trans hbk;rw[Lib.cell_of_heap this];rfl
 have c3:(w.alloc (.view ⟨g,0,none⟩ 5)).drew.cell? ⟨b,1,none⟩=some (.slice (some ⟨g,0,none⟩) 0 0):=c2;have c0:w.cell? ⟨b,1,none⟩=some (.slice (some ⟨g,0,none⟩) 0 0):=c1;go_in;go_wp2;go_region
 all_goals (go_wp2;go_ret;exact ⟨rfl,(Below.drew (eB_ B w)).alloc hBw _⟩)
theorem Q7g (B b g cap:Nat) (p:Value) (w:World) (hc0:cap≠0) (hbk:w.heap[b]? =some (.cells #[p,.slice (some ⟨g,0,none⟩) 0 cap] 204 (0,0))):
  Calls prog 49 #[.pointer (some ⟨b,0,none⟩)] w fun e w'=> e= .returned (.string ⟨#[]⟩)/\Below B w w':=by
 have hUS:=G7;have c1:w.drew.cell? ⟨b,1,none⟩=some (.slice (some ⟨g,0,none⟩) 0 cap):=by
  have:w.drew.heap[b]? =some (.cells #[p,.slice (some ⟨g,0,none⟩) 0 cap] 204 (0,0)):=hbk;rw[Lib.cell_of_heap this];rfl
 have hSD:(Builtin.unsafeSliceData_ #[106] 167 #[.slice (some ⟨g,0,none⟩) 0 cap]).run prog w.drew= .ok (.pointer (some ⟨g,0,none⟩)) w.drew:=
  Lib.run_unsafeSliceData_row _ _ _ _ _ _ hc0
 clear hc0;go_in;go_wp2;go_region
 all_goals (go_wp2;go_ret;exact ⟨rfl,Below.drew (eB_ B w)⟩)
theorem Q5I (B b:Nat) (w:World) (h:Lib.IsBuilder 204 5 B b [] w) (hBw:B<=w.heap.size):
  Calls prog 49 #[.pointer (some ⟨b,0,none⟩)] w fun e w'=> e= .returned (.string ⟨#[]⟩)/\Below B w w':=by
 obtain ⟨p,hB,v,hbk,hown,hne⟩:∃ p,Lib.BuilderAt 204 5 B b p [] w:=by
  rcases h with h | h
  ·exact ⟨_,h⟩
  ·exact ⟨_,h⟩
 rcases hown.2 with ⟨rfl,_⟩ | ⟨g,cap,cur,rfl,hbg,hg,_,_,_,_⟩
 ·exact Q8d B b p w hbk
 ·by_cases hc0:cap=0
  ·subst hc0;exact Q43 B b g p cur w hBw hbk hg
  ·exact Q7g B b g cap p w hc0 hbk
theorem Q8e (B b:Nat) (l:List UInt8) (w:World) (h:Lib.IsBuilder 204 5 B b (Lib.byteCells l) w) (hBw:B<=w.heap.size):
  Calls prog 49 #[.pointer (some ⟨b,0,none⟩)] w fun e w'=> e= .returned (.string ⟨l.toArray⟩)/\Below B w w':=by
 cases l with
 | nil=> exact Q5I B b w h hBw
 | cons x r=> exact wrs B b (x::r) w h (by simp)
def IsW (w:World) (B b:Nat) (l:List UInt8):Prop:=Lib.IsBuilder 204 5 B b (Lib.byteCells l) w
theorem DQ (B b:Nat) (l:List UInt8) (w:World) (h:IsW w B b l) (hBw:B<=w.heap.size):
  Calls prog 49 #[.pointer (some ⟨b,0,none⟩)] w fun e w'=> e= .returned (.string ⟨l.toArray⟩)/\Below B w w':=Q8e B b l w h hBw
theorem IsW.lt (h:IsW w B b l):b < w.heap.size/\B<=b:=by
 rcases h with ⟨h1,v,h2,_⟩ | ⟨h1,v,h2,_⟩
 ·exact ⟨ZM h2,h1⟩
 ·exact ⟨ZM h2,h1⟩
theorem IsW.below (h:IsW w B b l) (hb:Below w.heap.size w w'):IsW w' B b l:=X9 h hb
theorem Q5J {pre:List UInt8} (h:IsW w B b pre) (l:List UInt8) (hl:pre.length+l.length<=1073741824) (hB:B<=w.heap.size):
  Calls prog 48 #[.pointer (some ⟨b,0,none⟩),.string ⟨l.toArray⟩] w fun e w'=> (∃ n,e= .returned (.tuple #[.int .i64 n,.nilIface]))/\IsW w' B b (pre++l)/\Below B w w'/\NB b w w':=by
 have hs:(⟨l.toArray⟩:ByteArray).size=l.length:=by simp[ByteArray.size]
 refine (Q8O B b (Lib.byteCells pre) ⟨l.toArray⟩ w h (by rw[Lib.byteCells_length,hs];omega) hB).mono ?_;rintro e w' ⟨rfl,h1,h2,h3⟩;refine ⟨⟨_,rfl⟩,?_,h2,h3⟩;unfold IsW;rw[Lib.byteCells_append];exact h1
theorem G8:(prog.info? 245).map (·.size)=some 4:=by kernel_rfl
theorem Q2t (a b c:Int) (s:ByteArray) (w:World):(Instr.field 245 (.agg #[.int .i64 a,.int .i64 b,.int .i64 c,.string s]) 0).run prog w= .ok (.int .i64 a) w:=by kernel_rfl
def FormV (v:Value):Prop:=∃ (a b c:Int) (s:List UInt8),v= .agg #[.int .i64 a,.int .i64 b,.int .i64 c,.string ⟨s.toArray⟩]/\s.length<=2
theorem Q8F {op:Int} (h1:7<=op) (h2:op<=20):∃ (a b c:Int) (s:List UInt8),s.length<=2/\∀ w,(Instr.index 269 (.agg #[.int .i64 6,.int .i64 6,.int .i64 7,.string ⟨#[43]⟩,.int .i64 6,.int .i64 6,.int .i64 7,.string ⟨#[45]⟩,.int .i64 7,.int .i64 7,.int .i64 8,.string ⟨#[42]⟩,.int .i64 7,.int .i64 7,.int .i64 8,.string ⟨#[47]⟩,.int .i64 7,.int .i64 7,.int .i64 8,.string ⟨#[37]⟩,.int .i64 5,.int .i64 6,.int .i64 6,.string ⟨#[61]⟩,.int .i64 5,.int .i64 6,.int .i64 6,.string ⟨#[60,62]⟩,.int .i64 5,.int .i64 6,.int .i64 6,.string ⟨#[60]⟩,.int .i64 5,.int .i64 6,.int .i64 6,.string ⟨#[60,61]⟩,.int .i64 5,.int .i64 6,.int .i64 6,.string ⟨#[62]⟩,.int .i64 5,.int .i64 6,.int .i64 6,.string ⟨#[62,61]⟩,.int .i64 3,.int .i64 3,.int .i64 4,.string ⟨#[38,38]⟩,.int .i64 2,.int .i64 2,.int .i64 3,.string ⟨#[124,124]⟩,.int .i64 1,.int .i64 2,.int .i64 1,.string ⟨#[61,62]⟩]) (.int .i64 (op - 7))).run prog w= .ok (.agg #[.int .i64 a,.int .i64 b,.int .i64 c,.string ⟨s.toArray⟩]) w:=by
 have hop:op=7\/op=8\/op=9\/op=10\/op=11\/op=12\/op=13\/op=14\/op=15\/op=16\/op=17\/op=18\/op=19\/op=20:=by omega
 rcases hop with rfl | rfl | rfl | rfl | rfl | rfl | rfl | rfl | rfl | rfl | rfl | rfl | rfl | rfl
 ·exact ⟨6,6,7, [43],by decide,fun w=> by kernel_rfl⟩
 ·exact ⟨6,6,7, [45],by decide,fun w=> by kernel_rfl⟩
 ·exact ⟨7,7,8, [42],by decide,fun w=> by kernel_rfl⟩
 ·exact ⟨7,7,8, [47],by decide,fun w=> by kernel_rfl⟩
 ·exact ⟨7,7,8, [37],by decide,fun w=> by kernel_rfl⟩
 ·exact ⟨5,6,6, [61],by decide,fun w=> by kernel_rfl⟩
 ·exact ⟨5,6,6, [60,62],by decide,fun w=> by kernel_rfl⟩
 ·exact ⟨5,6,6, [60],by decide,fun w=> by kernel_rfl⟩
 ·exact ⟨5,6,6, [60,61],by decide,fun w=> by kernel_rfl⟩
 ·exact ⟨5,6,6, [62],by decide,fun w=> by kernel_rfl⟩
 ·exact ⟨5,6,6, [62,61],by decide,fun w=> by kernel_rfl⟩
 ·exact ⟨3,3,4, [38,38],by decide,fun w=> by kernel_rfl⟩
 ·exact ⟨2,2,3, [124,124],by decide,fun w=> by kernel_rfl⟩
 ·exact ⟨1,2,1, [61,62],by decide,fun w=> by kernel_rfl⟩
theorem Q0a {op:Int} (h1:7<=op) (h2:op<=20):Calls prog 171 #[.int .i64 op] w fun e w'=> ∃ v,e= .returned v/\FormV v/\Below w.heap.size w w':=by
 obtain ⟨a,b,c,s,hs,hix⟩:=Q8F h1 h2;have hwr:IntKind.i64.wrap (op - 7)=op - 7:=by rw[IntKind.wrap_i64];omega
 have HS:=hd_ hs;clear h1 h2 hs;go_in;go_wp2_with (refine Qa rfl 245 _ _ rfl 245 #[.int .i64 0,.int .i64 0,.int .i64 0,.string ⟨#[]⟩] #[.int .i64 a,.int .i64 b,.int .i64 c,.string ⟨s.toArray⟩] rfl rfl rfl G8 (by simp[Value.oneCell']) ?_);refine eG_ (eY_ rfl _ _ w.heap.size 245 #[.int .i64 a,.int .i64 b,.int .i64 c,.string ⟨s.toArray⟩] (0,0) _ rfl (eD_ _ _) underlying245 rfl G8) rfl ?_;exact ⟨_,rfl,⟨_,_,_,s,rfl,HS.o⟩,(eB_ _ _).alloc (rl_ _) _⟩
theorem Us {op:Int}:Calls prog 229 #[.int .i64 op] w fun e w'=> e= .returned (.bool (decide (7<=op) && decide (op<=20)))/\w'=w:=by
 by_cases h1:7<=op
 ·by_cases h2:op<=20
  ·have hd:(decide (7<=op) && decide (op<=20))=true:=(by rw[eM_ h1,eM_ h2];rfl);have HD:=hd_ hd;clear hd;go_in;go_wp2;go_ret;refine ⟨?_,rfl⟩;first | rfl | (rw[HD.o];rfl) | (simp;omega) | (simp[h2])
  ·have hd:(decide (7<=op) && decide (op<=20))=false:=(by rw[eK_ h2,Bool.and_false]);have HD:=hd_ hd;clear hd;go_in;go_wp2;go_ret;refine ⟨?_,rfl⟩;first | rfl | (rw[HD.o];rfl) | (simp;omega) | (simp[h2])
 ·have hd:(decide (7<=op) && decide (op<=20))=false:=by rw[eK_ h1,Bool.false_and]
  have HD:=hd_ hd;clear hd;go_in;go_wp2;go_ret;refine ⟨?_,rfl⟩;first | rfl | (rw[HD.o];rfl) | (simp;omega) | (simp[h2])
theorem Gr {w:World} {b:Nat}:∀ (css:List (List Value)) {off i:Nat} {c:List Value},(∀ c∈css,c.length=8)->w.rangeAt b off css.flatten->css[i]? =some c->w.rangeAt b (off+i*8) c
 | [],off,i,c,_,_,hi=> by simp at hi
 | c0::css,off,0,c,hc,h,hi=> by
  simp only[eZ_,Option.some.injEq] at hi;subst hi;intro j v hj;have:=h j v (by rw[List.flatten_cons,eT_ (List.getElem?_eq_some_iff.1 hj).1];exact hj);simpa using this
 | c0::css,off,i+1,c,hc,h,hi=> by
  have h8:=hc c0 (eX_ ..);have h2:w.rangeAt b (off+8) css.flatten:=by
   intro j v hj;have:=h (8+j) v (by rw[List.flatten_cons,eO_ (by omega),h8,Nat.add_sub_cancel_left];exact hj);rw[<-Nat.add_assoc] at this;exact this
  have:=Gr css (off:=off+8) (fun c hc'=> hc c (eR_ _ hc')) h2 (by simpa using hi);rw[show off+(i+1)*8=off+8+i*8 from by omega];exact this
theorem RdE.cells (h:RdE w P e cs):∃ sv kv,cs= [.int .i64 e.op,.string ⟨e.name.toArray⟩,.string ⟨e.mod.toArray⟩,.bool (decide (e.num < 0)),sv,.bool e.yes,kv,.int .i64 e.pos]/\RdU w sv (wd e.num)/\∃ a c,kv= .slice a e.kids.length c:=by
 cases h with
 | mk css hs hl hc hv hk=>
  obtain ⟨a,c,e1⟩:=hv.form;exact ⟨_,_,rfl,hs,a,c,e1⟩
theorem RdE.kid (h:RdE w P e cs) {i:Nat} {k:Ex} (hi:e.kids[i]? =some k):
  ∃ b off c cs',cs[6]? =some (.slice (some ⟨b,off,none⟩) e.kids.length c)/\P b/\w.rangeAt b (off+i*8) cs'/\cs'.length=8/\RdE w P k cs':=by
 cases h with
 | mk css hs hl hc hv hk=>
  simp only[Ex.kids] at hi;have hlt:=(List.getElem?_eq_some_iff.1 hi).1;obtain ⟨_,a,c,rfl,_,h4⟩:=hv;rcases h4 with ⟨_,h4⟩ | ⟨b,off,rfl,h5,h6⟩
  ·omega
  ·have hci:css[i]? =some (css[i]'(by omega)):=eA_ (by omega);refine ⟨b,off,c,css[i]'(by omega),rfl,h5.resolve_left (by omega),?_,hc _ (List.getElem_mem _),hk i k _ hi hci⟩;exact Gr css hc h6 hci
theorem Q2u (h:ExV w P v e):Calls prog 203 #[v] w fun r w'=> (∃ n:Int,r= .returned (.int .i64 n))/\Below w.heap.size w w':=by
 obtain ⟨cs,rfl,hr⟩:=h;obtain ⟨sv,kv,rfl,_,a,c,rfl⟩:=hr.cells;obtain ⟨op,hop⟩:∃ op,e.op=op:=⟨_,rfl⟩
 obtain ⟨pos,hpos⟩:∃ op,e.pos=op:=⟨_,rfl⟩
 obtain ⟨bn,hbn⟩:∃ op,decide (e.num < 0)=op:=⟨_,rfl⟩
 obtain ⟨nk,hnk⟩:∃ op,e.kids.length=op:=⟨_,rfl⟩
 rw[hop,hpos,hbn,hnk];clear hr hop hpos hbn hnk;have hb:Below w.heap.size w (w.alloc (.cells #[.int .i64 op,.string ⟨e.name.toArray⟩,.string ⟨e.mod.toArray⟩,.bool bn,sv,.bool e.yes,.slice a nk c,.int .i64 pos] 30)):=(eB_ _ _).alloc (rl_ _) _;have HB:=hd_ hb;clear hb;by_cases h1:7<=op/\op<=20
 ·have H:=hd_ h1;have hd:(decide (7<=op) && decide (op<=20))=true:=by simp[h1]
  have HD:=hd_ hd;clear h1 hd;go_in;go_wp2_with (first
   | (go_at_call 229;refine eH_ Us ?_;rintro e2 w2 ⟨rfl,rfl⟩;rw[HD.o])
   | (go_at_call 171;refine eH_ (Q0a H.a H.B) ?_;rintro e2 w2 ⟨v2,rfl,⟨a2,b2,c2,s2,rfl,hs2⟩,hb2⟩;have HB2:=hd_ hb2;have hf0:=Q2t a2 b2 c2 ⟨s2.toArray⟩;clear hb2 hs2))
  go_ret;exact ⟨⟨_,rfl⟩,HB.o.trans (HB2.o.mono HB.o.size)⟩
 ·have H:=hd_ h1;have hd:(decide (7<=op) && decide (op<=20))=false:=by
   rw[Bool.and_eq_false_iff];simp only[decide_eq_false_iff_not];omega
  have HD:=hd_ hd;clear h1 hd;go_in;go_wp2_with (go_at_call 229;refine eH_ Us ?_;rintro e2 w2 ⟨rfl,rfl⟩;rw[HD.o])
  all_goals (go_ret;exact ⟨⟨_,rfl⟩,HB.o⟩)
def plO (l:List UInt8) (tk:List Lx.Tok) (e:Nat):Bool:=e==0 && tk.length==2 && (match tk with | k::_=> k.kind==1 && k.text==l | []=> false)
theorem Q2v (l:List UInt8) (hl:l.length<=1073741824) (w:World):Calls prog 201 #[.string ⟨l.toArray⟩] w fun r w'=> r= .returned (.bool (Ex.plain l))/\Below w.heap.size w w':=by
 have HL:=hd_ (LD l hl w);obtain ⟨⟨tk,e,p⟩,hx⟩:∃ r,Lx.lex l=r:=⟨_,rfl⟩
 have hp:Ex.plain l=plO l tk e:=by
  unfold Ex.plain plO;rw[hx];rfl
 unfold LexSays at HL;rw[hx] at HL;have HP:=hd_ hp;clear hp hx hl;go_in;go_wp2_with fail;refine eH_ HL.o ?_;rintro r w1 ⟨v,rfl,hown,hb⟩;obtain ⟨a,c,rfl⟩:=Qj hown;have HB:=hd_ hb;have HW:=hd_ hown;dsimp only;by_cases he:e=0
 ·subst he;by_cases h2:tk.length=2
  ·obtain ⟨k0,k1,rfl⟩:∃ k0 k1,tk= [k0,k1]:=by
    match tk,h2 with
    | [k0,k1],_=> exact ⟨k0,k1,rfl⟩
   have hrd:=RdS.own HW.o;rw[JI] at hrd;obtain ⟨b,off,c2,e1,hb2,hr⟩:=RdS.tok (l:= [k0,k1].map toTk) hrd (i:=0) rfl;injection e1 with e1 _ _;subst e1;have f0:=hr 0 _ rfl;have f2:=hr 2 _ rfl;have lt0:=Qd f0;have he:=Ur k0.text l;have he2:=QS k0.text l;have hpl:plO l [k0,k1] 0=(decide (k0.kind=1) && decide (k0.text=l)):=by
    unfold plO;rw[<-he2];by_cases hk:k0.kind=1
    ·simp[hk]
    ·simp[hk]
   have hq:=HP.o.trans hpl;simp only[Nat.zero_mul,Nat.add_zero,toTk] at f0 f2;obtain ⟨d,hd⟩:∃ d,decide (k0.text=l)=d:=⟨_,rfl⟩
   rw[hd] at he he2 hq;clear hown hb hrd hr hb2 hpl hd h2;by_cases hk:k0.kind=1
   ·have hk2:(k0.kind:Int)=1:=(by omega);rw[hk2] at f0;rw[eM_ hk] at hq;have HQ:=hd_ hq;clear hk hk2 hq;go_wp2_with fail;go_ret;exact ⟨by rw[HQ.o];simp,HB.o.alloc HB.o.size _⟩
   ·have hk2:(k0.kind:Int)≠1:=(by omega);rw[eK_ hk] at hq;have HQ:=hd_ hq;clear hk hq;go_wp2_with fail;go_ret;exact ⟨by rw[HQ.o];simp,HB.o.alloc HB.o.size _⟩
  ·have h3:(tk.length:Int)≠2:=(by omega);have hpl:plO l tk 0=false:=(by unfold plO;simp[h2]);have HQ:=hd_ (HP.o.trans hpl);clear hown hb hpl;go_wp2_with fail;go_ret;exact ⟨by rw[HQ.o];simp,HB.o.alloc HB.o.size _⟩
 ·have hpl:plO l tk e=false:=by unfold plO;simp[he]
  have HQ:=hd_ (HP.o.trans hpl);clear hown hb hpl;have he':(e:Int)≠0:=by omega
  go_wp2_with fail;go_ret;exact ⟨by rw[HQ.o];simp,HB.o.alloc HB.o.size _⟩
end Go.Proofs.YtiecccakcenobaaGreatDoor
