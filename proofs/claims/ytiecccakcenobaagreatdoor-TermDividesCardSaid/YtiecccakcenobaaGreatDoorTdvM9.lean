/- A part of the proof. -/
import Derived.Test.YtiecccakcenobaaGreatDoorTdvM8
import Derived.Laws.StructEq
set_option linter.all false
set_option maxRecDepth 100000
set_option maxHeartbeats 64000000
namespace Go.Proofs.YtiecccakcenobaaGreatDoor
open Tryz
open Go.RowKit
theorem Q0b (w:World) (op:Int):Calls prog 161 #[.int .i64 op,.int .i64 0] w fun r w'=> r= .returned (.bool (decide (op < 21)))/\w'=w:=by
 go_in;go_wp2
 all_goals (go_ret;exact ⟨rfl,rfl⟩)
def knum (op:Int):Int:=if op<=4 then 0 else if op<=6 then 1 else 2
theorem Q44 (w:World) {op:Int} (h:op<=20):Calls prog 164 #[.int .i64 op] w fun r w'=> r= .returned (.int .i64 (knum op))/\w'=w:=by
 unfold knum;by_cases h1:op<=4
 ·rw[if_pos h1];go_in;go_wp2
  all_goals (go_ret;exact ⟨rfl,rfl⟩)
 ·rw[if_neg h1];by_cases h2:op<=6
  ·rw[if_pos h2];go_in;go_wp2
   all_goals (go_ret;exact ⟨rfl,rfl⟩)
  ·rw[if_neg h2];go_in;go_wp2
   all_goals (go_ret;exact ⟨rfl,rfl⟩)
theorem Q4H (x:List UInt8):((⟨x.toArray⟩:ByteArray).toList==(⟨#[]⟩:ByteArray).toList)=x.isEmpty:=by
 have:=Ur x [];rw[show (⟨#[]⟩:ByteArray)=⟨([]:List UInt8).toArray⟩ from rfl,this];cases x <;> simp
theorem Q2w {w:World} {op pos:Int} {name mod:List UInt8} {nb yes:Bool} {sv kv:Value} (hn:name.length<=1073741824) (h20:op<=20):
  Calls prog 162 #[.agg #[.int .i64 op,.string ⟨name.toArray⟩,.string ⟨mod.toArray⟩,.bool nb,sv,.bool yes,kv,.int .i64 pos]] w fun r w'=> r= .returned (.bool (if op=3 then Ex.plain name && mod.isEmpty else name.isEmpty && mod.isEmpty))/\Below w.heap.size w w':=by
 have HP:=hd_ (fun W=> Q2v name hn W);have hb:Below w.heap.size w (w.alloc (.cells #[.int .i64 op,.string ⟨name.toArray⟩,.string ⟨mod.toArray⟩,.bool nb,sv,.bool yes,kv,.int .i64 pos] 30)):=(eB_ _ _).alloc (rl_ _) _;have hg:(w.alloc (.cells #[.int .i64 op,.string ⟨name.toArray⟩,.string ⟨mod.toArray⟩,.bool nb,sv,.bool yes,kv,.int .i64 pos] 30)).heap[w.heap.size]? =_:=eD_ _ _;have HB:=h2_ hb hg;have hs1:=Q4H name;have hs2:=Q4H mod;have hm:name.isEmpty=true\/name.isEmpty=false:=by cases name.isEmpty <;> simp
 clear hb hg hn;by_cases h3:op=3
 ·subst h3;rw[if_pos rfl];obtain ⟨pl,hpl⟩:∃ b,Ex.plain name=b:=⟨_,rfl⟩
  rw[hpl] at HP |-;clear hpl hm;go_in;go_wp2_with fail;refine eH_ (HP.o _) ?_;rintro r w2 ⟨rfl,hb2⟩;have h0:=Q7 HB.B hb2;have a2:=Q3 h0 2 rfl;have H2:=hd_ (HB.a.trans (hb2.mono HB.a.size));clear hb2 h0;dsimp only;cases pl with
  | false=>
   go_wp2_with fail;go_ret;exact ⟨by simp,H2.o⟩
  | true=>
   go_wp2_with fail;go_ret;exact ⟨by simp,H2.o⟩
 ·rw[if_neg h3];clear HP;rcases hm with hm | hm
  ·go_in;go_wp2_with fail;go_ret;exact ⟨by simp[hm],HB.a⟩
  ·go_in;go_wp2_with fail;go_ret;exact ⟨by simp[hm],HB.a⟩
end Go.Proofs.YtiecccakcenobaaGreatDoor
namespace Go.Proofs.YtiecccakcenobaaGreatDoor.Pd
open Tryz
open Tr Ps
section
variable (tk:List Tk)
def far (s:St):Int:=if s.e=0 then (peek tk s.used).pos else s.pos
end
section
variable {tk:List Tk} {α β:Type}
end
end Go.Proofs.YtiecccakcenobaaGreatDoor.Pd
namespace Go.Proofs.YtiecccakcenobaaGreatDoor
open Tryz
open Tr
variable {cs tmps:Array Value} {e k:Ex} {z:Int} {all:List Oper} {l:List UInt8} {B b c g h id j n:Nat} {o:Oper} {a:Option Addr} {p:Prop} {t:Tp.T} {c5 c6 c7 vn vt:Value} {V W w w' w1 x y:World}
structure ReadSmall (l:List UInt8) (t:Tr.T):Prop where
 toks:t.toks.length<=l.length+1
 nodes:t.nodes.length<=3*(l.length+1)
 kids:∀ n∈t.nodes,n.kids.length<=t.nodes.length
 texts:∀ k∈t.toks,k.text.length<=l.length
theorem Z3 (l:List UInt8):ReadSmall l ⟨[], []⟩:=⟨by simp,by simp,fun n hn=> by simp at hn,fun k hk=> by simp at hk⟩
theorem JC:∀ {ts:List Tr.Tk} {k:Tr.Tk},k∈ts->k.text.length<=(wholeOf ts).length
 | x::ts,k,h=> by
  unfold wholeOf;rw[List.flatMap_cons,eC_,eC_];rcases List.mem_cons.1 h with rfl | h
  ·omega
  ·have:=JC h;unfold wholeOf at this;omega
theorem Q45 {k:FuncId} {what:List Tr.Tk->Nat->Ps.St} (hw:WhatDoes k what) (l:List UInt8) (dp:Int):ReadSmall l (Ps.read what l dp).1:=by
 unfold Ps.read;split
 ·exact Z3 l
 ·split
  ·exact Z3 l
  ·rename_i hf;have hf:(Lx.lex l).2.1=0:=(by simpa using hf);split
   ·exact Z3 l
   ·rename_i he;have he:(what ((Lx.lex l).1.map toTk) dp.toNat).e=0:=(by simpa using he);have h1:=Lx.Q08 hf;have h2:=hw.2 _ dp.toNat (Pc.Q77 hf).toks he;have h3:((Lx.lex l).1.map toTk).length=(Lx.lex l).1.length:=List.length_map ..;have h4:((Lx.lex l).1.map Pc.tkOf).length=(Lx.lex l).1.length:=List.length_map ..;rw[h4] at h2;refine ⟨by show ((Lx.lex l).1.map toTk).length<=_;omega,?_,h2.2,fun k hk=> ?_⟩
    ·show (what _ _).nodes.length<=_;have:=h2.1;have e:(Lx.lex l).1.map toTk=(Lx.lex l).1.map Pc.tkOf:=rfl;rw[e];omega
    ·have:=JC hk;rw[Q3W,h1.1] at this;exact this
theorem Q2x {t:Tr.T} (h:Tr.right t=true):Tr.FormedTo t t.nodes.length/\∀ i,i < t.nodes.length->Tr.size t.nodes i<=i+1:=by
 cases hg:Tr.rightGo t 0 t.nodes (List.replicate t.nodes.length false) with
 | none=> rw[Tr.Zl hg] at h;cases h
 | some kid=> exact ⟨Tr.XZ hg (by simp) (fun j n hj=> absurd hj (by omega)),(Tr.Gg hg).2.1⟩
theorem ReadSmall.dump {t:Tr.T} (h:ReadSmall l t) (hl:l.length<=1500) (n:Int):(DumpOut t n).length<=1073741824:=by
 unfold DumpOut;split
 ·rename_i hc;obtain ⟨hr,h0,h1⟩:=Dc hc;obtain ⟨h2,h3⟩:=Q2x hr;have h4:=Tr.Q6t (L:=1500) (fun k hk=> eE_ (h.texts k hk) hl) h2 n.toNat (by omega);have h5:=h3 n.toNat (by omega);have h6:=h.nodes;have h7:(1500+6)*Tr.size t.nodes n.toNat<=(1500+6)*4503:=Nat.mul_le_mul_left _ (by omega);omega
 ·simp
open Go.RowKit
structure TCalls (w:World) (vt vn:Value) (T:Tr.T) (l:List UInt8):Prop where
 root:∀ W,Below w.heap.size w W->Calls prog 81 #[.agg #[vt,vn]] W fun e w'=> e= .returned (.int .i64 (Tr.root T))/\W.alloc (.cells #[vt,vn] 90)=w'
 dump:∀ W,Below w.heap.size w W->Calls prog 117 #[.agg #[vt,vn],.int .i64 (Tr.root T)] W fun e w'=> e= .returned (.tuple #[.string ⟨(DumpOut T (Tr.root T)).toArray⟩,.int .i64 0])/\Below W.heap.size W w'
 show_:∀ W,Below w.heap.size w W->Calls prog 118 #[.agg #[vt,vn]] W fun e w'=> e= .returned (.string ⟨l.toArray⟩)/\Below W.heap.size W w'
theorem tcalls {P:Nat->Prop} {T:Tr.T} (h:RdT w P vt vn T) (hP:∀ k,P k->k < w.heap.size) (hl:l.length<=1500) (hs:ReadSmall l T) (hw:wholeOf T.toks=l) (hc:Tr.check T (Tr.root T)=0):TCalls w vt vn T l:=by
 have h1:=hs.toks;have h2:=hs.nodes;have hk:∀ n∈T.nodes,n.kids.length<=1073741823:=fun n hn=> by have:=hs.kids n hn;omega
 refine ⟨fun W hW=> ?_,fun W hW=> ?_,fun W hW=> ?_⟩
 ·exact D4 (h.keep (Keeps.of hW hP)) (by omega)
 ·have:=Q1A (h.keep (Keeps.of hW hP)) (fun k hk=> eI_ (hP k hk) hW.size) (by omega) (by omega) hk (Tr.root T) (hs.dump hl _);rw[hc] at this;exact this
 ·have:=Q39 (vn:=vn) (h.1.keep (Keeps.of hW hP)) (fun k hk=> eI_ (hP k hk) hW.size) (by omega) (by rw[hw];omega);rw[hw] at this;exact this
theorem Q7h (w:World) (a b c d:Value):Two w ((w.alloc (.cells #[a,b] 90)).alloc (.cells #[c,d] 92)) #[a,b] #[c,d]:=
 ⟨by rw[eJ_ _ _ _ (by rw[<-Q5];omega)];exact eD_ _ _,heap_alloc2_new _ _ _,((eB_ _ _).alloc (rl_ _) _).alloc (by rw[<-Q5];omega) _⟩
def AsRel (V:World) (n:Nat) (k:Nat) (v:Value) (wr:World):Prop:=
 ∃ j:Nat,v= .int .i64 j/\k=n - j/\j<=n/\Below V.heap.size V wr
theorem Qh (cs:Array Value) (t:TypeId):(w.alloc (.cells cs t)).heap[w.heap.size]? =some (.cells cs t (0,0))/\Below w.heap.size w (w.alloc (.cells cs t)):=
 ⟨eD_ _ _,(eB_ _ _).alloc (rl_ _) _⟩
theorem Q7i {P:Nat->Prop} {T:Tr.T} (h:RdT w P vt vn T) (hP:∀ k,P k->k < w.heap.size) (hl:l.length<=1500) (hs:ReadSmall l T) (hw:wholeOf T.toks=l) (hr:Ps.read Ps.form l 200=(T,0,0)) (hc:Tr.check T (Tr.root T)=0):
  Calls prog 79 #[.agg #[vt,vn],.func (.func 38) #[] #[]] w fun e w'=> e= .returned (.bool true)/\Below w.heap.size w w':=by
 obtain ⟨a1,c1,rfl⟩:∃ a c,vt= .slice a T.toks.length c:=h.1.form;obtain ⟨a2,c2,rfl⟩:∃ a c,vn= .slice a T.nodes.length c:=by
  obtain ⟨kvs,_,h2,_⟩:=h.2;exact h2.form
 have hn':(T.toks.length:Int)<=1501:=by have:=hs.toks;omega
 have HR:=hd_ (fun W=> JA l (by omega) 200 W);rw[hr] at HR;have HT:=hd_ (tcalls h hP hl hs hw hc);have HS:=h3_ hs hw hc;have HL:=hd_ hl;have H0:=h2_ h.1 hP;have hx:=Qh (w:=w) #[.slice a1 T.toks.length c1,.slice a2 T.nodes.length c2] 90;have HX:=hd_ hx;clear h hP hl hs hw hr hc hx;go_in;go_wp2_with fail;obtain ⟨V,hV⟩:∃ V,w.alloc (.cells #[.slice a1 T.toks.length c1,.slice a2 T.nodes.length c2] 90)=V:=⟨_,rfl⟩
 rw[hV] at HX |-;clear hV;have t0:=Q3 HX.a 0 rfl;have t1:=Q3 HX.a 1 rfl;have l0:=Qd t0;go_region_held3 (fun w'=> w'.cell? ⟨w.heap.size,0,none⟩=some (.slice a1 T.toks.length c1)/\w'.cell? ⟨w.heap.size,1,none⟩=some (.slice a2 T.nodes.length c2)) (first | exact ⟨t0,t1⟩ | exact ⟨e20,e21⟩ | go_keep)
  ((first
   | (go_at_call 81;refine (HT.o.root _ (HX.B.drew)).mono ?_;rintro e w3 ⟨rfl,rfl⟩)
   | (go_at_call 117;refine (HT.o.dump _ ((HX.B.alloc HX.B.size _).drew)).mono ?_;rintro e w8 ⟨rfl,hb8⟩;have hb9:=(eB_ V.heap.size V).alloc (rl_ _) (.cells #[.slice a1 T.toks.length c1,.slice a2 T.nodes.length c2] 90);have hb10:Below V.heap.size V w8:=(hb9.drew).trans (hb8.mono hb9.size);have hb11:=Q7 HX.a hb10;have e20:=Q3 hb11 0 rfl;have e21:=Q3 hb11 1 rfl;have HB:=h2_ hb11 (HX.B.trans (hb10.mono HX.B.size));clear hb8 hb9 hb10 hb11)))
 clear t0 t1 l0;go_wp2_with fail;refine eH_ (HT.o.show_ _ HB.B) ?_;rintro e w9 ⟨rfl,hb9⟩;have H9:=h2_ (Q7 HB.a hb9) (HB.B.trans (hb9.mono HB.B.size));clear hb9 e20 e21;dsimp only;go_wp2_with fail;refine eH_ (HR.o _) ?_;rintro e w10 ⟨vt,vn,rfl,hT,hb⟩;obtain ⟨a3,c3,rfl⟩:∃ a c,vt= .slice a T.toks.length c:=hT.1.form;obtain ⟨a4,c4,rfl⟩:∃ a c,vn= .slice a T.nodes.length c:=by
  obtain ⟨kvs,_,h2,_⟩:=hT.2;exact h2.form
 have HT2:=hd_ (tcalls hT (fun k hk=> hk.2) HL.o HS.a HS.b HS.C);have HD2:=hd_ hT.1;have H10:=h2_ (Q7 H9.a hb) (H9.B.trans (hb.mono H9.B.size));clear hT hb;dsimp only;go_wp2_with fail;obtain ⟨V2,hV2⟩:∃ V,(w10.alloc (.cells #[.slice a3 T.toks.length c3,.slice a4 T.nodes.length c4] 90)).alloc (.cells #[.int .i64 0,.int .i64 0] 92)=V:=⟨_,rfl⟩
 have h1:=Q7h w10 (.slice a3 T.toks.length c3) (.slice a4 T.nodes.length c4) (.int .i64 0) (.int .i64 0);rw[hV2] at h1 |-;have H11:=h2_ (Q7 H10.a h1.b) (H10.B.trans (h1.b.mono H10.B.size));have t0:=Q3 h1.t 0 rfl;have t1:=Q3 h1.t 1 rfl;have l0:=Qd t0;have H1:=hd_ h1;clear h1 hV2;go_region_held3 (fun w'=> w'.cell? ⟨w10.heap.size,0,none⟩=some (.slice a3 T.toks.length c3)/\w'.cell? ⟨w10.heap.size,1,none⟩=some (.slice a4 T.nodes.length c4)) (first | exact ⟨t0,t1⟩ | exact ⟨e20,e21⟩ | go_keep)
  ((first
   | (go_at_call 81;refine (HT2.o.root _ (H1.o.b.drew)).mono ?_;rintro e w3 ⟨rfl,rfl⟩)
   | (go_at_call 117;refine (HT2.o.dump _ ((H1.o.b.alloc H1.o.b.size _).drew)).mono ?_;rintro e w12 ⟨rfl,hb8⟩;have hb9:=(eB_ V2.heap.size V2).alloc (rl_ _) (.cells #[.slice a3 T.toks.length c3,.slice a4 T.nodes.length c4] 90);have hb10:Below V2.heap.size V2 w12:=(hb9.drew).trans (hb8.mono hb9.size);have e20:=Q3 (H1.o.past hb10).t 0 rfl;have e21:=Q3 (H1.o.past hb10).t 1 rfl;have HB2:=h3_ (H1.o.past hb10) (Q7 H11.a hb10) (H11.B.trans (hb10.mono H11.B.size));clear hb8 hb9 hb10)))
 clear t0 t1 l0;have k0:=Q3 HB2.b 0 rfl;have k2:=Q3 HB2.a.t 0 rfl;have k4:=Q3 HB2.a.f 0 rfl;have HDD:=h2_ (H0.a.keep (Keeps.of HB2.C H0.B)) (HD2.o.keep (Keeps.of HB2.a.b fun k hk=> hk.2));have HPP:=h2_ (fun k (hk:P k)=> eI_ (H0.B k hk) HB2.C.size) (fun k (hk:w9.heap.size<=k/\k < w10.heap.size)=> eI_ hk.2 HB2.a.b.size);go_wp2_with fail;clear k0 k2 k4 e20 e21;go_loopg [58] T.toks.length (fun k v58 wr=> AsRel w12 T.toks.length k v58 wr)
 case atStart=> exact ⟨0,rfl,rfl,eV_ _,(eB_ _ _)⟩
 case round=>
  obtain ⟨j,rfl,hk,hj,hbw⟩:=hrel;have HRR:=h2_ hk hbw;clear hk hbw;by_cases hlt:j < T.toks.length
  ·have hlt':(j:Int) < (T.toks.length:Int):=(by omega);obtain ⟨tk,htk⟩:∃ tk,T.toks[j]? =some tk:=⟨_,eA_ hlt⟩
   obtain ⟨b1,o1,c1',q1,hp1,hr1⟩:=(HDD.a.keep (Keeps.of HRR.B HPP.a)).tok htk;obtain ⟨b2,o2,c2',q2,hp2,hr2⟩:=(HDD.B.keep (Keeps.of HRR.B HPP.B)).tok htk;injection q1 with q1 _ q3;injection q2 with q2 _ q4;subst q1 q2 q3 q4;have f0:=hr1 0 _ rfl;have f1:=hr1 1 _ rfl;have f2:=hr1 2 _ rfl;have f3:=hr1 3 _ rfl;have g0:=hr2 0 _ rfl;have g1:=hr2 1 _ rfl;have g2:=hr2 2 _ rfl;have g3:=hr2 3 _ rfl;simp only[Nat.add_zero] at f0 g0;have m2:wr.cell? ⟨w10.heap.size,0,none⟩=some (.slice (some ⟨b2,o2,none⟩) T.toks.length c3):=Q3 (HB2.a.past HRR.B).t 0 rfl;have lm:=Qd m2;have lg:=Qd g0;clear hr1 hr2 hp1 hp2;go_wp2_with fail;go_region;go_wp2_with fail;go_roundg (T.toks.length - (j+1))
   case measure=> have:=HRR.a;omega
   case rel=> exact ⟨j+1,by go_num,rfl,by omega,(by first | exact HRR.B.alloc HRR.B.size _ | exact (HRR.B.alloc HRR.B.size _).drew)⟩
  ·obtain rfl:j=T.toks.length:=(by omega);go_wp2_with fail;go_ret;exact ⟨rfl,(HB2.C.trans (HRR.B.mono HB2.C.size))⟩
theorem Q46 {t:Tr.T} (h:Ax.formula t=some e):∃ x k,Ax.nd t (Tr.root t)=some x/\x.kids[0]? =some k/\Ax.expr t (t.nodes.length+1) k=some e:=by
 unfold Ax.formula at h;split at h
 ·cases h
 ·rename_i x hx;split at h
  ·cases h
  ·rename_i k hk;exact ⟨x,k,hx,hk,h⟩
def ExFOut (w:World) (x:Ex) (e:Ending) (w':World):Prop:=∃ v,e= .returned (.tuple #[v,.int .i64 0])/\ExV w' (New w w') v x/\Below w.heap.size w w'
theorem Q8f {fn:Func} {p u:Tmp} (h:fn.results= #[.cell p 30,.tmp u]) (hp:tmps.getD p undef= .pointer (some ⟨g,0,none⟩)) (hg:w.heap[g]? =some (.cells cs 30 (0,0))) (hs:cs.size=8) {x:Value} (hx:tmps.getD u undef=x):
  (results fn tmps).run prog w= .ok (.tuple #[.agg cs,x]) w:=
 Xk h _ _ g _ _ _ _ hp hg underlying30 rfl (by rw[hs];exact X8) hx
theorem Q8g {v:World} {o:Obj} {x:Value} (h:ExV W (New (v.drew.alloc o) W) x e):ExV W (New v W) x e:=h.imp fun k hk=> ⟨eE_ (by rw[<-Q5];exact Nat.le_succ _) hk.1,hk.2⟩
theorem Gz {P:Nat->Prop} {T:Tr.T} (h:RdT w P vt vn T) (hP:∀ k,P k->k < w.heap.size) (hl:l.length<=1500) (hs:ReadSmall l T) (hw:wholeOf T.toks=l) (hr:Ps.read Ps.form l 200=(T,0,0)) (hc:Tr.check T (Tr.root T)=0) (h7:∀ x∈T.nodes,x.kind≠7) {e:Ex} (hf:Ax.formula T=some e):
  Calls prog 39 #[.agg #[vt,vn]] w (ExFOut w e):=by
 have hR:TrR w P vt vn T:=⟨h,hP,by have:=hs.nodes;omega,by have:=hs.toks;omega,fun n hn=> by have:=hs.kids n hn;have:=hs.nodes;omega⟩
 have htx:∀ k∈T.toks,k.text.length<=1073741824:=fun k hk=> by have:=hs.texts k hk;omega
 obtain ⟨at_,ct,an,cn,rfl,rfl⟩:=hR.form;obtain ⟨x,k,hx,hk,hex⟩:=Q46 hf;have hbx:=box2 w #[.slice at_ T.toks.length ct,.slice an T.nodes.length cn] 90 #[.int .i64 0,.string ⟨#[]⟩,.string ⟨#[]⟩,.bool false,.slice none 0 0,.bool false,.slice none 0 0,.int .i64 0] 30;have HR:=h7_ h hP hl hs hw hr hc;have HE:=h3_ hR (Gq hR htx h7 (T.nodes.length+1)) hex;have HX:=h2_ hx hk;have HB:=hd_ hbx;clear h hP hl hs hw hr hc h7 hf hR htx hx hk hex hbx;go_in;go_wp2_with fail;obtain ⟨V1,hV1⟩:∃ V,(w.alloc (.cells #[.slice at_ T.toks.length ct,.slice an T.nodes.length cn] 90)).alloc (.cells #[.int .i64 0,.string ⟨#[]⟩,.string ⟨#[]⟩,.bool false,.slice none 0 0,.bool false,.slice none 0 0,.int .i64 0] 30)=V:=⟨_,rfl⟩
 rw[hV1] at HB |-;clear hV1;have a0:=Q3 HB.a 0 rfl;have a1:=Q3 HB.a 1 rfl;go_wp2_with fail;refine eH_ (Q7i (HR.a.keep (Keeps.of HB.C HR.b)) (fun k hk=> eI_ (HR.b k hk) HB.C.size) HR.c HR.d HR.e HR.f HR.G) ?_;rintro e2 V ⟨rfl,hb2⟩;have h0:=Q7 HB.a hb2;have h1:=Q7 HB.b hb2;have hbV:=HB.C.trans (hb2.mono HB.C.size);clear a0 a1 hb2;obtain ⟨i,b,off,ak,ck,hni,hi,e0,c0,c1,c2,hkl,hkk⟩:=(HE.a.below hbV).node HX.a;subst e0;obtain ⟨b2,o2,e0,q0⟩:=hkk 0 k HX.B;subst e0;rw[Nat.add_zero] at q0;have hi2:(i:Int) < (T.nodes.length:Int):=by omega
 have hn2:(T.nodes.length:Int)<=1000000:=by have:=HE.a.nodes;omega
 have hk1:(0:Int) < (x.kids.length:Int):=by have:=(List.getElem?_eq_some_iff.1 HX.B).1;omega
 have hk2:(x.kids.length:Int)<=1000000:=by omega
 have hk3:0 < x.kids.length:=by omega
 have a0:=Q3 h0 0 rfl;have a1:=Q3 h0 1 rfl;have HS:=Q8t a0 a1 c2 q0;have H0:=h4_ h0 h1 hbV hni;clear h0 h1 hbV c0 c1 c2 q0 a0 a1 hkk hkl hi;go_wp2_with fail;refine Xu (S:=fun w'=> Below V.heap.size V w'/\w'.cell? ⟨w.heap.size,0,none⟩=some (.slice at_ T.toks.length ct)/\w'.cell? ⟨w.heap.size,1,none⟩=some (.slice (some ⟨b,off,none⟩) T.nodes.length cn)/\w'.cell? ⟨b,off+i*3+2,none⟩=some (.slice (some ⟨b2,o2,none⟩) x.kids.length ck)/\w'.cell? ⟨b2,o2,none⟩=some (.int .i64 k)) (by simp) (by simp) (by kernel_rfl) (by kernel_rfl) (by kernel_rfl) (HS.o _ ((eB_ _ _).drew)) (fun hHeld=> ?_);simp only[lA_];refine tk_ 0 rfl ?_;refine tk_ 1 rfl ?_;refine tk_ 2 rfl ?_;refine tk_ 3 rfl ?_;refine tk_ 4 rfl ?_;try simp only[Act.put,gP_]
 refine rd_ 5 rfl (fun KK hKK=> ?_);simp only[gA_];go_simp;refine eH_ (D4 (HE.a.below (H0.c.drew)).rd (by have:=HE.a.nodes;omega)) ?_;rintro e2 w7 ⟨rfl,rfl⟩;rw[H0.D];dsimp only;refine hKK.out _ _ (HS.o _ ((eB_ _ _).drew.alloc (rl_ _) _)) (fun hHeld=> ?_);clear hKK KK;try simp only[Act.put,sA_]
 refine tk_ 6 rfl ?_;refine tk_ 7 rfl ?_;refine tk_ 8 rfl ?_;refine tk_ 9 rfl ?_;refine tk_ 10 rfl ?_;try simp only[Act.put,gP_]
 refine rd_ 11 rfl (fun KK hKK=> ?_);simp only[gA_];go_simp;refine eH_ (HE.b _ ((H0.c.drew).alloc H0.c.size _) k e HE.C) ?_;rintro e2 w9 ⟨v9,rfl,hv9,hb9⟩;have hb9:Below V.heap.size V w9:=((eB_ _ _).drew.alloc (rl_ _) _).trans (hb9.mono (by rw[<-Q5];exact Nat.le_succ _));have H9:=h3_ hv9 (Q7 H0.b hb9) (H0.c.trans (hb9.mono H0.c.size));clear hv9;dsimp only;refine hKK.out _ _ (HS.o _ hb9) (fun hHeld=> ?_);clear hKK KK;try simp only[Act.put,sA_]
 refine wpAnyH_done (by kernel_rfl) ?_ _;unfold PeelQ;dsimp only;refine JB (w0:=w) (w1:=V) _ _ rfl rfl H9.b rfl rfl (Q8g H9.a) (Q4 H0.b) (show w.heap.size<=w.heap.size+1 by omega) H9.C ?_;rintro W cs hg hs2 hv hb;have HT:=h4_ hg hs2 hv hb;clear hg hs2 hv hb;go_simp
 trace_state
 go_wp2_with fail;refine eG_ (Q8f rfl rfl HT.a HT.b rfl) rfl ?_;exact ⟨_,rfl,HT.c,HT.D⟩
theorem cells8 {c0 c1 c2 c3 c4:Value} (h:w.heap[g]? =some (.cells #[c0,c1,c2,c3,c4,c5,c6,c7] 30 (0,0))):
  w.cell? ⟨g,0,none⟩=some c0/\w.cell? ⟨g,1,none⟩=some c1/\w.cell? ⟨g,2,none⟩=some c2/\w.cell? ⟨g,3,none⟩=some c3/\w.cell? ⟨g,4,none⟩=some c4/\w.cell? ⟨g,5,none⟩=some c5/\w.cell? ⟨g,6,none⟩=some c6/\w.cell? ⟨g,7,none⟩=some c7:=
 ⟨Q3 h 0 rfl,Q3 h 1 rfl,Q3 h 2 rfl,Q3 h 3 rfl,Q3 h 4 rfl,Q3 h 5 rfl,Q3 h 6 rfl,Q3 h 7 rfl⟩
theorem Q16 {op pos:Int} {name mod:List UInt8} {yes:Bool} {sv kv:Value} (hs:RdU w sv (wd z)) {K:Nat} (hK:Bd K z) (hK2:K<=1000000000):
  Calls prog 163 #[.agg #[.int .i64 op,.string ⟨name.toArray⟩,.string ⟨mod.toArray⟩,.bool (decide (z < 0)),sv,.bool yes,kv,.int .i64 pos]] w fun r w'=> r= .returned (.bool (if op=1 then decide (0<=z) && decide ((Zp.text z).length<=60) && !yes else decide (z=0) && (decide (op=2) || !yes)))/\Below w.heap.size w w':=by
 obtain ⟨a,n,rfl⟩:∃ a n,sv= .slice a (wd z).length n:=RdS.form hs;have hbx:=Qh (w:=w) #[.int .i64 op,.string ⟨name.toArray⟩,.string ⟨mod.toArray⟩,.bool (decide (z < 0)),.slice a (wd z).length n,.bool yes,kv,.int .i64 pos] 30;have hnum:Num w (.agg #[.bool (decide (z < 0)),.slice a (wd z).length n]) z:=⟨_,rfl,hs⟩
 obtain ⟨nb,hnb⟩:∃ b,decide (z < 0)=b:=⟨_,rfl⟩
 rw[hnb] at hbx hnum |-;have HB:=h4_ hbx hnum hK hK2;have HZ:=hd_ hnb;obtain ⟨V,hV⟩:∃ V,w.alloc (.cells #[.int .i64 op,.string ⟨name.toArray⟩,.string ⟨mod.toArray⟩,.bool (nb),.slice a (wd z).length n,.bool yes,kv,.int .i64 pos] 30)=V:=⟨_,rfl⟩
 have HV:=hd_ hV;rw[hV] at HB;obtain ⟨a0,a1,a2,a3,a4,a5,a6,a7⟩:=cells8 HB.a.1;have hmono:∀ W,Below V.heap.size V W->W.heap[w.heap.size]? =some (.cells #[.int .i64 op,.string ⟨name.toArray⟩,.string ⟨mod.toArray⟩,.bool (nb),.slice a (wd z).length n,.bool yes,kv,.int .i64 pos] 30 (0,0))/\Below w.heap.size w W:=fun W hb=> ⟨Q7 HB.a.1 hb,HB.a.2.trans (hb.mono HB.a.2.size)⟩;have HM:=hd_ hmono;have hzs:∀ W,Below V.heap.size V W->Calls prog 29 #[.agg #[.bool nb,.slice a (wd z).length n]] W fun e w'=> e= .returned (.int .i64 (sgn z))/\Below W.heap.size W w':=fun W hb=> Xb (HB.b.below (HM.o W hb).2);have hzt:∀ W,Below V.heap.size V W->Calls prog 26 #[.agg #[.bool nb,.slice a (wd z).length n]] W fun e w'=> e= .returned (.string ⟨(Zp.text z).toArray⟩)/\Below W.heap.size W w':=fun W hb=> XL (HB.b.below (HM.o W hb).2) HB.c HB.D;have HS:=hd_ hzs;have HT:=hd_ hzt;clear hs hK hK2 hbx hnum hnb hmono hzs hzt hV;by_cases h1:op=1
 ·subst h1;rw[if_pos rfl];by_cases h0:0<=z
  ·have hz:0<=sgn z:=(by unfold sgn;split <;> omega);obtain ⟨sg,hsg⟩:∃ s,sgn z=s:=⟨_,rfl⟩
   rw[hsg] at HS hz;rw[eM_ h0];obtain ⟨tl,htl⟩:∃ t,Zp.text z=t:=⟨_,rfl⟩
   rw[htl] at HT |-;clear hsg htl h0;go_in;go_wp2_with (rw[HV.o];go_at_call 29;refine eH_ (HS.o _ (eB_ _ _)) ?_;rintro r w2 ⟨rfl,hb2⟩;obtain ⟨a0,a1,a2,a3,a4,a5,a6,a7⟩:=cells8 (HM.o _ hb2).1;have H2:=hd_ hb2;clear hb2);refine eH_ (HT.o _ H2.o) ?_;rintro r w3 ⟨rfl,hb3⟩;have h3:=H2.o.trans (hb3.mono H2.o.size);clear a0 a1 a2 a3 a4 a5 a6 a7;obtain ⟨a0,a1,a2,a3,a4,a5,a6,a7⟩:=cells8 (HM.o _ h3).1;have H3:=hd_ (HM.o _ h3).2;clear h3 hb3;dsimp only;by_cases h60:tl.length<=60
   ·have h60':(tl.length:Int)<=60:=(by omega);cases yes
    ·go_wp2_with fail;go_ret;exact ⟨by simp[h60],H3.o⟩
    ·go_wp2_with fail;go_ret;exact ⟨by simp[h60],H3.o⟩
   ·have h60':¬ (tl.length:Int)<=60:=(by omega);go_wp2_with fail;go_ret;exact ⟨by simp[h60],H3.o⟩
  ·have hz:sgn z=-1:=(by unfold sgn;rw[if_pos (by omega)]);rw[eK_ h0];rw[hz] at HS;clear hz h0 HT;go_in;go_wp2_with (rw[HV.o];go_at_call 29;refine eH_ (HS.o _ (eB_ _ _)) ?_;rintro r w2 ⟨rfl,hb2⟩;have H2:=hd_ (HM.o _ hb2).2;clear hb2);go_ret;exact ⟨by simp,H2.o⟩
 ·rw[if_neg h1];clear HT;by_cases h0:z=0
  ·have hz:sgn z=0:=(by rw[h0];rfl);rw[eM_ h0];rw[hz] at HS;clear hz h0;obtain ⟨o2,ho2⟩:∃ o,decide (op=2)=o:=⟨_,rfl⟩
   by_cases h2:op=2
   ·rw[eM_ h2];clear ho2;subst h2;go_in;go_wp2_with (rw[HV.o];go_at_call 29;refine eH_ (HS.o _ (eB_ _ _)) ?_;rintro r w2 ⟨rfl,hb2⟩;obtain ⟨a0,a1,a2,a3,a4,a5,a6,a7⟩:=cells8 (HM.o _ hb2).1;have H2:=hd_ (HM.o _ hb2).2;clear hb2);go_ret;exact ⟨by simp,H2.o⟩
   ·rw[eK_ h2];clear ho2;go_in;go_wp2_with (rw[HV.o];go_at_call 29;refine eH_ (HS.o _ (eB_ _ _)) ?_;rintro r w2 ⟨rfl,hb2⟩;obtain ⟨a0,a1,a2,a3,a4,a5,a6,a7⟩:=cells8 (HM.o _ hb2).1;have H2:=hd_ (HM.o _ hb2).2;clear hb2);go_ret;exact ⟨by simp[h2],H2.o⟩
  ·have hz:sgn z≠0:=by
    unfold sgn;split
    ·decide
    ·first | decide | (rw[if_neg h0];decide)
   obtain ⟨sg,hsg⟩:∃ s,sgn z=s:=⟨_,rfl⟩
   rw[hsg] at HS hz;rw[eK_ h0];clear hsg h0;go_in;go_wp2_with (rw[HV.o];go_at_call 29;refine eH_ (HS.o _ (eB_ _ _)) ?_;rintro r w2 ⟨rfl,hb2⟩;have H2:=hd_ (HM.o _ hb2).2;clear hb2);go_ret;exact ⟨by simp,H2.o⟩
def IxRel (w:World) (e:Ex) (p:Ex->Bool) (k:Nat) (v:Value) (wr:World):Prop:=
 ∃ j:Nat,v= .int .i64 j/\k=e.kids.length - j/\j<=e.kids.length/\(∀ (i:Nat) (x:Ex),i < j->e.kids[i]? =some x->p x=false)/\Below w.heap.size w wr
theorem RdE.past {P:Nat->Prop} {cs:List Value} (h:RdE w P e cs) (hP:∀ k,P k->k < w.heap.size) (hb:Below w.heap.size w w'):RdE w' P e cs:=h.keep (Keeps.of hb hP) (FrT.of hb)
theorem Q2y {P:Nat->Prop} {cs:List Value} (h:RdE w P e cs) (hP:∀ k,P k->k < w.heap.size) (hl:e.kids.length<=1000000) (hkv:cs[6]? =some (.slice a e.kids.length c)) {p:Ex->Bool}
  (hF:∀ W,Below w.heap.size w W->∀ (i:Nat) (k:Ex) (cs':List Value),e.kids[i]? =some k->RdE W P k cs'->Calls prog 166 #[.agg cs'.toArray,.pointer (some ⟨g,0,none⟩)] W fun r w'=> r= .returned (.bool (p k))/\Below W.heap.size W w'):
  Calls prog 202 #[.slice a e.kids.length c,.func (.func 166) #[] #[.pointer (some ⟨g,0,none⟩)]] w fun r w'=> (∃ n:Int,r= .returned (.int .i64 n)/\decide (n>=0)=e.kids.any p)/\Below w.heap.size w w':=by
 have HH:=h4_ h hP hkv hF;have hl':(e.kids.length:Int)<=1000000:=by omega
 clear h hP hkv hF;go_in;go_wp2;go_loopg [8] e.kids.length (fun k v8 wr=> IxRel w e p k v8 wr)
 case atStart=> exact ⟨0,rfl,rfl,eV_ _,fun i x hi=> absurd hi (Nat.not_lt_zero _),eB_ _ _⟩
 case round=>
  obtain ⟨j,rfl,hk,hj,hno,hbw⟩:=hrel;have HR:=h3_ hk hno hbw;clear hk hno hbw;by_cases hlt:j < e.kids.length
  ·have hlt':(j:Int) < (e.kids.length:Int):=(by omega);obtain ⟨k,hk⟩:∃ k,e.kids[j]? =some k:=⟨_,eA_ hlt⟩
   obtain ⟨b,off,c2,cs',hq,hb,hr,h8,hrk⟩:=(HH.a.past HH.b HR.C).kid hk;have hq2:=HH.c.symm.trans hq;injection hq2 with hq2;injection hq2 with hq2 _ hq3;subst hq2 hq3;obtain ⟨sv,kv,rfl,hsv,ak,ck,rfl⟩:=hrk.cells;have HC:=hd_ (HH.D wr HR.C j k _ hk hrk);have HG:=hd_ hr;have HK:=hd_ hk;clear hr hrk hsv hk hb hq h8;go_wp2_with (first
    | (refine wpList_load_mid rfl 30 _ rfl b (off+j*8) rfl _ _ HG.o underlying30 rfl rfl ?_)
    | (go_at_call 166;refine eH_ HC.o ?_;rintro r w2 ⟨rfl,hb2⟩;have H2:=hd_ hb2;clear hb2))
   ·rename_i hpk;go_ret;exact ⟨⟨_,rfl,by rw[eM_ (by omega)];exact (List.any_eq_true.2 ⟨k,eP_ HK.o,hpk⟩).symm⟩,HR.C.trans (H2.o.mono HR.C.size)⟩
   ·rename_i hpk;go_roundg (e.kids.length - (j+1))
    case measure=> have:=HR.a;omega
    case rel=>
     refine ⟨j+1,by go_num,rfl,by omega,fun i x hi hx=> ?_,HR.C.trans (H2.o.mono HR.C.size)⟩;by_cases hij:i=j
     ·subst hij;rw[HK.o] at hx;injection hx with hx;subst hx;simpa using hpk
     ·exact HR.b i x (by omega) hx
  ·obtain rfl:j=e.kids.length:=(by omega);go_wp2_with fail;go_ret;refine ⟨⟨_,rfl,?_⟩,HR.C⟩;rw[eK_ (by omega)];refine (List.any_eq_false.2 fun x hx=> ?_).symm;obtain ⟨i,hi⟩:=List.getElem?_of_mem hx;rw[HR.b i x (List.getElem?_eq_some_iff.1 hi).1 hi];decide
theorem DR {P:Nat->Prop} {cs:List Value} (h:RdE w P e cs) (hP:∀ k,P k->k < w.heap.size) (hl:e.kids.length<=1000000) (hkv:cs[6]? =some (.slice a e.kids.length c)) {p:Ex->Bool}
  (hF:∀ W,Below w.heap.size w W->∀ (i:Nat) (k:Ex) (cs':List Value),e.kids[i]? =some k->RdE W P k cs'->Calls prog 166 #[.agg cs'.toArray,.pointer (some ⟨g,0,none⟩)] W fun r w'=> r= .returned (.bool (p k))/\Below W.heap.size W w'):
  Calls prog 165 #[.slice a e.kids.length c,.func (.func 166) #[] #[.pointer (some ⟨g,0,none⟩)]] w fun r w'=> r= .returned (.bool (e.kids.any p))/\Below w.heap.size w w':=by
 have HC:=hd_ (Q2y h hP hl hkv hF);have hl':(e.kids.length:Int)<=1000000:=by omega
 clear h hP hkv hF;go_in;go_wp2_with (go_at_call 202;refine eH_ HC.o ?_;rintro r w2 ⟨⟨n,rfl,hn⟩,hb2⟩;have H2:=hd_ hb2;have HN:=hd_ hn;clear hb2 hn);go_ret;exact ⟨by rw[<-HN.o];rfl,H2.o⟩
inductive Ex.Sm:Ex->Prop where
 | mk {op pos z:Int} {name mod:List UInt8} {yes:Bool} {kids:List Ex} (hn:name.length<=1000000) (hm:mod.length<=1000000) (hz:Bd 1000000 z) (hk:kids.length<=1000000) (h:∀ k∈kids,Ex.Sm k):Ex.Sm (.mk op name mod z yes kids pos)
theorem JT:∀ l:List Ex,Ex.rights l=l.all Ex.right
 | []=> by rw[Ex.rights];rfl
 | e::r=> by rw[Ex.rights,JT r];rfl
theorem Q8h (l:List Ex):(!l.any fun k=> !Ex.right k)=Ex.rights l:=by
 rw[JT]
 induction l with
 | nil=> rfl
 | cons x l ih=> simp only[List.any_cons,List.all_cons,Bool.not_or,Bool.not_not,ih]
theorem DS {op:Int} (h:op<=20):Ex.count op n=decide ((n:Int)=knum op):=by
 unfold Ex.count knum;split
 ·rw[Bool.eq_iff_iff];simp
 ·split
  ·rw[Bool.eq_iff_iff];simp;omega
  ·rw[if_pos (by omega),Bool.eq_iff_iff];simp;omega
theorem DT (op pos z:Int) (name mod:List UInt8) (yes:Bool) (kids:List Ex):Ex.one (.mk op name mod z yes kids pos)=(decide (1<=op) && decide (op<=20) && (if op=3\/op=22 then Ex.plain name && mod.isEmpty else if op=24 then Ex.plain name && (mod.isEmpty || Ex.plain mod) else name.isEmpty && mod.isEmpty) && (if op=1 then decide (0<=z) && decide ((Zp.text z).length<=60) && !yes else decide (z=0) && (decide (op=2) || !yes)) && Ex.count op kids.length):=rfl
theorem Q17 {c0 c1 c2 c3 c4:Value} {b:Bool} (hg:w.heap[g]? =some (.cells #[.int .i64 0] 163 (0,0)))
  (hR:∀ W,Below w.heap.size w W->Calls prog 128 #[.agg #[c0,c1,c2,c3,c4,c5,c6,c7],.int .i64 0] W fun r w'=> r= .returned (.bool b)/\Below W.heap.size W w'):
  Calls prog 166 #[.agg #[c0,c1,c2,c3,c4,c5,c6,c7],.pointer (some ⟨g,0,none⟩)] w fun r w'=> r= .returned (.bool (!b))/\Below w.heap.size w w':=by
 have HR:=hd_ hR;have hb:=Qh (w:=w) #[c0,c1,c2,c3,c4,c5,c6,c7] 30;have k0:=Q3 (Q7 hg hb.2) 0 rfl;obtain ⟨a0,a1,a2,a3,a4,a5,a6,a7⟩:=cells8 hb.1;have HB:=hd_ hb.2;have lk:=Qd (Q3 hg 0 rfl);clear hR hb hg;go_in;go_wp2_with (go_at_call 128;refine eH_ (HR.o _ HB.o) ?_;rintro r w2 ⟨rfl,hb2⟩;have H2:=hd_ hb2;clear hb2);go_ret;exact ⟨rfl,HB.o.trans (H2.o.mono HB.o.size)⟩
theorem G9 (hs:Ex.Sm e):∀ {w:World} {P:Nat->Prop} {cs:List Value},RdE w P e cs->(∀ k,P k->k < w.heap.size)->Calls prog 128 #[.agg cs.toArray,.int .i64 0] w fun r w'=> r= .returned (.bool (Ex.right e))/\Below w.heap.size w w':=by
 induction hs with
 | @mk op pos z name mod yes kids hn hm hz hk hkk ih=>
  intro w P cs h hP;obtain ⟨sv,a,c,rfl,hsv⟩:∃ sv a c,cs= [.int .i64 op,.string ⟨name.toArray⟩,.string ⟨mod.toArray⟩,.bool (decide (z < 0)),sv,.bool yes,.slice a kids.length c,.int .i64 pos]/\RdU w sv (wd z):=by
   cases h with
   | mk css hu hl hc hv hk'=>
    obtain ⟨a,c,rfl⟩:=hv.form;exact ⟨_,a,c,rfl,hu⟩
  have hre:Ex.right (.mk op name mod z yes kids pos)=(Ex.one (.mk op name mod z yes kids pos) && Ex.rights kids):=Ex.Q25 _;obtain ⟨nm,hnm⟩:∃ b,(if op=3 then Ex.plain name && mod.isEmpty else name.isEmpty && mod.isEmpty)=b:=⟨_,rfl⟩
  obtain ⟨vl,hvl⟩:∃ b,(if op=1 then decide (0<=z) && decide ((Zp.text z).length<=60) && !yes else decide (z=0) && (decide (op=2) || !yes))=b:=⟨_,rfl⟩
  have hone:1<=op->op<=20->Ex.one (.mk op name mod z yes kids pos)=(nm && vl && Ex.count op kids.length):=by
   intro h1 h2;rw[<-hnm, <-hvl];rw[DT,eM_ h1,eM_ h2];rw[if_neg (show ¬ op=24 by omega)];by_cases h3:op=3
   ·rw[if_pos (Or.inl h3),if_pos h3];rfl
   ·rw[if_neg (show ¬ (op=3\/op=22) by omega),if_neg h3];rfl
  have HN:Hid (∀ W,op<=20->Below w.heap.size w W->Calls prog 162 #[.agg #[.int .i64 op,.string ⟨name.toArray⟩,.string ⟨mod.toArray⟩,.bool (decide (z < 0)),sv,.bool yes,.slice a kids.length c,.int .i64 pos]] W fun r w'=> r= .returned (.bool nm)/\Below W.heap.size W w'):=fun W h20 hb=> by
   rw[<-hnm];exact Q2w (by omega) h20
  have HV:Hid (∀ W,Below w.heap.size w W->Calls prog 163 #[.agg #[.int .i64 op,.string ⟨name.toArray⟩,.string ⟨mod.toArray⟩,.bool (decide (z < 0)),sv,.bool yes,.slice a kids.length c,.int .i64 pos]] W fun r w'=> r= .returned (.bool vl)/\Below W.heap.size W w'):=fun W hb=> by
   rw[<-hvl];exact Q16 (hsv.below hb) hz (by decide)
  have hbx:=box2 w #[.int .i64 op,.string ⟨name.toArray⟩,.string ⟨mod.toArray⟩,.bool (decide (z < 0)),sv,.bool yes,.slice a kids.length c,.int .i64 pos] 30 #[.int .i64 0] 163;have HH:=h4_ h hP ih hkk;obtain ⟨nb,hnb⟩:∃ b,decide (z < 0)=b:=⟨_,rfl⟩
  rw[hnb] at hbx HN HV HH |-;have HRE:=h2_ hre hone;obtain ⟨V,hV⟩:∃ V,(w.alloc (.cells #[.int .i64 op,.string ⟨name.toArray⟩,.string ⟨mod.toArray⟩,.bool nb,sv,.bool yes,.slice a kids.length c,.int .i64 pos] 30)).alloc (.cells #[.int .i64 0] 163)=V:=⟨_,rfl⟩
  have HVV:=hd_ hV;rw[hV] at hbx;have HM:Hid (∀ W,Below V.heap.size V W->W.heap[w.heap.size]? =some (.cells #[.int .i64 op,.string ⟨name.toArray⟩,.string ⟨mod.toArray⟩,.bool nb,sv,.bool yes,.slice a kids.length c,.int .i64 pos] 30 (0,0))/\W.heap[w.heap.size+1]? =some (.cells #[.int .i64 0] 163 (0,0))/\Below w.heap.size w W):=fun W hb=> ⟨Q7 hbx.1 hb,Q7 hbx.2.1 hb,hbx.2.2.trans (hb.mono hbx.2.2.size)⟩;obtain ⟨a0,a1,a2,a3,a4,a5,a6,a7⟩:=cells8 hbx.1;have k0:=Q3 hbx.2.1 0 rfl;have hkl:(kids.length:Int)<=1000000:=by omega
  clear h hP ih hkk hre hone hnm hvl hsv hz hm hn hnb hV hbx;by_cases h1:op < 1
  ·have hf:Ex.one (.mk op name mod z yes kids pos)=false:=(by rw[DT,eK_ (show ¬ 1<=op by omega)];rfl);have HF:=hd_ hf;clear hf;go_in;go_wp2_with fail;go_ret;exact ⟨by rw[HRE.a,HF.o];rfl,by have:=(HM.o _ (eB_ _ _)).2.2;rw[<-HVV.o] at this;exact this⟩
  by_cases h24:24 < op
  ·have hf:Ex.one (.mk op name mod z yes kids pos)=false:=(by rw[DT,eK_ (show ¬ op<=20 by omega),Bool.and_false];rfl);have HF:=hd_ hf;clear hf;go_in;go_wp2_with fail;go_ret;exact ⟨by rw[HRE.a,HF.o];rfl,by have:=(HM.o _ (eB_ _ _)).2.2;rw[<-HVV.o] at this;exact this⟩
  by_cases h20:20 < op
  ·have hf:Ex.one (.mk op name mod z yes kids pos)=false:=(by rw[DT,eK_ (show ¬ op<=20 by omega),Bool.and_false];rfl);have HF:=hd_ hf;have hd:decide (op < 21)=false:=eK_ (by omega);have HD:=hd_ hd;clear hf hd;go_in;go_wp2_with (rw[HVV.o];go_at_call 161;refine eH_ (Q0b _ _) ?_;rintro r w2 ⟨rfl,rfl⟩;rw[HD.o]);go_ret;exact ⟨by rw[HRE.a,HF.o];rfl,(HM.o _ (eB_ _ _)).2.2⟩
  have hd:decide (op < 21)=true:=eM_ (by omega);have HD:=hd_ hd;have H20:Hid (op<=20):=Int.not_lt.1 h20;have HO:=hd_ (HRE.B (by omega) H20.o);clear hd;go_in;go_wp2_with (rw[HVV.o];go_at_call 161;refine eH_ (Q0b _ _) ?_;rintro r w2 ⟨rfl,rfl⟩;rw[HD.o]);refine eH_ (HN.o _ H20.o (HM.o _ (eB_ _ _)).2.2) ?_;rintro r w2 ⟨rfl,hb2⟩;have H2:=hd_ hb2;clear a0 a1 a2 a3 a4 a5 a6 a7 k0;obtain ⟨a0,a1,a2,a3,a4,a5,a6,a7⟩:=cells8 (HM.o _ hb2).1;have k0:=Q3 (HM.o _ hb2).2.1 0 rfl;clear hb2;dsimp only;cases nm with
  | false=>
   go_wp2_with fail;go_ret;exact ⟨by rw[HRE.a,HO.o];rfl,(HM.o _ H2.o).2.2⟩
  | true=>
  go_wp2_with fail;refine eH_ (HV.o _ (HM.o _ H2.o).2.2) ?_;rintro r w3 ⟨rfl,hb2⟩;have H3:=hd_ (H2.o.trans (hb2.mono H2.o.size));clear a0 a1 a2 a3 a4 a5 a6 a7 k0;obtain ⟨a0,a1,a2,a3,a4,a5,a6,a7⟩:=cells8 (HM.o _ H3.o).1;have k0:=Q3 (HM.o _ H3.o).2.1 0 rfl;clear hb2;dsimp only;cases vl with
  | false=>
   go_wp2_with fail;go_ret;exact ⟨by rw[HRE.a,HO.o];rfl,(HM.o _ H3.o).2.2⟩
  | true=>
  have hkn:0<=knum op/\knum op<=2:=by by_cases q4:op<=4 <;> by_cases q6:op<=6 <;> simp[knum,q4,q6]
  have hct:=DS (n:=kids.length) H20.o;obtain ⟨kn,hkn2⟩:∃ n,knum op=n:=⟨_,rfl⟩
  have HK:=hd_ (Q44 w3 H20.o);rw[hkn2] at hkn HK hct;have HCT:=hd_ hct;clear hkn2 hct;by_cases hq:(kids.length:Int)=kn
  ·have hk2:(kids.length:Int)<=2:=(by omega);have hC:Hid (∀ W,Below w3.heap.size w3 W->Calls prog 165 #[.slice a kids.length c,.func (.func 166) #[] #[.pointer (some ⟨w.heap.size+1,0,none⟩)]] W fun r w'=> r= .returned (.bool (kids.any fun k=> !Ex.right k))/\Below W.heap.size W w'):=fun W hb=> by
    have hW:=HM.o W (H3.o.trans (hb.mono H3.o.size));refine DR (P:=P) (e:= .mk op name mod z yes kids pos) (HH.a.past HH.b hW.2.2) (fun k hk=> eI_ (HH.b k hk) hW.2.2.size) (by show kids.length<=1000000;omega) rfl ?_;intro W2 hb2 i k cs' hi hr;obtain ⟨sv2,kv2,rfl,_,_⟩:=hr.cells;have hmem:k∈kids:=eP_ hi;have hW2:=HM.o W2 ((H3.o.trans (hb.mono H3.o.size)).trans (hb2.mono (H3.o.trans (hb.mono H3.o.size)).size));have hP2:∀ j,P j->j < W2.heap.size:=fun j hj=> eI_ (HH.b j hj) hW2.2.2.size;exact Q17 hW2.2.1 (fun W3 hb3=> HH.c k hmem (hr.past hP2 hb3) (fun j hj=> eI_ (hP2 j hj) hb3.size))
   have HC1:Hid (Ex.count op kids.length=true):=(by rw[HCT.o];exact eM_ hq);subst hq;go_wp2_with (first | (go_at_call 164;refine eH_ HK.o ?_;rintro r w4 ⟨rfl,rfl⟩) | (go_at_call 165;refine eH_ (hC.out _ (eB_ _ _)) ?_;rintro r w5 ⟨rfl,hb5⟩;have H5:=hd_ (H3.o.trans (hb5.mono H3.o.size));clear hb5));go_ret;refine ⟨?_,(HM.o _ H5.o).2.2⟩;rw[HRE.a,HO.o,HC1.o, <-Q8h];rfl
  ·have HQ:=hd_ hq;go_wp2_with (go_at_call 164;refine eH_ HK.o ?_;rintro r w4 ⟨rfl,rfl⟩);go_ret;refine ⟨?_,(HM.o _ H3.o).2.2⟩;rw[HRE.a,HO.o,HCT.o,eK_ HQ.o];rfl
theorem RdE.keep2 {P:Nat->Prop} {cs:List Value} (h:RdE w P e cs) (hk:Keeps P w w') (hf:Keeps (Bk 174 w) w w'):RdE w' P e cs:=by
 induction h with
 | mk css hs hl hc hv _ ih=> exact .mk css (RdB.keep hs hf) hl hc (hv.keep hk) ih
theorem IsW.cell (h:IsW w B b l):∃ bc,w.heap[b]? =some (.cells bc 204 (0,0)):=by
 rcases h with ⟨_,v,h,_⟩ | ⟨_,v,h,_⟩ <;> exact ⟨_,h⟩
def strs (ss:List (List UInt8)):Array Value:=(ss.map fun s=> Value.string ⟨s.toArray⟩).toArray
def WdRel (w:World) (B b:Nat) (pre:List UInt8) (ss:List (List UInt8)) (k:Nat) (v:Value) (wr:World):Prop:=
 ∃ j:Nat,v= .int .i64 j/\k=ss.length - j/\j<=ss.length/\IsW wr B b (pre++(ss.take j).flatten)/\Below B w wr/\NB b w wr
theorem Q5K {ss:List (List UInt8)} {s:List UInt8} (h:ss[j]? =some s):(ss.take (j+1)).flatten=(ss.take j).flatten++s/\(ss.take j).flatten.length+s.length<=ss.flatten.length:=by
 have h1:(ss.take (j+1)).flatten=(ss.take j).flatten++s:=by rw[List.take_add_one,h];simp
 refine ⟨h1,?_⟩;have h2:ss.flatten=(ss.take (j+1)).flatten++(ss.drop (j+1)).flatten:=by rw[<-List.flatten_append,eW_]
 rw[h2,h1];simp only[eC_];omega
theorem Xd {pre:List UInt8} {ss:List (List UInt8)} (h:IsW w B b pre) (hB:B<=w.heap.size) (hg:w.heap[g]? =some (.cells (strs ss) 9 (0,0))) (hgb:g≠b) (hl:pre.length+ss.flatten.length<=1073741824) (hn:ss.length<=1000):
  Calls prog 167 #[.pointer (some ⟨b,0,none⟩),.slice (some ⟨g,0,none⟩) ss.length ss.length] w fun r w'=> r= .returned (.tuple #[])/\IsW w' B b (pre++ss.flatten)/\Below B w w'/\NB b w w':=by
 have HH:=h5_ h hB hg hgb hl;have hn':(ss.length:Int)<=1000:=by omega
 clear h hB hg hgb hl;go_in;go_wp2;go_loopg [8] ss.length (fun k v8 wr=> WdRel w B b pre ss k v8 wr)
 case atStart=> exact ⟨0,rfl,rfl,eV_ _,by simpa using HH.a,eB_ _ _,NB.refl _ _⟩
 case round=>
  obtain ⟨j,rfl,hk,hj,hi,hbw,hnb⟩:=hrel;have HR:=h4_ hk hi hbw hnb;clear hk hi hbw hnb;by_cases hlt:j < ss.length
  ·have hlt':(j:Int) < (ss.length:Int):=(by omega);obtain ⟨s,hs⟩:∃ s,ss[j]? =some s:=⟨_,eA_ hlt⟩
   have f0:wr.cell? ⟨g,j,none⟩=some (.string ⟨s.toArray⟩):=Q3 (HR.D.cells HH.c HH.d (by decide)) j (by simp[strs,hs]);have HT:=hd_ (Q5K hs);clear hs;go_wp2_with (go_at_call 48;refine eH_ (Q5J HR.b s (by have:=HT.B;have:=HH.E;rw[eC_];omega) (eE_ HH.b HR.c.size)) ?_;rintro r w2 ⟨⟨n,rfl⟩,hw2,hb2,hnb2⟩;have H2:=h3_ hw2 hb2 hnb2;clear hw2 hb2 hnb2);go_roundg (ss.length - (j+1))
   case measure=> have:=HR.a;omega
   case rel=> exact ⟨j+1,by go_num,rfl,by omega,by rw[HT.a, <-eQ_];exact H2.a,HR.c.trans H2.b,HR.D.trans H2.C⟩
  ·obtain rfl:j=ss.length:=(by omega);go_wp2_with fail;go_end0;exact ⟨rfl,by have:=HR.b;rwa [List.take_length] at this,HR.c,HR.D⟩
structure Fw (B b:Nat) (V W:World):Prop where
 below:Below B V W
 nb:NB b V W
theorem Fw.refl (B b:Nat) (w:World):Fw B b w w:=⟨eB_ _ _,NB.refl _ _⟩
theorem Fw.trans {B b:Nat} {x y z:World} (h:Fw B b x y) (k:Fw B b y z):Fw B b x z:=⟨h.below.trans k.below,h.nb.trans k.nb⟩
theorem Fw.of {B b:Nat} {x y:World} (hB:B<=x.heap.size) (h:Below x.heap.size x y):Fw B b x y:=⟨h.mono hB,NB.of h⟩
theorem Fw.drew {B b:Nat} {x y:World} (h:Fw B b x y):Fw B b x y.drew:=⟨h.below.drew,h.nb.trans (NB.of (eB_ _ _).drew)⟩
theorem Fw.size {B b:Nat} {x y:World} (h:Fw B b x y):x.heap.size<=y.heap.size:=h.below.size
theorem Fw.cells {B b:Nat} {x y:World} (h:Fw B b x y) {k:Nat} {cs:Array Value} {T:TypeId} (hk:x.heap[k]? =some (.cells cs T (0,0))) (hne:k≠b) (hT:T≠5):y.heap[k]? =some (.cells cs T (0,0)):=h.nb.cells hk hne hT
theorem Fw.rde (h:Fw B b x y) {l:List UInt8} (hw:IsW x B b l) {P:Nat->Prop} (hP:∀ k,P k->k < B) {e:Ex} {cs:List Value} (hr:RdE x P e cs):RdE y P e cs:=by
 obtain ⟨bc,hb⟩:=hw.cell;exact hr.keep2 (Keeps.of h.below hP) (h.nb.keeps (by decide) hb (by decide))
mutual
def Ex.wl:Ex->Nat
 | .mk _ n _ _ _ k _=> 100+n.length+Ex.wls k
def Ex.wls:List Ex->Nat
 | []=> 0
 | e::r=> 10+Ex.wl e+Ex.wls r
end
def KnowsW (B:Nat) (P:Nat->Prop) (e:Ex):Prop:=∀ (w:World) (b:Nat) (pre:List UInt8) (cs:List Value),RdE w P e cs->IsW w B b pre->B<=w.heap.size->pre.length+Ex.wl e<=1073741824->
 Calls prog 129 #[.pointer (some ⟨b,0,none⟩),.agg cs.toArray] w fun r w'=> r= .returned (.tuple #[])/\(∃ l,l.length<=pre.length+Ex.wl e/\IsW w' B b l)/\Fw B b w w'
theorem Jl {P:Nat->Prop} (hK:KnowsW B P e) (hP:∀ k,P k->k < B) {w:World} {b:Nat} {pre:List UInt8} {cs:List Value} {least:Int} (h:RdE w P e cs) (hw:IsW w B b pre) (hB:B<=w.heap.size) (hl:pre.length+Ex.wl e+2<=1073741824):
  Calls prog 168 #[.pointer (some ⟨b,0,none⟩),.agg cs.toArray,.int .i64 least] w fun r w'=> r= .returned (.tuple #[])/\(∃ l,l.length<=pre.length+Ex.wl e+2/\IsW w' B b l)/\Fw B b w w':=by
 obtain ⟨sv,kv,rfl,_,a,c,rfl⟩:=h.cells;obtain ⟨nb,hnb⟩:∃ x,decide (e.num < 0)=x:=⟨_,rfl⟩
 rw[hnb] at h |-;obtain ⟨nk,hnk⟩:∃ x,e.kids.length=x:=⟨_,rfl⟩
 rw[hnk] at h |-;have hbx:=Qh (w:=w) #[.int .i64 e.op,.string ⟨e.name.toArray⟩,.string ⟨e.mod.toArray⟩,.bool nb,sv,.bool e.yes,.slice a nk c,.int .i64 e.pos] 30;have HH:=h6_ hK hP h hw hB hl;obtain ⟨V,hV⟩:∃ V,w.alloc (.cells #[.int .i64 e.op,.string ⟨e.name.toArray⟩,.string ⟨e.mod.toArray⟩,.bool nb,sv,.bool e.yes,.slice a nk c,.int .i64 e.pos] 30)=V:=⟨_,rfl⟩
 have HVV:=hd_ hV;rw[hV] at hbx;have hbw:w.heap.size≠b:=by have:=hw.lt;omega
 have HM:Hid (∀ W,Fw B b V W->W.heap[w.heap.size]? =some (.cells #[.int .i64 e.op,.string ⟨e.name.toArray⟩,.string ⟨e.mod.toArray⟩,.bool nb,sv,.bool e.yes,.slice a nk c,.int .i64 e.pos] 30 (0,0))/\Fw B b w W/\RdE W P e [.int .i64 e.op,.string ⟨e.name.toArray⟩,.string ⟨e.mod.toArray⟩,.bool nb,sv,.bool e.yes,.slice a nk c,.int .i64 e.pos]/\B<=W.heap.size):=fun W hb=> by
  have h1:=(Fw.of (b:=b) hB hbx.2).trans hb;exact ⟨hb.cells hbx.1 hbw (by decide),h1,h1.rde hw hP h,eE_ hB h1.size⟩
 obtain ⟨a0,a1,a2,a3,a4,a5,a6,a7⟩:=cells8 hbx.1;have HL:Hid (∀ W,Fw B b V W->Calls prog 203 #[.agg #[.int .i64 e.op,.string ⟨e.name.toArray⟩,.string ⟨e.mod.toArray⟩,.bool nb,sv,.bool e.yes,.slice a nk c,.int .i64 e.pos]] W fun r w'=> (∃ n:Int,r= .returned (.int .i64 n))/\Below W.heap.size W w'):=fun W hb=> Q2u ⟨_,rfl,(HM.o W hb).2.2.1⟩;have HW0:Hid (IsW V B b pre):=hw.below hbx.2;have HBN:=hd_ hbw;clear hK hP h hw hB hl hbx hV hnb hnk hbw;go_in;go_wp2_with fail;rw[HVV.o];refine eH_ (HL.o _ (Fw.refl _ _ _)) ?_;rintro r w2 ⟨⟨n,rfl⟩,hb2⟩;have hf2:Fw B b V w2:=Fw.of (HM.o _ (Fw.refl _ _ _)).2.2.2 hb2;clear a0 a1 a2 a3 a4 a5 a6 a7;obtain ⟨a0,a1,a2,a3,a4,a5,a6,a7⟩:=cells8 (HM.o _ hf2).1;have H2:=h2_ hf2 (HW0.o.below hb2);clear hf2 hb2;dsimp only;by_cases hln:least<=n
 ·go_wp2_with fail;refine eH_ (HH.a w2 b pre _ (HM.o _ H2.a).2.2.1 H2.B (HM.o _ H2.a).2.2.2 (by have:=HH.F;omega)) ?_;rintro r w3 ⟨rfl,⟨l3,hl3,hw3⟩,hf3⟩;have H3:=h3_ hl3 hw3 hf3;clear hl3 hw3 hf3;dsimp only;go_wp2_with fail;refine eG_ (results_none rfl _ _ _) rfl ?_;exact ⟨rfl,⟨l3,by have:=H3.a;omega,H3.b⟩,(HM.o _ H2.a).2.1.trans H3.C⟩
 ·go_wp2_with fail;have hx3:=Qh (w:=w2) #[.string ⟨#[40]⟩] 9;refine eH_ (Xd (ss:= [[40]]) (H2.B.below hx3.2) (eE_ (HM.o _ H2.a).2.2.2 hx3.2.size) hx3.1 (by have:=H2.B.lt;omega) (by have:=HH.F;simp;omega) (by decide)) ?_;rintro r w3 ⟨rfl,hw3,hb3,hn3⟩;have hf3:Fw B b V w3:=(H2.a.trans (Fw.of (HM.o _ H2.a).2.2.2 hx3.2)).trans ⟨hb3,hn3⟩;clear a0 a1 a2 a3 a4 a5 a6 a7;obtain ⟨a0,a1,a2,a3,a4,a5,a6,a7⟩:=cells8 (HM.o _ hf3).1;have H3:=h2_ hf3 hw3;clear hf3 hb3 hn3 hw3 hx3;dsimp only;go_wp2_with fail;refine eH_ (HH.a w3 b _ _ (HM.o _ H3.a).2.2.1 H3.B (HM.o _ H3.a).2.2.2 (by have:=HH.F;simp;omega)) ?_;rintro r w4 ⟨rfl,⟨l4,hl4,hw4⟩,hf4⟩;have H4:=h3_ hl4 hw4 (H3.a.trans hf4);clear hl4 hw4 hf4;dsimp only;go_wp2_with fail;have hx5:=Qh (w:=w4) #[.string ⟨#[41]⟩] 9;refine eH_ (Xd (ss:= [[41]]) (H4.b.below hx5.2) (eE_ (HM.o _ H4.C).2.2.2 hx5.2.size) hx5.1 (by have:=H4.b.lt;omega) (by have:=HH.F;have:=H4.a;simp at*;omega) (by decide)) ?_;rintro r w5 ⟨rfl,hw5,hb5,hn5⟩;have hf5:Fw B b V w5:=(H4.C.trans (Fw.of (HM.o _ H4.C).2.2.2 hx5.2)).trans ⟨hb5,hn5⟩;have H5:=h2_ hf5 hw5;clear hf5 hb5 hn5 hw5 hx5;dsimp only;go_wp2_with fail;go_end0;exact ⟨rfl,⟨_,by have:=H4.a;simp at*;omega,H5.B⟩,(HM.o _ H5.a).2.1⟩
theorem GK:∀ {l:List Ex} {k:Ex},k∈l->10+Ex.wl k<=Ex.wls l
 | e::r,k,h=> by
  rw[Ex.wls];rcases List.mem_cons.1 h with rfl | h
  ·omega
  ·have:=GK h;omega
theorem J4 {op pos:Int} {name mod:List UInt8} {yes:Bool} {kids:List Ex} (h:Ex.right (.mk op name mod z yes kids pos)=true):
  1<=op/\op<=20/\(op=1->(Zp.text z).length<=60)/\(kids.length:Int)=knum op/\∀ k∈kids,Ex.right k=true:=by
 rw[Ex.Q25,Bool.and_eq_true,DT] at h;simp only[Bool.and_eq_true,decide_eq_true_eq] at h;obtain ⟨⟨⟨⟨⟨h1,h2⟩,_⟩,h3⟩,h4⟩,h5⟩:=h;rw[DS h2,decide_eq_true_eq] at h4;refine ⟨h1,h2,fun e=> ?_,h4,fun k hk=> ?_⟩
 ·rw[if_pos e] at h3;simp only[Bool.and_eq_true,decide_eq_true_eq] at h3;exact h3.1.2
 ·simp only[Ex.kids] at h5;rw[JT] at h5;exact List.all_eq_true.1 h5 k hk
theorem Q2z (hs:Ex.Sm e):∀ {B:Nat} {P:Nat->Prop},(∀ k,P k->k < B)->Ex.right e=true->KnowsW B P e:=by
 induction hs with
 | @mk op pos z name mod yes kids hn hm hz hk hkk ih=>
  intro B P hP hright w b pre cs h hw hB hl;obtain ⟨sv,a,c,rfl,hsv⟩:∃ sv a c,cs= [.int .i64 op,.string ⟨name.toArray⟩,.string ⟨mod.toArray⟩,.bool (decide (z < 0)),sv,.bool yes,.slice a kids.length c,.int .i64 pos]/\RdU w sv (wd z):=by
   cases h with
   | mk css hu hl hc hv hk'=>
    obtain ⟨a,c,rfl⟩:=hv.form;exact ⟨_,a,c,rfl,hu⟩
  obtain ⟨h1,h20,h60,hkn,hkr⟩:=J4 hright;have hbx:=Qh (w:=w) #[.int .i64 op,.string ⟨name.toArray⟩,.string ⟨mod.toArray⟩,.bool (decide (z < 0)),sv,.bool yes,.slice a kids.length c,.int .i64 pos] 30;have hnum:Num w (.agg #[.bool (decide (z < 0)),sv]) z:=⟨_,rfl,hsv⟩
  obtain ⟨a9,c9,rfl⟩:=RdS.form hsv;obtain ⟨nb,hnb⟩:∃ b,decide (z < 0)=b:=⟨_,rfl⟩
  rw[hnb] at hbx h hnum |-;have hwl:Ex.wl (.mk op name mod z yes kids pos)=100+name.length+Ex.wls kids:=by rw[Ex.wl]
  rw[hwl] at hl |-;obtain ⟨V,hV⟩:∃ V,w.alloc (.cells #[.int .i64 op,.string ⟨name.toArray⟩,.string ⟨mod.toArray⟩,.bool nb,.slice a9 (wd z).length c9,.bool yes,.slice a kids.length c,.int .i64 pos] 30)=V:=⟨_,rfl⟩
  have HVV:=hd_ hV;have HVS:Hid (w.heap.size+1=V.heap.size):=by rw[<-hV];exact Q5 _ _
  rw[hV] at hbx;have hbw:w.heap.size≠b:=by have:=hw.lt;omega
  have HM:Hid (∀ W,Fw B b V W->W.heap[w.heap.size]? =some (.cells #[.int .i64 op,.string ⟨name.toArray⟩,.string ⟨mod.toArray⟩,.bool nb,.slice a9 (wd z).length c9,.bool yes,.slice a kids.length c,.int .i64 pos] 30 (0,0))/\Fw B b w W/\RdE W P (.mk op name mod z yes kids pos) [.int .i64 op,.string ⟨name.toArray⟩,.string ⟨mod.toArray⟩,.bool nb,.slice a9 (wd z).length c9,.bool yes,.slice a kids.length c,.int .i64 pos]/\B<=W.heap.size):=fun W hb=> by
   have h1:=(Fw.of (b:=b) hB hbx.2).trans hb;exact ⟨hb.cells hbx.1 hbw (by decide),h1,h1.rde hw hP h,eE_ hB h1.size⟩
  have HK:Hid (∀ W,Fw B b V W->∀ (i:Nat) (k:Ex),kids[i]? =some k->∃ bk off ck cs',a=some ⟨bk,off,none⟩/\c=ck/\W.rangeAt bk (off+i*8) cs'/\RdE W P k cs'/\bk < B):=fun W hb i k hi=> by
   obtain ⟨bk,off,ck,cs',q1,q2,q3,q4,q5⟩:=RdE.kid (HM W hb).2.2.1 (i:=i) (k:=k) hi;injection q1 with q1;injection q1 with q1 _ q6;exact ⟨bk,off,ck,cs',q1,q6,q3,q5,hP bk q2⟩
  have HC:Hid (∀ (i:Nat) (k:Ex),kids[i]? =some k->KnowsW B P k/\10+Ex.wl k<=Ex.wls kids):=fun i k hi=> ⟨ih k (eP_ hi) hP (hkr k (eP_ hi)),GK (eP_ hi)⟩;have HW0:Hid (IsW V B b pre):=hw.below hbx.2;have HF:Hid (Fw B b V V):=Fw.refl _ _ _;have HN:Hid (Num V (.agg #[.bool nb,.slice a9 (wd z).length c9]) z/\Bd 1000000 z/\(op=1->(Zp.text z).length<=60)):=⟨hnum.below hbx.2,hz,h60⟩
  have HP:=h3_ hP hl hn;have HKN:=hd_ hkn;obtain ⟨a0,a1,a2,a3,a4,a5,a6,a7⟩:=cells8 hbx.1;clear hP hright h hw hB hl hbx hV hnb hbw hwl ih hkk hkr hz hm hn hsv hnum h60 hkn hk;by_cases q1:op=1
  ·subst q1;have h60:=HN.C rfl;obtain ⟨tx,htx⟩:∃ t,Zp.text z=t:=⟨_,rfl⟩
   have HT:Hid (∀ W,Fw B b V W->Below V.heap.size V W->Calls prog 26 #[.agg #[.bool nb,.slice a9 (wd z).length c9]] W fun e w'=> e= .returned (.string ⟨tx.toArray⟩)/\Below W.heap.size W w'):=fun W _ hb=> (by rw[<-htx];exact XL (HN.a.below hb) HN.b (by decide));rw[htx] at h60;have H60:=hd_ h60;clear htx h60;go_in;go_wp2_with fail;rw[HVV.o];refine eH_ (HT.o V HF.o (eB_ _ _)) ?_;rintro r w1 ⟨rfl,hb1⟩;have H1:=h2_ (Fw.of (b:=b) (HM.o _ HF.o).2.2.2 hb1) (HW0.o.below hb1);clear hb1;dsimp only;go_wp2_with fail;have hx2:=Qh (w:=w1) #[.string ⟨tx.toArray⟩] 9;refine eH_ (Xd (ss:= [tx]) (H1.B.below hx2.2) (eE_ (HM.o _ H1.a).2.2.2 hx2.2.size) hx2.1 (by have:=H1.B.lt;omega) (by have:=HP.b;have:=H60.o;simp;omega) (by simp)) ?_;rintro r w2 ⟨rfl,hw2,hb2,hn2⟩;have hf2:Fw B b V w2:=(H1.a.trans (Fw.of (HM.o _ H1.a).2.2.2 hx2.2)).trans ⟨hb2,hn2⟩;clear a0 a1 a2 a3 a4 a5 a6 a7;obtain ⟨a0,a1,a2,a3,a4,a5,a6,a7⟩:=cells8 (HM.o _ hf2).1;have H2:=h2_ hf2 hw2;clear hf2 hb2 hn2 hw2 hx2;dsimp only;go_wp2_with fail;go_end0;exact ⟨rfl,⟨_,by have:=H60.o;simp;omega,H2.B⟩,(HM.o _ H2.a).2.1⟩
  by_cases q2:op=2
  ·subst q2;cases yes with
   | true=>
    go_in;go_wp2_with fail;rw[HVV.o,HVS.o];have hx2:=Qh (w:=V) #[.string ⟨#[116,114,117,101]⟩] 9;refine eH_ (Xd (ss:= [[116,114,117,101]]) (HW0.o.below hx2.2) (eE_ (HM.o _ HF.o).2.2.2 hx2.2.size) hx2.1 (by have:=HW0.o.lt;omega) (by have:=HP.b;simp;omega) (by simp)) ?_;rintro r w2 ⟨rfl,hw2,hb2,hn2⟩;have hf2:Fw B b V w2:=(HF.o.trans (Fw.of (HM.o _ HF.o).2.2.2 hx2.2)).trans ⟨hb2,hn2⟩;clear a0 a1 a2 a3 a4 a5 a6 a7;obtain ⟨a0,a1,a2,a3,a4,a5,a6,a7⟩:=cells8 (HM.o _ hf2).1;have H2:=h2_ hf2 hw2;clear hf2 hb2 hn2 hw2 hx2;dsimp only;go_wp2_with fail;go_end0;exact ⟨rfl,⟨_,by simp;omega,H2.B⟩,(HM.o _ H2.a).2.1⟩
   | false=>
    go_in;go_wp2_with fail;rw[HVV.o,HVS.o];have hx2:=Qh (w:=V) #[.string ⟨#[102,97,108,115,101]⟩] 9;refine eH_ (Xd (ss:= [[102,97,108,115,101]]) (HW0.o.below hx2.2) (eE_ (HM.o _ HF.o).2.2.2 hx2.2.size) hx2.1 (by have:=HW0.o.lt;omega) (by have:=HP.b;simp;omega) (by simp)) ?_;rintro r w2 ⟨rfl,hw2,hb2,hn2⟩;have hf2:Fw B b V w2:=(HF.o.trans (Fw.of (HM.o _ HF.o).2.2.2 hx2.2)).trans ⟨hb2,hn2⟩;clear a0 a1 a2 a3 a4 a5 a6 a7;obtain ⟨a0,a1,a2,a3,a4,a5,a6,a7⟩:=cells8 (HM.o _ hf2).1;have H2:=h2_ hf2 hw2;clear hf2 hb2 hn2 hw2 hx2;dsimp only;go_wp2_with fail;go_end0;exact ⟨rfl,⟨_,by simp;omega,H2.B⟩,(HM.o _ H2.a).2.1⟩
  by_cases q3:op=3
  ·subst q3;go_in;go_wp2_with fail;rw[HVV.o,HVS.o];have hx2:=Qh (w:=V) #[.string ⟨name.toArray⟩] 9;refine eH_ (Xd (ss:= [name]) (HW0.o.below hx2.2) (eE_ (HM.o _ HF.o).2.2.2 hx2.2.size) hx2.1 (by have:=HW0.o.lt;omega) (by have:=HP.b;simp;omega) (by simp)) ?_;rintro r w2 ⟨rfl,hw2,hb2,hn2⟩;have hf2:Fw B b V w2:=(HF.o.trans (Fw.of (HM.o _ HF.o).2.2.2 hx2.2)).trans ⟨hb2,hn2⟩;clear a0 a1 a2 a3 a4 a5 a6 a7;obtain ⟨a0,a1,a2,a3,a4,a5,a6,a7⟩:=cells8 (HM.o _ hf2).1;have H2:=h2_ hf2 hw2;clear hf2 hb2 hn2 hw2 hx2;dsimp only;go_wp2_with fail;go_end0;exact ⟨rfl,⟨_,by simp;omega,H2.B⟩,(HM.o _ H2.a).2.1⟩
  by_cases q4:op=4
  ·subst q4;go_in;go_wp2_with fail;rw[HVV.o,HVS.o];have hx2:=Qh (w:=V) #[.string ⟨#[114,101,115]⟩] 9;refine eH_ (Xd (ss:= [[114,101,115]]) (HW0.o.below hx2.2) (eE_ (HM.o _ HF.o).2.2.2 hx2.2.size) hx2.1 (by have:=HW0.o.lt;omega) (by have:=HP.b;simp;omega) (by simp)) ?_;rintro r w2 ⟨rfl,hw2,hb2,hn2⟩;have hf2:Fw B b V w2:=(HF.o.trans (Fw.of (HM.o _ HF.o).2.2.2 hx2.2)).trans ⟨hb2,hn2⟩;clear a0 a1 a2 a3 a4 a5 a6 a7;obtain ⟨a0,a1,a2,a3,a4,a5,a6,a7⟩:=cells8 (HM.o _ hf2).1;have H2:=h2_ hf2 hw2;clear hf2 hb2 hn2 hw2 hx2;dsimp only;go_wp2_with fail;go_end0;exact ⟨rfl,⟨_,by simp;omega,H2.B⟩,(HM.o _ H2.a).2.1⟩
  by_cases q5:op=5
  ·subst q5;have hk1:kids.length=1:=(by have:=HKN.o;rw[show knum 5=1 from rfl] at this;omega);obtain ⟨k,hk⟩:∃ k,kids[0]? =some k:=⟨_,eA_ (by omega)⟩
   have HKK:=h2_ (HC.o 0 k hk) hk;obtain ⟨bk,off,ck,cs0,rfl,rfl,_,_,_⟩:=HK.o _ HF.o 0 k hk;clear hk;have hk0:0 < kids.length:=(by omega);clear hk1;go_in;go_wp2_with fail;rw[HVV.o,HVS.o];have hx2:=Qh (w:=V) #[.string ⟨#[45]⟩] 9;refine eH_ (Xd (ss:= [[45]]) (HW0.o.below hx2.2) (eE_ (HM.o _ HF.o).2.2.2 hx2.2.size) hx2.1 (by have:=HW0.o.lt;omega) (by have:=HP.b;simp;omega) (by simp)) ?_;rintro r w2 ⟨rfl,hw2,hb2,hn2⟩;have hf2:Fw B b V w2:=(HF.o.trans (Fw.of (HM.o _ HF.o).2.2.2 hx2.2)).trans ⟨hb2,hn2⟩;clear a0 a1 a2 a3 a4 a5 a6 a7;obtain ⟨a0,a1,a2,a3,a4,a5,a6,a7⟩:=cells8 (HM.o _ hf2).1;have H2:=h2_ hf2 hw2;clear hf2 hb2 hn2 hw2 hx2;dsimp only;obtain ⟨bk2,off2,ck2,cs2,q1,_,hr,hre,hbk⟩:=HK.o _ H2.a 0 k HKK.B;injection q1 with q1;injection q1 with q1 q2;subst q1 q2;obtain ⟨sv2,kv2,rfl,_,a2,c2,rfl⟩:=hre.cells;have HR:=h2_ hr hre;clear hr hre hbk;go_wp2_with (refine wpList_load_mid rfl 30 _ rfl bk (off+0*8) rfl _ _ HR.a underlying30 rfl rfl ?_);refine eH_ (Jl HKK.a.1 HP.a HR.B H2.B (HM.o _ H2.a).2.2.2 (by have:=HP.b;have:=HKK.a.2;simp;omega)) ?_;rintro r w3 ⟨rfl,⟨l3,hl3,hw3⟩,hf3⟩;have H3:=h3_ hl3 hw3 (H2.a.trans hf3);clear hl3 hw3 hf3;dsimp only;go_wp2_with fail;go_end0;exact ⟨rfl,⟨_,by have:=H3.a;have:=HKK.a.2;simp at*;omega,H3.b⟩,(HM.o _ H3.C).2.1⟩
  by_cases q6:op=6
  ·subst q6;have hk1:kids.length=1:=(by have:=HKN.o;rw[show knum 6=1 from rfl] at this;omega);obtain ⟨k,hk⟩:∃ k,kids[0]? =some k:=⟨_,eA_ (by omega)⟩
   have HKK:=h2_ (HC.o 0 k hk) hk;obtain ⟨bk,off,ck,cs0,rfl,rfl,_,_,_⟩:=HK.o _ HF.o 0 k hk;clear hk;have hk0:0 < kids.length:=(by omega);clear hk1;go_in;go_wp2_with fail;rw[HVV.o,HVS.o];have hx2:=Qh (w:=V) #[.string ⟨#[110,111,116,32]⟩] 9;refine eH_ (Xd (ss:= [[110,111,116,32]]) (HW0.o.below hx2.2) (eE_ (HM.o _ HF.o).2.2.2 hx2.2.size) hx2.1 (by have:=HW0.o.lt;omega) (by have:=HP.b;simp;omega) (by simp)) ?_;rintro r w2 ⟨rfl,hw2,hb2,hn2⟩;have hf2:Fw B b V w2:=(HF.o.trans (Fw.of (HM.o _ HF.o).2.2.2 hx2.2)).trans ⟨hb2,hn2⟩;clear a0 a1 a2 a3 a4 a5 a6 a7;obtain ⟨a0,a1,a2,a3,a4,a5,a6,a7⟩:=cells8 (HM.o _ hf2).1;have H2:=h2_ hf2 hw2;clear hf2 hb2 hn2 hw2 hx2;dsimp only;obtain ⟨bk2,off2,ck2,cs2,q1,_,hr,hre,hbk⟩:=HK.o _ H2.a 0 k HKK.B;injection q1 with q1;injection q1 with q1 q2;subst q1 q2;obtain ⟨sv2,kv2,rfl,_,a2,c2,rfl⟩:=hre.cells;have HR:=h2_ hr hre;clear hr hre hbk;go_wp2_with (refine wpList_load_mid rfl 30 _ rfl bk (off+0*8) rfl _ _ HR.a underlying30 rfl rfl ?_);refine eH_ (Jl HKK.a.1 HP.a HR.B H2.B (HM.o _ H2.a).2.2.2 (by have:=HP.b;have:=HKK.a.2;simp;omega)) ?_;rintro r w3 ⟨rfl,⟨l3,hl3,hw3⟩,hf3⟩;have H3:=h3_ hl3 hw3 (H2.a.trans hf3);clear hl3 hw3 hf3;dsimp only;go_wp2_with fail;go_end0;exact ⟨rfl,⟨_,by have:=H3.a;have:=HKK.a.2;simp at*;omega,H3.b⟩,(HM.o _ H3.C).2.1⟩
  have h7:7<=op:=by omega
  clear q1 q2 q3 q4 q5 q6 h1;have hk2:kids.length=2:=by have:=HKN.o;unfold knum at this;rw[if_neg (by omega),if_neg (by omega)] at this;omega
  obtain ⟨k,hk⟩:∃ k,kids[0]? =some k:=⟨_,eA_ (by omega)⟩
  obtain ⟨m,hm⟩:∃ m,kids[1]? =some m:=⟨_,eA_ (by omega)⟩
  have hsum:20+Ex.wl k+Ex.wl m<=Ex.wls kids:=by
   match kids,hk,hm with
   | x::y::r,hk,hm=>
    simp only[eZ_,List.getElem?_cons_succ,Option.some.injEq] at hk hm;subst hk hm;rw[Ex.wls,Ex.wls];omega
  have HKK:=h5_ (HC.o 0 k hk).1 (HC.o 1 m hm).1 hk hm hsum;obtain ⟨bk,off,ck,cs0,rfl,rfl,_,_,hbk⟩:=HK.o _ HF.o 0 k hk;have HBK:=hd_ hbk;have hk0:1 < kids.length:=by omega
  have hk1i:(1:Int) < (kids.length:Int):=by omega
  have hk00:0 < kids.length:=by omega
  clear hk hm hsum hk2 hbk;have HT:=hd_ (fun W=> Q0a (w:=W) h7 h20);go_in;go_wp2_with fail;rw[HVV.o];refine eH_ (HT.o V) ?_;rintro r w1 ⟨v1,rfl,⟨f0,f1,f2,sg,rfl,hsg⟩,hb1⟩;have HSG:=hd_ hsg;have H1:=h2_ (Fw.of (b:=b) (HM.o _ HF.o).2.2.2 hb1) (HW0.o.below hb1);clear a0 a1 a2 a3 a4 a5 a6 a7;obtain ⟨a0,a1,a2,a3,a4,a5,a6,a7⟩:=cells8 (HM.o _ H1.a).1;clear hb1 hsg;dsimp only;go_wp2_with (refine Qa rfl 245 _ _ rfl 245 #[.int .i64 0,.int .i64 0,.int .i64 0,.string ⟨#[]⟩] #[.int .i64 f0,.int .i64 f1,.int .i64 f2,.string ⟨sg.toArray⟩] rfl rfl rfl G8 (by simp[Value.oneCell']) ?_);have hx2:=Qh (w:=w1) #[.int .i64 f0,.int .i64 f1,.int .i64 f2,.string ⟨sg.toArray⟩] 245;obtain ⟨V1,hV1⟩:∃ V1,w1.alloc (.cells #[.int .i64 f0,.int .i64 f1,.int .i64 f2,.string ⟨sg.toArray⟩] 245)=V1:=⟨_,rfl⟩
  rw[hV1] at hx2 |-;have hf2:Fw B b V V1:=H1.a.trans (Fw.of (HM.o _ H1.a).2.2.2 hx2.2);have hgb:w1.heap.size≠b:=by have:=H1.B.lt;omega
  have H2:=h2_ hf2 (H1.B.below hx2.2);have HFM:Hid (∀ W,Fw B b V1 W->W.heap[w1.heap.size]? =some (.cells #[.int .i64 f0,.int .i64 f1,.int .i64 f2,.string ⟨sg.toArray⟩] 245 (0,0))):=fun W hb=> hb.cells hx2.1 hgb (by decide);clear hf2 hgb hx2 hV1;clear a0 a1 a2 a3 a4 a5 a6 a7;obtain ⟨bk2,off2,ck2,cs2,q1,_,hr,hre,hbk⟩:=HK.o _ (H2.a.trans (Fw.refl B b V1)) 0 k HKK.c;injection q1 with q1;injection q1 with q1 q2;subst q1 q2;obtain ⟨sk,kv2,rfl,_,ak,ckk,rfl⟩:=hre.cells;obtain ⟨nk,hnk⟩:∃ x,decide (Ex.num k < 0)=x:=⟨_,rfl⟩
  rw[hnk] at hr hre;have g0:V1.cell? ⟨bk,off,none⟩=some (.int .i64 k.op):=hr 0 _ rfl;have g1:V1.cell? ⟨bk,off+1,none⟩=some (.string ⟨k.name.toArray⟩):=hr 1 _ rfl;have g2:V1.cell? ⟨bk,off+2,none⟩=some (.string ⟨k.mod.toArray⟩):=hr 2 _ rfl;have g3:V1.cell? ⟨bk,off+3,none⟩=some (.bool nk):=hr 3 _ rfl;have g4:V1.cell? ⟨bk,off+4,none⟩=some (sk):=hr 4 _ rfl;have g5:V1.cell? ⟨bk,off+5,none⟩=some (.bool k.yes):=hr 5 _ rfl;have g6:V1.cell? ⟨bk,off+6,none⟩=some (.slice ak k.kids.length ckk):=hr 6 _ rfl;have g7:V1.cell? ⟨bk,off+7,none⟩=some (.int .i64 k.pos):=hr 7 _ rfl;have mkS:∀ W:World,Fw B b V1 W->Fw B b V1 W/\W.cell? ⟨w.heap.size,6,none⟩=some (.slice (some ⟨bk,off,none⟩) kids.length c)/\W.cell? ⟨bk,off,none⟩=some (.int .i64 k.op)/\W.cell? ⟨bk,off+1,none⟩=some (.string ⟨k.name.toArray⟩)/\W.cell? ⟨bk,off+2,none⟩=some (.string ⟨k.mod.toArray⟩)/\W.cell? ⟨bk,off+3,none⟩=some (.bool nk)/\W.cell? ⟨bk,off+4,none⟩=some (sk)/\W.cell? ⟨bk,off+5,none⟩=some (.bool k.yes)/\W.cell? ⟨bk,off+6,none⟩=some (.slice ak k.kids.length ckk)/\W.cell? ⟨bk,off+7,none⟩=some (.int .i64 k.pos)/\W.cell? ⟨w1.heap.size,1,none⟩=some (.int .i64 f1):=fun W hb=> ⟨hb,(cells8 (HM.o _ ((H2.a.trans (Fw.refl B b V1)).trans hb)).1).2.2.2.2.2.2.1,(hb.below.cell hbk).trans g0,(hb.below.cell hbk).trans g1,(hb.below.cell hbk).trans g2,(hb.below.cell hbk).trans g3,(hb.below.cell hbk).trans g4,(hb.below.cell hbk).trans g5,(hb.below.cell hbk).trans g6,(hb.below.cell hbk).trans g7,Q3 (HFM.o _ (((Fw.refl B b V1)).trans hb)) 1 rfl⟩;have HS:=hd_ mkS;have HRE:=hd_ hre;clear hr hre hbk g0 g1 g2 g3 g4 g5 g6 g7 mkS hnk;go_wp2_with fail;go_region_held3 (fun w'=> Fw B b V1 w'/\w'.cell? ⟨w.heap.size,6,none⟩=some (.slice (some ⟨bk,off,none⟩) kids.length c)/\w'.cell? ⟨bk,off,none⟩=some (.int .i64 k.op)/\w'.cell? ⟨bk,off+1,none⟩=some (.string ⟨k.name.toArray⟩)/\w'.cell? ⟨bk,off+2,none⟩=some (.string ⟨k.mod.toArray⟩)/\w'.cell? ⟨bk,off+3,none⟩=some (.bool nk)/\w'.cell? ⟨bk,off+4,none⟩=some (sk)/\w'.cell? ⟨bk,off+5,none⟩=some (.bool k.yes)/\w'.cell? ⟨bk,off+6,none⟩=some (.slice ak k.kids.length ckk)/\w'.cell? ⟨bk,off+7,none⟩=some (.int .i64 k.pos)/\w'.cell? ⟨w1.heap.size,1,none⟩=some (.int .i64 f1)) (first | exact HS.o _ (Fw.refl _ _ _).drew | exact HS.o _ hf9) ((go_at_call 168;refine eH_ (Jl HKK.a HP.a ((Fw.refl B b _).drew.rde H2.B HP.a HRE.o) (H2.B.below (eB_ _ _).drew) (HM.o _ ((H2.a.trans (Fw.refl B b V1)).drew)).2.2.2 (by have:=HP.b;have:=HKK.E;omega)) ?_;rintro r w3 ⟨rfl,⟨l3,hl3,hw3⟩,hf3⟩;have hf9:=(Fw.refl B b V1).drew.trans hf3;have H3:=h3_ (((Fw.refl B b V1)).trans hf9) hw3 hl3;clear hf3 hw3 hl3));clear hf9 HS;obtain ⟨a0,a1,a2,a3,a4,a5,a6,a7⟩:=cells8 (HM.o _ (H2.a.trans H3.a)).1;have s3:=Q3 (HFM.o _ H3.a) 3 rfl;go_wp2_with fail;have hx4:=Qh (w:=w3) #[.string ⟨#[32]⟩,.string ⟨sg.toArray⟩,.string ⟨#[32]⟩] 9;refine eH_ (Xd (ss:= [[32],sg, [32]]) (H3.b.below hx4.2) (eE_ (HM.o _ (H2.a.trans H3.a)).2.2.2 hx4.2.size) hx4.1 (by have:=H3.b.lt;omega) (by have:=HP.b;have:=HKK.E;have:=H3.C;have:=HSG.o;simp at*;omega) (by simp)) ?_;rintro r w4 ⟨rfl,hw4,hb4,hn4⟩;have hf4:Fw B b V w4:=((H2.a.trans H3.a).trans (Fw.of (HM.o _ (H2.a.trans H3.a)).2.2.2 hx4.2)).trans ⟨hb4,hn4⟩;clear a0 a1 a2 a3 a4 a5 a6 a7;obtain ⟨a0,a1,a2,a3,a4,a5,a6,a7⟩:=cells8 (HM.o _ hf4).1;have H4:=h2_ hf4 hw4;have H4b:Hid (Fw B b V1 w4):=(H3.a.trans (Fw.of (HM.o _ (H2.a.trans H3.a)).2.2.2 hx4.2)).trans ⟨hb4,hn4⟩;clear hf4 hb4 hn4 hw4 hx4;dsimp only;have s2:=Q3 (HFM.o _ H4b.o) 2 rfl;obtain ⟨bk2,off2,ck2,cs2,q1,_,hr,hre,hbk⟩:=HK.o _ (H2.a.trans H4b.o) 1 m HKK.d;injection q1 with q1;injection q1 with q1 q2;subst q1 q2;obtain ⟨sk,kv2,rfl,_,ak,ckk,rfl⟩:=hre.cells;obtain ⟨nk,hnk⟩:∃ x,decide (Ex.num m < 0)=x:=⟨_,rfl⟩
  rw[hnk] at hr hre;have g0:w4.cell? ⟨bk,off+8,none⟩=some (.int .i64 m.op):=hr 0 _ rfl;have g1:w4.cell? ⟨bk,off+8+1,none⟩=some (.string ⟨m.name.toArray⟩):=hr 1 _ rfl;have g2:w4.cell? ⟨bk,off+8+2,none⟩=some (.string ⟨m.mod.toArray⟩):=hr 2 _ rfl;have g3:w4.cell? ⟨bk,off+8+3,none⟩=some (.bool nk):=hr 3 _ rfl;have g4:w4.cell? ⟨bk,off+8+4,none⟩=some (sk):=hr 4 _ rfl;have g5:w4.cell? ⟨bk,off+8+5,none⟩=some (.bool m.yes):=hr 5 _ rfl;have g6:w4.cell? ⟨bk,off+8+6,none⟩=some (.slice ak m.kids.length ckk):=hr 6 _ rfl;have g7:w4.cell? ⟨bk,off+8+7,none⟩=some (.int .i64 m.pos):=hr 7 _ rfl;have mkS:∀ W:World,Fw B b w4 W->Fw B b w4 W/\W.cell? ⟨w.heap.size,6,none⟩=some (.slice (some ⟨bk,off,none⟩) kids.length c)/\W.cell? ⟨bk,off+8,none⟩=some (.int .i64 m.op)/\W.cell? ⟨bk,off+8+1,none⟩=some (.string ⟨m.name.toArray⟩)/\W.cell? ⟨bk,off+8+2,none⟩=some (.string ⟨m.mod.toArray⟩)/\W.cell? ⟨bk,off+8+3,none⟩=some (.bool nk)/\W.cell? ⟨bk,off+8+4,none⟩=some (sk)/\W.cell? ⟨bk,off+8+5,none⟩=some (.bool m.yes)/\W.cell? ⟨bk,off+8+6,none⟩=some (.slice ak m.kids.length ckk)/\W.cell? ⟨bk,off+8+7,none⟩=some (.int .i64 m.pos)/\W.cell? ⟨w1.heap.size,2,none⟩=some (.int .i64 f2):=fun W hb=> ⟨hb,(cells8 (HM.o _ ((H2.a.trans H4b.o).trans hb)).1).2.2.2.2.2.2.1,(hb.below.cell hbk).trans g0,(hb.below.cell hbk).trans g1,(hb.below.cell hbk).trans g2,(hb.below.cell hbk).trans g3,(hb.below.cell hbk).trans g4,(hb.below.cell hbk).trans g5,(hb.below.cell hbk).trans g6,(hb.below.cell hbk).trans g7,Q3 (HFM.o _ ((H4b.o).trans hb)) 2 rfl⟩;have HS:=hd_ mkS;have HRE:=hd_ hre;clear hr hre hbk g0 g1 g2 g3 g4 g5 g6 g7 mkS hnk;go_wp2_with fail;go_region_held3 (fun w'=> Fw B b w4 w'/\w'.cell? ⟨w.heap.size,6,none⟩=some (.slice (some ⟨bk,off,none⟩) kids.length c)/\w'.cell? ⟨bk,off+8,none⟩=some (.int .i64 m.op)/\w'.cell? ⟨bk,off+8+1,none⟩=some (.string ⟨m.name.toArray⟩)/\w'.cell? ⟨bk,off+8+2,none⟩=some (.string ⟨m.mod.toArray⟩)/\w'.cell? ⟨bk,off+8+3,none⟩=some (.bool nk)/\w'.cell? ⟨bk,off+8+4,none⟩=some (sk)/\w'.cell? ⟨bk,off+8+5,none⟩=some (.bool m.yes)/\w'.cell? ⟨bk,off+8+6,none⟩=some (.slice ak m.kids.length ckk)/\w'.cell? ⟨bk,off+8+7,none⟩=some (.int .i64 m.pos)/\w'.cell? ⟨w1.heap.size,2,none⟩=some (.int .i64 f2)) (first | exact HS.o _ (Fw.refl _ _ _).drew | exact HS.o _ hf9) ((go_at_call 168;refine eH_ (Jl HKK.b HP.a ((Fw.refl B b _).drew.rde H4.B HP.a HRE.o) (H4.B.below (eB_ _ _).drew) (HM.o _ ((H2.a.trans H4b.o).drew)).2.2.2 (by have:=HP.b;have:=HKK.E;have:=H3.C;have:=HSG.o;simp at*;omega)) ?_;rintro r w5 ⟨rfl,⟨l5,hl5,hw5⟩,hf5⟩;have hf9:=(Fw.refl B b w4).drew.trans hf5;have H5:=h3_ ((H4b.o).trans hf9) hw5 hl5;clear hf5 hw5 hl5));clear hf9 HS;go_wp2_with fail;go_end0;exact ⟨rfl,⟨_,by have:=HKK.E;have:=H3.C;have:=H5.C;have:=HSG.o;simp at*;omega,H5.b⟩,(HM.o _ (H2.a.trans H5.a)).2.1⟩
namespace Ex
theorem ZC:∀ (a b:List Ex),ofs (a++b)=(ofs a).bind fun x=> (ofs b).map fun y=> x++y
 | [],b=> by
  rw[List.nil_append,ofs,Option.bind_some];cases ofs b <;> simp
 | e::r,b=> by
  rw[List.cons_append,ofs,ofs,ZC r b];cases of e with
  | none=> rfl
  | some t=>
   cases ofs r with
   | none=> rfl
   | some x=> cases ofs b <;> rfl
theorem Q4I (k:Ex):ofs [k]=(of k).map fun t=> [t]:=by
 rw[ofs,ofs];cases of k <;> rfl
theorem Q7j {l:List Ex} {ts:List Tp.T} (h:ofs (l.take j)=some ts) (hk:l[j]? =some k) (ht:of k=some t):ofs (l.take (j+1))=some (ts++ [t]):=by
 rw[List.take_add_one,hk,Option.toList_some,ZC,h,Q4I,ht];rfl
theorem Q7k {l:List Ex} {ts:List Tp.T} (h:ofs (l.take j)=some ts) (hk:l[j]? =some k) (ht:of k=Option.none):ofs l=Option.none:=by
 have hlt:=(List.getElem?_eq_some_iff.1 hk).1;have e:l=l.take (j+1)++l.drop (j+1):=(eW_ _ _).symm;rw[e,ZC,List.take_add_one,hk,Option.toList_some,ZC,h,Q4I,ht];rfl
theorem Ut:∀ {l:List Ex} {ts:List Tp.T},ofs l=some ts->ts.length=l.length/\∀ (i:Nat) (t:Tp.T),ts[i]? =some t->∃ k,l[i]? =some k/\of k=some t
 | [],ts,h=> by
  rw[ofs] at h;injection h with h;subst h;exact ⟨rfl,fun i t hi=> by simp at hi⟩
 | e::r,ts,h=> by
  rw[ofs] at h;split at h
  ·cases h
  ·rename_i t ht;split at h
   ·cases h
   ·rename_i x hx;injection h with h;subst h;obtain ⟨h1,h2⟩:=Ut hx;refine ⟨by simp[h1],fun i t2 hi=> ?_⟩
    match i with
    | 0=>
     simp only[eZ_,Option.some.injEq] at hi |-;exact ⟨e,rfl,hi ▸ ht⟩
    | i+1=>
     simp only[List.getElem?_cons_succ] at hi |-;exact h2 i t2 hi
end Ex
theorem Q5L {k:Nat} (h:(Zp.dec n).length<=k):n < 10 ^ k:=by
 by_cases hn:n=0
 ·subst hn;exact Nat.pow_pos (by decide)
 ·rw[Zp.dec,if_neg hn,List.length_map,List.length_reverse] at h;rcases eS_ n (10 ^ k) with h1 | h1
  ·exact h1
  ·have hd:=Zp.Qo (B:=10) (by decide) n;have h2:=Zp.Xs (by decide) hd;rw[Zp.Qi (by decide)] at h2;exact eI_ h2 (Nat.pow_le_pow_right (by decide) h)
theorem Q47 (h:(Zp.text z).length<=60):Bd 60 z:=by
 unfold Bd;refine Q5L ?_;unfold Zp.text at h;split at h
 ·simp only[eL_] at h;omega
 ·exact h
theorem Q7l (op pos z:Int) (name mod:List UInt8) (yes:Bool) (kids:List Ex) (ks:List Tp.T):Ex.ofK (.mk op name mod z yes kids pos) ks=
  if op=1 then some ⟨[],z⟩ else if op=3 then some (Tp.name name) else if op=4 then some (Tp.name [114,101,115]) else if op=5 then some (Tp.add Tp.zero (ks.getD 0 Tp.zero) (-1))
  else if op=7 then some (Tp.add (ks.getD 0 Tp.zero) (ks.getD 1 Tp.zero) 1) else if op=8 then some (Tp.add (ks.getD 0 Tp.zero) (ks.getD 1 Tp.zero) (-1)) else if op=9 then Ex.prod (ks.getD 0 Tp.zero) (ks.getD 1 Tp.zero) else none:=rfl
theorem Q7m (hs:Ex.Sm e):∀ {t:Tp.T},Ex.right e=true->Ex.of e=some t->Sm (Ex.wl e) t/\Tp.Ok t.l:=by
 induction hs with
 | @mk op pos z name mod yes kids hn hm hz hk hkk ih=>
  intro t hr ht;obtain ⟨h1,h20,h60,hkn,hkr⟩:=J4 hr;rw[Ex.of] at ht;split at ht
  ·cases ht
  ·rename_i ks hks;obtain ⟨hl,hg⟩:=Ex.Ut hks;have hkid:∀ (i:Nat) (u:Tp.T),ks[i]? =some u->∃ k,kids[i]? =some k/\Sm (Ex.wl k) u/\Tp.Ok u.l:=fun i u hu=> by
    obtain ⟨k,hk1,hk2⟩:=hg i u hu;have hm:=eP_ hk1;exact ⟨k,hk1,ih k hm (hkr k hm) hk2⟩
   rw[Ex.wl];rw[Q7l] at ht;by_cases e1:op=1
   ·rw[if_pos e1] at ht;injection ht with ht;subst ht;exact ⟨⟨fun p hp=> (by cases hp),(Q47 (h60 e1)).mono (by omega),eV_ _⟩,Tp.Ok.nil⟩
   rw[if_neg e1] at ht;by_cases e3:op=3
   ·rw[if_pos e3] at ht;injection ht with ht;subst ht;exact ⟨(Sm.name name).mono (by omega),Jg name⟩
   rw[if_neg e3] at ht;by_cases e4:op=4
   ·rw[if_pos e4] at ht;injection ht with ht;subst ht;exact ⟨(Sm.name _).mono (by omega),Jg _⟩
   rw[if_neg e4] at ht;by_cases e5:op=5
   ·rw[if_pos e5] at ht;injection ht with ht;subst ht;have hk1:kids.length=1:=(by subst e5;rw[show knum 5=1 from rfl] at hkn;omega);obtain ⟨a,rfl⟩:∃ a,ks= [a]:=List.length_eq_one_iff.1 (hl.trans hk1);obtain ⟨k,q1,q2,q3⟩:=hkid 0 a rfl;have hw:=GK (eP_ q1);show Sm _ (Tp.add Tp.zero a (-1))/\_;exact ⟨(Sm.add Sm.zero Tp.Ok.nil q2 q3.rise (show Bd 1 (-1) by unfold Bd;decide)).mono (by omega),Tp.ZJ Tp.Ok.nil _ _⟩
   rw[if_neg e5] at ht;have h7:op=7\/op=8\/op=9:=by
    rcases Int.lt_or_le 6 op with h | h
    ·by_cases e7:op=7
     ·exact Or.inl e7
     ·rw[if_neg e7] at ht;by_cases e8:op=8
      ·exact Or.inr (Or.inl e8)
      ·rw[if_neg e8] at ht;by_cases e9:op=9
       ·exact Or.inr (Or.inr e9)
       ·rw[if_neg e9] at ht;cases ht
    ·rw[if_neg (by omega),if_neg (by omega),if_neg (by omega)] at ht;cases ht
   have hk2:kids.length=2:=by
    unfold knum at hkn;rw[if_neg (by omega),if_neg (by omega)] at hkn;omega
   obtain ⟨a,b,rfl⟩:∃ a b,ks= [a,b]:=by
    match ks,hl.trans hk2 with
    | [a,b],_=> exact ⟨a,b,rfl⟩
   obtain ⟨k,q1,q2,q3⟩:=hkid 0 a rfl;obtain ⟨m,p1,p2,p3⟩:=hkid 1 b rfl;have hw:20+Ex.wl k+Ex.wl m<=Ex.wls kids:=by
    match kids,q1,p1 with
    | x::y::r,hk,hm=>
     simp only[eZ_,List.getElem?_cons_succ,Option.some.injEq] at hk hm;subst hk hm;rw[Ex.wls,Ex.wls];omega
   simp only[List.getD_cons_zero,List.getD_cons_succ] at ht;rcases h7 with e7 | e8 | e9
   ·rw[if_pos e7] at ht;injection ht with ht;subst ht;exact ⟨(Sm.add q2 q3 p2 p3.rise (show Bd 1 1 by unfold Bd;decide)).mono (by omega),Tp.ZJ q3 _ _⟩
   ·rw[if_neg (by omega),if_pos e8] at ht;injection ht with ht;subst ht;exact ⟨(Sm.add q2 q3 p2 p3.rise (show Bd 1 (-1) by unfold Bd;decide)).mono (by omega),Tp.ZJ q3 _ _⟩
   ·rw[if_neg (by omega),if_neg (by omega),if_pos e9] at ht;unfold Ex.prod at ht;split at ht
    ·injection ht with ht;subst ht;exact ⟨(Sm.add Sm.zero Tp.Ok.nil p2 p3.rise q2.rest).mono (by omega),Tp.ZJ Tp.Ok.nil _ _⟩
    ·split at ht
     ·injection ht with ht;subst ht;exact ⟨(Sm.add Sm.zero Tp.Ok.nil q2 q3.rise p2.rest).mono (by omega),Tp.ZJ Tp.Ok.nil _ _⟩
     ·cases ht
theorem Xx {fn:Func} {p u:Tmp} (h:fn.results= #[.cell p 38,.tmp u]) (hp:tmps.getD p undef= .pointer (some ⟨g,0,none⟩)) (hg:w.heap[g]? =some (.cells cs 38 (0,0))) (hs:cs.size=3) {x:Value} (hx:tmps.getD u undef=x):
  (results fn tmps).run prog w= .ok (.tuple #[.agg cs,x]) w:=
 Xk h _ _ g _ _ _ _ hp hg underlying38 rfl (by rw[hs];exact Qy) hx
def OfOut (o:Option Tp.T) (w:World) (r:Ending) (w':World):Prop:=∃ v,r= .returned (.tuple #[v,.int .i64 (if o.isSome then 0 else 35)])/\Tm w' v (o.getD Tp.zero)/\Below w.heap.size w w'
theorem Lj {va vb:Value} {u:Tp.T} (ht:Tm w va t) (hu:Tm w vb u) (ot:Tp.Rise t.l) (ou:Tp.Rise u.l) {K:Nat} (st:Sm K t) (su:Sm K u) (hK:K<=100000):
  Calls prog 88 #[va,vb] w (OfOut (Ex.prod t u) w):=by
 obtain ⟨bt,at_,ct,pt,rfl,ht⟩:=Ql ht;obtain ⟨bu,au,cu,pu,rfl,hu⟩:=Ql hu;have hbx:=box3 w #[.bool bt,.slice at_ (wd t.rest).length ct,.pointer pt] 38 #[.bool bu,.slice au (wd u.rest).length cu,.pointer pu] 38 #[.bool false,.slice none 0 0,.pointer none] 38;have HH:=h7_ ht hu ot ou st su hK;obtain ⟨V,hV⟩:∃ V,((w.alloc (.cells #[.bool bt,.slice at_ (wd t.rest).length ct,.pointer pt] 38)).alloc (.cells #[.bool bu,.slice au (wd u.rest).length cu,.pointer pu] 38)).alloc (.cells #[.bool false,.slice none 0 0,.pointer none] 38)=V:=⟨_,rfl⟩
 have HVV:=hd_ hV;rw[hV] at hbx;have HM:Hid (∀ W,Below V.heap.size V W->W.heap[w.heap.size]? =some (.cells #[.bool bt,.slice at_ (wd t.rest).length ct,.pointer pt] 38 (0,0))/\W.heap[w.heap.size+1]? =some (.cells #[.bool bu,.slice au (wd u.rest).length cu,.pointer pu] 38 (0,0))/\W.heap[w.heap.size+2]? =some (.cells #[.bool false,.slice none 0 0,.pointer none] 38 (0,0))/\Below w.heap.size w W):=fun W hb=> ⟨Q7 hbx.1 hb,Q7 hbx.2.1 hb,Q7 hbx.2.2.1 hb,hbx.2.2.2.trans (hb.mono hbx.2.2.2.size)⟩;have hlt:t.l.length<=100000:=eE_ st.len hK;have hlu:u.l.length<=100000:=eE_ su.len hK;clear ht hu ot ou st su hK hbx hV;have hm0:=HM.o V (eB_ _ _);have t0:=Q3 hm0.1 0 rfl;have t1:=Q3 hm0.1 1 rfl;have t2:=Q3 hm0.1 2 rfl;clear hm0;go_in;go_wp2_with fail;rw[HVV.o];refine eH_ (XC (HH.a.below (HM.o _ (eB_ _ _)).2.2.2) (by omega)) ?_;rintro r w1 ⟨v1,ss1,rfl,_,how1,hb1⟩;obtain ⟨a1,c1,rfl⟩:=Qj how1;have H1:=hd_ hb1;clear how1 hb1 t0 t1 t2;have hm1:=HM.o w1 H1.o;have t0:=Q3 hm1.1 0 rfl;have t1:=Q3 hm1.1 1 rfl;have t2:=Q3 hm1.1 2 rfl;have u0:=Q3 hm1.2.1 0 rfl;have u1:=Q3 hm1.2.1 1 rfl;have u2:=Q3 hm1.2.1 2 rfl;clear hm1;have HL:=h2_ hlt hlu;clear hlt hlu;dsimp only;by_cases e1:t.l= []
 ·have hp:Ex.prod t u=some (Tp.add Tp.zero u t.rest):=by unfold Ex.prod;rw[if_pos e1]
  have HP:=hd_ hp;clear hp;have hl0:t.l.length=0:=by rw[e1];rfl
  rw[hl0];clear hl0;go_wp2_with fail;refine eH_ (Yi (HH.b.below (HM.o _ H1.o).2.2.2) (HH.a.num.below (HM.o _ H1.o).2.2.2) HH.d HH.f HH.e.rest HH.G) ?_;rintro r w2 ⟨v2,rfl,ht2,hb2⟩;have H2:=h2_ ht2 (H1.o.trans (hb2.mono H1.o.size));clear ht2 hb2;dsimp only;go_wp2_with (refine QC rfl _ _ rfl rfl (HM.o _ H2.B).2.2.1 rfl rfl H2.a (show w.heap.size<=w.heap.size+2 by omega) (HM.o _ H2.B).2.2.2 ?_;rintro W cs - hcs hg hs hn hb;have HT:=h4_ hg hs hn hb;clear hg hs hn hb hcs);refine eG_ (Xx rfl rfl HT.a HT.b rfl) rfl ?_;exact ⟨_,by rw[HP.o];rfl,by rw[HP.o];exact HT.c,HT.D⟩
 ·have hl0:(t.l.length:Int)≠0:=by
   have:t.l.length≠0:=fun h=> e1 (List.length_eq_zero_iff.1 h);omega
  have hl1:(t.l.length:Int)<=100000:=by have:=HL.a;omega
  have HE:=hd_ e1;clear e1;go_wp2_with fail;refine eH_ (XC (HH.b.below (HM.o _ H1.o).2.2.2) (by have:=HL.B;omega)) ?_;rintro r w2 ⟨v2,ss2,rfl,_,how2,hb2⟩;obtain ⟨a2,c2,rfl⟩:=Qj how2;have H2:=hd_ (H1.o.trans (hb2.mono H1.o.size));clear how2 hb2 t0 t1 t2 u0 u1 u2;have hm1:=HM.o w2 H2.o;have t0:=Q3 hm1.1 0 rfl;have t1:=Q3 hm1.1 1 rfl;have t2:=Q3 hm1.1 2 rfl;have u0:=Q3 hm1.2.1 0 rfl;have u1:=Q3 hm1.2.1 1 rfl;have u2:=Q3 hm1.2.1 2 rfl;clear hm1;dsimp only;by_cases e2:u.l= []
  ·have hp:Ex.prod t u=some (Tp.add Tp.zero t u.rest):=(by unfold Ex.prod;rw[if_neg HE.o,if_pos e2]);have HP:=hd_ hp;clear hp;have hl0:u.l.length=0:=(by rw[e2];rfl);rw[hl0];clear hl0;go_wp2_with fail;refine eH_ (Yi (HH.a.below (HM.o _ H2.o).2.2.2) (HH.b.num.below (HM.o _ H2.o).2.2.2) HH.c HH.e HH.f.rest HH.G) ?_;rintro r w3 ⟨v3,rfl,ht3,hb3⟩;have H3:=h2_ ht3 (H2.o.trans (hb3.mono H2.o.size));clear ht3 hb3;dsimp only;go_wp2_with (refine QC rfl _ _ rfl rfl (HM.o _ H3.B).2.2.1 rfl rfl H3.a (show w.heap.size<=w.heap.size+2 by omega) (HM.o _ H3.B).2.2.2 ?_;rintro W cs - hcs hg hs hn hb;have HT:=h4_ hg hs hn hb;clear hg hs hn hb hcs);refine eG_ (Xx rfl rfl HT.a HT.b rfl) rfl ?_;exact ⟨_,by rw[HP.o];rfl,by rw[HP.o];exact HT.c,HT.D⟩
  ·have hp:Ex.prod t u=none:=(by unfold Ex.prod;rw[if_neg HE.o,if_neg e2]);have HP:=hd_ hp;have hu0:(u.l.length:Int)≠0:=by
    have:u.l.length≠0:=fun h=> e2 (List.length_eq_zero_iff.1 h);omega
   have hu1:(u.l.length:Int)<=100000:=(by have:=HL.B;omega);clear hp e2;go_wp2_with (refine QC rfl _ _ rfl rfl (HM.o _ H2.o).2.2.1 rfl rfl (Tm.zero _) (show w.heap.size<=w.heap.size+2 by omega) (HM.o _ H2.o).2.2.2 ?_;rintro W cs - hcs hg hs hn hb;have HT:=h4_ hg hs hn hb;clear hg hs hn hb hcs);refine eG_ (Xx rfl rfl HT.a HT.b rfl) rfl ?_;exact ⟨_,by rw[HP.o];rfl,by rw[HP.o];exact HT.c,HT.D⟩
def TL (w:World) (B:Nat) (v:Value) (ts:List Tp.T):Prop:=
 ∃ css:List (List Value),css.length=ts.length/\(∀ c∈css,c.length=3)/\w.ownsRow B 38 3 v ts.length css.flatten/\∀ (i:Nat) (t:Tp.T) (c:List Value),ts[i]? =some t->css[i]? =some c->Tm w (.agg c.toArray) t
theorem TL.nil (w:World) (B:Nat):TL w B (.slice none 0 0) []:=⟨[],rfl,fun c hc=> (by cases hc),World.ownsRow_nil _ _ _ _,fun i t c h=> by simp at h⟩
theorem Uu {w:World} {b:Nat}:∀ (css:List (List Value)) {off i:Nat} {c:List Value},(∀ c∈css,c.length=3)->w.rangeAt b off css.flatten->css[i]? =some c->w.rangeAt b (off+i*3) c
 | [],off,i,c,_,_,hi=> by simp at hi
 | c0::css,off,0,c,hc,h,hi=> by
  simp only[eZ_,Option.some.injEq] at hi;subst hi;intro j v hj;have:=h j v (by rw[List.flatten_cons,eT_ (List.getElem?_eq_some_iff.1 hj).1];exact hj);simpa using this
 | c0::css,off,i+1,c,hc,h,hi=> by
  have h8:=hc c0 (eX_ ..);have h2:w.rangeAt b (off+3) css.flatten:=by
   intro j v hj;have:=h (3+j) v (by rw[List.flatten_cons,eO_ (by omega),h8,Nat.add_sub_cancel_left];exact hj);rw[<-Nat.add_assoc] at this;exact this
  have:=Uu css (off:=off+3) (fun c hc'=> hc c (eR_ _ hc')) h2 (by simpa using hi);rw[show off+(i+1)*3=off+3+i*3 from by omega];exact this
theorem Lk {T:TypeId} {fr:Nat × Nat} (hb:w.heap[b]? =some (.cells cs T fr)):w.cell? ⟨b,j,none⟩=cs[j]? :=by
 simp[World.cell?,hb]
theorem TL.get {ts:List Tp.T} (h:TL w B (.slice a n c) ts) {i:Nat} {t:Tp.T} (hi:ts[i]? =some t):
  ∃ b,a=some ⟨b,0,none⟩/\∃ x y c2 o,w.cell? ⟨b,i*3,none⟩=some (.bool x)/\w.cell? ⟨b,i*3+1,none⟩=some (.slice y (wd t.rest).length c2)/\w.cell? ⟨b,i*3+2,none⟩=some (.pointer o)/\Tm w (.agg #[.bool x,.slice y (wd t.rest).length c2,.pointer o]) t:=by
 obtain ⟨css,h1,h2,h3,h4⟩:=h;have hlt:=(List.getElem?_eq_some_iff.1 hi).1;have hci:css[i]? =some (css[i]'(by omega)):=eA_ (by omega);have hl:=h2 _ (List.getElem_mem (l:=css) (n:=i) (by omega));have ht:=h4 i t _ hi hci;obtain ⟨_,⟨e1,e2⟩ | ⟨g,cap,cur,e1,hg1,hg,_,_,hsz,htk⟩⟩:=h3
 ·omega
 ·injection e1 with e1 _ _;have hr:w.rangeAt g 0 css.flatten:=by
   intro j v hj;rw[Nat.zero_add,Lk hg];rw[<-htk,List.getElem?_take] at hj;split at hj
   ·simpa using hj
   ·cases hj
  have hp:=Uu css h2 hr hci;rw[Nat.zero_add] at hp;obtain ⟨x,y,c2,o,e,htm⟩:=Ql ht;have e2:css[i]'(by omega)= [.bool x,.slice y (wd t.rest).length c2,.pointer o]:=by
   injection e with e;simpa using congrArg Array.toList e
  rw[e2] at hp;rw[e] at ht;exact ⟨g,e1,x,y,c2,o,hp 0 _ rfl,hp 1 _ rfl,hp 2 _ rfl,ht⟩
theorem Q5M:(prog.info? 38).map (fun i=> (i.zero,i.size,i.bytes))=some (some (.agg #[.bool false,.slice none 0 0,.pointer none]),3,40):=by kernel_rfl
theorem Q7n (w:World) (x y z:Value):RdS (w.alloc (.cells #[x,y,z] 38)) (fun k=> k=w.heap.size) 3 (.slice (some ⟨w.heap.size,0,none⟩) 1 1) 1 [x,y,z]:=by
 refine ⟨rfl,_,_,rfl,rl_ _,Or.inr ⟨_,_,rfl,Or.inr rfl,?_⟩⟩;intro j v hj;rw[Nat.zero_add];exact Q3 (YB _ _ _ rfl) j (by simpa using hj)
theorem TL.push {v':Value} {ts:List Tp.T} {x y z:Value} {css:List (List Value)} (h1:css.length=ts.length) (h2:∀ c∈css,c.length=3) (h4:∀ (i:Nat) (t:Tp.T) (c:List Value),ts[i]? =some t->css[i]? =some c->Tm w (.agg c.toArray) t)
  (ht:Tm w (.agg #[x,y,z]) t) (hf:FrT [38] w w') (ho:w'.ownsRow B 38 3 v' (ts.length+1) (css.flatten++ [x,y,z])):TL w' B v' (ts++ [t]):=by
 refine ⟨css++ [[x,y,z]],by simp[h1],fun c hc=> ?_,?_,fun i u c hi hc=> ?_⟩
 ·rcases List.mem_append.1 hc with hc | hc
  ·exact h2 c hc
  ·rw[List.mem_singleton.1 hc];rfl
 ·rw[eC_,List.flatten_append];simpa using ho
 ·have keep:∀ v u,Tm w v u->Tm w' v u:=fun v u h=> h.frt hf (by decide) (by decide) (by decide);by_cases hlt:i < ts.length
  ·rw[eT_ hlt] at hi;rw[eT_ (by omega)] at hc;exact keep _ _ (h4 i u c hi hc)
  ·have hb:=(List.getElem?_eq_some_iff.1 hi).1;rw[eC_,List.length_singleton] at hb;obtain rfl:i=ts.length:=(by omega);rw[eO_ (rl_ _)] at hi;rw[eO_ (by omega)] at hc;simp[h1] at hi hc;subst hi hc;exact keep _ _ ht
theorem Yf {a:Act} {K:Act->World->Prop} {Q:Exit->Act->World->Prop} (x v:Operand) (ho:o.op= .store 38 x v)
  {g:Nat} {zs:Array Value} (hx:a.eval x= .pointer (some ⟨g,0,none⟩)) (hg:w1.heap[g]? =some (.cells zs 38 (0,0))) (hz:zs.size=3) {val:Value} {t:Tp.T} (hv:a.eval v=val) (hn:Tm w1 val t)
  {B:Nat} {w0:World} (hB:B<=g) (hb:Below B w0 w1)
  (h:∀ W cs,W.heap[g]? =some (.cells cs 38 (0,0))->cs.size=3->Tm W (.agg cs) t->Below B w0 W->K (a.put o.dst undef) W):Oper.wp prog o a w1 K Q:=by
 obtain ⟨cs,rfl,hs,h1⟩:=hn.cells;refine Qs _ x v ho _ g zs cs hx hg hv (by rw[hz,hs]) (by rw[hs];exact Qy) h1 ?_;exact h _ cs (Qb hg) hs (hn.frt (Qe hg) (by decide) (by decide) (by decide)) (Q9 hb hB cs)
def Stop (p:Prop):Prop:=p
theorem Q0c (h:Stop p):p:=h
theorem Stop.go (h:p):Stop p:=h
def OfRel (V:World) (kids:List Ex) (k:Nat) (v4 v12:Value) (wr:World):Prop:=
 ∃ (j:Nat) (ts:List Tp.T) (a:Option Addr) (c:Nat),v12= .int .i64 j/\v4= .slice a ts.length c/\k=kids.length - j/\j<=kids.length/\Ex.ofs (kids.take j)=some ts/\TL wr V.heap.size (.slice a ts.length c) ts/\Below V.heap.size V wr
theorem Q7o (hs:Ex.Sm e):∀ {w:World} {P:Nat->Prop} {cs:List Value},Ex.right e=true->Ex.wl e<=100000->RdE w P e cs->(∀ k,P k->k < w.heap.size)->Calls prog 44 #[.agg cs.toArray] w (OfOut (Ex.of e) w):=by
 induction hs with
 | @mk op pos z name mod yes kids hn hm hz hk hkk ih=>
  intro w P cs hr hwl h hP;obtain ⟨sv,a,c,rfl,hsv⟩:∃ sv a c,cs= [.int .i64 op,.string ⟨name.toArray⟩,.string ⟨mod.toArray⟩,.bool (decide (z < 0)),sv,.bool yes,.slice a kids.length c,.int .i64 pos]/\RdU w sv (wd z):=by
   cases h with
   | mk css hu hl hc hv hk'=>
    obtain ⟨a,c,rfl⟩:=hv.form;exact ⟨_,a,c,rfl,hu⟩
  obtain ⟨h1,h20,h60,hkn,hkr⟩:=J4 hr;have hnum:Num w (.agg #[.bool (decide (z < 0)),sv]) z:=⟨_,rfl,hsv⟩
  obtain ⟨a9,c9,rfl⟩:=RdS.form hsv;rw[Ex.wl] at hwl;have hbx:=box2 w #[.int .i64 op,.string ⟨name.toArray⟩,.string ⟨mod.toArray⟩,.bool (decide (z < 0)),.slice a9 (wd z).length c9,.bool yes,.slice a kids.length c,.int .i64 pos] 30 #[.bool false,.slice none 0 0,.pointer none] 38;obtain ⟨nb,hnb⟩:∃ b,decide (z < 0)=b:=⟨_,rfl⟩
  rw[hnb] at hbx h hnum |-;obtain ⟨V,hV⟩:∃ V,(w.alloc (.cells #[.int .i64 op,.string ⟨name.toArray⟩,.string ⟨mod.toArray⟩,.bool nb,.slice a9 (wd z).length c9,.bool yes,.slice a kids.length c,.int .i64 pos] 30)).alloc (.cells #[.bool false,.slice none 0 0,.pointer none] 38)=V:=⟨_,rfl⟩
  have HVV:=hd_ hV;rw[hV] at hbx;have HM:Hid (∀ W,Below V.heap.size V W->W.heap[w.heap.size]? =some (.cells #[.int .i64 op,.string ⟨name.toArray⟩,.string ⟨mod.toArray⟩,.bool nb,.slice a9 (wd z).length c9,.bool yes,.slice a kids.length c,.int .i64 pos] 30 (0,0))/\W.heap[w.heap.size+1]? =some (.cells #[.bool false,.slice none 0 0,.pointer none] 38 (0,0))/\Below w.heap.size w W/\RdE W P (.mk op name mod z yes kids pos) [.int .i64 op,.string ⟨name.toArray⟩,.string ⟨mod.toArray⟩,.bool nb,.slice a9 (wd z).length c9,.bool yes,.slice a kids.length c,.int .i64 pos]/\∀ k,P k->k < W.heap.size):=fun W hb=> by
   have h1:=hbx.2.2.trans (hb.mono hbx.2.2.size);exact ⟨Q7 hbx.1 hb,Q7 hbx.2.1 hb,h1,h.past hP h1,fun k hk=> eI_ (hP k hk) h1.size⟩
  have HK:Hid (∀ W,Below V.heap.size V W->∀ (i:Nat) (k:Ex),kids[i]? =some k->∃ bk off ck cs',a=some ⟨bk,off,none⟩/\c=ck/\W.rangeAt bk (off+i*8) cs'/\RdE W P k cs'):=fun W hb i k hi=> by
   obtain ⟨bk,off,ck,cs',q1,q2,q3,q4,q5⟩:=RdE.kid (HM W hb).2.2.2.1 (i:=i) (k:=k) hi;injection q1 with q1;injection q1 with q1 _ q6;exact ⟨bk,off,ck,cs',q1,q6,q3,q5⟩
  have HC:Hid (∀ (i:Nat) (k:Ex),kids[i]? =some k->(∀ {w:World} {P:Nat->Prop} {cs:List Value},RdE w P k cs->(∀ k,P k->k < w.heap.size)->Calls prog 44 #[.agg cs.toArray] w (OfOut (Ex.of k) w))/\(∀ {t:Tp.T},Ex.of k=some t->Sm (Ex.wl k) t/\Tp.Ok t.l)/\10+Ex.wl k<=Ex.wls kids):=fun i k hi=> by
   have hmem:=eP_ hi;have hw:=GK hmem;exact ⟨fun {w P cs} h hP=> ih k hmem (hkr k hmem) (by omega) h hP,fun {t} ht=> Q7m (hkk k hmem) (hkr k hmem) ht,hw⟩
  have hof:Ex.of (.mk op name mod z yes kids pos)=match Ex.ofs kids with | none=> none | some ks=> Ex.ofK (.mk op name mod z yes kids pos) ks:=by rw[Ex.of];rfl
  have HN:Hid (Num w (.agg #[.bool nb,.slice a9 (wd z).length c9]) z/\(op=1->(Zp.text z).length<=60)/\Ex.wls kids<=100000/\(kids.length:Int)=knum op/\op<=20/\1<=op):=⟨hnum,h60,by omega,hkn,h20,h1⟩
  have HOF:=hd_ hof;have hkl:(kids.length:Int)<=1000000:=by omega
  obtain ⟨a0,a1,a2,a3,a4,a5,a6,a7⟩:=cells8 hbx.1;clear hr hwl h hP hsv hnum hbx hnb hV ih hkk hkr hof hn hm hz hk h60 hkn h1 h20;go_in;go_wp2_with fail;rw[HVV.o];go_loopg [4,12] kids.length (fun k v4 v12 wr=> OfRel V kids k v4 v12 wr)
  case atStart=> exact ⟨0, [],none,0,rfl,rfl,rfl,eV_ _,by rw[List.take_zero,Ex.ofs],TL.nil _ _,eB_ _ _⟩
  case round=>
   obtain ⟨j,ts,a4,c4,rfl,rfl,hk,hj,hof,htl,hbw⟩:=hrel;have HR:=h4_ hk hof htl hbw;clear hk hof htl hbw;by_cases hlt:j < kids.length
   ·have hlt':(j:Int) < (kids.length:Int):=(by omega);obtain ⟨k,hk⟩:∃ k,kids[j]? =some k:=⟨_,eA_ hlt⟩
    obtain ⟨bk,off,ck,cs',q1,q2,hr,hre⟩:=HK.o wr HR.D j k hk;subst q1 q2;obtain ⟨sk,kv,rfl,hsk,ak,ckk,rfl⟩:=hre.cells;obtain ⟨ask,csk,rfl⟩:=RdS.form hsk;obtain ⟨nk,hnk⟩:∃ x,decide (Ex.num k < 0)=x:=⟨_,rfl⟩
    rw[hnk] at hr hre;have HG:=hd_ hr;have HKK:=hd_ hk;have hx1:=Qh (w:=wr) #[.int .i64 k.op,.string ⟨k.name.toArray⟩,.string ⟨k.mod.toArray⟩,.bool nk,.slice ask (wd k.num).length csk,.bool k.yes,.slice ak k.kids.length ckk,.int .i64 k.pos] 30;have HC1:=hd_ ((HC.o j k hk).1 (hre.past (HM.o _ HR.D).2.2.2.2 hx1.2) (fun i hi=> eI_ ((HM.o _ HR.D).2.2.2.2 i hi) hx1.2.size));have HX1:=hd_ hx1.2;obtain ⟨o,ho⟩:∃ o,Ex.of k=o:=⟨_,rfl⟩
    rw[ho] at HC1;have HO:=hd_ ho;clear hr hre hnk hk hx1 hsk ho;go_wp2_with (first
     | (refine wpList_load_mid rfl 30 _ rfl bk (off+j*8) rfl _ _ HG.o underlying30 rfl rfl ?_)
     | (refine Qa rfl 30 _ _ rfl 30 #[.int .i64 0,.string ⟨#[]⟩,.string ⟨#[]⟩,.bool false,.slice none 0 0,.bool false,.slice none 0 0,.int .i64 0] #[.int .i64 k.op,.string ⟨k.name.toArray⟩,.string ⟨k.mod.toArray⟩,.bool nk,.slice ask (wd k.num).length csk,.bool k.yes,.slice ak k.kids.length ckk,.int .i64 k.pos] rfl rfl rfl X8 (by simp[Value.oneCell']) ?_))
    refine eH_ HC1.o ?_;rintro r w2 ⟨v2,rfl,ht2,hb2⟩;have hb2':Below V.heap.size V w2:=(HR.D.trans (HX1.o.mono HR.D.size)).trans (hb2.mono (eE_ HR.D.size HX1.o.size));have hbr:Below wr.heap.size wr w2:=HX1.o.trans (hb2.mono HX1.o.size);cases o with
    | none=>
     simp only[Option.isSome_none,Bool.false_eq_true,if_false,Option.getD_none] at ht2 |-;obtain ⟨b2,at2,ct2,pt2,rfl,ht2⟩:=Ql ht2;have hof2:Ex.ofs kids=none:=Ex.Q7k HR.b HKK.o HO.o;have hx3:=Qh (w:=w2) #[.bool b2,.slice at2 (wd Tp.zero.rest).length ct2,.pointer pt2] 38;have H2:=h2_ hof2 (hb2'.trans (hx3.2.mono hb2'.size));clear ht2 hb2 hb2' hbr hof2 hx3;go_wp2_with (first
      | (refine Qa rfl 38 _ _ rfl 38 #[.bool false,.slice none 0 0,.pointer none] #[.bool b2,.slice at2 (wd Tp.zero.rest).length ct2,.pointer pt2] rfl rfl rfl Qy (by simp[Value.oneCell']) ?_)
      | (refine QC rfl _ _ rfl rfl (HM.o _ H2.B).2.1 rfl rfl (Tm.zero _) (show w.heap.size<=w.heap.size+1 by omega) (HM.o _ H2.B).2.2.1 ?_;rintro W cs - hcs hg hs hn hb;have HT:=h4_ hg hs hn hb;clear hg hs hn hb hcs))
     refine eG_ (Xx rfl rfl HT.a HT.b rfl) rfl ?_;refine ⟨.agg cs,?_,?_,HT.D⟩
     ·rw[HOF.o,H2.a];rfl
     ·rw[HOF.o,H2.a];exact HT.c
    | some t=>
     simp only[Option.isSome_some,if_true,Option.getD_some] at ht2 |-;obtain ⟨b2,at2,ct2,pt2,rfl,ht2⟩:=Ql ht2;have hx3:=Qh (w:=w2) #[.bool b2,.slice at2 (wd t.rest).length ct2,.pointer pt2] 38;obtain ⟨W3,hW3⟩:∃ W,w2.alloc (.cells #[.bool b2,.slice at2 (wd t.rest).length ct2,.pointer pt2] 38)=W:=⟨_,rfl⟩
     have hx4:=Qh (w:=W3) #[.bool b2,.slice at2 (wd t.rest).length ct2,.pointer pt2] 38;obtain ⟨W4,hW4⟩:∃ W,W3.alloc (.cells #[.bool b2,.slice at2 (wd t.rest).length ct2,.pointer pt2] 38)=W:=⟨_,rfl⟩
     have hrd:=Q7n W3 (.bool b2) (.slice at2 (wd t.rest).length ct2) (.pointer pt2);have hsz:w2.heap.size+1=W3.heap.size:=(by rw[<-hW3];exact Q5 _ _);rw[hW3] at hx3;rw[hW4] at hx4 hrd;have hb4:Below wr.heap.size wr W4:=hbr.trans (hx3.2.mono hbr.size |>.trans (hx4.2.mono (eE_ hbr.size hx3.2.size)));obtain ⟨css,g1,g2,g3,g4⟩:=HR.c;have hts:ts.length=j:=(by have:=(Ex.Ut HR.b).1;rw[eN_] at this;omega);have H4:=h7_ (Qz g3 hb4) hrd ((ht2.below hx3.2).below hx4.2) hb4 g1 g2 (fun i t c a b=> (g4 i t c a b).below hb4);have HW:=h4_ hW3 hW4 hsz hts;obtain ⟨i0,hi0,hz0,hz1,hz2⟩:=Qw Q5M;have HI:=h4_ hi0 hz0 hz1 hz2;clear ht2 hb2 hb2' hbr hx3 hx4 hrd hsz hb4 g1 g2 g3 g4 hW3 hW4 hts hi0 hz0 hz1 hz2;go_wp2_with (first
      | (refine Qa rfl 38 _ _ rfl 38 #[.bool false,.slice none 0 0,.pointer none] #[.bool b2,.slice at2 (wd t.rest).length ct2,.pointer pt2] rfl rfl rfl Qy (by simp[Value.oneCell']) ?_)
      | (at_builtin;refine Q0c ?_))
     refine Stop.go ?_;rw[HW.a,HW.b];refine QN rfl _ _ 164 rfl V.heap.size 38 i0 (.agg #[.bool false,.slice none 0 0,.pointer none]) 3 40 underlying164 HI.a HI.b HI.c HI.D rfl (by decide) _ ts.length css.flatten rfl H4.a (by rw[HW.c];rfl) H4.b (by simp[Value.oneCell']) (by have:=HW.D;unfold maxLen;omega) (by have:=HW.D;omega) (eE_ HR.D.size H4.d.size) ?_;intro a5 c5 w5 hown5 hg5 _;have h5:=TL.push H4.e H4.f H4.G H4.c (Zd H4.a hg5 (by decide)) hown5;have hb5:=(HR.D.trans (H4.d.mono HR.D.size)).trans (Yj H4.a hg5 (eE_ HR.D.size H4.d.size));have H5:=h2_ h5 hb5;clear h5 hb5 hown5 hg5;go_wp2_with fail;go_roundg (kids.length - (j+1))
     case measure=> have:=HR.a;omega
     case rel=>
      refine ⟨j+1,ts++ [t],a5,c5,by go_num,?_,rfl,by omega,Ex.Q7j HR.b HKK.o HO.o,?_,H5.B⟩
      ·rw[eC_];rfl
      ·rw[eC_];exact H5.a
   ·obtain rfl:j=kids.length:=(by omega);have hof:=HR.b;rw[List.take_length] at hof;have hE:Ex.of (.mk op name mod z yes kids pos)=Ex.ofK (.mk op name mod z yes kids pos) ts:=(by rw[HOF.o,hof]);rw[Q7l] at hE;have hlen:=(Ex.Ut hof).1;have hget:∀ (i:Nat) (t:Tp.T),ts[i]? =some t->Sm 100000 t/\Tp.Ok t.l:=fun i t hi=> by
     obtain ⟨k,q1,q2⟩:=(Ex.Ut hof).2 i t hi;have q3:=(HC.o i k q1).2.1 q2;exact ⟨q3.1.mono (by have:=(HC.o i k q1).2.2;have:=HN.c;omega),q3.2⟩
    have HG:=h3_ hget hlen hof;have hm:=HM.o wr HR.D;obtain ⟨a0,a1,a2,a3,a4',a5,a6,a7⟩:=cells8 hm.1;have hlt2:(ts.length:Int)<=1000000:=(by omega);clear hlt hj hof hlen hget hm;by_cases q1:op=1
    ·subst q1;have HE:=hd_ hE;clear hE;go_wp2_with fail;refine eH_ (Xg (HN.a.below (HM.o _ HR.D).2.2.1)) ?_;rintro r w2 ⟨v2,rfl,ht2,hb2⟩;have H2:=h2_ ht2 (HR.D.trans (hb2.mono HR.D.size));clear ht2 hb2;dsimp only;go_wp2_with (refine QC rfl _ _ rfl rfl (HM.o _ H2.B).2.1 rfl rfl H2.a (show w.heap.size<=w.heap.size+1 by omega) (HM.o _ H2.B).2.2.1 ?_;rintro W cs - hcs hg hs hn hb;have HT:=h4_ hg hs hn hb;clear hg hs hn hb hcs);refine eG_ (Xx rfl rfl HT.a HT.b rfl) rfl ?_;refine ⟨.agg cs,?_,?_,HT.D⟩
     ·rw[HE.o];rfl
     ·rw[HE.o];exact HT.c
    by_cases q3:op=3
    ·subst q3;have HE:=hd_ hE;clear hE;go_wp2_with fail;refine eH_ (JP _ _) ?_;rintro r w2 ⟨v2,rfl,ht2,hb2⟩;have H2:=h2_ ht2 (HR.D.trans (hb2.mono HR.D.size));clear ht2 hb2;dsimp only;go_wp2_with (refine QC rfl _ _ rfl rfl (HM.o _ H2.B).2.1 rfl rfl H2.a (show w.heap.size<=w.heap.size+1 by omega) (HM.o _ H2.B).2.2.1 ?_;rintro W cs - hcs hg hs hn hb;have HT:=h4_ hg hs hn hb;clear hg hs hn hb hcs);refine eG_ (Xx rfl rfl HT.a HT.b rfl) rfl ?_;refine ⟨.agg cs,?_,?_,HT.D⟩
     ·rw[HE.o];rfl
     ·rw[HE.o];exact HT.c
    by_cases q4:op=4
    ·subst q4;have HE:=hd_ hE;clear hE;go_wp2_with fail;refine eH_ (JP _ [114,101,115]) ?_;rintro r w2 ⟨v2,rfl,ht2,hb2⟩;have H2:=h2_ ht2 (HR.D.trans (hb2.mono HR.D.size));clear ht2 hb2;dsimp only;go_wp2_with (refine QC rfl _ _ rfl rfl (HM.o _ H2.B).2.1 rfl rfl H2.a (show w.heap.size<=w.heap.size+1 by omega) (HM.o _ H2.B).2.2.1 ?_;rintro W cs - hcs hg hs hn hb;have HT:=h4_ hg hs hn hb;clear hg hs hn hb hcs);refine eG_ (Xx rfl rfl HT.a HT.b rfl) rfl ?_;refine ⟨.agg cs,?_,?_,HT.D⟩
     ·rw[HE.o];rfl
     ·rw[HE.o];exact HT.c
    by_cases q5:op=5
    ·subst q5;have hk1:ts.length=1:=by
      have q1:=HN.d;have q2:=HG.b;have q3:knum 5=1:=(by decide);omega
     obtain ⟨t0,ht0⟩:∃ t,ts[0]? =some t:=⟨_,eA_ (by omega)⟩
     obtain ⟨b0,e0,x0,y0,c0,o0,f0,f1,f2,htm0⟩:=HR.c.get ht0;subst e0;simp only[Nat.zero_mul,Nat.zero_add] at f0 f1 f2;have g0:ts.getD 0 Tp.zero=t0:=(by rw[List.getD_eq_getElem?_getD,ht0];rfl);have hE2:Ex.of (.mk 5 name mod z yes kids pos)=some (Tp.add Tp.zero t0 (-1)):=hE.trans (by rw[g0];rfl);have HS:=Q8u f0 f1 f2;have HE:=hd_ hE2;have HA:=h3_ htm0 (HG.a 0 t0 ht0) trivial;have hi0:(0:Int) < (ts.length:Int):=(by omega);have hi1:0 < ts.length:=(by omega);clear hE2 hE g0 f0 f1 f2 ht0 htm0 hk1;go_wp2_with fail;refine Xu (S:=fun w'=> Below wr.heap.size wr w'/\w'.cell? ⟨b0,0,none⟩=some (.bool x0)/\w'.cell? ⟨b0,1,none⟩=some (.slice y0 (wd t0.rest).length c0)/\w'.cell? ⟨b0,2,none⟩=some (.pointer o0)) (by simp) (by simp) (by kernel_rfl) (by kernel_rfl) (by kernel_rfl) (HS.o _ ((eB_ _ _).drew)) (fun hHeld=> ?_);simp only[lA_];refine tk_ 0 rfl ?_;refine tk_ 1 rfl ?_;refine tk_ 2 rfl ?_;(try simp only[Act.put,gP_]);refine rd_ 3 rfl (fun KK hKK=> ?_);simp only[gA_];go_simp;refine eH_ (QM (-1) (by decide) (by decide) _) ?_;rintro r w7 ⟨v7,rfl,hn7,hb7⟩;have hw7:Below wr.heap.size wr w7:=(eB_ _ _).drew.trans hb7;clear hb7;dsimp only;refine hKK.out _ _ (HS.o _ hw7) (fun hHeld=> ?_);clear hKK KK;(try simp only[Act.put,sA_]);refine rd_ 4 rfl (fun KK hKK=> ?_);simp only[gA_];go_simp;refine eH_ (Yi (HA.a.below hw7) hn7 HA.b.2.rise HA.b.1 (show Bd 100000 (-1) from Bd.mono (k:=1) (by unfold Bd;decide) (by decide)) (by decide)) ?_;rintro r w9 ⟨v9,rfl,ht9,hb9⟩;replace hb9:Below wr.heap.size wr w9:=hw7.trans (hb9.mono hw7.size);have H2:=h2_ ht9 (HR.D.trans (hb9.mono HR.D.size));dsimp only;refine hKK.out _ _ (HS.o _ hb9) (fun hHeld=> ?_);clear hKK KK;(try simp only[Act.put,sA_]);refine wpAnyH_done (by kernel_rfl) ?_ _;unfold PeelQ;dsimp only;refine Yf _ _ rfl rfl (HM.o _ H2.B).2.1 rfl rfl H2.a (show w.heap.size<=w.heap.size+1 by omega) (HM.o _ H2.B).2.2.1 ?_;rintro W cs hg hs hn hb;have HT:=h4_ hg hs hn hb;clear hg hs hn hb;go_simp;go_wp2_with fail;refine eG_ (Xx rfl rfl HT.a HT.b rfl) rfl ?_;refine ⟨.agg cs,?_,?_,HT.D⟩
     ·rw[HE.o];rfl
     ·rw[HE.o];exact HT.c
    by_cases q7:op=7
    ·subst q7;have hk1:ts.length=2:=by
      have q1:=HN.d;have q2:=HG.b;have q3:knum 7=2:=(by decide);omega
     obtain ⟨t0,ht0⟩:∃ t,ts[0]? =some t:=⟨_,eA_ (by omega)⟩
     obtain ⟨b0,e0,x0,y0,c0,o0,f0,f1,f2,htm0⟩:=HR.c.get ht0;subst e0;simp only[Nat.zero_mul,Nat.zero_add] at f0 f1 f2;have g0:ts.getD 0 Tp.zero=t0:=(by rw[List.getD_eq_getElem?_getD,ht0];rfl);obtain ⟨t1,ht1⟩:∃ t,ts[1]? =some t:=⟨_,eA_ (by omega)⟩
     obtain ⟨b1,e1,x1,y1,c1,o1,f3,f4,f5,htm1⟩:=HR.c.get ht1;injection e1 with e1;injection e1 with e1 _ _;subst e1;simp only[Nat.one_mul,Nat.reduceAdd] at f3 f4 f5;have g1:ts.getD 1 Tp.zero=t1:=(by rw[List.getD_eq_getElem?_getD,ht1];rfl);have hE2:Ex.of (.mk 7 name mod z yes kids pos)=some (Tp.add t0 t1 1):=hE.trans (by rw[g0,g1];rfl);have HS:=Q1Y f0 f1 f2 f3 f4 f5;have HE:=hd_ hE2;have HA:=h4_ htm0 (HG.a 0 t0 ht0) htm1 (HG.a 1 t1 ht1);have hi0:(0:Int) < (ts.length:Int):=(by omega);have hi1:0 < ts.length:=(by omega);have hi2:(1:Int) < (ts.length:Int):=(by omega);have hi3:1 < ts.length:=(by omega);clear hE2 hE g0 f0 f1 f2 ht0 htm0 hk1 g1 f3 f4 f5 ht1 htm1;go_wp2_with fail;refine Xu (S:=fun w'=> Below wr.heap.size wr w'/\w'.cell? ⟨b0,0,none⟩=some (.bool x0)/\w'.cell? ⟨b0,1,none⟩=some (.slice y0 (wd t0.rest).length c0)/\w'.cell? ⟨b0,2,none⟩=some (.pointer o0)/\w'.cell? ⟨b0,3,none⟩=some (.bool x1)/\w'.cell? ⟨b0,4,none⟩=some (.slice y1 (wd t1.rest).length c1)/\w'.cell? ⟨b0,5,none⟩=some (.pointer o1)) (by simp) (by simp) (by kernel_rfl) (by kernel_rfl) (by kernel_rfl) (HS.o _ ((eB_ _ _).drew)) (fun hHeld=> ?_);simp only[lA_];refine tk_ 0 rfl ?_;refine tk_ 1 rfl ?_;refine tk_ 2 rfl ?_;refine tk_ 3 rfl ?_;refine tk_ 4 rfl ?_;refine tk_ 5 rfl ?_;(try simp only[Act.put,gP_]);refine rd_ 6 rfl (fun KK hKK=> ?_);simp only[gA_];go_simp;refine hKK.out _ _ (HS.o _ ((eB_ _ _).drew.alloc (rl_ _) _)) (fun hHeld=> ?_);clear hKK KK;(try simp only[Act.put,sA_]);refine rd_ 7 rfl (fun KK hKK=> ?_);simp only[gA_];go_simp;have hx7:=Qh (w:=wr.drew) #[.bool x1,.slice y1 (wd t1.rest).length c1,.pointer o1] 38;have hw7:=(eB_ wr.heap.size wr).drew.trans hx7.2;refine eH_ (Dz (HA.a.below hw7) hx7.1 (HA.c.below hw7) HA.b.2 HA.E.rise HA.b.1 HA.d (by decide) (by decide)) ?_;rintro r w9 ⟨v9,rfl,ht9,hb9⟩;replace hb9:Below wr.heap.size wr w9:=hw7.trans (hb9.mono hw7.size);have H2:=h2_ ht9 (HR.D.trans (hb9.mono HR.D.size));dsimp only;refine hKK.out _ _ (HS.o _ hb9) (fun hHeld=> ?_);clear hKK KK;(try simp only[Act.put,sA_]);refine wpAnyH_done (by kernel_rfl) ?_ _;unfold PeelQ;dsimp only;refine Yf _ _ rfl rfl (HM.o _ H2.B).2.1 rfl rfl H2.a (show w.heap.size<=w.heap.size+1 by omega) (HM.o _ H2.B).2.2.1 ?_;rintro W cs hg hs hn hb;have HT:=h4_ hg hs hn hb;clear hg hs hn hb;go_simp;go_wp2_with fail;refine eG_ (Xx rfl rfl HT.a HT.b rfl) rfl ?_;refine ⟨.agg cs,?_,?_,HT.D⟩
     ·rw[HE.o];rfl
     ·rw[HE.o];exact HT.c
    by_cases q8:op=8
    ·subst q8;have hk1:ts.length=2:=by
      have q1:=HN.d;have q2:=HG.b;have q3:knum 8=2:=(by decide);omega
     obtain ⟨t0,ht0⟩:∃ t,ts[0]? =some t:=⟨_,eA_ (by omega)⟩
     obtain ⟨b0,e0,x0,y0,c0,o0,f0,f1,f2,htm0⟩:=HR.c.get ht0;subst e0;simp only[Nat.zero_mul,Nat.zero_add] at f0 f1 f2;have g0:ts.getD 0 Tp.zero=t0:=(by rw[List.getD_eq_getElem?_getD,ht0];rfl);obtain ⟨t1,ht1⟩:∃ t,ts[1]? =some t:=⟨_,eA_ (by omega)⟩
     obtain ⟨b1,e1,x1,y1,c1,o1,f3,f4,f5,htm1⟩:=HR.c.get ht1;injection e1 with e1;injection e1 with e1 _ _;subst e1;simp only[Nat.one_mul,Nat.reduceAdd] at f3 f4 f5;have g1:ts.getD 1 Tp.zero=t1:=(by rw[List.getD_eq_getElem?_getD,ht1];rfl);have hE2:Ex.of (.mk 8 name mod z yes kids pos)=some (Tp.add t0 t1 (-1)):=hE.trans (by rw[g0,g1];rfl);have HS:=Q1Y f0 f1 f2 f3 f4 f5;have HE:=hd_ hE2;have HA:=h4_ htm0 (HG.a 0 t0 ht0) htm1 (HG.a 1 t1 ht1);have hi0:(0:Int) < (ts.length:Int):=(by omega);have hi1:0 < ts.length:=(by omega);have hi2:(1:Int) < (ts.length:Int):=(by omega);have hi3:1 < ts.length:=(by omega);clear hE2 hE g0 f0 f1 f2 ht0 htm0 hk1 g1 f3 f4 f5 ht1 htm1;go_wp2_with fail;refine Xu (S:=fun w'=> Below wr.heap.size wr w'/\w'.cell? ⟨b0,0,none⟩=some (.bool x0)/\w'.cell? ⟨b0,1,none⟩=some (.slice y0 (wd t0.rest).length c0)/\w'.cell? ⟨b0,2,none⟩=some (.pointer o0)/\w'.cell? ⟨b0,3,none⟩=some (.bool x1)/\w'.cell? ⟨b0,4,none⟩=some (.slice y1 (wd t1.rest).length c1)/\w'.cell? ⟨b0,5,none⟩=some (.pointer o1)) (by simp) (by simp) (by kernel_rfl) (by kernel_rfl) (by kernel_rfl) (HS.o _ ((eB_ _ _).drew)) (fun hHeld=> ?_);simp only[lA_];refine tk_ 0 rfl ?_;refine tk_ 1 rfl ?_;refine tk_ 2 rfl ?_;refine tk_ 3 rfl ?_;refine tk_ 4 rfl ?_;refine tk_ 5 rfl ?_;(try simp only[Act.put,gP_]);refine rd_ 6 rfl (fun KK hKK=> ?_);simp only[gA_];go_simp;have hw7:=(eB_ wr.heap.size wr).drew;refine eH_ (Q1W (HA.a.below hw7) (HA.c.below hw7) HA.b.2 HA.E.rise HA.b.1 HA.d (by decide) (by decide)) ?_;rintro r w9 ⟨v9,rfl,ht9,hb9⟩;replace hb9:Below wr.heap.size wr w9:=hw7.trans (hb9.mono hw7.size);have H2:=h2_ ht9 (HR.D.trans (hb9.mono HR.D.size));dsimp only;refine hKK.out _ _ (HS.o _ hb9) (fun hHeld=> ?_);clear hKK KK;(try simp only[Act.put,sA_]);refine wpAnyH_done (by kernel_rfl) ?_ _;unfold PeelQ;dsimp only;refine Yf _ _ rfl rfl (HM.o _ H2.B).2.1 rfl rfl H2.a (show w.heap.size<=w.heap.size+1 by omega) (HM.o _ H2.B).2.2.1 ?_;rintro W cs hg hs hn hb;have HT:=h4_ hg hs hn hb;clear hg hs hn hb;go_simp;go_wp2_with fail;refine eG_ (Xx rfl rfl HT.a HT.b rfl) rfl ?_;refine ⟨.agg cs,?_,?_,HT.D⟩
     ·rw[HE.o];rfl
     ·rw[HE.o];exact HT.c
    by_cases q9:op=9
    ·subst q9;have hk1:ts.length=2:=by
      have q1:=HN.d;have q2:=HG.b;have q3:knum 9=2:=(by decide);omega
     obtain ⟨t0,ht0⟩:∃ t,ts[0]? =some t:=⟨_,eA_ (by omega)⟩
     obtain ⟨b0,e0,x0,y0,c0,o0,f0,f1,f2,htm0⟩:=HR.c.get ht0;subst e0;simp only[Nat.zero_mul,Nat.zero_add] at f0 f1 f2;have g0:ts.getD 0 Tp.zero=t0:=(by rw[List.getD_eq_getElem?_getD,ht0];rfl);obtain ⟨t1,ht1⟩:∃ t,ts[1]? =some t:=⟨_,eA_ (by omega)⟩
     obtain ⟨b1,e1,x1,y1,c1,o1,f3,f4,f5,htm1⟩:=HR.c.get ht1;injection e1 with e1;injection e1 with e1 _ _;subst e1;simp only[Nat.one_mul,Nat.reduceAdd] at f3 f4 f5;have g1:ts.getD 1 Tp.zero=t1:=(by rw[List.getD_eq_getElem?_getD,ht1];rfl);have hE2:Ex.of (.mk 9 name mod z yes kids pos)=Ex.prod t0 t1:=hE.trans (by rw[g0,g1];rfl);have HS:=Q1Y f0 f1 f2 f3 f4 f5;have HE:=hd_ hE2;have HA:=h4_ htm0 (HG.a 0 t0 ht0) htm1 (HG.a 1 t1 ht1);have hi0:(0:Int) < (ts.length:Int):=(by omega);have hi1:0 < ts.length:=(by omega);have hi2:(1:Int) < (ts.length:Int):=(by omega);have hi3:1 < ts.length:=(by omega);clear hE2 hE g0 f0 f1 f2 ht0 htm0 hk1 g1 f3 f4 f5 ht1 htm1;go_wp2_with fail;refine Xu (S:=fun w'=> Below wr.heap.size wr w'/\w'.cell? ⟨b0,0,none⟩=some (.bool x0)/\w'.cell? ⟨b0,1,none⟩=some (.slice y0 (wd t0.rest).length c0)/\w'.cell? ⟨b0,2,none⟩=some (.pointer o0)/\w'.cell? ⟨b0,3,none⟩=some (.bool x1)/\w'.cell? ⟨b0,4,none⟩=some (.slice y1 (wd t1.rest).length c1)/\w'.cell? ⟨b0,5,none⟩=some (.pointer o1)) (by simp) (by simp) (by kernel_rfl) (by kernel_rfl) (by kernel_rfl) (HS.o _ ((eB_ _ _).drew)) (fun hHeld=> ?_);simp only[lA_];refine tk_ 0 rfl ?_;refine tk_ 1 rfl ?_;refine tk_ 2 rfl ?_;refine tk_ 3 rfl ?_;refine tk_ 4 rfl ?_;refine tk_ 5 rfl ?_;(try simp only[Act.put,gP_]);refine rd_ 6 rfl (fun KK hKK=> ?_);simp only[gA_];go_simp;have hw7:=(eB_ wr.heap.size wr).drew;obtain ⟨code,hcode⟩:∃ x:Int,(if (Ex.prod t0 t1).isSome=true then (0:Int) else 35)=x:=⟨_,rfl⟩
     have hpr:=Lj (HA.a.below hw7) (HA.c.below hw7) HA.b.2.rise HA.E.rise HA.b.1 HA.d (by decide);unfold OfOut at hpr;rw[hcode] at hpr;refine eH_ hpr ?_;rintro r w9 ⟨v9,rfl,ht9,hb9⟩;replace hb9:Below wr.heap.size wr w9:=hw7.trans (hb9.mono hw7.size);have H2:=h2_ ht9 (HR.D.trans (hb9.mono HR.D.size));clear hpr;have HCO:=hd_ hcode;clear hcode;dsimp only;refine hKK.out _ _ (HS.o _ hb9) (fun hHeld=> ?_);clear hKK KK;(try simp only[Act.put,sA_]);refine tk_ 7 rfl ?_;refine tk_ 8 rfl ?_;(try simp only[Act.put,gP_]);refine wpAnyH_done (by kernel_rfl) ?_ _;unfold PeelQ;dsimp only;refine Yf _ _ rfl rfl (HM.o _ H2.B).2.1 rfl rfl H2.a (show w.heap.size<=w.heap.size+1 by omega) (HM.o _ H2.B).2.2.1 ?_;rintro W cs hg hs hn hb;have HT:=h4_ hg hs hn hb;clear hg hs hn hb;go_simp;go_wp2_with fail;refine eG_ (Xx rfl rfl HT.a HT.b rfl) rfl ?_;refine ⟨.agg cs,?_,?_,HT.D⟩
     ·rw[HE.o,HCO.o];rfl
     ·rw[HE.o];exact HT.c
    have hE2:Ex.of (.mk op name mod z yes kids pos)=none:=hE.trans (by rw[if_neg q1,if_neg q3,if_neg q4,if_neg q5,if_neg q7,if_neg q8,if_neg q9]);have HE:=hd_ hE2;clear hE hE2;go_wp2_with (refine QC rfl _ _ rfl rfl (HM.o _ HR.D).2.1 rfl rfl (Tm.zero _) (show w.heap.size<=w.heap.size+1 by omega) (HM.o _ HR.D).2.2.1 ?_;rintro W cs - hcs hg hs hn hb;have HT:=h4_ hg hs hn hb;clear hg hs hn hb hcs);refine eG_ (Xx rfl rfl HT.a HT.b rfl) rfl ?_;refine ⟨.agg cs,?_,?_,HT.D⟩
    ·rw[HE.o];rfl
    ·rw[HE.o];exact HT.c
def peelableW (ops:Array Oper) (st:Oper):Bool:=
 (List.range ops.size).all (fun i=> ((ops[i]?).map fun o=> o.after.all (fun e=> decide (e.on < i) || !Region.binds .any e) && (match o.guard with | none=> true | some (j,_)=> decide (j < ops.size))).getD true) &&
 ((List.range ops.size).all fun j=> st.after.any fun e=> e.on==j && Region.binds .any e) && st.after.all (fun e=> decide (e.on < ops.size) || !Region.binds .any e) && st.guard.isNone
section
variable {P:Program} {ops:Array Oper} {st:Oper} {Q:Exit->Act->World->Prop} {S:World->Prop}
theorem Jm (h:peelableW ops st=true) {i:Nat} {o:Oper} (ho:ops[i]? =some o):(∀ e∈o.after,Region.binds .any e=true->e.on < i)/\∀ j b,o.guard=some (j,b)->j < ops.size:=by
 unfold peelableW at h;simp only[Bool.and_eq_true] at h;have hi:i < ops.size:=by
  rcases eS_ i ops.size with h | h
  ·exact h
  ·rw[Array.getElem?_eq_none h] at ho;cases ho
 have h1:=List.all_eq_true.1 h.1.1.1 i (List.mem_range.2 hi);rw[ho] at h1;simp only[Option.map_some,Option.getD_some,Bool.and_eq_true] at h1;refine ⟨fun e he hb=> ?_,fun j b hg=> ?_⟩
 ·have h3:=Array.all_eq_true_iff_forall_mem.1 h1.1 e he;rw[hb,Bool.not_true,Bool.or_false] at h3;exact of_decide_eq_true h3
 have h2:=h1.2;rw[hg] at h2;exact of_decide_eq_true h2
theorem Ga (h:peelableW ops st=true):(∀ j,j < ops.size->∃ e∈st.after,e.on=j/\Region.binds .any e=true)/\(∀ e∈st.after,Region.binds .any e=true->e.on < ops.size)/\st.guard=none:=by
 unfold peelableW at h;simp only[Bool.and_eq_true] at h;refine ⟨fun j hj=> ?_,fun e he hb=> ?_,Option.isNone_iff_eq_none.1 h.2⟩;rotate_left
 ·have h3:=Array.all_eq_true_iff_forall_mem.1 h.1.2 e he;rw[hb,Bool.not_true,Bool.or_false] at h3;exact of_decide_eq_true h3
 have h1:=List.all_eq_true.1 h.1.1.2 j (List.mem_range.2 hj);obtain ⟨k,hk,h2⟩:=Array.any_eq_true.1 h1;rw[Bool.and_eq_true] at h2;exact ⟨_,Array.getElem_mem hk,by simpa using h2.1,h2.2⟩
theorem Xn {l:Array Bool} (h:j < l.size) (d:Bool):(l.push false).getD j d=l.getD j d:=by
 simp[Array.getD,Array.getElem_push,h,Nat.lt_succ_of_lt h]
theorem YY (h:j < ops.size):(ops.push st)[j]? =ops[j]? :=by
 rw[Array.getElem?_push,if_neg (by omega)]
theorem Gs (hp:peelableW ops st=true) {l:Array Bool} (hl:l.size=ops.size) {j:Nat} (hj:j∈Region.ready .any (ops.push st) (l.push false)):(j < ops.size/\j∈Region.ready .any ops l)\/(j=ops.size/\∀ k,k < ops.size->l.getD k false=true):=by
 rw[mem_ready] at hj;obtain ⟨h0,o,ho,hall⟩:=hj;rcases Nat.lt_trichotomy j ops.size with hlt | rfl | hgt
 ·refine Or.inl ⟨hlt,?_⟩;rw[YY hlt] at ho;rw[mem_ready];refine ⟨by rw[Xn (by omega)] at h0;exact h0,o,ho,fun e he hb=> ?_⟩;have h1:=hall e he hb;rw[Xn (by have:=(Jm hp ho).1 e he hb;omega)] at h1;exact h1
 ·refine Or.inr ⟨rfl,fun k hk=> ?_⟩;rw[Array.getElem?_push,if_pos rfl] at ho;injection ho with ho;subst ho;obtain ⟨e,he,rfl,hb⟩:=(Ga hp).1 k hk;have h1:=hall e he hb;rw[Xn (by omega)] at h1;exact h1
 ·rw[Array.getElem?_eq_none (by rw[Array.size_push];omega)] at ho;cases ho
theorem Q7p (hp:peelableW ops st=true) {l:Array Bool} (hl:l.size=ops.size) {j:Nat} (hj:j∈Region.ready .any ops l):j∈Region.ready .any (ops.push st) (l.push false):=by
 rw[mem_ready] at hj |-;obtain ⟨h0,o,ho,hall⟩:=hj;have hlt:j < ops.size:=by
  rcases eS_ j ops.size with h | h
  ·exact h
  ·rw[Array.getElem?_eq_none h] at ho;cases ho
 refine ⟨by rw[Xn (by omega)];exact h0,o,by rw[YY hlt];exact ho,fun e he hb=> ?_⟩;rw[Xn (by have:=(Jm hp ho).1 e he hb;omega)];exact hall e he hb
theorem Q5N (hp:peelableW ops st=true) {l:Array Bool} (hl:l.size=ops.size) (hr:Region.ready .any ops l= []):∀ k,k < ops.size->l.getD k false=true:=by
 intro k
 induction k using Nat.strongRecOn with
 | _ k ih=>
  intro hk;cases hb:l.getD k false with
  | true=> rfl
  | false=>
   exfalso;obtain ⟨o,ho⟩:∃ o,ops[k]? =some o:=⟨_,Array.getElem?_eq_getElem hk⟩
   have:k∈Region.ready .any ops l:=by
    rw[mem_ready];refine ⟨?_,o,ho,fun e he hbn=> ?_⟩
    ·have hk2:k < l.size:=(by omega);simp[Array.getD,hk2] at hb |-;exact hb
    ·have:=(Jm hp ho).1 e he hbn;exact ih e.on this (by omega)
   rw[hr] at this;cases this
theorem DU (hp:peelableW ops st=true) {l:Array Bool} (hl:l.size=ops.size) (ha:∀ k,k < ops.size->l.getD k false=true):Region.ready .any ops l= []/\ops.size∈Region.ready .any (ops.push st) (l.push false)/\Region.ready .any (ops.push st) ((l.push false).setIfInBounds ops.size true)= []:=by
 have hno:∀ k,k < ops.size->l.getD k true=true:=fun k hk=> by
  have h:=ha k hk;have hk2:k < l.size:=by omega
  simp[Array.getD,hk2] at h |-;exact h
 refine ⟨?_,?_,?_⟩
 ·refine List.eq_nil_iff_forall_not_mem.2 fun j hj=> ?_;obtain ⟨h0,o,ho,_⟩:=mem_ready.1 hj;rcases eS_ j ops.size with h | h
  ·rw[hno j h] at h0;cases h0
  ·rw[Array.getElem?_eq_none h] at ho;cases ho
 ·rw[mem_ready];refine ⟨by rw[<-hl];simp[Array.getD],st,by rw[Array.getElem?_push,if_pos rfl],fun e he hb=> ?_⟩;have h1:=(Ga hp).2.1 e he hb;rw[Xn (by omega)];exact ha _ h1
 ·refine List.eq_nil_iff_forall_not_mem.2 fun j hj=> ?_;obtain ⟨h0,o,ho,_⟩:=mem_ready.1 hj;rcases Nat.lt_trichotomy j ops.size with h | rfl | h
  ·rw[getD_set_ne true (by omega),Xn (by omega),hno j h] at h0;cases h0
  ·simp[Array.getD,hl] at h0
  ·rw[Array.getElem?_eq_none (by rw[Array.size_push];omega)] at ho;cases ho
theorem Ll (h:j < ops.size):yielded (ops.push st) tmps j=yielded ops tmps j:=by
 unfold yielded;rw[YY h]
theorem Q48 (hp:peelableW ops st=true) {i:Nat} (hi:i < ops.size) {K K':Act->World->Prop} {a:Act} {w:World} (hK:∀ a w,K a w->K' a w) (h:wpOp P ops (PeelQ P st Q) i K a w):wpOp P (ops.push st) Q i K' a w:=by
 obtain ⟨o,ho⟩:∃ o,ops[i]? =some o:=⟨_,Array.getElem?_eq_getElem hi⟩
 unfold wpOp at h |-;rw[YY hi];rw[ho] at h |-;dsimp only at h |-;have hw:Region.wanted o (yielded (ops.push st) a.tmps)=Region.wanted o (yielded ops a.tmps):=by
  unfold Region.wanted;cases hg:o.guard with
  | none=> rfl
  | some jb=>
   obtain ⟨j,b⟩:=jb;dsimp only;rw[Ll ((Jm hp ho).2 j b hg)]
 rw[hw];split
 ·rename_i hx;rw[if_pos hx] at h;rcases h with h | ⟨h1,h2⟩
  ·exact Or.inl (Oper.wp_mono hK (LX h))
  ·exact Or.inr ⟨h1,h2⟩
 ·rename_i hx;rw[if_neg hx] at h;exact hK _ _ h
theorem Q18 {big:Array Oper} {listed:Array Bool} {a:Act} (hr:Region.ready .any big listed= []) (h:Q .normal a w):∀ fuel,wpAny P .any big Q fuel listed a w
 | 0=> ⟨hr,h⟩
 | _+1=> ⟨fun _=> h,by rw[hr];simp⟩
theorem DV (hp:peelableW ops st=true) {l:Array Bool} (hl:l.size=ops.size) (hr:Region.ready .any ops l= []) {a:Act} {w:World} (h:PeelQ P st Q .normal a w) (fuel:Nat):wpAny P .any (ops.push st) Q (fuel+1) (l.push false) a w:=by
 have ha:=Q5N hp hl hr;obtain ⟨_,h2,h3⟩:=DU hp hl ha;refine ⟨fun e=> (by rw[e] at h2;cases h2),fun i hi=> ?_⟩;rcases Gs hp hl hi with ⟨_,h4⟩ | ⟨rfl,_⟩
 ·rw[hr] at h4;cases h4
 ·unfold wpOp;rw[Array.getElem?_push,if_pos rfl];dsimp only;rw[if_pos (by unfold Region.wanted;rw[(Ga hp).2.2])];exact Or.inl (Oper.wp_mono (fun a' w' h'=> Q18 h3 h' fuel) h)
theorem Q5O {l:Array Bool} {i:Nat} (h:i < l.size):(l.push false).setIfInBounds i true=(l.setIfInBounds i true).push false:=by
 refine Array.ext_getElem? fun j=> ?_;by_cases hj:i=j
 ·subst hj;rw[Array.getElem?_push,if_neg (by simp;omega)];simp[h,Nat.lt_succ_of_lt h]
 ·rw[Array.getElem?_setIfInBounds_ne hj,Array.getElem?_push,Array.getElem?_push,Array.getElem?_setIfInBounds_ne hj,Array.size_setIfInBounds]
theorem Q0d (hp:peelableW ops st=true):∀ (fuel:Nat) (l:Array Bool) (a:Act) (w:World),l.size=ops.size->wpAny P .any ops (PeelQ P st Q) fuel l a w->wpAny P .any (ops.push st) Q (fuel+1) (l.push false) a w
 | 0,l,a,w,hl,h=> DV hp hl h.1 h.2 0
 | fuel+1,l,a,w,hl,h=> by
  by_cases hr:Region.ready .any ops l= []
  ·exact DV hp hl hr (h.1 hr) _
  ·refine ⟨fun e=> ?_,fun i hi=> ?_⟩
   ·obtain ⟨j,hj⟩:=List.exists_mem_of_ne_nil _ hr;have:=Q7p (st:=st) hp hl hj;rw[e] at this;cases this
   ·rcases Gs hp hl hi with ⟨h3,h4⟩ | ⟨rfl,ha⟩
    ·refine Q48 hp h3 (fun a' w' h'=> ?_) (h.2 i h4);rw[Q5O (by omega)];exact Q0d hp fuel _ a' w' (by simpa using hl) h'
    ·exact absurd (DU hp hl ha).1 hr
theorem Q2A (hp:peelableW ops st=true) (fuel:Nat) (l:Array Bool) (a:Act) (w:World) (hl:l.size=ops.size) (h:wpAnyH P .any ops (PeelQ P st Q) S fuel l a w):wpAny P .any (ops.push st) Q (fuel+1) (l.push false) a w:=
 Q0d hp fuel l a w hl (wpAny_of_held fuel l a w h)
end
theorem GA {P:Program} {Q:Exit->Act->World->Prop} {S:World->Prop} (ops:List Oper) (st:Oper) {a:Act} {w:World} (he:all=ops++ [st]) (hm:P.follows .mixedOrders=true) (hp:peelableW ops.toArray st=true) (hS:S w.drew)
  (h:S w.drew->wpAnyH P .any ops.toArray (PeelQ P st Q) S ops.length (Array.replicate ops.length false) a w.drew):(Code.region id all.toArray true).wp P Q a w:=by
 subst he;have e1:(ops++ [st]).toArray=ops.toArray.push st:=by simp
 refine wp_region_any hm ?_;rw[e1,Array.size_push];have e2:Array.replicate (ops.toArray.size+1) false=(Array.replicate ops.toArray.size false).push false:=by
  rw[Array.replicate_succ]
 rw[e2];exact Q2A hp _ _ a _ (by simp) (h hS)
theorem Gb {P:Program} {Q:Exit->Act->World->Prop} {S:World->Prop} (hne:all≠ []) {a:Act} {w:World} (hm:P.follows .mixedOrders=true) (hp:peelableW all.dropLast.toArray (all.getLast hne)=true) (hS:S w.drew)
  (h:S w.drew->wpAnyH P .any all.dropLast.toArray (PeelQ P (all.getLast hne) Q) S all.dropLast.length (Array.replicate all.dropLast.length false) a w.drew):(Code.region id all.toArray true).wp P Q a w:=
 GA all.dropLast (all.getLast hne) (List.dropLast_concat_getLast hne).symm hm hp hS h
def ptCells (ps:List (Tp.Nm × Int)):List Value:=ps.flatMap fun p=> [.string ⟨p.1.toArray⟩,.int .i64 p.2]
theorem QW {a:Act} {K:Act->World->Prop} {Q:Exit->Act->World->Prop} (x v:Operand) (ho:o.op= .store 50 x v)
  {g:Nat} {zs:Array Value} (hx:a.eval x= .pointer (some ⟨g,0,none⟩)) (hg:w1.heap[g]? =some (.cells zs 50 (0,0))) (hz:zs.size=4) {val:Value} {t:Tp.T} (hv:a.eval v=val) (hn:Tz w1 val t)
  {B:Nat} {w0:World} (hB:B<=g) (hb:Below B w0 w1)
  (h:∀ W cs,W=w1.setRow g cs->W.heap[g]? =some (.cells cs 50 (0,0))->cs.size=4->Tz W (.agg cs) t->Below B w0 W->K (a.put o.dst undef) W):Oper.wp prog o a w1 K Q:=by
 obtain ⟨an,cn,af,cf,ad,cd,rfl,hn⟩:=hn.form;refine Qs _ x v ho _ g zs _ hx hg hv (by rw[hz];rfl) X3 (by simp[Value.oneCell']) ?_;exact h _ _ rfl (Qb hg) rfl (hn.frt (Qe hg) (by decide) (by decide) (by decide)) (Q9 hb hB _)
theorem QO {a:Act} {K:Act->World->Prop} {Q:Exit->Act->World->Prop} (x v:Operand) (ho:o.op= .store 38 x v)
  {g:Nat} {zs:Array Value} (hx:a.eval x= .pointer (some ⟨g,0,none⟩)) (hg:w1.heap[g]? =some (.cells zs 38 (0,0))) (hz:zs.size=3) {val:Value} {t:Tp.T} (hv:a.eval v=val) (hn:Tm w1 val t)
  {B:Nat} {w0:World} (hB:B<=g) (hb:Below B w0 w1)
  (h:∀ W cs,FrT [38] w1 W->W=w1.setRow g cs->W.heap[g]? =some (.cells cs 38 (0,0))->cs.size=3->Tm W (.agg cs) t->Below B w0 W->K (a.put o.dst undef) W):Oper.wp prog o a w1 K Q:=by
 obtain ⟨cs,rfl,hs,h1⟩:=hn.cells;refine Qs _ x v ho _ g zs cs hx hg hv (by rw[hz,hs]) (by rw[hs];exact Qy) h1 ?_;exact h _ cs (Qe hg) rfl (Qb hg) hs (hn.frt (Qe hg) (by decide) (by decide) (by decide)) (Q9 hb hB cs)
theorem QF {P:Program} {fn:Func} {p q u:Tmp} {ty ty2:TypeId} (h:fn.results= #[.cell p ty,.cell q ty2,.tmp u]) (tmps:Array Value) (w:World) (g g2:Nat) (t t2:TypeId) (cs cs2:Array Value) (fr fr2:Nat × Nat) (d d2:TypeDesc)
  (hp:tmps.getD p undef= .pointer (some ⟨g,0,none⟩)) (hq:tmps.getD q undef= .pointer (some ⟨g2,0,none⟩)) (hg:w.heap[g]? =some (.cells cs t fr)) (hg2:w.heap[g2]? =some (.cells cs2 t2 fr2))
  (hu:P.underlying ty=some d) (hd:(match d with | .struct _ | .array _ _=> true | _=> false)=true) (hi:(P.info? ty).map (·.size)=some cs.size)
  (hu2:P.underlying ty2=some d2) (hd2:(match d2 with | .struct _ | .array _ _=> true | _=> false)=true) (hi2:(P.info? ty2).map (·.size)=some cs2.size) {x:Value} (hx:tmps.getD u undef=x):
  (results fn tmps).run P w= .ok (.tuple #[.agg cs,.agg cs2,x]) w:=by
 have hp':tmps[p]?.getD undef= .pointer (some ⟨g,0,none⟩):=by simpa using hp
 have hq':tmps[q]?.getD undef= .pointer (some ⟨g2,0,none⟩):=by simpa using hq
 have hx':tmps[u]?.getD undef=x:=by simpa using hx
 simp[results,h,hp',hq',hx',asAddr,run_loadVar_row w g t ty cs fr d hg hu hd hi,run_loadVar_row w g2 t2 ty2 cs2 fr2 d2 hg2 hu2 hd2 hi2]
def BothOut (ps:List (Tp.Nm × Int)) (n:Int) (w:World) (r:Ending) (w':World):Prop:=
 ∃ (vt vx:Value) (ok:Bool) (t x:Tp.T),r= .returned (.tuple #[vt,vx,.bool ok])/\Tm w' vt t/\Tz w' vx x/\Below w.heap.size w w'/\
  (ok=true->t=Tp.sum ⟨[],n⟩ ps/\x=t/\ps.length<=12/\ -1099511627776<=n/\n<=1099511627776/\∀ p∈ps,p.1.length<=40/\ -1099511627776<=p.2/\p.2<=1099511627776)
theorem QP {W5:World} {o:Obj} (hw:W5=W.setRow g cs) (hne:h≠g) (r:W.heap[h]? =some o):W5.heap[h]? =some o:=by rw[hw,Q8 hne,r]
structure TwoT (V:World) (g h:Nat) (t x:Tp.T) (W:World):Prop where
 t:∃ cs,W.heap[g]? =some (.cells cs 38 (0,0))/\cs.size=3/\Tm W (.agg cs) t
 x:∃ cs,W.heap[h]? =some (.cells cs 50 (0,0))/\cs.size=4/\Tz W (.agg cs) x
 b:Below V.heap.size V W
 g:V.heap.size<=g
 h:V.heap.size<=h
theorem Q0e (h1: -1099511627776<=z) (h2:z<=1099511627776):Bd 13 z:=by
 unfold Bd;have:(10:Nat) ^ 13=10000000000000:=by decide
 omega
theorem Q0f:∀ (ps:List (Tp.Nm × Int)) {t:Tp.T} {K:Nat},(∀ p∈ps,Bd 13 p.2)->Sm K t->Tp.Ok t.l->Sm (K+15*ps.length) (Tp.sum t ps)
 | [],t,K,_,h,_=> h
 | p::r,t,K,hp,h,ho=> by
  have h1:=Sm.add h ho (Sm.name p.1) (Jg p.1).rise (hp p (eX_ ..));have h2:=Q0f r (fun q hq=> hp q (eR_ _ hq)) h1 (Tp.ZJ ho _ _);rw[show Tp.sum t (p::r)=Tp.sum (Tp.add t (Tp.name p.1) p.2) r from rfl];exact h2.mono (by simp only[eL_];omega)
theorem Q7q {ps:List (Tp.Nm × Int)} {p:Tp.Nm × Int} (h:ps[j]? =some p):Tp.sum t (ps.take (j+1))=Tp.add (Tp.sum t (ps.take j)) (Tp.name p.1) p.2:=by
 rw[List.take_add_one,h,Option.toList_some,Tp.sum,List.foldl_append];rfl
def Fits (n:Int) (ps:List (Tp.Nm × Int)):Prop:=ps.length<=12/\ -1099511627776<=n/\n<=1099511627776/\∀ p∈ps,p.1.length<=40/\ -1099511627776<=p.2/\p.2<=1099511627776
theorem Fits.sm {n:Int} {ps:List (Tp.Nm × Int)} (h:Fits n ps):Sm 1000 (Tp.sum ⟨[],n⟩ ps)/\Tp.Ok (Tp.sum ⟨[],n⟩ ps).l:=
 ⟨(Q0f ps (K:=13) (fun p hp=> Q0e (h.2.2.2 p hp).2.1 (h.2.2.2 p hp).2.2) ⟨fun p hp=> (by cases hp),Q0e h.2.1 h.2.2.1,by simp⟩ Tp.Ok.nil).mono (by have:=h.1;omega),Tp.Q69 ps Tp.Ok.nil⟩
theorem Fits.take {n:Int} {ps:List (Tp.Nm × Int)} {j:Nat} {p:Tp.Nm × Int} (h:Fits n (ps.take j)) (hl:ps.length<=12) (hp:ps[j]? =some p) (h1:p.1.length<=40) (h2: -1099511627776<=p.2) (h3:p.2<=1099511627776):Fits n (ps.take (j+1)):=by
 refine ⟨by rw[eN_];omega,h.2.1,h.2.2.1,fun q hq=> ?_⟩;rw[List.take_add_one,hp,Option.toList_some] at hq;rcases List.mem_append.1 hq with hq | hq
 ·exact h.2.2.2 q hq
 ·rw[List.mem_singleton.1 hq];exact ⟨h1,h2,h3⟩
theorem TwoT.ne {x:Tp.T} (H:TwoT V g h t x W):g≠h:=by
 rintro rfl;obtain ⟨cs,h1,_⟩:=H.t;obtain ⟨cs2,h2,_⟩:=H.x;rw[h1] at h2;injection h2 with h2;injection h2 with _ e _;exact absurd e (by decide)
theorem TwoT.past {W':World} {x:Tp.T} (H:TwoT V g h t x W) (hb:Below W.heap.size W W'):TwoT V g h t x W':=by
 obtain ⟨⟨cs,h1,h2,h3⟩,⟨cs2,h4,h5,h6⟩,h7,h8,h9⟩:=H;exact ⟨⟨cs,Q7 h1 hb,h2,h3.below hb⟩,⟨cs2,Q7 h4 hb,h5,h6.below hb⟩,h7.trans (hb.mono h7.size),h8,h9⟩
def BoRel (V:World) (g h:Nat) (n:Int) (ps:List (Tp.Nm × Int)) (k:Nat) (v:Value) (wr:World):Prop:=
 ∃ j:Nat,v= .int .i64 j/\k=ps.length - j/\j<=ps.length/\Fits n (ps.take j)/\TwoT V g h (Tp.sum ⟨[],n⟩ (ps.take j)) (Tp.sum ⟨[],n⟩ (ps.take j)) wr
theorem Q49 {P:Nat->Prop} {ps:List (Tp.Nm × Int)} (h:RdS w P 2 (.slice a ps.length c) ps.length (ptCells ps)) {j:Nat} {p:Tp.Nm × Int} (hj:ps[j]? =some p):∃ b off,a=some ⟨b,off,none⟩/\w.rangeAt b (off+j*2) [.string ⟨p.1.toArray⟩,.int .i64 p.2]:=by
 obtain ⟨_,a2,c2,e,_,h4⟩:=h;injection e with e1 _ _;subst e1;have hlt:=(List.getElem?_eq_some_iff.1 hj).1;rcases h4 with ⟨_,h4⟩ | ⟨b,off,rfl,_,h6⟩
 ·omega
 ·exact ⟨b,off,rfl,QV (f:=fun p:Tp.Nm × Int=> [Value.string ⟨p.1.toArray⟩,.int .i64 p.2]) (s:=2) (fun _=> rfl) h6 hj⟩
theorem Jn:(prog.info? 67).map (·.size)=some 2:=by kernel_rfl
theorem Q8G {s d:Value} (h:Zn w (.agg #[s,d]) z):Tz w (.agg #[.slice none 0 0,.slice none 0 0,s,d]) ⟨[],z⟩:=by
 obtain ⟨a,c,e,h2⟩:=h.form;injection e with e;have e1:s= .int .i64 (sgn z)/\d= .slice a (dg z).length c:=by simpa using e
 obtain ⟨rfl,rfl⟩:=e1;exact (TzO.nil 0 w).read (t:=⟨[],z⟩) h2
end Go.Proofs.YtiecccakcenobaaGreatDoor
