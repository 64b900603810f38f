/- A part of the proof. -/
import Derived.Test.YtiecccakcenobaaGreatDoorTptM8
import Derived.Lib.UnsafeStr
import Derived.Laws.StructEq
set_option linter.all false
set_option maxRecDepth 100000
set_option maxHeartbeats 64000000
namespace Go.Proofs.YtiecccakcenobaaGreatDoor
open Tryz
open Go.RowKit
variable {a:Act} {e:Ex} {Q:Exit→Act→World→Prop} {l:List UInt8} {cs:List Value} {B b:Nat} {P:Nat→Prop} {o:Oper} {R:Prop} {t:Tr.T} {vn vt x y:Value} {w w' w1:World}
theorem Q6P {f:Int→Option Ex} {n:Int} {x:Tr.Nd} (h:Ax.call f t n x=some e):∃ k0 k1 a b,x.kids[0]? =some k0∧x.kids[1]? =some k1∧Ax.tk t k0=some a∧Ax.tk t k1=some b∧
  ((b.text= [46]∧∃ k2 c es,x.kids[2]? =some k2∧Ax.tk t k2=some c∧Ax.made f t 24 a.pos n=some es∧e= .mk 24 c.text a.text 0 false es a.pos)∨(b.text≠ [46]∧∃ es,Ax.made f t 24 a.pos n=some es∧e= .mk 24 a.text [] 0 false es a.pos)):=by
 unfold Ax.call at h;split at h
 ·rename_i k0 k1 h0 h1;split at h
  ·rename_i a b ha hb;refine ⟨k0,k1,a,b,h0,h1,ha,hb,?_⟩;split at h
   ·rename_i hd;split at h
    ·cases h
    ·rename_i k2 h2;split at h
     ·cases h
     ·rename_i c hc;obtain ⟨es,q1,q2⟩:=Zf h;exact Or.inl ⟨hd,k2,c,es,h2,hc,q1,q2⟩
   ·rename_i hd;obtain ⟨es,q1,q2⟩:=Zf h;exact Or.inr ⟨hd,es,q1,q2⟩
  ·cases h
 ·cases h
theorem LC {op:Int} {n0 m0:List UInt8} {num:Int} {yes:Bool} {kids:List Ex} {pos:Int} {c1 c2 c3 c4 c5 c6 c7 c8:Value} (h:RdE w P (.mk op n0 m0 num yes kids pos) [c1,c2,c3,c4,c5,c6,c7,c8]) (n m:List UInt8):
  RdE w P (.mk op n m num yes kids pos) [c1,.string ⟨n.toArray⟩,.string ⟨m.toArray⟩,c4,c5,c6,c7,c8]:=by
 cases h with
 | mk css hs hl hc hv hk=> exact .mk css hs hl hc hv hk
def Half (g:Nat) (V W:World) (c0 c3 c4 c5 c6 c7:Value):Prop:=Below g V W∧∃ x y,W.heap[g]? =some (.cells #[c0,x,y,c3,c4,c5,c6,c7] 30 (0,0))
theorem Q1O {W:World} {g:Nat} {c0 c3 c4 c5 c6 c7:Value} {T:TypeId} (h:W.heap[g]? =some (.cells #[c0,x,y,c3,c4,c5,c6,c7] T (0,0))) (v:Value):(W.setCell ⟨g,1,none⟩ v).heap[g]? =some (.cells #[c0,v,y,c3,c4,c5,c6,c7] T (0,0)):=by
 rw[setCell_eq_setRow W g 1 _ _ (0,0) v h];exact Qb h
theorem Q1P {W:World} {g:Nat} {c0 c3 c4 c5 c6 c7:Value} {T:TypeId} (h:W.heap[g]? =some (.cells #[c0,x,y,c3,c4,c5,c6,c7] T (0,0))) (v:Value):(W.setCell ⟨g,2,none⟩ v).heap[g]? =some (.cells #[c0,x,v,c3,c4,c5,c6,c7] T (0,0)):=by
 rw[setCell_eq_setRow W g 2 _ _ (0,0) v h];exact Qb h
section
variable {g:Nat} {V W W':World} {c0 c3 c4 c5 c6 c7:Value}
theorem Half.drew (h:Half g V W c0 c3 c4 c5 c6 c7):Half g V W.drew c0 c3 c4 c5 c6 c7:=⟨h.1.drew,h.2⟩
theorem Half.set1 (h:Half g V W c0 c3 c4 c5 c6 c7) (v:Value):Half g V (W.setCell ⟨g,1,none⟩ v) c0 c3 c4 c5 c6 c7:=by
 obtain ⟨hb,x,y,hg⟩:=h;exact ⟨hb.setCell (p:=⟨g,1,none⟩) (rl_ _) v,v,y,Q1O hg v⟩
theorem Half.set2 (h:Half g V W c0 c3 c4 c5 c6 c7) (v:Value):Half g V (W.setCell ⟨g,2,none⟩ v) c0 c3 c4 c5 c6 c7:=by
 obtain ⟨hb,x,y,hg⟩:=h;exact ⟨hb.setCell (p:=⟨g,2,none⟩) (rl_ _) v,x,v,Q1P hg v⟩
theorem Q4s (hb:Below W.heap.size W W') (h:Half g V W c0 c3 c4 c5 c6 c7∧R):Half g V W' c0 c3 c4 c5 c6 c7:=by
 obtain ⟨⟨h1,x,y,hg⟩,_⟩:=h;exact ⟨h1.trans (hb.mono (Nat.le_of_lt (Q4 hg))),x,y,(hb.block _ (Q4 hg)).trans hg⟩
theorem Q34 (hw:Below B w V) (hB:B≤g) (h:Half g V W c0 c3 c4 c5 c6 c7∧R):Below B w W:=hw.trans (h.1.1.mono hB)
theorem Q5S (h:Half g V W c0 c3 c4 c5 c6 c7) (a c:Value):((W.setCell ⟨g,2,none⟩ a).setCell ⟨g,1,none⟩ c).heap[g]? =some (.cells #[c0,c,a,c3,c4,c5,c6,c7] 30 (0,0))∧Below g V ((W.setCell ⟨g,2,none⟩ a).setCell ⟨g,1,none⟩ c):=by
 obtain ⟨x,y,hg⟩:=h.2;exact ⟨Q1O (Q1P hg a) c,((h.set2 a).set1 c).1⟩
end
theorem U2 (x:List UInt8) (l:List UInt8):((⟨x.toArray⟩:ByteArray).toList==(⟨l.toArray⟩:ByteArray).toList)=decide (x=l):=Q3A x l
theorem Q1Q (h:TrR w P vt vn t) {f:Int→Option Ex} (hf:KnowsE w vt vn f) {n:Int} {x:Tr.Nd} {e:Ex} (hx:Ax.nd t n=some x) (hcl:Ax.call f t n x=some e):
  Calls prog 121 #[.agg #[vt,vn],.int .i64 n] w (ExOut w e):=by
 obtain ⟨at_,ct,an,cn,rfl,rfl⟩:=h.form;obtain ⟨k,k1,s,sb,hk0,hk1,hks,hkb,hcase⟩:=Q6P hcl;have hn2:(t.nodes.length:Int)≤1000000:=by have:=h.nodes;omega
 have hbx:=box2 w #[.slice at_ t.toks.length ct,.slice an t.nodes.length cn] 154 #[.int .i64 0,.string ⟨#[]⟩,.string ⟨#[]⟩,.bool false,.slice none 0 0,.bool false,.slice none 0 0,.int .i64 0] 30;obtain ⟨i,b,off,ak,ck,hni,hi,e0,c0,c1,c2,hkl,hkk⟩:=(h.below hbx.2.2).node hx;subst hni e0;obtain ⟨b2,o2,e0,q0⟩:=hkk 0 k hk0;subst e0;have hall:=hkk;obtain ⟨b3,o3,e0,q1⟩:=hkk 1 k1 hk1;injection e0 with e0;injection e0 with e0 e1;subst e0 e1;have hi2:(i:Int) < (t.nodes.length:Int):=by omega
 have hk2:(1:Int) < (x.kids.length:Int):=by have:=(List.getElem?_eq_some_iff.1 hk1).1;omega
 have hk2a:(0:Int) < (x.kids.length:Int):=by omega
 have hk2b:¬ x.kids= []:=by intro h0;rw[h0] at hk2;exact absurd hk2 (by decide)
 have hk2c:0 < x.kids.length:=by omega
 have hk3:(x.kids.length:Int)≤1000000:=by omega
 have HH:=h7_ h hf hks hkb hcase hall trivial;clear hkk hk0 hk1 hcl hkl hcase hks hkb hx h hf hi hall;go_in;have a0:=Q3 hbx.1 0 rfl;have a1:=Q3 hbx.1 1 rfl;go_wp2_with fail;obtain ⟨V,hV⟩:∃ V,(w.alloc (.cells #[.slice at_ t.toks.length ct,.slice (some ⟨b,off,none⟩) t.nodes.length cn] 154)).alloc (.cells #[.int .i64 0,.string ⟨#[]⟩,.string ⟨#[]⟩,.bool false,.slice none 0 0,.bool false,.slice none 0 0,.int .i64 0] 30)=V:=⟨_,rfl⟩
 rw[hV] at hbx c0 c1 c2 q0 q1 a0 a1 HH ⊢;rw[Nat.add_zero] at q0;have mkS:∀ W:World,Below V.heap.size V W→Below V.heap.size V W∧W.cell? ⟨w.heap.size,0,none⟩=some (.slice at_ t.toks.length ct)∧W.cell? ⟨w.heap.size,1,none⟩=some (.slice (some ⟨b,off,none⟩) t.nodes.length cn)∧W.cell? ⟨b2,o2,none⟩=some (.int .i64 k):=fun W hb=> ⟨hb,(hb.cell (Q4 hbx.1)).trans a0,(hb.cell (Q4 hbx.1)).trans a1,(hb.cell (Q8 q0)).trans q0⟩;have HV:=h2_ hbx q1;have HS:=hd_ mkS;clear hbx hV a0 a1 c0 c1 c2 mkS q1;go_cut [6] from 15 to 19 (fun v6 wc=> ∃ g,v6= .pointer (some ⟨g,0,none⟩)∧TkAt V.heap.size V s g wc)
 case first=>
  go_region_held3 (fun w'=> Below V.heap.size V w'∧w'.cell? ⟨w.heap.size,0,none⟩=some (.slice at_ t.toks.length ct)∧w'.cell? ⟨w.heap.size,1,none⟩=some (.slice (some ⟨b,off,none⟩) t.nodes.length cn)∧w'.cell? ⟨b2,o2,none⟩=some (.int .i64 k)) (first | exact HS.o _ ((eB_ _ _).drew) | exact HS.o _ (((eB_ _ _).alloc (rl_ _) _).drew) | exact HS.o _ (XH (by assumption) (rl_ _) _) | exact HS.o _ hb7 | exact HS.o _ (hb7.alloc hb7.size _) | exact HS.o _ (ZG (Qq (by assumption)) (rl_ _) _ _ _ _)) ((go_at_call 119;refine eH_ (Yk (HH.a.below (HV.a.2.2.trans ((Qq (by assumption)).mono HV.a.2.2.size))) HH.c) ?_;rintro e w6 ⟨rfl,hc7⟩;have hb7:Below V.heap.size V w6:=QE hc7 (by assumption) (rl_ _);(first | (have hz6:=(hc7.block _ (Q4 (eD_ V (.cells #[.int .i64 0,.string ⟨#[]⟩,.string ⟨#[]⟩,.int .i64 0] 197)))).trans (eD_ V (.cells #[.int .i64 0,.string ⟨#[]⟩,.string ⟨#[]⟩,.int .i64 0] 197));have r0:=Q3 hz6 0 rfl;have r1:=Q3 hz6 1 rfl;have r2:=Q3 hz6 2 rfl;have r3:=Q3 hz6 3 rfl;have z0:=Q6 hz6 0;have z1:=Q6 hz6 1;have z2:=Q6 hz6 2;have z3:=Q6 hz6 3) | skip);clear hc7))
  all_goals (
   rename_i hh;clear hh;go_wp2_with fail;go_meet
   case rel=> first | exact ⟨_,rfl,Q1N s hb7 (rl_ _)⟩ | exact ⟨_,rfl,Dr s hb7 hz6 rfl (rl_ _)⟩)
 case rest=>
  obtain ⟨w4,rfl⟩:∃ w4,w4=wc:=⟨wc,rfl⟩
  obtain ⟨g5,rfl,hg5,hb5,hB5⟩:=hcut;have hbox:=(hb5.block _ (Q4 HV.a.1)).trans HV.a.1;have hw:=HV.a.2.2.trans (hb5.mono HV.a.2.2.size);have a0:=Q3 hbox 0 rfl;have a1:=Q3 hbox 1 rfl;have t2:=Q3 hg5 2 rfl;have t3:=Q3 hg5 3 rfl;have HC:=h5_ hg5 hb5 hB5 hbox hw;clear hg5 hb5 hB5 hbox hw q0;obtain ⟨es,hmade⟩:∃ es,Ax.made f t 24 s.pos (i:Int)=some es:=by
   rcases HH.e with ⟨_,_,_,es,_,_,h1,_⟩ | ⟨_,es,h1,_⟩
   ·exact ⟨es,h1⟩
   ·exact ⟨es,h1⟩
  have HM:=hd_ hmade;clear hmade;go_wp2_with fail;refine (Xy (HH.a.below HC.E) (HH.b.past HC.E) HM.o).mono ?_;rintro e2 w6 ⟨v6,rfl,⟨cs,rfl,hre⟩,hb6⟩;obtain ⟨aw,cw,ak,ckk,rfl⟩:=hre.form;have H6:=h2_ hre hb6;clear hre hb6 a0 a1 t2 t3;dsimp only[Ex.op,Ex.name,Ex.mod,Ex.num,Ex.yes,Ex.kids,Ex.pos];obtain ⟨W7,hW7⟩:∃ W7,w6.alloc (.cells #[.int .i64 24,.string ⟨#[]⟩,.string ⟨#[]⟩,.bool false,.slice aw (wd 0).length cw,.bool false,.slice ak es.length ckk,.int .i64 s.pos] 30)=W7:=⟨_,rfl⟩
  have hg7:W7.heap[w6.heap.size]? =some (.cells #[.int .i64 24,.string ⟨#[]⟩,.string ⟨#[]⟩,.bool false,.slice aw (wd 0).length cw,.bool false,.slice ak es.length ckk,.int .i64 s.pos] 30 (0,0)):=by rw[←hW7];exact eD_ _ _
  have hb7:Below w6.heap.size w6 W7:=by rw[←hW7];exact Qn _ _
  have t6:=Q3 ((hb7.block _ (eI_ (Q4 HC.a) H6.B.size)).trans ((H6.B.block _ (Q4 HC.a)).trans HC.a)) 2 rfl;rw[←hW7] at t6;clear hg7 hb7 hW7 W7;go_wp2_with (refine Qe rfl 30 _ _ rfl 30 #[.int .i64 0,.string ⟨#[]⟩,.string ⟨#[]⟩,.bool false,.slice none 0 0,.bool false,.slice none 0 0,.int .i64 0] #[.int .i64 24,.string ⟨#[]⟩,.string ⟨#[]⟩,.bool false,.slice aw (wd 0).length cw,.bool false,.slice ak es.length ckk,.int .i64 s.pos] rfl rfl rfl QY (by simp[Value.oneCell']) ?_);obtain ⟨V8,hV8⟩:∃ V8,w6.alloc (.cells #[.int .i64 24,.string ⟨s.text.toArray⟩,.string ⟨#[]⟩,.bool false,.slice aw (wd 0).length cw,.bool false,.slice ak es.length ckk,.int .i64 s.pos] 30)=V8:=⟨_,rfl⟩
  have hg8:V8.heap[w6.heap.size]? =some (.cells #[.int .i64 24,.string ⟨s.text.toArray⟩,.string ⟨#[]⟩,.bool false,.slice aw (wd 0).length cw,.bool false,.slice ak es.length ckk,.int .i64 s.pos] 30 (0,0)):=by rw[←hV8];exact eD_ _ _
  have hb8:Below w6.heap.size w6 V8:=by rw[←hV8];exact Qn _ _
  rw[hV8];have hwc:Below w4.heap.size w4 V8:=H6.B.trans (hb8.mono H6.B.size);have hw8:Below w.heap.size w V8:=HC.E.trans (hwc.mono HC.E.size);have hk8:Below V.heap.size V V8:=HC.b.trans (hwc.mono HC.b.size);have hvb:=(hk8.block _ (Q4 HV.a.1)).trans HV.a.1;have z0:=Q3 hvb 0 rfl;have z1:=Q3 hvb 1 rfl;have z2:=(hk8.cell (Q8 HV.B)).trans HV.B;have mkS:∀ W:World,Below V8.heap.size V8 W→Below V8.heap.size V8 W∧W.cell? ⟨w.heap.size,0,none⟩=some (.slice at_ t.toks.length ct)∧W.cell? ⟨w.heap.size,1,none⟩=some (.slice (some ⟨b,off,none⟩) t.nodes.length cn)∧W.cell? ⟨b2,o2+1,none⟩=some (.int .i64 k1):=fun W hb=> ⟨hb,(hb.cell (Q8 z0)).trans z0,(hb.cell (Q8 z1)).trans z1,(hb.cell (Q8 z2)).trans z2⟩;clear z0 z1 z2 hvb;have HL:=hd_ (eI_ (Q4 HV.a.1) (eE_ HC.b.size H6.B.size));have H8:=h6_ hg8 hb8 hwc hw8 hk8 mkS;clear hg8 hb8 hwc hw8 hk8 mkS t6 hV8;have he:=U2 sb.text [46];have he2:=QC sb.text [46];obtain ⟨dt,hdt⟩:∃ dt,decide (sb.text= [46])=dt:=⟨_,rfl⟩
  rw[hdt] at he he2;have HD:=hd_ hdt;clear hdt;go_cut [33] from 28 to 33 (fun v33 w5=> v33= .bool dt∧Below V8.heap.size V8 w5)
  case first=>
   go_region_held3 (fun w'=> Below V8.heap.size V8 w'∧w'.cell? ⟨w.heap.size,0,none⟩=some (.slice at_ t.toks.length ct)∧w'.cell? ⟨w.heap.size,1,none⟩=some (.slice (some ⟨b,off,none⟩) t.nodes.length cn)∧w'.cell? ⟨b2,o2+1,none⟩=some (.int .i64 k1)) (first | exact H8.F _ ((eB_ _ _).drew) | exact H8.F _ hb7) ((go_at_call 123;refine eH_ (U1 (HH.a.below (H8.d.trans ((Qq (by assumption)).mono H8.d.size))) HH.d) ?_;rintro e w7 ⟨rfl,hc7⟩;have hb7:Below V8.heap.size V8 w7:=QE hc7 (by assumption) (rl_ _);clear hc7))
   all_goals (
    rename_i hh;clear hh;go_wp2_with fail;go_meet
    case rel=> exact ⟨rfl,hb7⟩)
  case rest=>
   obtain ⟨rfl,hb5⟩:=hcut;have hc5:=H8.F _ hb5;cases dt with
   | false=>
    have hex:∃ es2,Ax.made f t 24 s.pos (i:Int)=some es2∧e=Ex.mk 24 s.text [] 0 false es2 s.pos:=by
     rcases HH.e with ⟨h1,_⟩ | ⟨_,h1⟩
     ·exact absurd h1 (of_decide_eq_false HD.o)
     ·exact h1
    have hg:=(hb5.block _ (Q4 H8.a)).trans H8.a;have hbg:Below w6.heap.size V8 wc:=hb5.mono (Nat.le_of_lt (Q4 H8.a));have y0:=Q3 hg 0 rfl;have y1:=Q3 hg 1 rfl;have y2:=Q3 hg 2 rfl;have y3:=Q3 hg 3 rfl;have y4:=Q3 hg 4 rfl;have y5:=Q3 hg 5 rfl;have y6:=Q3 hg 6 rfl;have y7:=Q3 hg 7 rfl;have hres:wc.heap[w.heap.size+1]? =some (.cells #[.int .i64 0,.string ⟨#[]⟩,.string ⟨#[]⟩,.bool false,.slice none 0 0,.bool false,.slice none 0 0,.int .i64 0] 30 (0,0)):=(hbg.block _ (eI_ (Q4 HV.a.2.1) (eE_ HC.b.size H6.B.size))).trans ((H8.e.block _ (Q4 HV.a.2.1)).trans HV.a.2.1);have hre:RdE wc (New w4 w6) (.mk 24 s.text [] 0 false es s.pos) [.int .i64 24,.string ⟨s.text.toArray⟩,.string ⟨#[]⟩,.bool false,.slice aw (wd 0).length cw,.bool false,.slice ak es.length ckk,.int .i64 s.pos]:=LC (H6.a.keep (fun k hk=> (hbg.block k hk.2).trans (H8.b.block k hk.2)) (FrT.of (H8.b.trans hbg))) s.text [];have hwW:Below w.heap.size w wc:=H8.d.trans (hbg.mono (Nat.le_of_lt HL.o));obtain ⟨es2,hm2,hexx⟩:=hex;rw[HM.o] at hm2;injection hm2 with hm2;subst hm2;have HE:=h5_ hres hre hwW hbg.size hexx;clear hres hre hwW hexx hg hbg hc5 hb5;go_wp2_with (refine QN rfl _ _ rfl rfl HE.a rfl rfl ⟨_,rfl,HE.b.imp fun k hk=> ⟨hk.1,eI_ hk.2 (eE_ H8.b.size HE.d)⟩⟩ (w1:=w4) (eI_ (Q4 HV.a.2.1) HC.b.size) (show w.heap.size≤w.heap.size+1 by omega) HE.c ?_;rintro W cs hg hs2 hv hb;have HT:=h4_ hg hs2 hv hb;clear hg hs2 hv hb);refine eG_ (XJ rfl rfl HT.a HT.b) rfl ?_;exact ⟨_,rfl,by rw[HE.E];exact HT.c,HT.D⟩
   | true=>
    have hex:∃ k2 c,x.kids[2]? =some k2∧Ax.tk t k2=some c∧∃ es2,Ax.made f t 24 s.pos (i:Int)=some es2∧e=Ex.mk 24 c.text s.text 0 false es2 s.pos:=by
     rcases HH.e with ⟨_,k2,c,es,h1,h2,h3,h4⟩ | ⟨h1,_⟩
     ·exact ⟨k2,c,h1,h2,es,h3,h4⟩
     ·exact absurd (of_decide_eq_true HD.o) h1
    obtain ⟨k2,c,hx2,hc2,hex⟩:=hex;obtain ⟨b4,o4,e4,q4⟩:=HH.f 2 k2 hx2;injection e4 with e4;injection e4 with e4 e5;subst e4 e5;have hk4:(2:Int) < (x.kids.length:Int):=(by have:=(List.getElem?_eq_some_iff.1 hx2).1;omega);have hvb:=(H8.e.block _ (Q4 HV.a.1)).trans HV.a.1;have z0:=Q3 hvb 0 rfl;have z1:=Q3 hvb 1 rfl;have z2:=(H8.e.cell (Q8 q4)).trans q4;have z3:=Q3 ((H8.c.block _ (Q4 HC.a)).trans HC.a) 2 rfl;have z4:=eI_ (Q8 q4) (eE_ HC.b.size H6.B.size);have z5:=eI_ (Q4 HC.a) H6.B.size;have mkS:∀ W:World,Half w6.heap.size V8 W (.int .i64 24) (.bool false) (.slice aw (wd 0).length cw) (.bool false) (.slice ak es.length ckk) (.int .i64 s.pos)→Half w6.heap.size V8 W (.int .i64 24) (.bool false) (.slice aw (wd 0).length cw) (.bool false) (.slice ak es.length ckk) (.int .i64 s.pos)∧W.cell? ⟨w.heap.size,0,none⟩=some (.slice at_ t.toks.length ct)∧W.cell? ⟨w.heap.size,1,none⟩=some (.slice (some ⟨b,off,none⟩) t.nodes.length cn)∧W.cell? ⟨b2,o2+2,none⟩=some (.int .i64 k2)∧W.cell? ⟨g5,2,none⟩=some (.string ⟨s.text.toArray⟩):=fun W hb=> ⟨hb,(hb.1.cell HL.o).trans z0,(hb.1.cell HL.o).trans z1,(hb.1.cell z4).trans z2,(hb.1.cell z5).trans z3⟩;have hh5:Half w6.heap.size V8 wc (.int .i64 24) (.bool false) (.slice aw (wd 0).length cw) (.bool false) (.slice ak es.length ckk) (.int .i64 s.pos):=⟨hb5.mono (Nat.le_of_lt (Q4 H8.a)),_,_,(hb5.block _ (Q4 H8.a)).trans H8.a⟩
    have H9:=h4_ mkS hh5 hc2 hex;clear mkS hh5 hc2 hex z0 z1 z2 z3 z4 z5 q4 hvb hb5 hx2;go_wp2_with fail;go_region_held3 (fun w'=> Half w6.heap.size V8 w' (.int .i64 24) (.bool false) (.slice aw (wd 0).length cw) (.bool false) (.slice ak es.length ckk) (.int .i64 s.pos)∧w'.cell? ⟨w.heap.size,0,none⟩=some (.slice at_ t.toks.length ct)∧w'.cell? ⟨w.heap.size,1,none⟩=some (.slice (some ⟨b,off,none⟩) t.nodes.length cn)∧w'.cell? ⟨b2,o2+2,none⟩=some (.int .i64 k2)∧w'.cell? ⟨g5,2,none⟩=some (.string ⟨s.text.toArray⟩)) (first | exact H9.a _ (H9.b.drew) | exact H9.a _ hb7 | exact H9.a _ (hb7.set2 _) | exact H9.a _ ((hb7.set2 _).set1 _)) ((go_at_call 123;refine eH_ (U1 (HH.a.below (Q34 H8.d (Nat.le_of_lt HL.o) (by assumption))) H9.c) ?_;rintro e w7 ⟨rfl,hc7⟩;have hb7:Half w6.heap.size V8 w7 (.int .i64 24) (.bool false) (.slice aw (wd 0).length cw) (.bool false) (.slice ak es.length ckk) (.int .i64 s.pos):=Q4s hc7 (by assumption);obtain ⟨x7,x8,hz7⟩:=hb7.2;have r1:=Q3 hz7 1 rfl;have r2:=Q3 hz7 2 rfl;have f1:=Q6 hz7 1;have f2:=Q6 hz7 2;clear hc7))
    all_goals (
     rename_i hh;clear hh;have hf:=Q5S hb7 (.string ⟨s.text.toArray⟩) (.string ⟨c.text.toArray⟩);obtain ⟨W9,hW9⟩:∃ W9,(w7.setCell ⟨w6.heap.size,2,none⟩ (.string ⟨s.text.toArray⟩)).setCell ⟨w6.heap.size,1,none⟩ (.string ⟨c.text.toArray⟩)=W9:=⟨_,rfl⟩
     rw[hW9] at hf ⊢;obtain ⟨hg,hbg⟩:=hf;have hex:=H9.D;have y0:=Q3 hg 0 rfl;have y1:=Q3 hg 1 rfl;have y2:=Q3 hg 2 rfl;have y3:=Q3 hg 3 rfl;have y4:=Q3 hg 4 rfl;have y5:=Q3 hg 5 rfl;have y6:=Q3 hg 6 rfl;have y7:=Q3 hg 7 rfl;have hres:W9.heap[w.heap.size+1]? =some (.cells #[.int .i64 0,.string ⟨#[]⟩,.string ⟨#[]⟩,.bool false,.slice none 0 0,.bool false,.slice none 0 0,.int .i64 0] 30 (0,0)):=(hbg.block _ (eI_ (Q4 HV.a.2.1) (eE_ HC.b.size H6.B.size))).trans ((H8.e.block _ (Q4 HV.a.2.1)).trans HV.a.2.1);have hre:RdE W9 (New w4 w6) (.mk 24 c.text s.text 0 false es s.pos) [.int .i64 24,.string ⟨c.text.toArray⟩,.string ⟨s.text.toArray⟩,.bool false,.slice aw (wd 0).length cw,.bool false,.slice ak es.length ckk,.int .i64 s.pos]:=LC (H6.a.keep (fun k hk=> (hbg.block k hk.2).trans (H8.b.block k hk.2)) (FrT.of (H8.b.trans hbg))) c.text s.text;have hwW:Below w.heap.size w W9:=H8.d.trans (hbg.mono (Nat.le_of_lt HL.o));obtain ⟨es2,hm2,hexx⟩:=hex;rw[HM.o] at hm2;injection hm2 with hm2;subst hm2;have HE:=h5_ hres hre hwW hbg.size hexx;clear hres hre hwW hexx hg hbg hb7 hW9 r1 r2 f1 f2 hz7;go_wp2_with (refine QN rfl _ _ rfl rfl HE.a rfl rfl ⟨_,rfl,HE.b.imp fun k hk=> ⟨hk.1,eI_ hk.2 (eE_ H8.b.size HE.d)⟩⟩ (w1:=w4) (eI_ (Q4 HV.a.2.1) HC.b.size) (show w.heap.size≤w.heap.size+1 by omega) HE.c ?_;rintro W cs hg hs2 hv hb;have HT:=h4_ hg hs2 hv hb;clear hg hs2 hv hb);refine eG_ (XJ rfl rfl HT.a HT.b) rfl ?_;exact ⟨_,rfl,by rw[HE.E];exact HT.c,HT.D⟩
     )
theorem U3 (h:Below B w w') (n:Nat):Below B w (w'.drewN n):=⟨h.os,h.tape,h.output,h.size,h.block⟩
theorem Q4t:(prog.info? 157).map (·.size)=some 3:=by kernel_rfl
theorem XX {P:Program} {K:Act→World→Prop} (ty:TypeId) (x v:Operand) (ho:o.op= .store ty x v)
  (T:TypeId) (g:Nat) (zs vs:Array Value) (hx:a.eval x= .pointer (some ⟨g,0,none⟩)) (hg:w1.heap[g]? =some (.cells zs T (0,0))) (hv:a.eval v= .agg vs) (hz:zs.size=vs.size) (hi:(P.info? ty).map (·.size)=some vs.size) (h1:∀ u∈vs.toList,u.oneCell'=true)
  (h:K (a.put o.dst undef) (w1.setRow g vs)):Oper.wp P o a w1 K Q:=by
 have hst:=run_storeCells_at (P:=P) g 0 T vs.toList 0 zs w1 hg (by simp;omega) h1;have e:(zs.toList.take (0+0)++vs.toList++zs.toList.drop (0+0+vs.toList.length)).toArray=vs:=by
  have hd:zs.toList.drop (0+0+vs.toList.length)= []:=List.drop_eq_nil_of_le (by simp;omega);rw[hd];simp
 rw[e] at hst;cases hq:P.info? ty with
 | none=> simp[hq] at hi
 | some i=>
  have hs:i.size=vs.size:=by simpa [hq] using hi
  unfold Oper.wp execOp;simp only[ho,hx,hv,Instr.storeAt,Instr.sureAddr,Sem.run_bind,Sem.run_pure,Result.andThen_ok,storeVar,sizeOf,typeInfo,Value.cells];simp[hq,hs,hst];exact h
theorem Ja {K:Act→World→Prop} {w0 w2:World} (x v:Operand) (ho:o.op= .store 30 x v)
  {g:Nat} {zs:Array Value} (hx:a.eval x= .pointer (some ⟨g,0,none⟩)) (hg:w2.heap[g]? =some (.cells zs 30 (0,0))) (hz:zs.size=8) {val:Value} {e:Ex} (hv:a.eval v=val) (hn:ExV w2 (New w1 w2) val e) (hg1:g < w1.heap.size) (h01:w0.heap.size≤g) (hb:Below w0.heap.size w0 w2)
  (h:∀ W cs,W.heap[g]? =some (.cells cs 30 (0,0))→cs.size=8→ExV W (New w0 W) (.agg cs) e→Below w0.heap.size w0 W→K (a.put o.dst undef) W):
  Oper.wp prog o a w2 K Q:=by
 obtain ⟨cs,rfl,hr⟩:=hn;have hl:cs.toArray.size=8:=by simpa using hr.len
 refine XX _ x v ho _ g zs cs.toArray hx hg hv (by rw[hz,hl]) (by rw[hl];exact QY) (by simpa using hr.ones) ?_;refine h _ cs.toArray (Qb hg) hl ⟨cs,rfl,(hr.keep (fun k hk=> Q9 (by have:=hk.1;omega)) (Qg hg)).imp fun k hk=> ⟨by have:=hk.1;omega,by rw[QI];exact hk.2⟩⟩ (Qc hb h01 _)
theorem Q5T {x:Tr.Nd} {a:Tr.Tk} (h:Ax.first t x=some a):∃ k0 y,x.kids[0]? =some k0∧Ax.nd t k0=some y∧((y.kind=19∧Ax.tk t k0=some a)∨(y.kind≠19∧a=⟨0, [], [],0⟩)):=by
 unfold Ax.first at h;split at h
 ·cases h
 ·rename_i k hk;split at h
  ·cases h
  ·rename_i y hy;split at h
   ·rename_i h19;exact ⟨k,y,hk,hy,Or.inl ⟨h19,h⟩⟩
   ·rename_i h19;injection h with h;exact ⟨k,y,hk,hy,Or.inr ⟨h19,h.symm⟩⟩
def Tok4 (g:Nat) (V W:World):Prop:=Below g V W∧∃ c0 c1 c2 c3,W.heap[g]? =some (.cells #[c0,c1,c2,c3] 197 (0,0))
theorem Tok4.drew {g:Nat} {V W:World} (h:Tok4 g V W):Tok4 g V W.drew:=⟨h.1.drew,h.2⟩
theorem Q4u {g:Nat} {V W W':World} (hb:Below W.heap.size W W') (h:Tok4 g V W∧R):Tok4 g V W':=by
 obtain ⟨⟨h1,a,b,c,d,hg⟩,_⟩:=h;exact ⟨h1.trans (hb.mono (Nat.le_of_lt (Q4 hg))),a,b,c,d,(hb.block _ (Q4 hg)).trans hg⟩
theorem Q35 {g:Nat} {V W:World} (hw:Below B w V) (hB:B≤g) (h:Tok4 g V W∧R):Below B w W:=hw.trans (h.1.1.mono hB)
theorem Q5U {g:Nat} {V W:World} (h:Tok4 g V W) (x y z u:Value):Tok4 g V ((((W.setCell ⟨g,0,none⟩ x).setCell ⟨g,1,none⟩ y).setCell ⟨g,2,none⟩ z).setCell ⟨g,3,none⟩ u):=by
 obtain ⟨h1,a,b,c,d,hg⟩:=h;refine ⟨ZG h1 (rl_ _) x y z u,x,y,z,u,?_⟩;rw[Ya hg rfl];exact Qb hg
theorem Q36 (h:TrR w P vt vn t) (htx:∀ k∈t.toks,k.text.length≤1073741824) {f:Int→Option Ex} (hf:KnowsE w vt vn f) {n:Int} {x:Tr.Nd} {a:Tr.Tk} {e:Ex} (hx:Ax.nd t n=some x) (ha:Ax.first t x=some a) (hnd:Ax.node f t n x a=some e) (h7:x.kind≠7):
  Calls prog 80 #[.agg #[vt,vn],.int .i64 n] w (ExOut w e):=by
 obtain ⟨at_,ct,an,cn,rfl,rfl⟩:=h.form;obtain ⟨k,y,hk0,hy,hcase⟩:=Q5T ha;have hn2:(t.nodes.length:Int)≤1000000:=by have:=h.nodes;omega
 obtain ⟨kd,hkd⟩:∃ kd,x.kind=kd:=⟨_,rfl⟩
 obtain ⟨yk,hyk⟩:∃ yk,y.kind=yk:=⟨_,rfl⟩
 have hbx0:=box2 w #[.slice at_ t.toks.length ct,.slice an t.nodes.length cn] 154 #[.int .i64 0,.string ⟨#[]⟩,.string ⟨#[]⟩,.bool false,.slice none 0 0,.bool false,.slice none 0 0,.int .i64 0] 30;obtain ⟨i,b,off,ak,ck,hni,hi,e0,c0,c1,c2,hkl,hkk⟩:=(h.below hbx0.2.2).node hx;subst hni e0;obtain ⟨j,bj,offj,ak2,ck2,hnj,hj,e0,d0,_,_,_,_⟩:=(h.below hbx0.2.2).node hy;injection e0 with e0;injection e0 with e0 e1;subst hnj e0 e1;obtain ⟨b2,o2,e0,q0⟩:=hkk 0 (j:Int) hk0;subst e0;have hall:=hkk;rw[hkd] at c0;rw[hyk] at d0 hcase;have hi2:(i:Int) < (t.nodes.length:Int):=by omega
 have hj2:(j:Int) < (t.nodes.length:Int):=by omega
 have hk1:(0:Int) < (x.kids.length:Int):=by have:=(List.getElem?_eq_some_iff.1 hk0).1;omega
 have hk1b:¬ x.kids= []:=by intro h0;rw[h0] at hk1;exact absurd hk1 (by decide)
 have hk1c:0 < x.kids.length:=by omega
 have hk3:(x.kids.length:Int)≤1000000:=by omega
 have HX:=hd_ hx;have H7:=hd_ h7;have HH:=h9_ h hf hcase hnd hall hkd htx hyk hx;clear h7 hkk hk0 hkl hcase hnd hx hy h hf hi hall ha hkd htx hj hyk;rw[Nat.add_zero] at q0;have a0:=Q3 hbx0.1 0 rfl;have a1:=Q3 hbx0.1 1 rfl;have hbx:=box4 w #[.slice at_ t.toks.length ct,.slice (some ⟨b,off,none⟩) t.nodes.length cn] 154 #[.int .i64 0,.string ⟨#[]⟩,.string ⟨#[]⟩,.bool false,.slice none 0 0,.bool false,.slice none 0 0,.int .i64 0] 30 #[.int .i64 kd,.int .i64 x.tok,.slice (some ⟨b2,o2,none⟩) x.kids.length ck] 157 #[.int .i64 0,.string ⟨#[]⟩,.string ⟨#[]⟩,.int .i64 0] 197;have HB0:=hd_ hbx0;clear hbx0;have HD:=hd_ d0;clear d0;have HQ:=hd_ q0;clear q0;go_in;go_wp2_with (first | refine Qe rfl 157 _ _ rfl 157 #[.int .i64 0,.int .i64 0,.slice none 0 0] #[.int .i64 kd,.int .i64 x.tok,.slice (some ⟨b2,o2,none⟩) x.kids.length ck] rfl rfl rfl Q4t (by simp[Value.oneCell']) ?_ | refine Qe rfl 197 _ _ rfl 197 #[.int .i64 0,.string ⟨#[]⟩,.string ⟨#[]⟩,.int .i64 0] #[.int .i64 0,.string ⟨#[]⟩,.string ⟨#[]⟩,.int .i64 0] rfl rfl rfl Q1M (by simp[Value.oneCell']) ?_);obtain ⟨V,hV⟩:∃ V,((((w.alloc (.cells #[.slice at_ t.toks.length ct,.slice (some ⟨b,off,none⟩) t.nodes.length cn] 154)).alloc (.cells #[.int .i64 0,.string ⟨#[]⟩,.string ⟨#[]⟩,.bool false,.slice none 0 0,.bool false,.slice none 0 0,.int .i64 0] 30)).alloc (.cells #[.int .i64 kd,.int .i64 x.tok,.slice (some ⟨b2,o2,none⟩) x.kids.length ck] 157)).alloc (.cells #[.int .i64 0,.string ⟨#[]⟩,.string ⟨#[]⟩,.int .i64 0] 197))=V:=⟨_,rfl⟩
 have d0:V.cell? ⟨b,off+j*3,none⟩=some (.int .i64 yk):=by rw[←hV];exact ((Xh _ _ _).cell (Q8 HD.o)).trans HD.o
 have q0:V.cell? ⟨b2,o2,none⟩=some (.int .i64 (j:Int)):=by rw[←hV];exact ((Xh _ _ _).cell (Q8 HQ.o)).trans HQ.o
 have hb2:b2 < w.heap.size+1+1:=by have:=Q8 HQ.o;rw[←Q5, ←Q5] at this;exact this
 have HH2:∀ (m:Nat) (k:Int),x.kids[m]? =some k→b2 < w.heap.size+1+1∧V.cell? ⟨b2,o2+m,none⟩=some (.int .i64 k):=by
  intro m k hm;obtain ⟨b3,o3,e3,h3⟩:=HH.e m k hm;injection e3 with e3;injection e3 with e3 e4;subst e3 e4;refine ⟨hb2,?_⟩;rw[←hV];exact ((Xh _ _ _).cell (Q8 h3)).trans h3
 rw[hV] at hbx ⊢;clear a0 a1 c0 c1 c2 hV;have a0:=Q3 hbx.1 0 rfl;have a1:=Q3 hbx.1 1 rfl;have n2:=Q3 hbx.2.2.1 2 rfl;have mkS:∀ W:World,Tok4 (w.heap.size+1+1+1) V W→Tok4 (w.heap.size+1+1+1) V W∧W.cell? ⟨w.heap.size,0,none⟩=some (.slice at_ t.toks.length ct)∧W.cell? ⟨w.heap.size,1,none⟩=some (.slice (some ⟨b,off,none⟩) t.nodes.length cn)∧W.cell? ⟨w.heap.size+1+1,2,none⟩=some (.slice (some ⟨b2,o2,none⟩) x.kids.length ck)∧W.cell? ⟨b2,o2,none⟩=some (.int .i64 (j:Int)):=fun W hb=> ⟨hb,(hb.1.cell (show w.heap.size < (w.heap.size+1+1+1) by omega)).trans a0,(hb.1.cell (show w.heap.size < (w.heap.size+1+1+1) by omega)).trans a1,(hb.1.cell (show w.heap.size+1+1 < (w.heap.size+1+1+1) by omega)).trans n2,(hb.1.cell (show b2 < (w.heap.size+1+1+1) by omega)).trans q0⟩;have HV:=hd_ hbx;have HS:=hd_ mkS;have HK:=hd_ HH2;clear hbx mkS HH2 hb2;go_cut [27] from 17 to 27 (fun v27 wc=> Hid (v27= .bool (decide (yk=19)))∧∃ q,wc=V.drewN q)
 case first=>
  go_quiet (fail);go_wp2_with fail;go_meet
  case rel=> exact ⟨hd_ (by first | rfl | simp),_,rfl⟩
 case rest=>
 obtain ⟨hv27,q27,rfl⟩:=hcut;go_wp2_with fail;go_cut [27] from 28 to 33 (fun v27 wc=> TkAt (w.heap.size+1+1+1) V a (w.heap.size+1+1+1) wc)
 case first=>
  by_cases h19:yk=19
  ·have hta:Ax.tk t (j:Int)=some a:=by
    rcases HH.c with ⟨_,h1⟩ | ⟨h1,_⟩
    ·exact h1
    ·exact absurd h19 h1
   have HT:=hd_ hta;clear hta;rw[hv27.out,eM_ h19];have ht0:∀ q,Tok4 (w.heap.size+1+1+1) V (V.drewN q):=fun q=> ⟨U3 (eB_ _ _) q,_,_,_,_,HV.d⟩;have H0:=hd_ ht0;clear ht0;go_wp2_with fail
   trace_state
   go_region_held3 (fun w'=> Tok4 (w.heap.size+1+1+1) V w'∧w'.cell? ⟨w.heap.size,0,none⟩=some (.slice at_ t.toks.length ct)∧w'.cell? ⟨w.heap.size,1,none⟩=some (.slice (some ⟨b,off,none⟩) t.nodes.length cn)∧w'.cell? ⟨w.heap.size+1+1,2,none⟩=some (.slice (some ⟨b2,o2,none⟩) x.kids.length ck)∧w'.cell? ⟨b2,o2,none⟩=some (.int .i64 (j:Int))) (first | exact HS.o _ (H0.o _).drew | exact HS.o _ hb7 | exact HS.o _ (Q5U hb7 _ _ _ _)) ((go_at_call 119;refine eH_ (Yk (HH.a.below (Q35 HV.e (show w.heap.size≤(w.heap.size+1+1+1) by omega) (by assumption))) HT.o) ?_;rintro e w7 ⟨rfl,hc7⟩;have hb7:Tok4 (w.heap.size+1+1+1) V w7:=Q4u hc7 (by assumption);obtain ⟨y0,y1,y2,y3,hz7⟩:=hb7.2;have r0:=Q3 hz7 0 rfl;have r1:=Q3 hz7 1 rfl;have r2:=Q3 hz7 2 rfl;have r3:=Q3 hz7 3 rfl;have f0:=Q6 hz7 0;have f1:=Q6 hz7 1;have f2:=Q6 hz7 2;have f3:=Q6 hz7 3;clear hc7))
   all_goals (
    rename_i hh;clear hh;go_wp2_with fail;go_meet
    case rel=> exact Dr a hb7.1 hz7 rfl (rl_ _))
  ·have hta:a=⟨0, [], [],0⟩:=by
    rcases HH.c with ⟨h1,_⟩ | ⟨_,h1⟩
    ·exact absurd h1 h19
    ·exact h1
   have HT:=hd_ hta;clear hta;rw[hv27.out,eK_ h19];go_wp2_with fail;go_meet
   case rel=> rw[HT.o];exact ⟨HV.d,U3 (eB_ _ _) _,rl_ _⟩
 case rest=>
  obtain ⟨hg6,hb6,_⟩:=hcut;have hw:=HV.e.trans (hb6.mono (show w.heap.size≤(w.heap.size+1+1+1) by omega));have hbox:=(hb6.block _ (show w.heap.size < (w.heap.size+1+1+1) by omega)).trans HV.a;have hres:=(hb6.block _ (show w.heap.size+1 < (w.heap.size+1+1+1) by omega)).trans HV.b;have hnode:=(hb6.block _ (show w.heap.size+1+1 < (w.heap.size+1+1+1) by omega)).trans HV.c;clear a0 a1 n2 q0 d0 hv27;have a0:=Q3 hbox 0 rfl;have a1:=Q3 hbox 1 rfl;have n0:=Q3 hnode 0 rfl;have n2:=Q3 hnode 2 rfl;have t2:=Q3 hg6 2 rfl;have t3:=Q3 hg6 3 rfl;have HC:=h5_ hg6 hb6 hbox hres hw;clear hg6 hb6 hbox hres hw hnode;have hnd:=HH.d;have hkd:=HH.f;unfold Ax.node at hnd;rw[hkd] at hnd;have HN:=hd_ hnd;clear hnd hkd;by_cases h12:kd=12
  ·subst h12;have hnd:=HN.o;rw[if_pos rfl] at hnd;obtain ⟨k1,hx1,hfk⟩:∃ k1,x.kids[1]? =some k1∧f k1=some e:=by
    split at hnd
    ·cases hnd
    ·rename_i k1 hx1;exact ⟨k1,hx1,hnd⟩
   have hk12:(1:Int) < (x.kids.length:Int):=(by have:=(List.getElem?_eq_some_iff.1 hx1).1;omega);have z1:=HK.o 1 k1 hx1;have b1:=(HC.b.cell (show b2 < (w.heap.size+1+1+1) by have:=z1.1;omega)).trans z1.2;have mkS:∀ W:World,Below wc.heap.size wc W→Below wc.heap.size wc W∧W.cell? ⟨w.heap.size,0,none⟩=some (.slice at_ t.toks.length ct)∧W.cell? ⟨w.heap.size,1,none⟩=some (.slice (some ⟨b,off,none⟩) t.nodes.length cn)∧W.cell? ⟨w.heap.size+1+1,2,none⟩=some (.slice (some ⟨b2,o2,none⟩) x.kids.length ck)∧W.cell? ⟨b2,o2+1,none⟩=some (.int .i64 k1):=fun W hb=> ⟨hb,(hb.cell (Q8 a0)).trans a0,(hb.cell (Q8 a1)).trans a1,(hb.cell (Q8 n2)).trans n2,(hb.cell (Q8 b1)).trans b1⟩;have HM:=h2_ hfk mkS;clear hfk mkS z1 b1 hnd hx1;go_wp2_with fail;refine QM (S:=fun w'=> Below wc.heap.size wc w'∧w'.cell? ⟨w.heap.size,0,none⟩=some (.slice at_ t.toks.length ct)∧w'.cell? ⟨w.heap.size,1,none⟩=some (.slice (some ⟨b,off,none⟩) t.nodes.length cn)∧w'.cell? ⟨w.heap.size+1+1,2,none⟩=some (.slice (some ⟨b2,o2,none⟩) x.kids.length ck)∧w'.cell? ⟨b2,o2+1,none⟩=some (.int .i64 k1)) (by simp) (by kernel_rfl) (by kernel_rfl) (HM.B _ ((eB_ _ _).drew)) (fun hHeld=> ?_);simp only[lA_];refine tk_ 0 rfl ?_;(try simp only[Act.put,gP_]);refine tk_ 1 rfl ?_;(try simp only[Act.put,gP_]);refine tk_ 2 rfl ?_;(try simp only[Act.put,gP_]);refine tk_ 3 rfl ?_;(try simp only[Act.put,gP_]);refine tk_ 4 rfl ?_;(try simp only[Act.put,gP_]);refine rd_ 5 rfl (fun KK hKK=> ?_);simp only[gA_];go_simp;refine (HH.b wc.drew HC.E.drew k1 e HM.a).mono ?_;rintro e2 w9 ⟨v9,rfl,hv9,hb9⟩;have hb9:Below wc.heap.size wc w9:=(eB_ _ _).drew.trans hb9;have hres9:=(hb9.block _ (Q4 HC.d)).trans HC.d;have H9:=h3_ hv9 hres9 (HC.E.trans (hb9.mono HC.E.size));clear hv9 hres9;dsimp only;refine hKK.out _ _ (HM.B _ hb9) (fun hHeld=> ?_);clear hKK KK;(try simp only[Act.put,sA_]);refine wpAnyH_done (by kernel_rfl) ?_ _;unfold PeelQ;dsimp only;refine Ja (w0:=w) (w1:=wc) _ _ rfl rfl H9.b rfl rfl H9.a (Q4 HC.d) (show w.heap.size≤w.heap.size+1 by omega) H9.C ?_;rintro W cs hg hs2 hv hb;have HT:=h4_ hg hs2 hv hb;clear hg hs2 hv hb;go_wp2_with fail;refine eG_ (XJ rfl rfl HT.a HT.b) rfl ?_;exact ⟨_,rfl,HT.c,HT.D⟩
  by_cases h10:kd=10
  ·subst h10;have hnd:=HN.o;rw[if_neg (by decide)] at hnd;rw[if_pos rfl] at hnd;have HM:=h2_ hnd (Eq.refl e);clear hnd;go_wp2_with fail;refine (DO (HH.a.below HC.E) (HH.b.past HC.E) HX.o HM.a).mono ?_;rintro e2 w9 ⟨v9,rfl,hv9,hb9⟩;have hres9:=(hb9.block _ (Q4 HC.d)).trans HC.d;have H9:=h3_ hv9 hres9 (HC.E.trans (hb9.mono HC.E.size));clear hv9 hres9 hb9;go_wp2_with (refine QN rfl _ _ rfl rfl H9.b rfl rfl H9.a (Q4 HC.d) (show w.heap.size≤w.heap.size+1 by omega) H9.C ?_;rintro W cs hg hs2 hv hb;have HT:=h4_ hg hs2 hv hb;clear hg hs2 hv hb);refine eG_ (XJ rfl rfl HT.a HT.b) rfl ?_;exact ⟨_,rfl,(by first | exact HT.c | (rw[HM.B];exact HT.c)),HT.D⟩
  by_cases h13:kd=13
  ·subst h13;have hnd:=HN.o;rw[if_neg (by decide)] at hnd;rw[if_neg (by decide)] at hnd;rw[if_pos rfl] at hnd;have HM:=h2_ hnd (Eq.refl e);clear hnd;go_wp2_with fail;refine (Q1Q (HH.a.below HC.E) (HH.b.past HC.E) HX.o HM.a).mono ?_;rintro e2 w9 ⟨v9,rfl,hv9,hb9⟩;have hres9:=(hb9.block _ (Q4 HC.d)).trans HC.d;have H9:=h3_ hv9 hres9 (HC.E.trans (hb9.mono HC.E.size));clear hv9 hres9 hb9;go_wp2_with (refine QN rfl _ _ rfl rfl H9.b rfl rfl H9.a (Q4 HC.d) (show w.heap.size≤w.heap.size+1 by omega) H9.C ?_;rintro W cs hg hs2 hv hb;have HT:=h4_ hg hs2 hv hb;clear hg hs2 hv hb);refine eG_ (XJ rfl rfl HT.a HT.b) rfl ?_;exact ⟨_,rfl,(by first | exact HT.c | (rw[HM.B];exact HT.c)),HT.D⟩
  by_cases h11:kd=11
  ·subst h11;have hnd:=HN.o;rw[if_neg (by decide)] at hnd;rw[if_neg (by decide)] at hnd;rw[if_neg (by decide)] at hnd;rw[if_pos rfl] at hnd;have he:=U2 a.text [110,111,116];have he2:=QC a.text [110,111,116];by_cases hno:a.text= [110,111,116]
   ·rw[if_pos hno] at hnd;rw[eM_ hno] at he he2;obtain ⟨es,hm,hex⟩:=Zf hnd;have HM:=h2_ hm hex;clear hm hex hnd hno;go_wp2_with fail;refine (Xy (HH.a.below HC.E) (HH.b.past HC.E) HM.a).mono ?_;rintro e2 w9 ⟨v9,rfl,hv9,hb9⟩;have hres9:=(hb9.block _ (Q4 HC.d)).trans HC.d;have H9:=h3_ hv9 hres9 (HC.E.trans (hb9.mono HC.E.size));clear hv9 hres9 hb9;go_wp2_with (refine QN rfl _ _ rfl rfl H9.b rfl rfl H9.a (Q4 HC.d) (show w.heap.size≤w.heap.size+1 by omega) H9.C ?_;rintro W cs hg hs2 hv hb;have HT:=h4_ hg hs2 hv hb;clear hg hs2 hv hb);refine eG_ (XJ rfl rfl HT.a HT.b) rfl ?_;exact ⟨_,rfl,(by first | exact HT.c | (rw[HM.B];exact HT.c)),HT.D⟩
   ·rw[if_neg hno] at hnd;rw[eK_ hno] at he he2;obtain ⟨es,hm,hex⟩:=Zf hnd;have HM:=h2_ hm hex;clear hm hex hnd hno;go_wp2_with fail;refine (Xy (HH.a.below HC.E) (HH.b.past HC.E) HM.a).mono ?_;rintro e2 w9 ⟨v9,rfl,hv9,hb9⟩;have hres9:=(hb9.block _ (Q4 HC.d)).trans HC.d;have H9:=h3_ hv9 hres9 (HC.E.trans (hb9.mono HC.E.size));clear hv9 hres9 hb9;go_wp2_with (refine QN rfl _ _ rfl rfl H9.b rfl rfl H9.a (Q4 HC.d) (show w.heap.size≤w.heap.size+1 by omega) H9.C ?_;rintro W cs hg hs2 hv hb;have HT:=h4_ hg hs2 hv hb;clear hg hs2 hv hb);refine eG_ (XJ rfl rfl HT.a HT.b) rfl ?_;exact ⟨_,rfl,(by first | exact HT.c | (rw[HM.B];exact HT.c)),HT.D⟩
  by_cases h8:kd=8
  ·subst h8;have hnd:=HN.o;rw[if_neg (by decide)] at hnd;rw[if_neg (by decide)] at hnd;rw[if_neg (by decide)] at hnd;rw[if_neg (by decide)] at hnd;rw[if_pos rfl] at hnd;obtain ⟨es,hm,hex⟩:=Zf hnd;have HM:=h2_ hm hex;clear hm hex hnd;go_wp2_with fail;refine (Xy (HH.a.below HC.E) (HH.b.past HC.E) HM.a).mono ?_;rintro e2 w9 ⟨v9,rfl,hv9,hb9⟩;have hres9:=(hb9.block _ (Q4 HC.d)).trans HC.d;have H9:=h3_ hv9 hres9 (HC.E.trans (hb9.mono HC.E.size));clear hv9 hres9 hb9;go_wp2_with (refine QN rfl _ _ rfl rfl H9.b rfl rfl H9.a (Q4 HC.d) (show w.heap.size≤w.heap.size+1 by omega) H9.C ?_;rintro W cs hg hs2 hv hb;have HT:=h4_ hg hs2 hv hb;clear hg hs2 hv hb);refine eG_ (XJ rfl rfl HT.a HT.b) rfl ?_;exact ⟨_,rfl,(by first | exact HT.c | (rw[HM.B];exact HT.c)),HT.D⟩
  by_cases h9:kd=9
  ·subst h9;have hnd:=HN.o;rw[if_neg (by decide)] at hnd;rw[if_neg (by decide)] at hnd;rw[if_neg (by decide)] at hnd;rw[if_neg (by decide)] at hnd;rw[if_neg (by decide)] at hnd;rw[if_pos rfl] at hnd;obtain ⟨es,hm,hex⟩:=Zf hnd;have HM:=h2_ hm hex;clear hm hex hnd;go_wp2_with fail;refine (Xy (HH.a.below HC.E) (HH.b.past HC.E) HM.a).mono ?_;rintro e2 w9 ⟨v9,rfl,hv9,hb9⟩;have hres9:=(hb9.block _ (Q4 HC.d)).trans HC.d;have H9:=h3_ hv9 hres9 (HC.E.trans (hb9.mono HC.E.size));clear hv9 hres9 hb9;go_wp2_with (refine QN rfl _ _ rfl rfl H9.b rfl rfl H9.a (Q4 HC.d) (show w.heap.size≤w.heap.size+1 by omega) H9.C ?_;rintro W cs hg hs2 hv hb;have HT:=h4_ hg hs2 hv hb;clear hg hs2 hv hb);refine eG_ (XJ rfl rfl HT.a HT.b) rfl ?_;exact ⟨_,rfl,(by first | exact HT.c | (rw[HM.B];exact HT.c)),HT.D⟩
  by_cases h7:kd=7
  ·subst h7;exact absurd HH.f H7.o
  by_cases h15:kd=15
  ·subst h15;have hnd:=HN.o;rw[if_neg (by decide)] at hnd;rw[if_neg (by decide)] at hnd;rw[if_neg (by decide)] at hnd;rw[if_neg (by decide)] at hnd;rw[if_neg (by decide)] at hnd;rw[if_neg (by decide)] at hnd;rw[if_neg (by decide)] at hnd;rw[if_pos rfl] at hnd;injection hnd with hnd;have hlt:a.text.length≤1073741824:=by
    rcases HH.c with ⟨_,h1⟩ | ⟨_,h1⟩
    ·obtain ⟨_,m,_,_,h2⟩:=Q70 h1;exact HH.g a (eP_ h2)
    ·rw[h1];decide
   have HM:=h2_ hnd.symm hlt;clear hnd hlt;go_wp2_with fail;refine (Q08 a.text HM.B wc).mono ?_;rintro e2 w9 ⟨⟨v9,rfl,s9,rfl,hu9⟩,hb9⟩;obtain ⟨z,hz⟩:∃ z,(Zp.parse a.text).1=z:=⟨_,rfl⟩
   obtain ⟨ok9,hok⟩:∃ z,(Zp.parse a.text).2=z:=⟨_,rfl⟩
   rw[hz] at hu9;rw[hz,hok];obtain ⟨nb,hnb⟩:∃ nb,decide (z < 0)=nb:=⟨_,rfl⟩
   rw[hnb];obtain ⟨a9,c9,rfl⟩:=RdS.form hu9;obtain ⟨W10,hW10⟩:∃ W10,w9.alloc (.cells #[.bool nb,.slice a9 (wd z).length c9] 27)=W10:=⟨_,rfl⟩
   have hb10:Below wc.heap.size wc W10:=(by rw[←hW10];exact hb9.alloc hb9.size _);have hr10:W10.heap[w9.heap.size]? =some (.cells #[.bool nb,.slice a9 (wd z).length c9] 27 (0,0)):=(by rw[←hW10];exact eD_ _ _);have hu10:RdU W10 (.slice a9 (wd z).length c9) (wd z):=(by rw[←hW10];exact RdU.below hu9 (Qn _ _));have hres10:=(hb10.block _ (Q4 HC.d)).trans HC.d;have ht10:=(hb10.block _ (Q4 HC.a)).trans HC.a;have t13:=Q3 ht10 3 rfl;have k0:=Q3 hr10 0 rfl;have k1:=Q3 hr10 1 rfl;rw[←hW10] at t13;have H9:=h6_ hres10 hu10 (HC.E.trans (hb10.mono HC.E.size)) hW10 hz hnb;clear hres10 hu10 hb10 hb9 hu9 hz hok hnb ht10 hr10 k0 k1 hW10;dsimp only;go_wp2_with (first | refine Qe rfl 27 _ _ rfl 27 #[.bool false,.slice none 0 0] #[.bool nb,.slice a9 (wd z).length c9] rfl rfl rfl JG (by simp[Value.oneCell']) ?_ | (rw[H9.d];refine Qf rfl _ _ _ rfl 30 (w.heap.size+1) #[.int .i64 0,.string ⟨#[]⟩,.string ⟨#[]⟩,.bool false,.slice none 0 0,.bool false,.slice none 0 0,.int .i64 0] #[.int .i64 1,.string ⟨#[]⟩,.string ⟨#[]⟩,.bool nb,.slice a9 (wd z).length c9,.bool false,.slice none 0 0,.int .i64 a.pos] rfl H9.a rfl rfl QY (by simp[Value.oneCell']) ?_));refine eG_ (XJ rfl rfl (Qb H9.a) rfl) rfl ?_;exact ⟨_,rfl,⟨[.int .i64 1,.string ⟨#[]⟩,.string ⟨#[]⟩,.bool nb,.slice a9 (wd z).length c9,.bool false,.slice none 0 0,.int .i64 a.pos],rfl,by rw[HM.a,H9.e, ←H9.F];exact ZE (RdB.frt H9.b (Qg H9.a) (by decide))⟩,Qc H9.c (by omega) _⟩
  by_cases h16:kd=16
  ·subst h16;have hnd:=HN.o;rw[if_neg (by decide)] at hnd;rw[if_neg (by decide)] at hnd;rw[if_neg (by decide)] at hnd;rw[if_neg (by decide)] at hnd;rw[if_neg (by decide)] at hnd;rw[if_neg (by decide)] at hnd;rw[if_neg (by decide)] at hnd;rw[if_neg (by decide)] at hnd;rw[if_pos rfl] at hnd;injection hnd with hnd;obtain ⟨d,hd⟩:∃ d,decide (a.text= [116,114,117,101])=d:=⟨_,rfl⟩
   have he:=U2 a.text [116,114,117,101];have he2:=QC a.text [116,114,117,101];rw[hd] at he he2;rw[he2] at hnd;have HM:=hd_ hnd.symm;clear hnd hd;go_wp2_with (refine Qf rfl _ _ _ rfl 30 (w.heap.size+1) #[.int .i64 0,.string ⟨#[]⟩,.string ⟨#[]⟩,.bool false,.slice none 0 0,.bool false,.slice none 0 0,.int .i64 0] #[.int .i64 2,.string ⟨#[]⟩,.string ⟨#[]⟩,.bool false,.slice none 0 0,.bool d,.slice none 0 0,.int .i64 a.pos] rfl HC.d rfl rfl QY (by simp[Value.oneCell']) ?_);refine eG_ (XJ rfl rfl (Qb HC.d) rfl) rfl ?_;exact ⟨_,rfl,⟨[.int .i64 2,.string ⟨#[]⟩,.string ⟨#[]⟩,.bool false,.slice none 0 0,.bool d,.slice none 0 0,.int .i64 a.pos],rfl,by rw[HM.o];exact ZE (ZF _)⟩,Qc HC.E (by omega) _⟩
  by_cases h17:kd=17
  ·subst h17;have hnd:=HN.o;rw[if_neg (by decide)] at hnd;rw[if_neg (by decide)] at hnd;rw[if_neg (by decide)] at hnd;rw[if_neg (by decide)] at hnd;rw[if_neg (by decide)] at hnd;rw[if_neg (by decide)] at hnd;rw[if_neg (by decide)] at hnd;rw[if_neg (by decide)] at hnd;rw[if_neg (by decide)] at hnd;rw[if_pos rfl] at hnd;injection hnd with hnd;have HM:=hd_ hnd.symm;clear hnd;go_wp2_with (refine Qf rfl _ _ _ rfl 30 (w.heap.size+1) #[.int .i64 0,.string ⟨#[]⟩,.string ⟨#[]⟩,.bool false,.slice none 0 0,.bool false,.slice none 0 0,.int .i64 0] #[.int .i64 4,.string ⟨#[]⟩,.string ⟨#[]⟩,.bool false,.slice none 0 0,.bool false,.slice none 0 0,.int .i64 a.pos] rfl HC.d rfl rfl QY (by simp[Value.oneCell']) ?_);refine eG_ (XJ rfl rfl (Qb HC.d) rfl) rfl ?_;exact ⟨_,rfl,⟨[.int .i64 4,.string ⟨#[]⟩,.string ⟨#[]⟩,.bool false,.slice none 0 0,.bool false,.slice none 0 0,.int .i64 a.pos],rfl,by rw[HM.o];exact ZE (ZF _)⟩,Qc HC.E (by omega) _⟩
  have hnd:=HN.o;rw[if_neg h12] at hnd;rw[if_neg h10] at hnd;rw[if_neg h13] at hnd;rw[if_neg h11] at hnd;rw[if_neg h8] at hnd;rw[if_neg h9] at hnd;rw[if_neg h7] at hnd;rw[if_neg h15] at hnd;rw[if_neg h16] at hnd;rw[if_neg h17] at hnd;injection hnd with hnd;have HM:=hd_ hnd.symm;clear hnd;go_wp2_with (refine Qf rfl _ _ _ rfl 30 (w.heap.size+1) #[.int .i64 0,.string ⟨#[]⟩,.string ⟨#[]⟩,.bool false,.slice none 0 0,.bool false,.slice none 0 0,.int .i64 0] #[.int .i64 3,.string ⟨a.text.toArray⟩,.string ⟨#[]⟩,.bool false,.slice none 0 0,.bool false,.slice none 0 0,.int .i64 a.pos] rfl HC.d rfl rfl QY (by simp[Value.oneCell']) ?_);refine eG_ (XJ rfl rfl (Qb HC.d) rfl) rfl ?_;exact ⟨_,rfl,⟨[.int .i64 3,.string ⟨a.text.toArray⟩,.string ⟨#[]⟩,.bool false,.slice none 0 0,.bool false,.slice none 0 0,.int .i64 a.pos],rfl,by rw[HM.o];exact ZE (ZF _)⟩,Qc HC.E (by omega) _⟩
theorem G4 {w:World} {P:Nat→Prop} {vt vn:Value} {t:Tr.T} (h:TrR w P vt vn t) (htx:∀ k∈t.toks,k.text.length≤1073741824) (h7:∀ x∈t.nodes,x.kind≠7):∀ g,KnowsE w vt vn (Ax.expr t g)
 | 0=> fun W hW n x hx=> by rw[Ax.expr] at hx;cases hx
 | g+1=> fun W hW n e hx=> by
  unfold Ax.expr at hx;split at hx
  ·cases hx
  ·rename_i x hn;split at hx
   ·cases hx
   ·rename_i a ha;exact Q36 (h.below hW) htx ((G4 h htx h7 g).past hW) hn ha hx (h7 x (Q5P hn))
theorem liesW:liesAt prog prog.depth 204 (2 / prog.cellsOf 204) 0 108 1=true:=by kernel_rfl
theorem Q37:prog.cellsOf 5=1:=by kernel_rfl
theorem Q5V (b:Nat) (w:World) (h0:w.cell? ⟨b,0,none⟩=some (.pointer none)) (hsh:w.shape? b=some (204,2)) (hfz:w.frozen? ⟨b,0,none⟩=false):
  Calls prog 91 #[.pointer (some ⟨b,0,none⟩)] w fun e w'=> e= .returned (.tuple #[])∧w'=w.setCell ⟨b,0,none⟩ (.pointer (some ⟨b,0,none⟩)):=by
 obtain ⟨j,hj,hjs⟩:=Option.map_eq_some_iff.1 sizeB;go_in;go_wp2;rw[Lib.run_to_unsafe w ⟨b,0,none⟩ underlying105 underlying211 hj (by rw[hjs];decide) hsh (Nat.zero_lt_succ 1)];simp only[Result.andThen];rw[Oper.upon_value];go_wp2;rw[run_callFunc_extern Tryz.func132 (by kernel_rfl) (by kernel_rfl) (by kernel_rfl) (e:=Extern.AbiNoEscape.same) (by kernel_rfl)];rw[Lib.run_noEscape];simp only[Result.andThen];rw[Oper.upon_value];go_wp2;rw[Lib.run_from_unsafe w ⟨b,0,none⟩ underlying211 underlying105 hj hsh liesW];simp only[Result.andThen];rw[Oper.upon_value];go_wp2;go_end0;exact ⟨rfl,rfl⟩
theorem Q5W (B b:Nat) (bs:List Value) (w:World) (h:Lib.IsBuilder 204 5 B b bs w):
  Calls prog 91 #[.pointer (some ⟨b,0,none⟩)] w fun e w'=> e= .returned (.tuple #[])∧(Lib.BuilderAt 204 5 B b (.pointer (some ⟨b,0,none⟩)) bs w'∧Below B w w'∧NB b w w'):=by
 rcases h with h | h
 ·refine (Q5V b w h.cell0 h.shape h.frozen0).mono ?_;rintro e w' ⟨rfl,rfl⟩;exact ⟨rfl,h.used _,(eB_ B w).setCell (p:=⟨b,0,none⟩) h.1 _,NB.setCell _ _⟩
 ·refine (GA b w h.cell0).mono ?_;rintro e w' ⟨rfl,rfl⟩;exact ⟨rfl,h,eB_ B _,NB.refl _ _⟩
theorem Q7j (B b:Nat) (bs:List Value) (s:ByteArray) (w:World) (h:Lib.IsBuilder 204 5 B b bs w) (hlen:bs.length+s.size≤140737488355328) (hBw:B≤w.heap.size):
  Calls prog 48 #[.pointer (some ⟨b,0,none⟩),.string s] w fun e w'=> e= .returned (.tuple #[.int .i64 s.size,.nilIface])∧(Lib.IsBuilder 204 5 B b (bs++Lib.strCells s) w'∧Below B w w'∧NB b w w'):=by
 obtain ⟨i0,hi,hz0,hz1,hz2⟩:=Qv La;go_in;go_wp2_with (go_at_call 91;refine (Q5W B b bs _ h).mono ?_);rintro e w1 ⟨rfl,h1,hb1,hnb1⟩;have HNB1:=hd_ hnb1;clear hnb1;obtain ⟨hB,v,hbk,hown,hne⟩:=h1;have c0:w1.cell? ⟨b,0,none⟩=some (.pointer (some ⟨b,0,none⟩)):=by rw[Lib.cell_of_heap hbk];rfl
 have c1:w1.cell? ⟨b,1,none⟩=some v:=by rw[Lib.cell_of_heap hbk];rfl
 go_wp2_with (at_builtin;refine Lib.wpList_append_own_string _ rfl _ _ 106 9 rfl B 5 i0 underlying106 underlying9 hi hz0 hz1 hz2 _ _ _ rfl hown s rfl ?c3 ?c4 ?c5 ?_)
 case c3=> unfold maxLen;omega
 case c4=> omega
 case c5=> have:=hb1.size;omega
 intro v' w2 hown' hgrow _;have hlt:b < w1.heap.size:=by
  rcases eS_ b w1.heap.size with h' | h'
  ·exact h'
  ·simp[Array.getElem?_eq_none h'] at hbk
 have hb2:w2.heap[b]? =some (.cells #[.pointer (some ⟨b,0,none⟩),v] 204 (0,0)):=by
  rw[hgrow.block b hlt (fun e=> hne e.symm)];exact hbk
 have d0:w2.cell? ⟨b,0,none⟩=some (.pointer (some ⟨b,0,none⟩)):=by rw[Lib.cell_of_heap hb2];rfl
 have d1:w2.cell? ⟨b,1,none⟩=some v:=by rw[Lib.cell_of_heap hb2];rfl
 have f1:w2.frozen? ⟨b,1,none⟩=false:=Lib.frozen_of_heap hb2 1;obtain ⟨ao,n',cap,rfl⟩:∃ ao n' cap,v'= .slice ao n' cap:=by
  rcases hown'.2 with ⟨hv,_⟩ | ⟨g,cap,cur,hv,_⟩
  ·exact ⟨_,_,_,hv⟩
  ·exact ⟨_,_,_,hv⟩
 go_wp2;go_ret2;refine ⟨rfl,?_,?_,(HNB1.o.trans (NB.grown hgrow hown)).trans (NB.setCell _ _)⟩
 ·exact Or.inr (Lib.BuilderAt.put (T:=204) (e:=5) hB hb2 (bs':=bs++Lib.strCells s) (by simpa [Lib.strCells_length] using hown') (by decide))
 ·exact (hb1.grown hgrow (by have:=hb1.size;omega) (fun k hk=> (hown.lt k hk).1)).setCell (p:=⟨b,1,none⟩) hB _
theorem wrs (B b:Nat) (l:List UInt8) (w:World) (h:Lib.IsBuilder 204 5 B b (Lib.byteCells l) w) (h0:l≠ []):
  Calls prog 49 #[.pointer (some ⟨b,0,none⟩)] w fun e w'=> e= .returned (.string ⟨l.toArray⟩)∧Below B w w':=by
 obtain ⟨p,hB,v,hbk,hown,hne⟩:∃ p,Lib.BuilderAt 204 5 B b p (Lib.byteCells l) w:=by
  rcases h with h | h
  ·exact ⟨_,h⟩
  ·exact ⟨_,h⟩
 have hl0:l.length≠0:=by simpa using h0
 rw[Lib.byteCells_length] at hown;obtain ⟨g,cap,cur,rfl,hbg,hg,hnc,hcm,hcs,htake⟩:∃ g cap cur,v= .slice (some ⟨g,0,none⟩) l.length cap∧B≤g∧w.heap[g]? =some (.cells cur 5 (0,0))∧l.length≤cap∧cap≤maxLen∧cur.size=cap*1∧cur.toList.take (l.length*1)=Lib.byteCells l:=by
  rcases hown.2 with ⟨_,hz⟩ | ⟨g,cap,cur,hv,r⟩
  ·exact absurd hz hl0
  ·exact ⟨g,cap,cur,hv,r⟩
 have c1:w.drew.cell? ⟨b,1,none⟩=some (.slice (some ⟨g,0,none⟩) l.length cap):=by
  have:w.drew.heap[b]? =some (.cells #[p,.slice (some ⟨g,0,none⟩) l.length cap] 204 (0,0)):=hbk;rw[Lib.cell_of_heap this];rfl
 have hSD:(Builtin.unsafeSliceData_ #[106] 167 #[.slice (some ⟨g,0,none⟩) l.length cap]).run prog w.drew= .ok (.pointer (some ⟨g,0,none⟩)) w.drew:=
  Lib.run_unsafeSliceData_row _ _ _ _ _ _ (by omega)
 have hUS:(Builtin.unsafeString_ #[167,3] 9 #[.pointer (some ⟨g,0,none⟩),.int .i64 l.length]).run prog w.drew= .ok (.string ⟨l.toArray⟩) (w.drew.freeze ⟨g,0,none⟩ l.length):=by
  refine Lib.run_unsafeString_row w.drew 167 3 9 5 underlying167 Q37 g cur.size (by have hg':w.drew.heap[g]? =some (.cells cur 5 (0,0)):=hg;simp[World.shape?,hg']) l h0 (by omega) (by unfold maxLen at hcm;omega) ?_;intro j x hx;have:=hown.cells (g:=g) rfl j (.int .u8 x.toNat) (by simp[Lib.byteCells,hx]);exact this
 go_in;go_wp2;go_region
 all_goals (go_wp2;go_ret;exact ⟨rfl,Lib.below_freeze (Below.drew (eB_ B w)) (p:=⟨g,0,none⟩) hbg _⟩)
theorem UH (W:World) (q:Option Addr):(Builtin.unsafeString_ #[167,3] 9 #[.pointer q,.int .i64 0]).run prog W= .ok (.string .empty) W:=
 Lib.run_unsafeString_none W _ _ _ q
theorem Q6Q (B b:Nat) (p:Value) (w:World) (hbk:w.heap[b]? =some (.cells #[p,.slice none 0 0] 204 (0,0))):
  Calls prog 49 #[.pointer (some ⟨b,0,none⟩)] w fun e w'=> e= .returned (.string ⟨#[]⟩)∧Below B w w':=by
 have hUS:=UH;have c1:w.drew.cell? ⟨b,1,none⟩=some (.slice none 0 0):=by
  have:w.drew.heap[b]? =some (.cells #[p,.slice none 0 0] 204 (0,0)):=hbk;rw[Lib.cell_of_heap this];rfl
 have hSD:(Builtin.unsafeSliceData_ #[106] 167 #[.slice none 0 0]).run prog w.drew= .ok (.pointer none) w.drew:=rfl;go_in;go_wp2;go_region
 all_goals (go_wp2;go_ret;exact ⟨rfl,Below.drew (eB_ B w)⟩)
theorem Q38 (B b g:Nat) (p:Value) (cur:Array Value) (w:World) (hBw:B≤w.heap.size) (hbk:w.heap[b]? =some (.cells #[p,.slice (some ⟨g,0,none⟩) 0 0] 204 (0,0))) (hg:w.heap[g]? =some (.cells cur 5 (0,0))):
  Calls prog 49 #[.pointer (some ⟨b,0,none⟩)] w fun e w'=> e= .returned (.string ⟨#[]⟩)∧Below B w w':=by
 have hUS:=UH;have hlt:b < w.heap.size:=by
  rcases eS_ b w.heap.size with h' | h'
  ·exact h'
  ·simp[Array.getElem?_eq_none h'] at hbk
 have c1:w.drew.cell? ⟨b,1,none⟩=some (.slice (some ⟨g,0,none⟩) 0 0):=by
  have:w.drew.heap[b]? =some (.cells #[p,.slice (some ⟨g,0,none⟩) 0 0] 204 (0,0)):=hbk;rw[Lib.cell_of_heap this];rfl
 have hSD:(Builtin.unsafeSliceData_ #[106] 167 #[.slice (some ⟨g,0,none⟩) 0 0]).run prog w.drew= .ok (.pointer (some ⟨w.drew.heap.size,0,none⟩)) (w.drew.alloc (.view ⟨g,0,none⟩ 5)):=
  Lib.run_unsafeSliceData_zero w.drew _ _ 5 underlying167 ⟨g,0,none⟩ 0 (5,cur.size) (by have hg':w.drew.heap[g]? =some (.cells cur 5 (0,0)):=hg;simp[World.shape?,hg'])
 have c2:(w.drew.alloc (.view ⟨g,0,none⟩ 5)).cell? ⟨b,1,none⟩=some (.slice (some ⟨g,0,none⟩) 0 0):=by
  have:(w.drew.alloc (.view ⟨g,0,none⟩ 5)).heap[b]? =_:=(Lib.alloc_old w.drew _ b hlt).trans hbk;rw[Lib.cell_of_heap this];rfl
 have c3:(w.alloc (.view ⟨g,0,none⟩ 5)).drew.cell? ⟨b,1,none⟩=some (.slice (some ⟨g,0,none⟩) 0 0):=c2;have c0:w.cell? ⟨b,1,none⟩=some (.slice (some ⟨g,0,none⟩) 0 0):=c1;go_in;go_wp2;go_region
 all_goals (go_wp2;go_ret;exact ⟨rfl,(Below.drew (eB_ B w)).alloc hBw _⟩)
theorem Q5X (B b g cap:Nat) (p:Value) (w:World) (hc0:cap≠0) (hbk:w.heap[b]? =some (.cells #[p,.slice (some ⟨g,0,none⟩) 0 cap] 204 (0,0))):
  Calls prog 49 #[.pointer (some ⟨b,0,none⟩)] w fun e w'=> e= .returned (.string ⟨#[]⟩)∧Below B w w':=by
 have hUS:=UH;have c1:w.drew.cell? ⟨b,1,none⟩=some (.slice (some ⟨g,0,none⟩) 0 cap):=by
  have:w.drew.heap[b]? =some (.cells #[p,.slice (some ⟨g,0,none⟩) 0 cap] 204 (0,0)):=hbk;rw[Lib.cell_of_heap this];rfl
 have hSD:(Builtin.unsafeSliceData_ #[106] 167 #[.slice (some ⟨g,0,none⟩) 0 cap]).run prog w.drew= .ok (.pointer (some ⟨g,0,none⟩)) w.drew:=
  Lib.run_unsafeSliceData_row _ _ _ _ _ _ hc0
 clear hc0;go_in;go_wp2;go_region
 all_goals (go_wp2;go_ret;exact ⟨rfl,Below.drew (eB_ B w)⟩)
theorem Q4v (B b:Nat) (w:World) (h:Lib.IsBuilder 204 5 B b [] w) (hBw:B≤w.heap.size):
  Calls prog 49 #[.pointer (some ⟨b,0,none⟩)] w fun e w'=> e= .returned (.string ⟨#[]⟩)∧Below B w w':=by
 obtain ⟨p,hB,v,hbk,hown,hne⟩:∃ p,Lib.BuilderAt 204 5 B b p [] w:=by
  rcases h with h | h
  ·exact ⟨_,h⟩
  ·exact ⟨_,h⟩
 rcases hown.2 with ⟨rfl,_⟩ | ⟨g,cap,cur,rfl,hbg,hg,_,_,_,_⟩
 ·exact Q6Q B b p w hbk
 ·by_cases hc0:cap=0
  ·subst hc0;exact Q38 B b g p cur w hBw hbk hg
  ·exact Q5X B b g cap p w hc0 hbk
theorem Q6R (B b:Nat) (l:List UInt8) (w:World) (h:Lib.IsBuilder 204 5 B b (Lib.byteCells l) w) (hBw:B≤w.heap.size):
  Calls prog 49 #[.pointer (some ⟨b,0,none⟩)] w fun e w'=> e= .returned (.string ⟨l.toArray⟩)∧Below B w w':=by
 cases l with
 | nil=> exact Q4v B b w h hBw
 | cons x r=> exact wrs B b (x::r) w h (by simp)
def IsW (w:World) (B b:Nat) (l:List UInt8):Prop:=Lib.IsBuilder 204 5 B b (Lib.byteCells l) w
theorem Ds (B b:Nat) (l:List UInt8) (w:World) (h:IsW w B b l) (hBw:B≤w.heap.size):
  Calls prog 49 #[.pointer (some ⟨b,0,none⟩)] w fun e w'=> e= .returned (.string ⟨l.toArray⟩)∧Below B w w':=Q6R B b l w h hBw
theorem IsW.lt (h:IsW w B b l):b < w.heap.size∧B≤b:=by
 rcases h with ⟨h1,v,h2,_⟩ | ⟨h1,v,h2,_⟩
 ·exact ⟨Zr h2,h1⟩
 ·exact ⟨Zr h2,h1⟩
theorem IsW.below (h:IsW w B b l) (hb:Below w.heap.size w w'):IsW w' B b l:=X5 h hb
theorem Q4w {pre:List UInt8} (h:IsW w B b pre) (l:List UInt8) (hl:pre.length+l.length≤1073741824) (hB:B≤w.heap.size):
  Calls prog 48 #[.pointer (some ⟨b,0,none⟩),.string ⟨l.toArray⟩] w fun e w'=> (∃ n,e= .returned (.tuple #[.int .i64 n,.nilIface]))∧IsW w' B b (pre++l)∧Below B w w'∧NB b w w':=by
 have hs:(⟨l.toArray⟩:ByteArray).size=l.length:=by simp[ByteArray.size]
 refine (Q7j B b (Lib.byteCells pre) ⟨l.toArray⟩ w h (by rw[Lib.byteCells_length,hs];omega) hB).mono ?_;rintro e w' ⟨rfl,h1,h2,h3⟩;refine ⟨⟨_,rfl⟩,?_,h2,h3⟩;unfold IsW;rw[Lib.byteCells_append];exact h1
theorem UI:(prog.info? 245).map (·.size)=some 4:=by kernel_rfl
theorem Q1R (a b c:Int) (s:ByteArray) (w:World):(Instr.field 245 (.agg #[.int .i64 a,.int .i64 b,.int .i64 c,.string s]) 0).run prog w= .ok (.int .i64 a) w:=by kernel_rfl
def FormV (v:Value):Prop:=∃ (a b c:Int) (s:List UInt8),v= .agg #[.int .i64 a,.int .i64 b,.int .i64 c,.string ⟨s.toArray⟩]∧s.length≤2
theorem Q7d {op:Int} (h1:7≤op) (h2:op≤20):∃ (a b c:Int) (s:List UInt8),s.length≤2∧∀ w,(Instr.index 269 (.agg #[.int .i64 6,.int .i64 6,.int .i64 7,.string ⟨#[43]⟩,.int .i64 6,.int .i64 6,.int .i64 7,.string ⟨#[45]⟩,.int .i64 7,.int .i64 7,.int .i64 8,.string ⟨#[42]⟩,.int .i64 7,.int .i64 7,.int .i64 8,.string ⟨#[47]⟩,.int .i64 7,.int .i64 7,.int .i64 8,.string ⟨#[37]⟩,.int .i64 5,.int .i64 6,.int .i64 6,.string ⟨#[61]⟩,.int .i64 5,.int .i64 6,.int .i64 6,.string ⟨#[60,62]⟩,.int .i64 5,.int .i64 6,.int .i64 6,.string ⟨#[60]⟩,.int .i64 5,.int .i64 6,.int .i64 6,.string ⟨#[60,61]⟩,.int .i64 5,.int .i64 6,.int .i64 6,.string ⟨#[62]⟩,.int .i64 5,.int .i64 6,.int .i64 6,.string ⟨#[62,61]⟩,.int .i64 3,.int .i64 3,.int .i64 4,.string ⟨#[38,38]⟩,.int .i64 2,.int .i64 2,.int .i64 3,.string ⟨#[124,124]⟩,.int .i64 1,.int .i64 2,.int .i64 1,.string ⟨#[61,62]⟩]) (.int .i64 (op - 7))).run prog w= .ok (.agg #[.int .i64 a,.int .i64 b,.int .i64 c,.string ⟨s.toArray⟩]) w:=by
 have hop:op=7∨op=8∨op=9∨op=10∨op=11∨op=12∨op=13∨op=14∨op=15∨op=16∨op=17∨op=18∨op=19∨op=20:=by omega
 rcases hop with rfl | rfl | rfl | rfl | rfl | rfl | rfl | rfl | rfl | rfl | rfl | rfl | rfl | rfl
 ·exact ⟨6,6,7, [43],by decide,fun w=> by kernel_rfl⟩
 ·exact ⟨6,6,7, [45],by decide,fun w=> by kernel_rfl⟩
 ·exact ⟨7,7,8, [42],by decide,fun w=> by kernel_rfl⟩
 ·exact ⟨7,7,8, [47],by decide,fun w=> by kernel_rfl⟩
 ·exact ⟨7,7,8, [37],by decide,fun w=> by kernel_rfl⟩
 ·exact ⟨5,6,6, [61],by decide,fun w=> by kernel_rfl⟩
 ·exact ⟨5,6,6, [60,62],by decide,fun w=> by kernel_rfl⟩
 ·exact ⟨5,6,6, [60],by decide,fun w=> by kernel_rfl⟩
 ·exact ⟨5,6,6, [60,61],by decide,fun w=> by kernel_rfl⟩
 ·exact ⟨5,6,6, [62],by decide,fun w=> by kernel_rfl⟩
 ·exact ⟨5,6,6, [62,61],by decide,fun w=> by kernel_rfl⟩
 ·exact ⟨3,3,4, [38,38],by decide,fun w=> by kernel_rfl⟩
 ·exact ⟨2,2,3, [124,124],by decide,fun w=> by kernel_rfl⟩
 ·exact ⟨1,2,1, [61,62],by decide,fun w=> by kernel_rfl⟩
theorem LD {op:Int} (h1:7≤op) (h2:op≤20):Calls prog 171 #[.int .i64 op] w fun e w'=> ∃ v,e= .returned v∧FormV v∧Below w.heap.size w w':=by
 obtain ⟨a,b,c,s,hs,hix⟩:=Q7d h1 h2;have hwr:IntKind.i64.wrap (op - 7)=op - 7:=by rw[IntKind.wrap_i64];omega
 have HS:=hd_ hs;clear h1 h2 hs;go_in;go_wp2_with (refine Qe rfl 245 _ _ rfl 245 #[.int .i64 0,.int .i64 0,.int .i64 0,.string ⟨#[]⟩] #[.int .i64 a,.int .i64 b,.int .i64 c,.string ⟨s.toArray⟩] rfl rfl rfl UI (by simp[Value.oneCell']) ?_);refine eG_ (eY_ rfl _ _ w.heap.size 245 #[.int .i64 a,.int .i64 b,.int .i64 c,.string ⟨s.toArray⟩] (0,0) _ rfl (eD_ _ _) underlying245 rfl UI) rfl ?_;exact ⟨_,rfl,⟨_,_,_,s,rfl,HS.o⟩,(eB_ _ _).alloc (rl_ _) _⟩
theorem U4 {op:Int}:Calls prog 229 #[.int .i64 op] w fun e w'=> e= .returned (.bool (decide (7≤op) && decide (op≤20)))∧w'=w:=by
 by_cases h1:7≤op
 ·by_cases h2:op≤20
  ·have hd:(decide (7≤op) && decide (op≤20))=true:=(by rw[eM_ h1,eM_ h2];rfl);have HD:=hd_ hd;clear hd;go_in;go_wp2;go_ret;refine ⟨?_,rfl⟩;first | rfl | (rw[HD.o];rfl) | (simp;omega) | (simp[h2])
  ·have hd:(decide (7≤op) && decide (op≤20))=false:=(by rw[eK_ h2,Bool.and_false]);have HD:=hd_ hd;clear hd;go_in;go_wp2;go_ret;refine ⟨?_,rfl⟩;first | rfl | (rw[HD.o];rfl) | (simp;omega) | (simp[h2])
 ·have hd:(decide (7≤op) && decide (op≤20))=false:=by rw[eK_ h1,Bool.false_and]
  have HD:=hd_ hd;clear hd;go_in;go_wp2;go_ret;refine ⟨?_,rfl⟩;first | rfl | (rw[HD.o];rfl) | (simp;omega) | (simp[h2])
theorem G5 {w:World} {b:Nat}:∀ (css:List (List Value)) {off i:Nat} {c:List Value},(∀ c∈css,c.length=8)→w.rangeAt b off css.flatten→css[i]? =some c→w.rangeAt b (off+i*8) c
 | [],off,i,c,_,_,hi=> by simp at hi
 | c0::css,off,0,c,hc,h,hi=> by
  simp only[eZ_,Option.some.injEq] at hi;subst hi;intro j v hj;have:=h j v (by rw[List.flatten_cons,eT_ (List.getElem?_eq_some_iff.1 hj).1];exact hj);simpa using this
 | c0::css,off,i+1,c,hc,h,hi=> by
  have h8:=hc c0 (eX_ ..);have h2:w.rangeAt b (off+8) css.flatten:=by
   intro j v hj;have:=h (8+j) v (by rw[List.flatten_cons,eO_ (by omega),h8,Nat.add_sub_cancel_left];exact hj);rw[←Nat.add_assoc] at this;exact this
  have:=G5 css (off:=off+8) (fun c hc'=> hc c (eR_ _ hc')) h2 (by simpa using hi);rw[show off+(i+1)*8=off+8+i*8 from by omega];exact this
theorem RdE.cells (h:RdE w P e cs):∃ sv kv,cs= [.int .i64 e.op,.string ⟨e.name.toArray⟩,.string ⟨e.mod.toArray⟩,.bool (decide (e.num < 0)),sv,.bool e.yes,kv,.int .i64 e.pos]∧RdU w sv (wd e.num)∧∃ a c,kv= .slice a e.kids.length c:=by
 cases h with
 | mk css hs hl hc hv hk=>
  obtain ⟨a,c,e1⟩:=hv.form;exact ⟨_,_,rfl,hs,a,c,e1⟩
theorem RdE.kid (h:RdE w P e cs) {i:Nat} {k:Ex} (hi:e.kids[i]? =some k):
  ∃ b off c cs',cs[6]? =some (.slice (some ⟨b,off,none⟩) e.kids.length c)∧P b∧w.rangeAt b (off+i*8) cs'∧cs'.length=8∧RdE w P k cs':=by
 cases h with
 | mk css hs hl hc hv hk=>
  simp only[Ex.kids] at hi;have hlt:=(List.getElem?_eq_some_iff.1 hi).1;obtain ⟨_,a,c,rfl,_,h4⟩:=hv;rcases h4 with ⟨_,h4⟩ | ⟨b,off,rfl,h5,h6⟩
  ·omega
  ·have hci:css[i]? =some (css[i]'(by omega)):=eA_ (by omega);refine ⟨b,off,c,css[i]'(by omega),rfl,h5.resolve_left (by omega),?_,hc _ (List.getElem_mem _),hk i k _ hi hci⟩;exact G5 css hc h6 hci
theorem Q1S {v:Value} (h:ExV w P v e):Calls prog 203 #[v] w fun r w'=> (∃ n:Int,r= .returned (.int .i64 n))∧Below w.heap.size w w':=by
 obtain ⟨cs,rfl,hr⟩:=h;obtain ⟨sv,kv,rfl,_,a,c,rfl⟩:=hr.cells;obtain ⟨op,hop⟩:∃ op,e.op=op:=⟨_,rfl⟩
 obtain ⟨pos,hpos⟩:∃ op,e.pos=op:=⟨_,rfl⟩
 obtain ⟨bn,hbn⟩:∃ op,decide (e.num < 0)=op:=⟨_,rfl⟩
 obtain ⟨nk,hnk⟩:∃ op,e.kids.length=op:=⟨_,rfl⟩
 rw[hop,hpos,hbn,hnk];clear hr hop hpos hbn hnk;have hb:Below w.heap.size w (w.alloc (.cells #[.int .i64 op,.string ⟨e.name.toArray⟩,.string ⟨e.mod.toArray⟩,.bool bn,sv,.bool e.yes,.slice a nk c,.int .i64 pos] 30)):=(eB_ _ _).alloc (rl_ _) _;have HB:=hd_ hb;clear hb;by_cases h1:7≤op∧op≤20
 ·have H:=hd_ h1;have hd:(decide (7≤op) && decide (op≤20))=true:=by simp[h1]
  have HD:=hd_ hd;clear h1 hd;go_in;go_wp2_with (first
   | (go_at_call 229;refine eH_ U4 ?_;rintro e2 w2 ⟨rfl,rfl⟩;rw[HD.o])
   | (go_at_call 171;refine eH_ (LD H.a H.B) ?_;rintro e2 w2 ⟨v2,rfl,⟨a2,b2,c2,s2,rfl,hs2⟩,hb2⟩;have HB2:=hd_ hb2;have hf0:=Q1R a2 b2 c2 ⟨s2.toArray⟩;clear hb2 hs2))
  go_ret;exact ⟨⟨_,rfl⟩,HB.o.trans (HB2.o.mono HB.o.size)⟩
 ·have H:=hd_ h1;have hd:(decide (7≤op) && decide (op≤20))=false:=by
   rw[Bool.and_eq_false_iff];simp only[decide_eq_false_iff_not];omega
  have HD:=hd_ hd;clear h1 hd;go_in;go_wp2_with (go_at_call 229;refine eH_ U4 ?_;rintro e2 w2 ⟨rfl,rfl⟩;rw[HD.o])
  all_goals (go_ret;exact ⟨⟨_,rfl⟩,HB.o⟩)
def plO (l:List UInt8) (tk:List Lx.Tok) (e:Nat):Bool:=e==0 && tk.length==2 && (match tk with | k::_=> k.kind==1 && k.text==l | []=> false)
theorem Q1T (l:List UInt8) (hl:l.length≤1073741824) (w:World):Calls prog 201 #[.string ⟨l.toArray⟩] w fun r w'=> r= .returned (.bool (Ex.plain l))∧Below w.heap.size w w':=by
 have HL:=hd_ (L7 l hl w);obtain ⟨⟨tk,e,p⟩,hx⟩:∃ r,Lx.lex l=r:=⟨_,rfl⟩
 have hp:Ex.plain l=plO l tk e:=by
  unfold Ex.plain plO;rw[hx];rfl
 unfold LexSays at HL;rw[hx] at HL;have HP:=hd_ hp;clear hp hx hl;go_in;go_wp2_with fail;refine eH_ HL.o ?_;rintro r w1 ⟨v,rfl,hown,hb⟩;obtain ⟨a,c,rfl⟩:=Qi hown;have HB:=hd_ hb;have HW:=hd_ hown;dsimp only;by_cases he:e=0
 ·subst he;by_cases h2:tk.length=2
  ·obtain ⟨k0,k1,rfl⟩:∃ k0 k1,tk= [k0,k1]:=by
    match tk,h2 with
    | [k0,k1],_=> exact ⟨k0,k1,rfl⟩
   have hrd:=RdS.own HW.o;rw[Jh] at hrd;obtain ⟨b,off,c2,e1,hb2,hr⟩:=RdS.tok (l:= [k0,k1].map toTk) hrd (i:=0) rfl;injection e1 with e1 _ _;subst e1;have f0:=hr 0 _ rfl;have f2:=hr 2 _ rfl;have lt0:=Q8 f0;have he:=U2 k0.text l;have he2:=QC k0.text l;have hpl:plO l [k0,k1] 0=(decide (k0.kind=1) && decide (k0.text=l)):=by
    unfold plO;rw[←he2];by_cases hk:k0.kind=1
    ·simp[hk]
    ·simp[hk]
   have hq:=HP.o.trans hpl;simp only[Nat.zero_mul,Nat.add_zero,toTk] at f0 f2;obtain ⟨d,hd⟩:∃ d,decide (k0.text=l)=d:=⟨_,rfl⟩
   rw[hd] at he he2 hq;clear hown hb hrd hr hb2 hpl hd h2;by_cases hk:k0.kind=1
   ·have hk2:(k0.kind:Int)=1:=(by omega);rw[hk2] at f0;rw[eM_ hk] at hq;have HQ:=hd_ hq;clear hk hk2 hq;go_wp2_with fail;go_ret;exact ⟨by rw[HQ.o];simp,HB.o.alloc HB.o.size _⟩
   ·have hk2:(k0.kind:Int)≠1:=(by omega);rw[eK_ hk] at hq;have HQ:=hd_ hq;clear hk hq;go_wp2_with fail;go_ret;exact ⟨by rw[HQ.o];simp,HB.o.alloc HB.o.size _⟩
  ·have h3:(tk.length:Int)≠2:=(by omega);have hpl:plO l tk 0=false:=(by unfold plO;simp[h2]);have HQ:=hd_ (HP.o.trans hpl);clear hown hb hpl;go_wp2_with fail;go_ret;exact ⟨by rw[HQ.o];simp,HB.o.alloc HB.o.size _⟩
 ·have hpl:plO l tk e=false:=by unfold plO;simp[he]
  have HQ:=hd_ (HP.o.trans hpl);clear hown hb hpl;have he':(e:Int)≠0:=by omega
  go_wp2_with fail;go_ret;exact ⟨by rw[HQ.o];simp,HB.o.alloc HB.o.size _⟩
theorem LE (w:World) (op:Int):Calls prog 161 #[.int .i64 op,.int .i64 0] w fun r w'=> r= .returned (.bool (decide (op < 21)))∧w'=w:=by
 go_in;go_wp2
 all_goals (go_ret;exact ⟨rfl,rfl⟩)
def knum (op:Int):Int:=if op≤4 then 0 else if op≤6 then 1 else 2
theorem Q39 (w:World) {op:Int} (h:op≤20):Calls prog 164 #[.int .i64 op] w fun r w'=> r= .returned (.int .i64 (knum op))∧w'=w:=by
 unfold knum;by_cases h1:op≤4
 ·rw[if_pos h1];go_in;go_wp2
  all_goals (go_ret;exact ⟨rfl,rfl⟩)
 ·rw[if_neg h1];by_cases h2:op≤6
  ·rw[if_pos h2];go_in;go_wp2
   all_goals (go_ret;exact ⟨rfl,rfl⟩)
  ·rw[if_neg h2];go_in;go_wp2
   all_goals (go_ret;exact ⟨rfl,rfl⟩)
theorem Q3B (x:List UInt8):((⟨x.toArray⟩:ByteArray).toList==(⟨#[]⟩:ByteArray).toList)=x.isEmpty:=by
 have:=U2 x [];rw[show (⟨#[]⟩:ByteArray)=⟨([]:List UInt8).toArray⟩ from rfl,this];cases x <;> simp
theorem Q1U {op pos:Int} {name mod:List UInt8} {nb yes:Bool} {sv kv:Value} (hn:name.length≤1073741824) (h20:op≤20):
  Calls prog 162 #[.agg #[.int .i64 op,.string ⟨name.toArray⟩,.string ⟨mod.toArray⟩,.bool nb,sv,.bool yes,kv,.int .i64 pos]] w fun r w'=> r= .returned (.bool (if op=3 then Ex.plain name && mod.isEmpty else name.isEmpty && mod.isEmpty))∧Below w.heap.size w w':=by
 have HP:=hd_ (fun W=> Q1T name hn W);have hb:Below w.heap.size w (w.alloc (.cells #[.int .i64 op,.string ⟨name.toArray⟩,.string ⟨mod.toArray⟩,.bool nb,sv,.bool yes,kv,.int .i64 pos] 30)):=(eB_ _ _).alloc (rl_ _) _;have hg:(w.alloc (.cells #[.int .i64 op,.string ⟨name.toArray⟩,.string ⟨mod.toArray⟩,.bool nb,sv,.bool yes,kv,.int .i64 pos] 30)).heap[w.heap.size]? =_:=eD_ _ _;have HB:=h2_ hb hg;have hs1:=Q3B name;have hs2:=Q3B mod;have hm:name.isEmpty=true∨name.isEmpty=false:=by cases name.isEmpty <;> simp
 clear hb hg hn;by_cases h3:op=3
 ·subst h3;rw[if_pos rfl];obtain ⟨pl,hpl⟩:∃ b,Ex.plain name=b:=⟨_,rfl⟩
  rw[hpl] at HP ⊢;clear hpl hm;go_in;go_wp2_with fail;refine eH_ (HP.o _) ?_;rintro r w2 ⟨rfl,hb2⟩;have h0:=Qa HB.B hb2;have a2:=Q3 h0 2 rfl;have H2:=hd_ (HB.a.trans (hb2.mono HB.a.size));clear hb2 h0;dsimp only;cases pl with
  | false=>
   go_wp2_with fail;go_ret;exact ⟨by simp,H2.o⟩
  | true=>
   go_wp2_with fail;go_ret;exact ⟨by simp,H2.o⟩
 ·rw[if_neg h3];clear HP;rcases hm with hm | hm
  ·go_in;go_wp2_with fail;go_ret;exact ⟨by simp[hm],HB.a⟩
  ·go_in;go_wp2_with fail;go_ret;exact ⟨by simp[hm],HB.a⟩
end Go.Proofs.YtiecccakcenobaaGreatDoor
namespace Go.Proofs.YtiecccakcenobaaGreatDoor.Pd
open Tryz
open Tr Ps
section
variable (tk:List Tk)
def far (s:St):Int:=if s.e=0 then (peek tk s.used).pos else s.pos
end
section
variable {tk:List Tk} {α β:Type}
end
end Go.Proofs.YtiecccakcenobaaGreatDoor.Pd
namespace Go.Proofs.YtiecccakcenobaaGreatDoor
open Tryz
open Tr
variable {e k:Ex} {z:Int} {l:List UInt8} {cs:List Value} {B b c g j n:Nat} {P:Nat→Prop} {a:Option Addr} {t:Tr.T} {c5 c6 c7 vn vt:Value} {w w' x y:World}
structure ReadSmall (l:List UInt8) (t:Tr.T):Prop where
 toks:t.toks.length≤l.length+1
 nodes:t.nodes.length≤3*(l.length+1)
 kids:∀ n∈t.nodes,n.kids.length≤t.nodes.length
 texts:∀ k∈t.toks,k.text.length≤l.length
theorem YO (l:List UInt8):ReadSmall l ⟨[], []⟩:=⟨by simp,by simp,fun n hn=> by simp at hn,fun k hk=> by simp at hk⟩
theorem Jb:∀ {ts:List Tr.Tk} {k:Tr.Tk},k∈ts→k.text.length≤(wholeOf ts).length
 | x::ts,k,h=> by
  unfold wholeOf;rw[List.flatMap_cons,eC_,eC_];rcases List.mem_cons.1 h with rfl | h
  ·omega
  ·have:=Jb h;unfold wholeOf at this;omega
theorem Q3a {k:FuncId} {what:List Tr.Tk→Nat→Ps.St} (hw:WhatDoes k what) (l:List UInt8) (dp:Int):ReadSmall l (Ps.read what l dp).1:=by
 unfold Ps.read;split
 ·exact YO l
 ·split
  ·exact YO l
  ·rename_i hf;have hf:(Lx.lex l).2.1=0:=(by simpa using hf);split
   ·exact YO l
   ·rename_i he;have he:(what ((Lx.lex l).1.map toTk) dp.toNat).e=0:=(by simpa using he);have h1:=Lx.LB hf;have h2:=hw.2 _ dp.toNat (Pc.Q5O hf).toks he;have h3:((Lx.lex l).1.map toTk).length=(Lx.lex l).1.length:=List.length_map ..;have h4:((Lx.lex l).1.map Pc.tkOf).length=(Lx.lex l).1.length:=List.length_map ..;rw[h4] at h2;refine ⟨by show ((Lx.lex l).1.map toTk).length≤_;omega,?_,h2.2,fun k hk=> ?_⟩
    ·show (what _ _).nodes.length≤_;have:=h2.1;have e:(Lx.lex l).1.map toTk=(Lx.lex l).1.map Pc.tkOf:=rfl;rw[e];omega
    ·have:=Jb hk;rw[Q31,h1.1] at this;exact this
theorem Q1V (h:Tr.right t=true):Tr.FormedTo t t.nodes.length∧∀ i,i < t.nodes.length→Tr.size t.nodes i≤i+1:=by
 cases hg:Tr.rightGo t 0 t.nodes (List.replicate t.nodes.length false) with
 | none=> rw[Tr.Z3 hg] at h;cases h
 | some kid=> exact ⟨Tr.XP hg (by simp) (fun j n hj=> absurd hj (by omega)),(Tr.UP hg).2.1⟩
theorem ReadSmall.dump (h:ReadSmall l t) (hl:l.length≤1500) (n:Int):(DumpOut t n).length≤1073741824:=by
 unfold DumpOut;split
 ·rename_i hc;obtain ⟨hr,h0,h1⟩:=GH hc;obtain ⟨h2,h3⟩:=Q1V hr;have h4:=Tr.Q59 (L:=1500) (fun k hk=> eE_ (h.texts k hk) hl) h2 n.toNat (by omega);have h5:=h3 n.toNat (by omega);have h6:=h.nodes;have h7:(1500+6)*Tr.size t.nodes n.toNat≤(1500+6)*4503:=Nat.mul_le_mul_left _ (by omega);omega
 ·simp
open Go.RowKit
structure TCalls (w:World) (vt vn:Value) (T:Tr.T) (l:List UInt8):Prop where
 root:∀ W,Below w.heap.size w W→Calls prog 81 #[.agg #[vt,vn]] W fun e w'=> e= .returned (.int .i64 (Tr.root T))∧W.alloc (.cells #[vt,vn] 90)=w'
 dump:∀ W,Below w.heap.size w W→Calls prog 117 #[.agg #[vt,vn],.int .i64 (Tr.root T)] W fun e w'=> e= .returned (.tuple #[.string ⟨(DumpOut T (Tr.root T)).toArray⟩,.int .i64 0])∧Below W.heap.size W w'
 show_:∀ W,Below w.heap.size w W→Calls prog 118 #[.agg #[vt,vn]] W fun e w'=> e= .returned (.string ⟨l.toArray⟩)∧Below W.heap.size W w'
theorem tcalls {T:Tr.T} (h:RdT w P vt vn T) (hP:∀ k,P k→k < w.heap.size) (hl:l.length≤1500) (hs:ReadSmall l T) (hw:wholeOf T.toks=l) (hc:Tr.check T (Tr.root T)=0):TCalls w vt vn T l:=by
 have h1:=hs.toks;have h2:=hs.nodes;have hk:∀ n∈T.nodes,n.kids.length≤1073741823:=fun n hn=> by have:=hs.kids n hn;omega
 refine ⟨fun W hW=> ?_,fun W hW=> ?_,fun W hW=> ?_⟩
 ·exact Gz (h.keep (Keeps.of hW hP)) (by omega)
 ·have:=Q0Z (h.keep (Keeps.of hW hP)) (fun k hk=> eI_ (hP k hk) hW.size) (by omega) (by omega) hk (Tr.root T) (hs.dump hl _);rw[hc] at this;exact this
 ·have:=Q2h (vn:=vn) (h.1.keep (Keeps.of hW hP)) (fun k hk=> eI_ (hP k hk) hW.size) (by omega) (by rw[hw];omega);rw[hw] at this;exact this
theorem Q5Y (w:World) (a b c d:Value):Two w ((w.alloc (.cells #[a,b] 90)).alloc (.cells #[c,d] 92)) #[a,b] #[c,d]:=
 ⟨by rw[eJ_ _ _ _ (by rw[←Q5];omega)];exact eD_ _ _,heap_alloc2_new _ _ _,((eB_ _ _).alloc (rl_ _) _).alloc (by rw[←Q5];omega) _⟩
def AsRel (V:World) (n:Nat) (k:Nat) (v:Value) (wr:World):Prop:=
 ∃ j:Nat,v= .int .i64 j∧k=n - j∧j≤n∧Below V.heap.size V wr
theorem Qk (cs:Array Value) (t:TypeId):(w.alloc (.cells cs t)).heap[w.heap.size]? =some (.cells cs t (0,0))∧Below w.heap.size w (w.alloc (.cells cs t)):=
 ⟨eD_ _ _,(eB_ _ _).alloc (rl_ _) _⟩
theorem Q5Z {T:Tr.T} (h:RdT w P vt vn T) (hP:∀ k,P k→k < w.heap.size) (hl:l.length≤1500) (hs:ReadSmall l T) (hw:wholeOf T.toks=l) (hr:Ps.read Ps.form l 200=(T,0,0)) (hc:Tr.check T (Tr.root T)=0):
  Calls prog 79 #[.agg #[vt,vn],.func (.func 38) #[] #[]] w fun e w'=> e= .returned (.bool true)∧Below w.heap.size w w':=by
 obtain ⟨a1,c1,rfl⟩:∃ a c,vt= .slice a T.toks.length c:=h.1.form;obtain ⟨a2,c2,rfl⟩:∃ a c,vn= .slice a T.nodes.length c:=by
  obtain ⟨kvs,_,h2,_⟩:=h.2;exact h2.form
 have hn':(T.toks.length:Int)≤1501:=by have:=hs.toks;omega
 have HR:=hd_ (fun W=> J9 l (by omega) 200 W);rw[hr] at HR;have HT:=hd_ (tcalls h hP hl hs hw hc);have HS:=h3_ hs hw hc;have HL:=hd_ hl;have H0:=h2_ h.1 hP;have hx:=Qk (w:=w) #[.slice a1 T.toks.length c1,.slice a2 T.nodes.length c2] 90;have HX:=hd_ hx;clear h hP hl hs hw hr hc hx;go_in;go_wp2_with fail;obtain ⟨V,hV⟩:∃ V,w.alloc (.cells #[.slice a1 T.toks.length c1,.slice a2 T.nodes.length c2] 90)=V:=⟨_,rfl⟩
 rw[hV] at HX ⊢;clear hV;have t0:=Q3 HX.a 0 rfl;have t1:=Q3 HX.a 1 rfl;have l0:=Q8 t0;go_region_held3 (fun w'=> w'.cell? ⟨w.heap.size,0,none⟩=some (.slice a1 T.toks.length c1)∧w'.cell? ⟨w.heap.size,1,none⟩=some (.slice a2 T.nodes.length c2)) (first | exact ⟨t0,t1⟩ | exact ⟨e20,e21⟩ | go_keep)
  ((first
   | (go_at_call 81;refine (HT.o.root _ (HX.B.drew)).mono ?_;rintro e w3 ⟨rfl,rfl⟩)
   | (go_at_call 117;refine (HT.o.dump _ ((HX.B.alloc HX.B.size _).drew)).mono ?_;rintro e w8 ⟨rfl,hb8⟩;have hb9:=(eB_ V.heap.size V).alloc (rl_ _) (.cells #[.slice a1 T.toks.length c1,.slice a2 T.nodes.length c2] 90);have hb10:Below V.heap.size V w8:=(hb9.drew).trans (hb8.mono hb9.size);have hb11:=Qa HX.a hb10;have e20:=Q3 hb11 0 rfl;have e21:=Q3 hb11 1 rfl;have HB:=h2_ hb11 (HX.B.trans (hb10.mono HX.B.size));clear hb8 hb9 hb10 hb11)))
 clear t0 t1 l0;go_wp2_with fail;refine eH_ (HT.o.show_ _ HB.B) ?_;rintro e w9 ⟨rfl,hb9⟩;have H9:=h2_ (Qa HB.a hb9) (HB.B.trans (hb9.mono HB.B.size));clear hb9 e20 e21;dsimp only;go_wp2_with fail;refine eH_ (HR.o _) ?_;rintro e w10 ⟨vt,vn,rfl,hT,hb⟩;obtain ⟨a3,c3,rfl⟩:∃ a c,vt= .slice a T.toks.length c:=hT.1.form;obtain ⟨a4,c4,rfl⟩:∃ a c,vn= .slice a T.nodes.length c:=by
  obtain ⟨kvs,_,h2,_⟩:=hT.2;exact h2.form
 have HT2:=hd_ (tcalls hT (fun k hk=> hk.2) HL.o HS.a HS.b HS.C);have HD2:=hd_ hT.1;have H10:=h2_ (Qa H9.a hb) (H9.B.trans (hb.mono H9.B.size));clear hT hb;dsimp only;go_wp2_with fail;obtain ⟨V2,hV2⟩:∃ V,(w10.alloc (.cells #[.slice a3 T.toks.length c3,.slice a4 T.nodes.length c4] 90)).alloc (.cells #[.int .i64 0,.int .i64 0] 92)=V:=⟨_,rfl⟩
 have h1:=Q5Y w10 (.slice a3 T.toks.length c3) (.slice a4 T.nodes.length c4) (.int .i64 0) (.int .i64 0);rw[hV2] at h1 ⊢;have H11:=h2_ (Qa H10.a h1.b) (H10.B.trans (h1.b.mono H10.B.size));have t0:=Q3 h1.t 0 rfl;have t1:=Q3 h1.t 1 rfl;have l0:=Q8 t0;have H1:=hd_ h1;clear h1 hV2;go_region_held3 (fun w'=> w'.cell? ⟨w10.heap.size,0,none⟩=some (.slice a3 T.toks.length c3)∧w'.cell? ⟨w10.heap.size,1,none⟩=some (.slice a4 T.nodes.length c4)) (first | exact ⟨t0,t1⟩ | exact ⟨e20,e21⟩ | go_keep)
  ((first
   | (go_at_call 81;refine (HT2.o.root _ (H1.o.b.drew)).mono ?_;rintro e w3 ⟨rfl,rfl⟩)
   | (go_at_call 117;refine (HT2.o.dump _ ((H1.o.b.alloc H1.o.b.size _).drew)).mono ?_;rintro e w12 ⟨rfl,hb8⟩;have hb9:=(eB_ V2.heap.size V2).alloc (rl_ _) (.cells #[.slice a3 T.toks.length c3,.slice a4 T.nodes.length c4] 90);have hb10:Below V2.heap.size V2 w12:=(hb9.drew).trans (hb8.mono hb9.size);have e20:=Q3 (H1.o.past hb10).t 0 rfl;have e21:=Q3 (H1.o.past hb10).t 1 rfl;have HB2:=h3_ (H1.o.past hb10) (Qa H11.a hb10) (H11.B.trans (hb10.mono H11.B.size));clear hb8 hb9 hb10)))
 clear t0 t1 l0;have k0:=Q3 HB2.b 0 rfl;have k2:=Q3 HB2.a.t 0 rfl;have k4:=Q3 HB2.a.f 0 rfl;have HDD:=h2_ (H0.a.keep (Keeps.of HB2.C H0.B)) (HD2.o.keep (Keeps.of HB2.a.b fun k hk=> hk.2));have HPP:=h2_ (fun k (hk:P k)=> eI_ (H0.B k hk) HB2.C.size) (fun k (hk:w9.heap.size≤k∧k < w10.heap.size)=> eI_ hk.2 HB2.a.b.size);go_wp2_with fail;clear k0 k2 k4 e20 e21;go_loopg [58] T.toks.length (fun k v58 wr=> AsRel w12 T.toks.length k v58 wr)
 case atStart=> exact ⟨0,rfl,rfl,eV_ _,(eB_ _ _)⟩
 case round=>
  obtain ⟨j,rfl,hk,hj,hbw⟩:=hrel;have HRR:=h2_ hk hbw;clear hk hbw;by_cases hlt:j < T.toks.length
  ·have hlt':(j:Int) < (T.toks.length:Int):=(by omega);obtain ⟨tk,htk⟩:∃ tk,T.toks[j]? =some tk:=⟨_,eA_ hlt⟩
   obtain ⟨b1,o1,c1',q1,hp1,hr1⟩:=(HDD.a.keep (Keeps.of HRR.B HPP.a)).tok htk;obtain ⟨b2,o2,c2',q2,hp2,hr2⟩:=(HDD.B.keep (Keeps.of HRR.B HPP.B)).tok htk;injection q1 with q1 _ q3;injection q2 with q2 _ q4;subst q1 q2 q3 q4;have f0:=hr1 0 _ rfl;have f1:=hr1 1 _ rfl;have f2:=hr1 2 _ rfl;have f3:=hr1 3 _ rfl;have g0:=hr2 0 _ rfl;have g1:=hr2 1 _ rfl;have g2:=hr2 2 _ rfl;have g3:=hr2 3 _ rfl;simp only[Nat.add_zero] at f0 g0;have m2:wr.cell? ⟨w10.heap.size,0,none⟩=some (.slice (some ⟨b2,o2,none⟩) T.toks.length c3):=Q3 (HB2.a.past HRR.B).t 0 rfl;have lm:=Q8 m2;have lg:=Q8 g0;clear hr1 hr2 hp1 hp2;go_wp2_with fail;go_region;go_wp2_with fail;go_roundg (T.toks.length - (j+1))
   case measure=> have:=HRR.a;omega
   case rel=> exact ⟨j+1,by go_num,rfl,by omega,(by first | exact HRR.B.alloc HRR.B.size _ | exact (HRR.B.alloc HRR.B.size _).drew)⟩
  ·obtain rfl:j=T.toks.length:=(by omega);go_wp2_with fail;go_ret;exact ⟨rfl,(HB2.C.trans (HRR.B.mono HB2.C.size))⟩
theorem Q3b (h:Ax.formula t=some e):∃ x k,Ax.nd t (Tr.root t)=some x∧x.kids[0]? =some k∧Ax.expr t (t.nodes.length+1) k=some e:=by
 unfold Ax.formula at h;split at h
 ·cases h
 ·rename_i x hx;split at h
  ·cases h
  ·rename_i k hk;exact ⟨x,k,hx,hk,h⟩
def ExFOut (w:World) (x:Ex) (e:Ending) (w':World):Prop:=∃ v,e= .returned (.tuple #[v,.int .i64 0])∧ExV w' (New w w') v x∧Below w.heap.size w w'
theorem Q6S {fn:Func} {cs:Array Value} {tmps:Array Value} {p u:Tmp} (h:fn.results= #[.cell p 30,.tmp u]) (hp:tmps.getD p undef= .pointer (some ⟨g,0,none⟩)) (hg:w.heap[g]? =some (.cells cs 30 (0,0))) (hs:cs.size=8) {x:Value} (hx:tmps.getD u undef=x):
  (results fn tmps).run prog w= .ok (.tuple #[.agg cs,x]) w:=
 Xr h _ _ g _ _ _ _ hp hg underlying30 rfl (by rw[hs];exact QY) hx
theorem Q6T {v W:World} {o:Obj} {x:Value} (h:ExV W (New (v.drew.alloc o) W) x e):ExV W (New v W) x e:=h.imp fun k hk=> ⟨eE_ (by rw[←Q5];exact Nat.le_succ _) hk.1,hk.2⟩
theorem Gd {T:Tr.T} (h:RdT w P vt vn T) (hP:∀ k,P k→k < w.heap.size) (hl:l.length≤1500) (hs:ReadSmall l T) (hw:wholeOf T.toks=l) (hr:Ps.read Ps.form l 200=(T,0,0)) (hc:Tr.check T (Tr.root T)=0) (h7:∀ x∈T.nodes,x.kind≠7) {e:Ex} (hf:Ax.formula T=some e):
  Calls prog 39 #[.agg #[vt,vn]] w (ExFOut w e):=by
 have hR:TrR w P vt vn T:=⟨h,hP,by have:=hs.nodes;omega,by have:=hs.toks;omega,fun n hn=> by have:=hs.kids n hn;have:=hs.nodes;omega⟩
 have htx:∀ k∈T.toks,k.text.length≤1073741824:=fun k hk=> by have:=hs.texts k hk;omega
 obtain ⟨at_,ct,an,cn,rfl,rfl⟩:=hR.form;obtain ⟨x,k,hx,hk,hex⟩:=Q3b hf;have hbx:=box2 w #[.slice at_ T.toks.length ct,.slice an T.nodes.length cn] 90 #[.int .i64 0,.string ⟨#[]⟩,.string ⟨#[]⟩,.bool false,.slice none 0 0,.bool false,.slice none 0 0,.int .i64 0] 30;have HR:=h7_ h hP hl hs hw hr hc;have HE:=h3_ hR (G4 hR htx h7 (T.nodes.length+1)) hex;have HX:=h2_ hx hk;have HB:=hd_ hbx;clear h hP hl hs hw hr hc h7 hf hR htx hx hk hex hbx;go_in;go_wp2_with fail;obtain ⟨V1,hV1⟩:∃ V,(w.alloc (.cells #[.slice at_ T.toks.length ct,.slice an T.nodes.length cn] 90)).alloc (.cells #[.int .i64 0,.string ⟨#[]⟩,.string ⟨#[]⟩,.bool false,.slice none 0 0,.bool false,.slice none 0 0,.int .i64 0] 30)=V:=⟨_,rfl⟩
 rw[hV1] at HB ⊢;clear hV1;have a0:=Q3 HB.a 0 rfl;have a1:=Q3 HB.a 1 rfl;go_wp2_with fail;refine eH_ (Q5Z (HR.a.keep (Keeps.of HB.C HR.b)) (fun k hk=> eI_ (HR.b k hk) HB.C.size) HR.c HR.d HR.e HR.f HR.G) ?_;rintro e2 V ⟨rfl,hb2⟩;have h0:=Qa HB.a hb2;have h1:=Qa HB.b hb2;have hbV:=HB.C.trans (hb2.mono HB.C.size);clear a0 a1 hb2;obtain ⟨i,b,off,ak,ck,hni,hi,e0,c0,c1,c2,hkl,hkk⟩:=(HE.a.below hbV).node HX.a;subst e0;obtain ⟨b2,o2,e0,q0⟩:=hkk 0 k HX.B;subst e0;rw[Nat.add_zero] at q0;have hi2:(i:Int) < (T.nodes.length:Int):=by omega
 have hn2:(T.nodes.length:Int)≤1000000:=by have:=HE.a.nodes;omega
 have hk1:(0:Int) < (x.kids.length:Int):=by have:=(List.getElem?_eq_some_iff.1 HX.B).1;omega
 have hk2:(x.kids.length:Int)≤1000000:=by omega
 have hk3:0 < x.kids.length:=by omega
 have a0:=Q3 h0 0 rfl;have a1:=Q3 h0 1 rfl;have mkS:∀ W:World,Below V.heap.size V W→Below V.heap.size V W∧W.cell? ⟨w.heap.size,0,none⟩=some (.slice at_ T.toks.length ct)∧W.cell? ⟨w.heap.size,1,none⟩=some (.slice (some ⟨b,off,none⟩) T.nodes.length cn)∧W.cell? ⟨b,off+i*3+2,none⟩=some (.slice (some ⟨b2,o2,none⟩) x.kids.length ck)∧W.cell? ⟨b2,o2,none⟩=some (.int .i64 k):=fun W hb=> ⟨hb,(hb.cell (Q8 a0)).trans a0,(hb.cell (Q8 a1)).trans a1,(hb.cell (Q8 c2)).trans c2,(hb.cell (Q8 q0)).trans q0⟩;have HS:=hd_ mkS;have H0:=h4_ h0 h1 hbV hni;clear mkS h0 h1 hbV c0 c1 c2 q0 a0 a1 hkk hkl hi;go_wp2_with fail;refine Xk (S:=fun w'=> Below V.heap.size V w'∧w'.cell? ⟨w.heap.size,0,none⟩=some (.slice at_ T.toks.length ct)∧w'.cell? ⟨w.heap.size,1,none⟩=some (.slice (some ⟨b,off,none⟩) T.nodes.length cn)∧w'.cell? ⟨b,off+i*3+2,none⟩=some (.slice (some ⟨b2,o2,none⟩) x.kids.length ck)∧w'.cell? ⟨b2,o2,none⟩=some (.int .i64 k)) (by simp) (by simp) (by kernel_rfl) (by kernel_rfl) (by kernel_rfl) (HS.o _ ((eB_ _ _).drew)) (fun hHeld=> ?_);simp only[lA_];refine tk_ 0 rfl ?_;try simp only[Act.put,gP_]
 refine tk_ 1 rfl ?_;try simp only[Act.put,gP_]
 refine tk_ 2 rfl ?_;try simp only[Act.put,gP_]
 refine tk_ 3 rfl ?_;try simp only[Act.put,gP_]
 refine tk_ 4 rfl ?_;try simp only[Act.put,gP_]
 refine rd_ 5 rfl (fun KK hKK=> ?_);simp only[gA_];go_simp;refine eH_ (Gz (HE.a.below (H0.c.drew)).rd (by have:=HE.a.nodes;omega)) ?_;rintro e2 w7 ⟨rfl,rfl⟩;rw[H0.D];dsimp only;refine hKK.out _ _ (HS.o _ ((eB_ _ _).drew.alloc (rl_ _) _)) (fun hHeld=> ?_);clear hKK KK;try simp only[Act.put,sA_]
 refine tk_ 6 rfl ?_;try simp only[Act.put,gP_]
 refine tk_ 7 rfl ?_;try simp only[Act.put,gP_]
 refine tk_ 8 rfl ?_;try simp only[Act.put,gP_]
 refine tk_ 9 rfl ?_;try simp only[Act.put,gP_]
 refine tk_ 10 rfl ?_;try simp only[Act.put,gP_]
 refine rd_ 11 rfl (fun KK hKK=> ?_);simp only[gA_];go_simp;refine eH_ (HE.b _ ((H0.c.drew).alloc H0.c.size _) k e HE.C) ?_;rintro e2 w9 ⟨v9,rfl,hv9,hb9⟩;have hb9:Below V.heap.size V w9:=((eB_ _ _).drew.alloc (rl_ _) _).trans (hb9.mono (by rw[←Q5];exact Nat.le_succ _));have H9:=h3_ hv9 (Qa H0.b hb9) (H0.c.trans (hb9.mono H0.c.size));clear hv9;dsimp only;refine hKK.out _ _ (HS.o _ hb9) (fun hHeld=> ?_);clear hKK KK;try simp only[Act.put,sA_]
 refine wpAnyH_done (by kernel_rfl) ?_ _;unfold PeelQ;dsimp only;refine Ja (w0:=w) (w1:=V) _ _ rfl rfl H9.b rfl rfl (Q6T H9.a) (Q4 H0.b) (show w.heap.size≤w.heap.size+1 by omega) H9.C ?_;rintro W cs hg hs2 hv hb;have HT:=h4_ hg hs2 hv hb;clear hg hs2 hv hb;go_simp
 trace_state
 go_wp2_with fail;refine eG_ (Q6S rfl rfl HT.a HT.b rfl) rfl ?_;exact ⟨_,rfl,HT.c,HT.D⟩
theorem cells8 {c0 c1 c2 c3 c4:Value} (h:w.heap[g]? =some (.cells #[c0,c1,c2,c3,c4,c5,c6,c7] 30 (0,0))):
  w.cell? ⟨g,0,none⟩=some c0∧w.cell? ⟨g,1,none⟩=some c1∧w.cell? ⟨g,2,none⟩=some c2∧w.cell? ⟨g,3,none⟩=some c3∧w.cell? ⟨g,4,none⟩=some c4∧w.cell? ⟨g,5,none⟩=some c5∧w.cell? ⟨g,6,none⟩=some c6∧w.cell? ⟨g,7,none⟩=some c7:=
 ⟨Q3 h 0 rfl,Q3 h 1 rfl,Q3 h 2 rfl,Q3 h 3 rfl,Q3 h 4 rfl,Q3 h 5 rfl,Q3 h 6 rfl,Q3 h 7 rfl⟩
theorem Q0w {op pos:Int} {name mod:List UInt8} {yes:Bool} {sv kv:Value} (hs:RdU w sv (wd z)) {K:Nat} (hK:Bd K z) (hK2:K≤1000000000):
  Calls prog 163 #[.agg #[.int .i64 op,.string ⟨name.toArray⟩,.string ⟨mod.toArray⟩,.bool (decide (z < 0)),sv,.bool yes,kv,.int .i64 pos]] w fun r w'=> r= .returned (.bool (if op=1 then decide (0≤z) && decide ((Zp.text z).length≤60) && !yes else decide (z=0) && (decide (op=2) || !yes)))∧Below w.heap.size w w':=by
 obtain ⟨a,n,rfl⟩:∃ a n,sv= .slice a (wd z).length n:=RdS.form hs;have hbx:=Qk (w:=w) #[.int .i64 op,.string ⟨name.toArray⟩,.string ⟨mod.toArray⟩,.bool (decide (z < 0)),.slice a (wd z).length n,.bool yes,kv,.int .i64 pos] 30;have hnum:Num w (.agg #[.bool (decide (z < 0)),.slice a (wd z).length n]) z:=⟨_,rfl,hs⟩
 obtain ⟨nb,hnb⟩:∃ b,decide (z < 0)=b:=⟨_,rfl⟩
 rw[hnb] at hbx hnum ⊢;have HB:=h4_ hbx hnum hK hK2;have HZ:=hd_ hnb;obtain ⟨V,hV⟩:∃ V,w.alloc (.cells #[.int .i64 op,.string ⟨name.toArray⟩,.string ⟨mod.toArray⟩,.bool (nb),.slice a (wd z).length n,.bool yes,kv,.int .i64 pos] 30)=V:=⟨_,rfl⟩
 have HV:=hd_ hV;rw[hV] at HB;obtain ⟨a0,a1,a2,a3,a4,a5,a6,a7⟩:=cells8 HB.a.1;have hmono:∀ W,Below V.heap.size V W→W.heap[w.heap.size]? =some (.cells #[.int .i64 op,.string ⟨name.toArray⟩,.string ⟨mod.toArray⟩,.bool (nb),.slice a (wd z).length n,.bool yes,kv,.int .i64 pos] 30 (0,0))∧Below w.heap.size w W:=fun W hb=> ⟨Qa HB.a.1 hb,HB.a.2.trans (hb.mono HB.a.2.size)⟩;have HM:=hd_ hmono;have hzs:∀ W,Below V.heap.size V W→Calls prog 29 #[.agg #[.bool nb,.slice a (wd z).length n]] W fun e w'=> e= .returned (.int .i64 (sgn z))∧Below W.heap.size W w':=fun W hb=> Zv (HB.b.below (HM.o W hb).2);have hzt:∀ W,Below V.heap.size V W→Calls prog 26 #[.agg #[.bool nb,.slice a (wd z).length n]] W fun e w'=> e= .returned (.string ⟨(Zp.text z).toArray⟩)∧Below W.heap.size W w':=fun W hb=> Y1 (HB.b.below (HM.o W hb).2) HB.c HB.D;have HS:=hd_ hzs;have HT:=hd_ hzt;clear hs hK hK2 hbx hnum hnb hmono hzs hzt hV;by_cases h1:op=1
 ·subst h1;rw[if_pos rfl];by_cases h0:0≤z
  ·have hz:0≤sgn z:=(by unfold sgn;split <;> omega);obtain ⟨sg,hsg⟩:∃ s,sgn z=s:=⟨_,rfl⟩
   rw[hsg] at HS hz;rw[eM_ h0];obtain ⟨tl,htl⟩:∃ t,Zp.text z=t:=⟨_,rfl⟩
   rw[htl] at HT ⊢;clear hsg htl h0;go_in;go_wp2_with (rw[HV.o];go_at_call 29;refine eH_ (HS.o _ (eB_ _ _)) ?_;rintro r w2 ⟨rfl,hb2⟩;obtain ⟨a0,a1,a2,a3,a4,a5,a6,a7⟩:=cells8 (HM.o _ hb2).1;have H2:=hd_ hb2;clear hb2);refine eH_ (HT.o _ H2.o) ?_;rintro r w3 ⟨rfl,hb3⟩;have h3:=H2.o.trans (hb3.mono H2.o.size);clear a0 a1 a2 a3 a4 a5 a6 a7;obtain ⟨a0,a1,a2,a3,a4,a5,a6,a7⟩:=cells8 (HM.o _ h3).1;have H3:=hd_ (HM.o _ h3).2;clear h3 hb3;dsimp only;by_cases h60:tl.length≤60
   ·have h60':(tl.length:Int)≤60:=(by omega);cases yes
    ·go_wp2_with fail;go_ret;exact ⟨by simp[h60],H3.o⟩
    ·go_wp2_with fail;go_ret;exact ⟨by simp[h60],H3.o⟩
   ·have h60':¬ (tl.length:Int)≤60:=(by omega);go_wp2_with fail;go_ret;exact ⟨by simp[h60],H3.o⟩
  ·have hz:sgn z=-1:=(by unfold sgn;rw[if_pos (by omega)]);rw[eK_ h0];rw[hz] at HS;clear hz h0 HT;go_in;go_wp2_with (rw[HV.o];go_at_call 29;refine eH_ (HS.o _ (eB_ _ _)) ?_;rintro r w2 ⟨rfl,hb2⟩;have H2:=hd_ (HM.o _ hb2).2;clear hb2);go_ret;exact ⟨by simp,H2.o⟩
 ·rw[if_neg h1];clear HT;by_cases h0:z=0
  ·have hz:sgn z=0:=(by rw[h0];rfl);rw[eM_ h0];rw[hz] at HS;clear hz h0;obtain ⟨o2,ho2⟩:∃ o,decide (op=2)=o:=⟨_,rfl⟩
   by_cases h2:op=2
   ·rw[eM_ h2];clear ho2;subst h2;go_in;go_wp2_with (rw[HV.o];go_at_call 29;refine eH_ (HS.o _ (eB_ _ _)) ?_;rintro r w2 ⟨rfl,hb2⟩;obtain ⟨a0,a1,a2,a3,a4,a5,a6,a7⟩:=cells8 (HM.o _ hb2).1;have H2:=hd_ (HM.o _ hb2).2;clear hb2);go_ret;exact ⟨by simp,H2.o⟩
   ·rw[eK_ h2];clear ho2;go_in;go_wp2_with (rw[HV.o];go_at_call 29;refine eH_ (HS.o _ (eB_ _ _)) ?_;rintro r w2 ⟨rfl,hb2⟩;obtain ⟨a0,a1,a2,a3,a4,a5,a6,a7⟩:=cells8 (HM.o _ hb2).1;have H2:=hd_ (HM.o _ hb2).2;clear hb2);go_ret;exact ⟨by simp[h2],H2.o⟩
  ·have hz:sgn z≠0:=by
    unfold sgn;split
    ·decide
    ·first | decide | (rw[if_neg h0];decide)
   obtain ⟨sg,hsg⟩:∃ s,sgn z=s:=⟨_,rfl⟩
   rw[hsg] at HS hz;rw[eK_ h0];clear hsg h0;go_in;go_wp2_with (rw[HV.o];go_at_call 29;refine eH_ (HS.o _ (eB_ _ _)) ?_;rintro r w2 ⟨rfl,hb2⟩;have H2:=hd_ (HM.o _ hb2).2;clear hb2);go_ret;exact ⟨by simp,H2.o⟩
def IxRel (w:World) (e:Ex) (p:Ex→Bool) (k:Nat) (v:Value) (wr:World):Prop:=
 ∃ j:Nat,v= .int .i64 j∧k=e.kids.length - j∧j≤e.kids.length∧(∀ (i:Nat) (x:Ex),i < j→e.kids[i]? =some x→p x=false)∧Below w.heap.size w wr
theorem RdE.past (h:RdE w P e cs) (hP:∀ k,P k→k < w.heap.size) (hb:Below w.heap.size w w'):RdE w' P e cs:=h.keep (Keeps.of hb hP) (FrT.of hb)
theorem Q1W (h:RdE w P e cs) (hP:∀ k,P k→k < w.heap.size) (hl:e.kids.length≤1000000) (hkv:cs[6]? =some (.slice a e.kids.length c)) {p:Ex→Bool}
  (hF:∀ W,Below w.heap.size w W→∀ (i:Nat) (k:Ex) (cs':List Value),e.kids[i]? =some k→RdE W P k cs'→Calls prog 166 #[.agg cs'.toArray,.pointer (some ⟨g,0,none⟩)] W fun r w'=> r= .returned (.bool (p k))∧Below W.heap.size W w'):
  Calls prog 202 #[.slice a e.kids.length c,.func (.func 166) #[] #[.pointer (some ⟨g,0,none⟩)]] w fun r w'=> (∃ n:Int,r= .returned (.int .i64 n)∧decide (n≥0)=e.kids.any p)∧Below w.heap.size w w':=by
 have HH:=h4_ h hP hkv hF;have hl':(e.kids.length:Int)≤1000000:=by omega
 clear h hP hkv hF;go_in;go_wp2;go_loopg [8] e.kids.length (fun k v8 wr=> IxRel w e p k v8 wr)
 case atStart=> exact ⟨0,rfl,rfl,eV_ _,fun i x hi=> absurd hi (Nat.not_lt_zero _),eB_ _ _⟩
 case round=>
  obtain ⟨j,rfl,hk,hj,hno,hbw⟩:=hrel;have HR:=h3_ hk hno hbw;clear hk hno hbw;by_cases hlt:j < e.kids.length
  ·have hlt':(j:Int) < (e.kids.length:Int):=(by omega);obtain ⟨k,hk⟩:∃ k,e.kids[j]? =some k:=⟨_,eA_ hlt⟩
   obtain ⟨b,off,c2,cs',hq,hb,hr,h8,hrk⟩:=(HH.a.past HH.b HR.C).kid hk;have hq2:=HH.c.symm.trans hq;injection hq2 with hq2;injection hq2 with hq2 _ hq3;subst hq2 hq3;obtain ⟨sv,kv,rfl,hsv,ak,ck,rfl⟩:=hrk.cells;have HC:=hd_ (HH.D wr HR.C j k _ hk hrk);have HG:=hd_ hr;have HK:=hd_ hk;clear hr hrk hsv hk hb hq h8;go_wp2_with (first
    | (refine wpList_load_mid rfl 30 _ rfl b (off+j*8) rfl _ _ HG.o underlying30 rfl rfl ?_)
    | (go_at_call 166;refine eH_ HC.o ?_;rintro r w2 ⟨rfl,hb2⟩;have H2:=hd_ hb2;clear hb2))
   ·rename_i hpk;go_ret;exact ⟨⟨_,rfl,by rw[eM_ (by omega)];exact (List.any_eq_true.2 ⟨k,eP_ HK.o,hpk⟩).symm⟩,HR.C.trans (H2.o.mono HR.C.size)⟩
   ·rename_i hpk;go_roundg (e.kids.length - (j+1))
    case measure=> have:=HR.a;omega
    case rel=>
     refine ⟨j+1,by go_num,rfl,by omega,fun i x hi hx=> ?_,HR.C.trans (H2.o.mono HR.C.size)⟩;by_cases hij:i=j
     ·subst hij;rw[HK.o] at hx;injection hx with hx;subst hx;simpa using hpk
     ·exact HR.b i x (by omega) hx
  ·obtain rfl:j=e.kids.length:=(by omega);go_wp2_with fail;go_ret;refine ⟨⟨_,rfl,?_⟩,HR.C⟩;rw[eK_ (by omega)];refine (List.any_eq_false.2 fun x hx=> ?_).symm;obtain ⟨i,hi⟩:=List.getElem?_of_mem hx;rw[HR.b i x (List.getElem?_eq_some_iff.1 hi).1 hi];decide
theorem Dt (h:RdE w P e cs) (hP:∀ k,P k→k < w.heap.size) (hl:e.kids.length≤1000000) (hkv:cs[6]? =some (.slice a e.kids.length c)) {p:Ex→Bool}
  (hF:∀ W,Below w.heap.size w W→∀ (i:Nat) (k:Ex) (cs':List Value),e.kids[i]? =some k→RdE W P k cs'→Calls prog 166 #[.agg cs'.toArray,.pointer (some ⟨g,0,none⟩)] W fun r w'=> r= .returned (.bool (p k))∧Below W.heap.size W w'):
  Calls prog 165 #[.slice a e.kids.length c,.func (.func 166) #[] #[.pointer (some ⟨g,0,none⟩)]] w fun r w'=> r= .returned (.bool (e.kids.any p))∧Below w.heap.size w w':=by
 have HC:=hd_ (Q1W h hP hl hkv hF);have hl':(e.kids.length:Int)≤1000000:=by omega
 clear h hP hkv hF;go_in;go_wp2_with (go_at_call 202;refine eH_ HC.o ?_;rintro r w2 ⟨⟨n,rfl,hn⟩,hb2⟩;have H2:=hd_ hb2;have HN:=hd_ hn;clear hb2 hn);go_ret;exact ⟨by rw[←HN.o];rfl,H2.o⟩
inductive Ex.Sm:Ex→Prop where
 | mk {op pos z:Int} {name mod:List UInt8} {yes:Bool} {kids:List Ex} (hn:name.length≤1000000) (hm:mod.length≤1000000) (hz:Bd 1000000 z) (hk:kids.length≤1000000) (h:∀ k∈kids,Ex.Sm k):Ex.Sm (.mk op name mod z yes kids pos)
theorem Jr:∀ l:List Ex,Ex.rights l=l.all Ex.right
 | []=> by rw[Ex.rights];rfl
 | e::r=> by rw[Ex.rights,Jr r];rfl
theorem Q6U (l:List Ex):(!l.any fun k=> !Ex.right k)=Ex.rights l:=by
 rw[Jr]
 induction l with
 | nil=> rfl
 | cons x l ih=> simp only[List.any_cons,List.all_cons,Bool.not_or,Bool.not_not,ih]
theorem Du {op:Int} (h:op≤20):Ex.count op n=decide ((n:Int)=knum op):=by
 unfold Ex.count knum;split
 ·rw[Bool.eq_iff_iff];simp
 ·split
  ·rw[Bool.eq_iff_iff];simp;omega
  ·rw[if_pos (by omega),Bool.eq_iff_iff];simp;omega
theorem Dv (op pos z:Int) (name mod:List UInt8) (yes:Bool) (kids:List Ex):Ex.one (.mk op name mod z yes kids pos)=(decide (1≤op) && decide (op≤20) && (if op=3∨op=22 then Ex.plain name && mod.isEmpty else if op=24 then Ex.plain name && (mod.isEmpty || Ex.plain mod) else name.isEmpty && mod.isEmpty) && (if op=1 then decide (0≤z) && decide ((Zp.text z).length≤60) && !yes else decide (z=0) && (decide (op=2) || !yes)) && Ex.count op kids.length):=rfl
theorem Q0x {c0 c1 c2 c3 c4:Value} {b:Bool} (hg:w.heap[g]? =some (.cells #[.int .i64 0] 163 (0,0)))
  (hR:∀ W,Below w.heap.size w W→Calls prog 128 #[.agg #[c0,c1,c2,c3,c4,c5,c6,c7],.int .i64 0] W fun r w'=> r= .returned (.bool b)∧Below W.heap.size W w'):
  Calls prog 166 #[.agg #[c0,c1,c2,c3,c4,c5,c6,c7],.pointer (some ⟨g,0,none⟩)] w fun r w'=> r= .returned (.bool (!b))∧Below w.heap.size w w':=by
 have HR:=hd_ hR;have hb:=Qk (w:=w) #[c0,c1,c2,c3,c4,c5,c6,c7] 30;have k0:=Q3 (Qa hg hb.2) 0 rfl;obtain ⟨a0,a1,a2,a3,a4,a5,a6,a7⟩:=cells8 hb.1;have HB:=hd_ hb.2;have lk:=Q8 (Q3 hg 0 rfl);clear hR hb hg;go_in;go_wp2_with (go_at_call 128;refine eH_ (HR.o _ HB.o) ?_;rintro r w2 ⟨rfl,hb2⟩;have H2:=hd_ hb2;clear hb2);go_ret;exact ⟨rfl,HB.o.trans (H2.o.mono HB.o.size)⟩
theorem UJ (hs:Ex.Sm e):∀ {w:World} {P:Nat→Prop} {cs:List Value},RdE w P e cs→(∀ k,P k→k < w.heap.size)→Calls prog 128 #[.agg cs.toArray,.int .i64 0] w fun r w'=> r= .returned (.bool (Ex.right e))∧Below w.heap.size w w':=by
 induction hs with
 | @mk op pos z name mod yes kids hn hm hz hk hkk ih=>
  intro w P cs h hP;obtain ⟨sv,a,c,rfl,hsv⟩:∃ sv a c,cs= [.int .i64 op,.string ⟨name.toArray⟩,.string ⟨mod.toArray⟩,.bool (decide (z < 0)),sv,.bool yes,.slice a kids.length c,.int .i64 pos]∧RdU w sv (wd z):=by
   cases h with
   | mk css hu hl hc hv hk'=>
    obtain ⟨a,c,rfl⟩:=hv.form;exact ⟨_,a,c,rfl,hu⟩
  have hre:Ex.right (.mk op name mod z yes kids pos)=(Ex.one (.mk op name mod z yes kids pos) && Ex.rights kids):=Ex.Q1t _;obtain ⟨nm,hnm⟩:∃ b,(if op=3 then Ex.plain name && mod.isEmpty else name.isEmpty && mod.isEmpty)=b:=⟨_,rfl⟩
  obtain ⟨vl,hvl⟩:∃ b,(if op=1 then decide (0≤z) && decide ((Zp.text z).length≤60) && !yes else decide (z=0) && (decide (op=2) || !yes))=b:=⟨_,rfl⟩
  have hone:1≤op→op≤20→Ex.one (.mk op name mod z yes kids pos)=(nm && vl && Ex.count op kids.length):=by
   intro h1 h2;rw[←hnm, ←hvl];rw[Dv,eM_ h1,eM_ h2];rw[if_neg (show ¬ op=24 by omega)];by_cases h3:op=3
   ·rw[if_pos (Or.inl h3),if_pos h3];rfl
   ·rw[if_neg (show ¬ (op=3∨op=22) by omega),if_neg h3];rfl
  have HN:Hid (∀ W,op≤20→Below w.heap.size w W→Calls prog 162 #[.agg #[.int .i64 op,.string ⟨name.toArray⟩,.string ⟨mod.toArray⟩,.bool (decide (z < 0)),sv,.bool yes,.slice a kids.length c,.int .i64 pos]] W fun r w'=> r= .returned (.bool nm)∧Below W.heap.size W w'):=fun W h20 hb=> by
   rw[←hnm];exact Q1U (by omega) h20
  have HV:Hid (∀ W,Below w.heap.size w W→Calls prog 163 #[.agg #[.int .i64 op,.string ⟨name.toArray⟩,.string ⟨mod.toArray⟩,.bool (decide (z < 0)),sv,.bool yes,.slice a kids.length c,.int .i64 pos]] W fun r w'=> r= .returned (.bool vl)∧Below W.heap.size W w'):=fun W hb=> by
   rw[←hvl];exact Q0w (hsv.below hb) hz (by decide)
  have hbx:=box2 w #[.int .i64 op,.string ⟨name.toArray⟩,.string ⟨mod.toArray⟩,.bool (decide (z < 0)),sv,.bool yes,.slice a kids.length c,.int .i64 pos] 30 #[.int .i64 0] 163;have HH:=h4_ h hP ih hkk;obtain ⟨nb,hnb⟩:∃ b,decide (z < 0)=b:=⟨_,rfl⟩
  rw[hnb] at hbx HN HV HH ⊢;have HRE:=h2_ hre hone;obtain ⟨V,hV⟩:∃ V,(w.alloc (.cells #[.int .i64 op,.string ⟨name.toArray⟩,.string ⟨mod.toArray⟩,.bool nb,sv,.bool yes,.slice a kids.length c,.int .i64 pos] 30)).alloc (.cells #[.int .i64 0] 163)=V:=⟨_,rfl⟩
  have HVV:=hd_ hV;rw[hV] at hbx;have HM:Hid (∀ W,Below V.heap.size V W→W.heap[w.heap.size]? =some (.cells #[.int .i64 op,.string ⟨name.toArray⟩,.string ⟨mod.toArray⟩,.bool nb,sv,.bool yes,.slice a kids.length c,.int .i64 pos] 30 (0,0))∧W.heap[w.heap.size+1]? =some (.cells #[.int .i64 0] 163 (0,0))∧Below w.heap.size w W):=fun W hb=> ⟨Qa hbx.1 hb,Qa hbx.2.1 hb,hbx.2.2.trans (hb.mono hbx.2.2.size)⟩;obtain ⟨a0,a1,a2,a3,a4,a5,a6,a7⟩:=cells8 hbx.1;have k0:=Q3 hbx.2.1 0 rfl;have hkl:(kids.length:Int)≤1000000:=by omega
  clear h hP ih hkk hre hone hnm hvl hsv hz hm hn hnb hV hbx;by_cases h1:op < 1
  ·have hf:Ex.one (.mk op name mod z yes kids pos)=false:=(by rw[Dv,eK_ (show ¬ 1≤op by omega)];rfl);have HF:=hd_ hf;clear hf;go_in;go_wp2_with fail;go_ret;exact ⟨by rw[HRE.a,HF.o];rfl,by have:=(HM.o _ (eB_ _ _)).2.2;rw[←HVV.o] at this;exact this⟩
  by_cases h24:24 < op
  ·have hf:Ex.one (.mk op name mod z yes kids pos)=false:=(by rw[Dv,eK_ (show ¬ op≤20 by omega),Bool.and_false];rfl);have HF:=hd_ hf;clear hf;go_in;go_wp2_with fail;go_ret;exact ⟨by rw[HRE.a,HF.o];rfl,by have:=(HM.o _ (eB_ _ _)).2.2;rw[←HVV.o] at this;exact this⟩
  by_cases h20:20 < op
  ·have hf:Ex.one (.mk op name mod z yes kids pos)=false:=(by rw[Dv,eK_ (show ¬ op≤20 by omega),Bool.and_false];rfl);have HF:=hd_ hf;have hd:decide (op < 21)=false:=eK_ (by omega);have HD:=hd_ hd;clear hf hd;go_in;go_wp2_with (rw[HVV.o];go_at_call 161;refine eH_ (LE _ _) ?_;rintro r w2 ⟨rfl,rfl⟩;rw[HD.o]);go_ret;exact ⟨by rw[HRE.a,HF.o];rfl,(HM.o _ (eB_ _ _)).2.2⟩
  have hd:decide (op < 21)=true:=eM_ (by omega);have HD:=hd_ hd;have H20:Hid (op≤20):=Int.not_lt.1 h20;have HO:=hd_ (HRE.B (by omega) H20.o);clear hd;go_in;go_wp2_with (rw[HVV.o];go_at_call 161;refine eH_ (LE _ _) ?_;rintro r w2 ⟨rfl,rfl⟩;rw[HD.o]);refine eH_ (HN.o _ H20.o (HM.o _ (eB_ _ _)).2.2) ?_;rintro r w2 ⟨rfl,hb2⟩;have H2:=hd_ hb2;clear a0 a1 a2 a3 a4 a5 a6 a7 k0;obtain ⟨a0,a1,a2,a3,a4,a5,a6,a7⟩:=cells8 (HM.o _ hb2).1;have k0:=Q3 (HM.o _ hb2).2.1 0 rfl;clear hb2;dsimp only;cases nm with
  | false=>
   go_wp2_with fail;go_ret;exact ⟨by rw[HRE.a,HO.o];rfl,(HM.o _ H2.o).2.2⟩
  | true=>
  go_wp2_with fail;refine eH_ (HV.o _ (HM.o _ H2.o).2.2) ?_;rintro r w3 ⟨rfl,hb2⟩;have H3:=hd_ (H2.o.trans (hb2.mono H2.o.size));clear a0 a1 a2 a3 a4 a5 a6 a7 k0;obtain ⟨a0,a1,a2,a3,a4,a5,a6,a7⟩:=cells8 (HM.o _ H3.o).1;have k0:=Q3 (HM.o _ H3.o).2.1 0 rfl;clear hb2;dsimp only;cases vl with
  | false=>
   go_wp2_with fail;go_ret;exact ⟨by rw[HRE.a,HO.o];rfl,(HM.o _ H3.o).2.2⟩
  | true=>
  have hkn:0≤knum op∧knum op≤2:=by by_cases q4:op≤4 <;> by_cases q6:op≤6 <;> simp[knum,q4,q6]
  have hct:=Du (n:=kids.length) H20.o;obtain ⟨kn,hkn2⟩:∃ n,knum op=n:=⟨_,rfl⟩
  have HK:=hd_ (Q39 w3 H20.o);rw[hkn2] at hkn HK hct;have HCT:=hd_ hct;clear hkn2 hct;by_cases hq:(kids.length:Int)=kn
  ·have hk2:(kids.length:Int)≤2:=(by omega);have hC:Hid (∀ W,Below w3.heap.size w3 W→Calls prog 165 #[.slice a kids.length c,.func (.func 166) #[] #[.pointer (some ⟨w.heap.size+1,0,none⟩)]] W fun r w'=> r= .returned (.bool (kids.any fun k=> !Ex.right k))∧Below W.heap.size W w'):=fun W hb=> by
    have hW:=HM.o W (H3.o.trans (hb.mono H3.o.size));refine Dt (P:=P) (e:= .mk op name mod z yes kids pos) (HH.a.past HH.b hW.2.2) (fun k hk=> eI_ (HH.b k hk) hW.2.2.size) (by show kids.length≤1000000;omega) rfl ?_;intro W2 hb2 i k cs' hi hr;obtain ⟨sv2,kv2,rfl,_,_⟩:=hr.cells;have hmem:k∈kids:=eP_ hi;have hW2:=HM.o W2 ((H3.o.trans (hb.mono H3.o.size)).trans (hb2.mono (H3.o.trans (hb.mono H3.o.size)).size));have hP2:∀ j,P j→j < W2.heap.size:=fun j hj=> eI_ (HH.b j hj) hW2.2.2.size;exact Q0x hW2.2.1 (fun W3 hb3=> HH.c k hmem (hr.past hP2 hb3) (fun j hj=> eI_ (hP2 j hj) hb3.size))
   have HC1:Hid (Ex.count op kids.length=true):=(by rw[HCT.o];exact eM_ hq);subst hq;go_wp2_with (first | (go_at_call 164;refine eH_ HK.o ?_;rintro r w4 ⟨rfl,rfl⟩) | (go_at_call 165;refine eH_ (hC.out _ (eB_ _ _)) ?_;rintro r w5 ⟨rfl,hb5⟩;have H5:=hd_ (H3.o.trans (hb5.mono H3.o.size));clear hb5));go_ret;refine ⟨?_,(HM.o _ H5.o).2.2⟩;rw[HRE.a,HO.o,HC1.o, ←Q6U];rfl
  ·have HQ:=hd_ hq;go_wp2_with (go_at_call 164;refine eH_ HK.o ?_;rintro r w4 ⟨rfl,rfl⟩);go_ret;refine ⟨?_,(HM.o _ H3.o).2.2⟩;rw[HRE.a,HO.o,HCT.o,eK_ HQ.o];rfl
theorem RdE.keep2 (h:RdE w P e cs) (hk:Keeps P w w') (hf:Keeps (Bk 174 w) w w'):RdE w' P e cs:=by
 induction h with
 | mk css hs hl hc hv _ ih=> exact .mk css (RdB.keep hs hf) hl hc (hv.keep hk) ih
theorem IsW.cell (h:IsW w B b l):∃ bc,w.heap[b]? =some (.cells bc 204 (0,0)):=by
 rcases h with ⟨_,v,h,_⟩ | ⟨_,v,h,_⟩ <;> exact ⟨_,h⟩
def strs (ss:List (List UInt8)):Array Value:=(ss.map fun s=> Value.string ⟨s.toArray⟩).toArray
def WdRel (w:World) (B b:Nat) (pre:List UInt8) (ss:List (List UInt8)) (k:Nat) (v:Value) (wr:World):Prop:=
 ∃ j:Nat,v= .int .i64 j∧k=ss.length - j∧j≤ss.length∧IsW wr B b (pre++(ss.take j).flatten)∧Below B w wr∧NB b w wr
theorem Q4x {ss:List (List UInt8)} {s:List UInt8} (h:ss[j]? =some s):(ss.take (j+1)).flatten=(ss.take j).flatten++s∧(ss.take j).flatten.length+s.length≤ss.flatten.length:=by
 have h1:(ss.take (j+1)).flatten=(ss.take j).flatten++s:=by rw[List.take_add_one,h];simp
 refine ⟨h1,?_⟩;have h2:ss.flatten=(ss.take (j+1)).flatten++(ss.drop (j+1)).flatten:=by rw[←List.flatten_append,eW_]
 rw[h2,h1];simp only[eC_];omega
theorem X1 {pre:List UInt8} {ss:List (List UInt8)} (h:IsW w B b pre) (hB:B≤w.heap.size) (hg:w.heap[g]? =some (.cells (strs ss) 9 (0,0))) (hgb:g≠b) (hl:pre.length+ss.flatten.length≤1073741824) (hn:ss.length≤1000):
  Calls prog 167 #[.pointer (some ⟨b,0,none⟩),.slice (some ⟨g,0,none⟩) ss.length ss.length] w fun r w'=> r= .returned (.tuple #[])∧IsW w' B b (pre++ss.flatten)∧Below B w w'∧NB b w w':=by
 have HH:=h5_ h hB hg hgb hl;have hn':(ss.length:Int)≤1000:=by omega
 clear h hB hg hgb hl;go_in;go_wp2;go_loopg [8] ss.length (fun k v8 wr=> WdRel w B b pre ss k v8 wr)
 case atStart=> exact ⟨0,rfl,rfl,eV_ _,by simpa using HH.a,eB_ _ _,NB.refl _ _⟩
 case round=>
  obtain ⟨j,rfl,hk,hj,hi,hbw,hnb⟩:=hrel;have HR:=h4_ hk hi hbw hnb;clear hk hi hbw hnb;by_cases hlt:j < ss.length
  ·have hlt':(j:Int) < (ss.length:Int):=(by omega);obtain ⟨s,hs⟩:∃ s,ss[j]? =some s:=⟨_,eA_ hlt⟩
   have f0:wr.cell? ⟨g,j,none⟩=some (.string ⟨s.toArray⟩):=Q3 (HR.D.cells HH.c HH.d (by decide)) j (by simp[strs,hs]);have HT:=hd_ (Q4x hs);clear hs;go_wp2_with (go_at_call 48;refine eH_ (Q4w HR.b s (by have:=HT.B;have:=HH.E;rw[eC_];omega) (eE_ HH.b HR.c.size)) ?_;rintro r w2 ⟨⟨n,rfl⟩,hw2,hb2,hnb2⟩;have H2:=h3_ hw2 hb2 hnb2;clear hw2 hb2 hnb2);go_roundg (ss.length - (j+1))
   case measure=> have:=HR.a;omega
   case rel=> exact ⟨j+1,by go_num,rfl,by omega,by rw[HT.a, ←eQ_];exact H2.a,HR.c.trans H2.b,HR.D.trans H2.C⟩
  ·obtain rfl:j=ss.length:=(by omega);go_wp2_with fail;go_end0;exact ⟨rfl,by have:=HR.b;rwa [List.take_length] at this,HR.c,HR.D⟩
structure Fw (B b:Nat) (V W:World):Prop where
 below:Below B V W
 nb:NB b V W
theorem Fw.refl (B b:Nat) (w:World):Fw B b w w:=⟨eB_ _ _,NB.refl _ _⟩
theorem Fw.trans {B b:Nat} {x y z:World} (h:Fw B b x y) (k:Fw B b y z):Fw B b x z:=⟨h.below.trans k.below,h.nb.trans k.nb⟩
theorem Fw.of {B b:Nat} {x y:World} (hB:B≤x.heap.size) (h:Below x.heap.size x y):Fw B b x y:=⟨h.mono hB,NB.of h⟩
theorem Fw.drew {B b:Nat} {x y:World} (h:Fw B b x y):Fw B b x y.drew:=⟨h.below.drew,h.nb.trans (NB.of (eB_ _ _).drew)⟩
theorem Fw.size {B b:Nat} {x y:World} (h:Fw B b x y):x.heap.size≤y.heap.size:=h.below.size
theorem Fw.cells {B b:Nat} {x y:World} (h:Fw B b x y) {k:Nat} {cs:Array Value} {T:TypeId} (hk:x.heap[k]? =some (.cells cs T (0,0))) (hne:k≠b) (hT:T≠5):y.heap[k]? =some (.cells cs T (0,0)):=h.nb.cells hk hne hT
theorem Fw.rde (h:Fw B b x y) {l:List UInt8} (hw:IsW x B b l) {P:Nat→Prop} (hP:∀ k,P k→k < B) {e:Ex} {cs:List Value} (hr:RdE x P e cs):RdE y P e cs:=by
 obtain ⟨bc,hb⟩:=hw.cell;exact hr.keep2 (Keeps.of h.below hP) (h.nb.keeps (by decide) hb (by decide))
mutual
def Ex.wl:Ex→Nat
 | .mk _ n _ _ _ k _=> 100+n.length+Ex.wls k
def Ex.wls:List Ex→Nat
 | []=> 0
 | e::r=> 10+Ex.wl e+Ex.wls r
end
def KnowsW (B:Nat) (P:Nat→Prop) (e:Ex):Prop:=∀ (w:World) (b:Nat) (pre:List UInt8) (cs:List Value),RdE w P e cs→IsW w B b pre→B≤w.heap.size→pre.length+Ex.wl e≤1073741824→
 Calls prog 129 #[.pointer (some ⟨b,0,none⟩),.agg cs.toArray] w fun r w'=> r= .returned (.tuple #[])∧(∃ l,l.length≤pre.length+Ex.wl e∧IsW w' B b l)∧Fw B b w w'
theorem ZX (hK:KnowsW B P e) (hP:∀ k,P k→k < B) {w:World} {b:Nat} {pre:List UInt8} {cs:List Value} {least:Int} (h:RdE w P e cs) (hw:IsW w B b pre) (hB:B≤w.heap.size) (hl:pre.length+Ex.wl e+2≤1073741824):
  Calls prog 168 #[.pointer (some ⟨b,0,none⟩),.agg cs.toArray,.int .i64 least] w fun r w'=> r= .returned (.tuple #[])∧(∃ l,l.length≤pre.length+Ex.wl e+2∧IsW w' B b l)∧Fw B b w w':=by
 obtain ⟨sv,kv,rfl,_,a,c,rfl⟩:=h.cells;obtain ⟨nb,hnb⟩:∃ x,decide (e.num < 0)=x:=⟨_,rfl⟩
 rw[hnb] at h ⊢;obtain ⟨nk,hnk⟩:∃ x,e.kids.length=x:=⟨_,rfl⟩
 rw[hnk] at h ⊢;have hbx:=Qk (w:=w) #[.int .i64 e.op,.string ⟨e.name.toArray⟩,.string ⟨e.mod.toArray⟩,.bool nb,sv,.bool e.yes,.slice a nk c,.int .i64 e.pos] 30;have HH:=h6_ hK hP h hw hB hl;obtain ⟨V,hV⟩:∃ V,w.alloc (.cells #[.int .i64 e.op,.string ⟨e.name.toArray⟩,.string ⟨e.mod.toArray⟩,.bool nb,sv,.bool e.yes,.slice a nk c,.int .i64 e.pos] 30)=V:=⟨_,rfl⟩
 have HVV:=hd_ hV;rw[hV] at hbx;have hbw:w.heap.size≠b:=by have:=hw.lt;omega
 have HM:Hid (∀ W,Fw B b V W→W.heap[w.heap.size]? =some (.cells #[.int .i64 e.op,.string ⟨e.name.toArray⟩,.string ⟨e.mod.toArray⟩,.bool nb,sv,.bool e.yes,.slice a nk c,.int .i64 e.pos] 30 (0,0))∧Fw B b w W∧RdE W P e [.int .i64 e.op,.string ⟨e.name.toArray⟩,.string ⟨e.mod.toArray⟩,.bool nb,sv,.bool e.yes,.slice a nk c,.int .i64 e.pos]∧B≤W.heap.size):=fun W hb=> by
  have h1:=(Fw.of (b:=b) hB hbx.2).trans hb;exact ⟨hb.cells hbx.1 hbw (by decide),h1,h1.rde hw hP h,eE_ hB h1.size⟩
 obtain ⟨a0,a1,a2,a3,a4,a5,a6,a7⟩:=cells8 hbx.1;have HL:Hid (∀ W,Fw B b V W→Calls prog 203 #[.agg #[.int .i64 e.op,.string ⟨e.name.toArray⟩,.string ⟨e.mod.toArray⟩,.bool nb,sv,.bool e.yes,.slice a nk c,.int .i64 e.pos]] W fun r w'=> (∃ n:Int,r= .returned (.int .i64 n))∧Below W.heap.size W w'):=fun W hb=> Q1S ⟨_,rfl,(HM.o W hb).2.2.1⟩;have HW0:Hid (IsW V B b pre):=hw.below hbx.2;have HBN:=hd_ hbw;clear hK hP h hw hB hl hbx hV hnb hnk hbw;go_in;go_wp2_with fail;rw[HVV.o];refine eH_ (HL.o _ (Fw.refl _ _ _)) ?_;rintro r w2 ⟨⟨n,rfl⟩,hb2⟩;have hf2:Fw B b V w2:=Fw.of (HM.o _ (Fw.refl _ _ _)).2.2.2 hb2;clear a0 a1 a2 a3 a4 a5 a6 a7;obtain ⟨a0,a1,a2,a3,a4,a5,a6,a7⟩:=cells8 (HM.o _ hf2).1;have H2:=h2_ hf2 (HW0.o.below hb2);clear hf2 hb2;dsimp only;by_cases hln:least≤n
 ·go_wp2_with fail;refine eH_ (HH.a w2 b pre _ (HM.o _ H2.a).2.2.1 H2.B (HM.o _ H2.a).2.2.2 (by have:=HH.F;omega)) ?_;rintro r w3 ⟨rfl,⟨l3,hl3,hw3⟩,hf3⟩;have H3:=h3_ hl3 hw3 hf3;clear hl3 hw3 hf3;dsimp only;go_wp2_with fail;refine eG_ (results_none rfl _ _ _) rfl ?_;exact ⟨rfl,⟨l3,by have:=H3.a;omega,H3.b⟩,(HM.o _ H2.a).2.1.trans H3.C⟩
 ·go_wp2_with fail;have hx3:=Qk (w:=w2) #[.string ⟨#[40]⟩] 9;refine eH_ (X1 (ss:= [[40]]) (H2.B.below hx3.2) (eE_ (HM.o _ H2.a).2.2.2 hx3.2.size) hx3.1 (by have:=H2.B.lt;omega) (by have:=HH.F;simp;omega) (by decide)) ?_;rintro r w3 ⟨rfl,hw3,hb3,hn3⟩;have hf3:Fw B b V w3:=(H2.a.trans (Fw.of (HM.o _ H2.a).2.2.2 hx3.2)).trans ⟨hb3,hn3⟩;clear a0 a1 a2 a3 a4 a5 a6 a7;obtain ⟨a0,a1,a2,a3,a4,a5,a6,a7⟩:=cells8 (HM.o _ hf3).1;have H3:=h2_ hf3 hw3;clear hf3 hb3 hn3 hw3 hx3;dsimp only;go_wp2_with fail;refine eH_ (HH.a w3 b _ _ (HM.o _ H3.a).2.2.1 H3.B (HM.o _ H3.a).2.2.2 (by have:=HH.F;simp;omega)) ?_;rintro r w4 ⟨rfl,⟨l4,hl4,hw4⟩,hf4⟩;have H4:=h3_ hl4 hw4 (H3.a.trans hf4);clear hl4 hw4 hf4;dsimp only;go_wp2_with fail;have hx5:=Qk (w:=w4) #[.string ⟨#[41]⟩] 9;refine eH_ (X1 (ss:= [[41]]) (H4.b.below hx5.2) (eE_ (HM.o _ H4.C).2.2.2 hx5.2.size) hx5.1 (by have:=H4.b.lt;omega) (by have:=HH.F;have:=H4.a;simp at*;omega) (by decide)) ?_;rintro r w5 ⟨rfl,hw5,hb5,hn5⟩;have hf5:Fw B b V w5:=(H4.C.trans (Fw.of (HM.o _ H4.C).2.2.2 hx5.2)).trans ⟨hb5,hn5⟩;have H5:=h2_ hf5 hw5;clear hf5 hb5 hn5 hw5 hx5;dsimp only;go_wp2_with fail;go_end0;exact ⟨rfl,⟨_,by have:=H4.a;simp at*;omega,H5.B⟩,(HM.o _ H5.a).2.1⟩
theorem Gn:∀ {l:List Ex} {k:Ex},k∈l→10+Ex.wl k≤Ex.wls l
 | e::r,k,h=> by
  rw[Ex.wls];rcases List.mem_cons.1 h with rfl | h
  ·omega
  ·have:=Gn h;omega
theorem ZH {op pos:Int} {name mod:List UInt8} {yes:Bool} {kids:List Ex} (h:Ex.right (.mk op name mod z yes kids pos)=true):
  1≤op∧op≤20∧(op=1→(Zp.text z).length≤60)∧(kids.length:Int)=knum op∧∀ k∈kids,Ex.right k=true:=by
 rw[Ex.Q1t,Bool.and_eq_true,Dv] at h;simp only[Bool.and_eq_true,decide_eq_true_eq] at h;obtain ⟨⟨⟨⟨⟨h1,h2⟩,_⟩,h3⟩,h4⟩,h5⟩:=h;rw[Du h2,decide_eq_true_eq] at h4;refine ⟨h1,h2,fun e=> ?_,h4,fun k hk=> ?_⟩
 ·rw[if_pos e] at h3;simp only[Bool.and_eq_true,decide_eq_true_eq] at h3;exact h3.1.2
 ·simp only[Ex.kids] at h5;rw[Jr] at h5;exact List.all_eq_true.1 h5 k hk
theorem Q1X (hs:Ex.Sm e):∀ {B:Nat} {P:Nat→Prop},(∀ k,P k→k < B)→Ex.right e=true→KnowsW B P e:=by
 induction hs with
 | @mk op pos z name mod yes kids hn hm hz hk hkk ih=>
  intro B P hP hright w b pre cs h hw hB hl;obtain ⟨sv,a,c,rfl,hsv⟩:∃ sv a c,cs= [.int .i64 op,.string ⟨name.toArray⟩,.string ⟨mod.toArray⟩,.bool (decide (z < 0)),sv,.bool yes,.slice a kids.length c,.int .i64 pos]∧RdU w sv (wd z):=by
   cases h with
   | mk css hu hl hc hv hk'=>
    obtain ⟨a,c,rfl⟩:=hv.form;exact ⟨_,a,c,rfl,hu⟩
  obtain ⟨h1,h20,h60,hkn,hkr⟩:=ZH hright;have hbx:=Qk (w:=w) #[.int .i64 op,.string ⟨name.toArray⟩,.string ⟨mod.toArray⟩,.bool (decide (z < 0)),sv,.bool yes,.slice a kids.length c,.int .i64 pos] 30;have hnum:Num w (.agg #[.bool (decide (z < 0)),sv]) z:=⟨_,rfl,hsv⟩
  obtain ⟨a9,c9,rfl⟩:=RdS.form hsv;obtain ⟨nb,hnb⟩:∃ b,decide (z < 0)=b:=⟨_,rfl⟩
  rw[hnb] at hbx h hnum ⊢;have hwl:Ex.wl (.mk op name mod z yes kids pos)=100+name.length+Ex.wls kids:=by rw[Ex.wl]
  rw[hwl] at hl ⊢;obtain ⟨V,hV⟩:∃ V,w.alloc (.cells #[.int .i64 op,.string ⟨name.toArray⟩,.string ⟨mod.toArray⟩,.bool nb,.slice a9 (wd z).length c9,.bool yes,.slice a kids.length c,.int .i64 pos] 30)=V:=⟨_,rfl⟩
  have HVV:=hd_ hV;have HVS:Hid (w.heap.size+1=V.heap.size):=by rw[←hV];exact Q5 _ _
  rw[hV] at hbx;have hbw:w.heap.size≠b:=by have:=hw.lt;omega
  have HM:Hid (∀ W,Fw B b V W→W.heap[w.heap.size]? =some (.cells #[.int .i64 op,.string ⟨name.toArray⟩,.string ⟨mod.toArray⟩,.bool nb,.slice a9 (wd z).length c9,.bool yes,.slice a kids.length c,.int .i64 pos] 30 (0,0))∧Fw B b w W∧RdE W P (.mk op name mod z yes kids pos) [.int .i64 op,.string ⟨name.toArray⟩,.string ⟨mod.toArray⟩,.bool nb,.slice a9 (wd z).length c9,.bool yes,.slice a kids.length c,.int .i64 pos]∧B≤W.heap.size):=fun W hb=> by
   have h1:=(Fw.of (b:=b) hB hbx.2).trans hb;exact ⟨hb.cells hbx.1 hbw (by decide),h1,h1.rde hw hP h,eE_ hB h1.size⟩
  have HK:Hid (∀ W,Fw B b V W→∀ (i:Nat) (k:Ex),kids[i]? =some k→∃ bk off ck cs',a=some ⟨bk,off,none⟩∧c=ck∧W.rangeAt bk (off+i*8) cs'∧RdE W P k cs'∧bk < B):=fun W hb i k hi=> by
   obtain ⟨bk,off,ck,cs',q1,q2,q3,q4,q5⟩:=RdE.kid (HM W hb).2.2.1 (i:=i) (k:=k) hi;injection q1 with q1;injection q1 with q1 _ q6;exact ⟨bk,off,ck,cs',q1,q6,q3,q5,hP bk q2⟩
  have HC:Hid (∀ (i:Nat) (k:Ex),kids[i]? =some k→KnowsW B P k∧10+Ex.wl k≤Ex.wls kids):=fun i k hi=> ⟨ih k (eP_ hi) hP (hkr k (eP_ hi)),Gn (eP_ hi)⟩;have HW0:Hid (IsW V B b pre):=hw.below hbx.2;have HF:Hid (Fw B b V V):=Fw.refl _ _ _;have HN:Hid (Num V (.agg #[.bool nb,.slice a9 (wd z).length c9]) z∧Bd 1000000 z∧(op=1→(Zp.text z).length≤60)):=⟨hnum.below hbx.2,hz,h60⟩
  have HP:=h3_ hP hl hn;have HKN:=hd_ hkn;obtain ⟨a0,a1,a2,a3,a4,a5,a6,a7⟩:=cells8 hbx.1;clear hP hright h hw hB hl hbx hV hnb hbw hwl ih hkk hkr hz hm hn hsv hnum h60 hkn hk;by_cases q1:op=1
  ·subst q1;have h60:=HN.C rfl;obtain ⟨tx,htx⟩:∃ t,Zp.text z=t:=⟨_,rfl⟩
   have HT:Hid (∀ W,Fw B b V W→Below V.heap.size V W→Calls prog 26 #[.agg #[.bool nb,.slice a9 (wd z).length c9]] W fun e w'=> e= .returned (.string ⟨tx.toArray⟩)∧Below W.heap.size W w'):=fun W _ hb=> (by rw[←htx];exact Y1 (HN.a.below hb) HN.b (by decide));rw[htx] at h60;have H60:=hd_ h60;clear htx h60;go_in;go_wp2_with fail;rw[HVV.o];refine eH_ (HT.o V HF.o (eB_ _ _)) ?_;rintro r w1 ⟨rfl,hb1⟩;have H1:=h2_ (Fw.of (b:=b) (HM.o _ HF.o).2.2.2 hb1) (HW0.o.below hb1);clear hb1;dsimp only;go_wp2_with fail;have hx2:=Qk (w:=w1) #[.string ⟨tx.toArray⟩] 9;refine eH_ (X1 (ss:= [tx]) (H1.B.below hx2.2) (eE_ (HM.o _ H1.a).2.2.2 hx2.2.size) hx2.1 (by have:=H1.B.lt;omega) (by have:=HP.b;have:=H60.o;simp;omega) (by simp)) ?_;rintro r w2 ⟨rfl,hw2,hb2,hn2⟩;have hf2:Fw B b V w2:=(H1.a.trans (Fw.of (HM.o _ H1.a).2.2.2 hx2.2)).trans ⟨hb2,hn2⟩;clear a0 a1 a2 a3 a4 a5 a6 a7;obtain ⟨a0,a1,a2,a3,a4,a5,a6,a7⟩:=cells8 (HM.o _ hf2).1;have H2:=h2_ hf2 hw2;clear hf2 hb2 hn2 hw2 hx2;dsimp only;go_wp2_with fail;go_end0;exact ⟨rfl,⟨_,by have:=H60.o;simp;omega,H2.B⟩,(HM.o _ H2.a).2.1⟩
  by_cases q2:op=2
  ·subst q2;cases yes with
   | true=>
    go_in;go_wp2_with fail;rw[HVV.o,HVS.o];have hx2:=Qk (w:=V) #[.string ⟨#[116,114,117,101]⟩] 9;refine eH_ (X1 (ss:= [[116,114,117,101]]) (HW0.o.below hx2.2) (eE_ (HM.o _ HF.o).2.2.2 hx2.2.size) hx2.1 (by have:=HW0.o.lt;omega) (by have:=HP.b;simp;omega) (by simp)) ?_;rintro r w2 ⟨rfl,hw2,hb2,hn2⟩;have hf2:Fw B b V w2:=(HF.o.trans (Fw.of (HM.o _ HF.o).2.2.2 hx2.2)).trans ⟨hb2,hn2⟩;clear a0 a1 a2 a3 a4 a5 a6 a7;obtain ⟨a0,a1,a2,a3,a4,a5,a6,a7⟩:=cells8 (HM.o _ hf2).1;have H2:=h2_ hf2 hw2;clear hf2 hb2 hn2 hw2 hx2;dsimp only;go_wp2_with fail;go_end0;exact ⟨rfl,⟨_,by simp;omega,H2.B⟩,(HM.o _ H2.a).2.1⟩
   | false=>
    go_in;go_wp2_with fail;rw[HVV.o,HVS.o];have hx2:=Qk (w:=V) #[.string ⟨#[102,97,108,115,101]⟩] 9;refine eH_ (X1 (ss:= [[102,97,108,115,101]]) (HW0.o.below hx2.2) (eE_ (HM.o _ HF.o).2.2.2 hx2.2.size) hx2.1 (by have:=HW0.o.lt;omega) (by have:=HP.b;simp;omega) (by simp)) ?_;rintro r w2 ⟨rfl,hw2,hb2,hn2⟩;have hf2:Fw B b V w2:=(HF.o.trans (Fw.of (HM.o _ HF.o).2.2.2 hx2.2)).trans ⟨hb2,hn2⟩;clear a0 a1 a2 a3 a4 a5 a6 a7;obtain ⟨a0,a1,a2,a3,a4,a5,a6,a7⟩:=cells8 (HM.o _ hf2).1;have H2:=h2_ hf2 hw2;clear hf2 hb2 hn2 hw2 hx2;dsimp only;go_wp2_with fail;go_end0;exact ⟨rfl,⟨_,by simp;omega,H2.B⟩,(HM.o _ H2.a).2.1⟩
  by_cases q3:op=3
  ·subst q3;go_in;go_wp2_with fail;rw[HVV.o,HVS.o];have hx2:=Qk (w:=V) #[.string ⟨name.toArray⟩] 9;refine eH_ (X1 (ss:= [name]) (HW0.o.below hx2.2) (eE_ (HM.o _ HF.o).2.2.2 hx2.2.size) hx2.1 (by have:=HW0.o.lt;omega) (by have:=HP.b;simp;omega) (by simp)) ?_;rintro r w2 ⟨rfl,hw2,hb2,hn2⟩;have hf2:Fw B b V w2:=(HF.o.trans (Fw.of (HM.o _ HF.o).2.2.2 hx2.2)).trans ⟨hb2,hn2⟩;clear a0 a1 a2 a3 a4 a5 a6 a7;obtain ⟨a0,a1,a2,a3,a4,a5,a6,a7⟩:=cells8 (HM.o _ hf2).1;have H2:=h2_ hf2 hw2;clear hf2 hb2 hn2 hw2 hx2;dsimp only;go_wp2_with fail;go_end0;exact ⟨rfl,⟨_,by simp;omega,H2.B⟩,(HM.o _ H2.a).2.1⟩
  by_cases q4:op=4
  ·subst q4;go_in;go_wp2_with fail;rw[HVV.o,HVS.o];have hx2:=Qk (w:=V) #[.string ⟨#[114,101,115]⟩] 9;refine eH_ (X1 (ss:= [[114,101,115]]) (HW0.o.below hx2.2) (eE_ (HM.o _ HF.o).2.2.2 hx2.2.size) hx2.1 (by have:=HW0.o.lt;omega) (by have:=HP.b;simp;omega) (by simp)) ?_;rintro r w2 ⟨rfl,hw2,hb2,hn2⟩;have hf2:Fw B b V w2:=(HF.o.trans (Fw.of (HM.o _ HF.o).2.2.2 hx2.2)).trans ⟨hb2,hn2⟩;clear a0 a1 a2 a3 a4 a5 a6 a7;obtain ⟨a0,a1,a2,a3,a4,a5,a6,a7⟩:=cells8 (HM.o _ hf2).1;have H2:=h2_ hf2 hw2;clear hf2 hb2 hn2 hw2 hx2;dsimp only;go_wp2_with fail;go_end0;exact ⟨rfl,⟨_,by simp;omega,H2.B⟩,(HM.o _ H2.a).2.1⟩
  by_cases q5:op=5
  ·subst q5;have hk1:kids.length=1:=(by have:=HKN.o;rw[show knum 5=1 from rfl] at this;omega);obtain ⟨k,hk⟩:∃ k,kids[0]? =some k:=⟨_,eA_ (by omega)⟩
   have HKK:=h2_ (HC.o 0 k hk) hk;obtain ⟨bk,off,ck,cs0,rfl,rfl,_,_,_⟩:=HK.o _ HF.o 0 k hk;clear hk;have hk0:0 < kids.length:=(by omega);clear hk1;go_in;go_wp2_with fail;rw[HVV.o,HVS.o];have hx2:=Qk (w:=V) #[.string ⟨#[45]⟩] 9;refine eH_ (X1 (ss:= [[45]]) (HW0.o.below hx2.2) (eE_ (HM.o _ HF.o).2.2.2 hx2.2.size) hx2.1 (by have:=HW0.o.lt;omega) (by have:=HP.b;simp;omega) (by simp)) ?_;rintro r w2 ⟨rfl,hw2,hb2,hn2⟩;have hf2:Fw B b V w2:=(HF.o.trans (Fw.of (HM.o _ HF.o).2.2.2 hx2.2)).trans ⟨hb2,hn2⟩;clear a0 a1 a2 a3 a4 a5 a6 a7;obtain ⟨a0,a1,a2,a3,a4,a5,a6,a7⟩:=cells8 (HM.o _ hf2).1;have H2:=h2_ hf2 hw2;clear hf2 hb2 hn2 hw2 hx2;dsimp only;obtain ⟨bk2,off2,ck2,cs2,q1,_,hr,hre,hbk⟩:=HK.o _ H2.a 0 k HKK.B;injection q1 with q1;injection q1 with q1 q2;subst q1 q2;obtain ⟨sv2,kv2,rfl,_,a2,c2,rfl⟩:=hre.cells;have HR:=h2_ hr hre;clear hr hre hbk;go_wp2_with (refine wpList_load_mid rfl 30 _ rfl bk (off+0*8) rfl _ _ HR.a underlying30 rfl rfl ?_);refine eH_ (ZX HKK.a.1 HP.a HR.B H2.B (HM.o _ H2.a).2.2.2 (by have:=HP.b;have:=HKK.a.2;simp;omega)) ?_;rintro r w3 ⟨rfl,⟨l3,hl3,hw3⟩,hf3⟩;have H3:=h3_ hl3 hw3 (H2.a.trans hf3);clear hl3 hw3 hf3;dsimp only;go_wp2_with fail;go_end0;exact ⟨rfl,⟨_,by have:=H3.a;have:=HKK.a.2;simp at*;omega,H3.b⟩,(HM.o _ H3.C).2.1⟩
  by_cases q6:op=6
  ·subst q6;have hk1:kids.length=1:=(by have:=HKN.o;rw[show knum 6=1 from rfl] at this;omega);obtain ⟨k,hk⟩:∃ k,kids[0]? =some k:=⟨_,eA_ (by omega)⟩
   have HKK:=h2_ (HC.o 0 k hk) hk;obtain ⟨bk,off,ck,cs0,rfl,rfl,_,_,_⟩:=HK.o _ HF.o 0 k hk;clear hk;have hk0:0 < kids.length:=(by omega);clear hk1;go_in;go_wp2_with fail;rw[HVV.o,HVS.o];have hx2:=Qk (w:=V) #[.string ⟨#[110,111,116,32]⟩] 9;refine eH_ (X1 (ss:= [[110,111,116,32]]) (HW0.o.below hx2.2) (eE_ (HM.o _ HF.o).2.2.2 hx2.2.size) hx2.1 (by have:=HW0.o.lt;omega) (by have:=HP.b;simp;omega) (by simp)) ?_;rintro r w2 ⟨rfl,hw2,hb2,hn2⟩;have hf2:Fw B b V w2:=(HF.o.trans (Fw.of (HM.o _ HF.o).2.2.2 hx2.2)).trans ⟨hb2,hn2⟩;clear a0 a1 a2 a3 a4 a5 a6 a7;obtain ⟨a0,a1,a2,a3,a4,a5,a6,a7⟩:=cells8 (HM.o _ hf2).1;have H2:=h2_ hf2 hw2;clear hf2 hb2 hn2 hw2 hx2;dsimp only;obtain ⟨bk2,off2,ck2,cs2,q1,_,hr,hre,hbk⟩:=HK.o _ H2.a 0 k HKK.B;injection q1 with q1;injection q1 with q1 q2;subst q1 q2;obtain ⟨sv2,kv2,rfl,_,a2,c2,rfl⟩:=hre.cells;have HR:=h2_ hr hre;clear hr hre hbk;go_wp2_with (refine wpList_load_mid rfl 30 _ rfl bk (off+0*8) rfl _ _ HR.a underlying30 rfl rfl ?_);refine eH_ (ZX HKK.a.1 HP.a HR.B H2.B (HM.o _ H2.a).2.2.2 (by have:=HP.b;have:=HKK.a.2;simp;omega)) ?_;rintro r w3 ⟨rfl,⟨l3,hl3,hw3⟩,hf3⟩;have H3:=h3_ hl3 hw3 (H2.a.trans hf3);clear hl3 hw3 hf3;dsimp only;go_wp2_with fail;go_end0;exact ⟨rfl,⟨_,by have:=H3.a;have:=HKK.a.2;simp at*;omega,H3.b⟩,(HM.o _ H3.C).2.1⟩
  have h7:7≤op:=by omega
  clear q1 q2 q3 q4 q5 q6 h1;have hk2:kids.length=2:=by have:=HKN.o;unfold knum at this;rw[if_neg (by omega),if_neg (by omega)] at this;omega
  obtain ⟨k,hk⟩:∃ k,kids[0]? =some k:=⟨_,eA_ (by omega)⟩
  obtain ⟨m,hm⟩:∃ m,kids[1]? =some m:=⟨_,eA_ (by omega)⟩
  have hsum:20+Ex.wl k+Ex.wl m≤Ex.wls kids:=by
   match kids,hk,hm with
   | x::y::r,hk,hm=>
    simp only[eZ_,List.getElem?_cons_succ,Option.some.injEq] at hk hm;subst hk hm;rw[Ex.wls,Ex.wls];omega
  have HKK:=h5_ (HC.o 0 k hk).1 (HC.o 1 m hm).1 hk hm hsum;obtain ⟨bk,off,ck,cs0,rfl,rfl,_,_,hbk⟩:=HK.o _ HF.o 0 k hk;have HBK:=hd_ hbk;have hk0:1 < kids.length:=by omega
  have hk1i:(1:Int) < (kids.length:Int):=by omega
  have hk00:0 < kids.length:=by omega
  clear hk hm hsum hk2 hbk;have HT:=hd_ (fun W=> LD (w:=W) h7 h20);go_in;go_wp2_with fail;rw[HVV.o];refine eH_ (HT.o V) ?_;rintro r w1 ⟨v1,rfl,⟨f0,f1,f2,sg,rfl,hsg⟩,hb1⟩;have HSG:=hd_ hsg;have H1:=h2_ (Fw.of (b:=b) (HM.o _ HF.o).2.2.2 hb1) (HW0.o.below hb1);clear a0 a1 a2 a3 a4 a5 a6 a7;obtain ⟨a0,a1,a2,a3,a4,a5,a6,a7⟩:=cells8 (HM.o _ H1.a).1;clear hb1 hsg;dsimp only;go_wp2_with (refine Qe rfl 245 _ _ rfl 245 #[.int .i64 0,.int .i64 0,.int .i64 0,.string ⟨#[]⟩] #[.int .i64 f0,.int .i64 f1,.int .i64 f2,.string ⟨sg.toArray⟩] rfl rfl rfl UI (by simp[Value.oneCell']) ?_);have hx2:=Qk (w:=w1) #[.int .i64 f0,.int .i64 f1,.int .i64 f2,.string ⟨sg.toArray⟩] 245;obtain ⟨V1,hV1⟩:∃ V1,w1.alloc (.cells #[.int .i64 f0,.int .i64 f1,.int .i64 f2,.string ⟨sg.toArray⟩] 245)=V1:=⟨_,rfl⟩
  rw[hV1] at hx2 ⊢;have hf2:Fw B b V V1:=H1.a.trans (Fw.of (HM.o _ H1.a).2.2.2 hx2.2);have hgb:w1.heap.size≠b:=by have:=H1.B.lt;omega
  have H2:=h2_ hf2 (H1.B.below hx2.2);have HFM:Hid (∀ W,Fw B b V1 W→W.heap[w1.heap.size]? =some (.cells #[.int .i64 f0,.int .i64 f1,.int .i64 f2,.string ⟨sg.toArray⟩] 245 (0,0))):=fun W hb=> hb.cells hx2.1 hgb (by decide);clear hf2 hgb hx2 hV1;clear a0 a1 a2 a3 a4 a5 a6 a7;obtain ⟨bk2,off2,ck2,cs2,q1,_,hr,hre,hbk⟩:=HK.o _ (H2.a.trans (Fw.refl B b V1)) 0 k HKK.c;injection q1 with q1;injection q1 with q1 q2;subst q1 q2;obtain ⟨sk,kv2,rfl,_,ak,ckk,rfl⟩:=hre.cells;obtain ⟨nk,hnk⟩:∃ x,decide (Ex.num k < 0)=x:=⟨_,rfl⟩
  rw[hnk] at hr hre;have g0:V1.cell? ⟨bk,off,none⟩=some (.int .i64 k.op):=hr 0 _ rfl;have g1:V1.cell? ⟨bk,off+1,none⟩=some (.string ⟨k.name.toArray⟩):=hr 1 _ rfl;have g2:V1.cell? ⟨bk,off+2,none⟩=some (.string ⟨k.mod.toArray⟩):=hr 2 _ rfl;have g3:V1.cell? ⟨bk,off+3,none⟩=some (.bool nk):=hr 3 _ rfl;have g4:V1.cell? ⟨bk,off+4,none⟩=some (sk):=hr 4 _ rfl;have g5:V1.cell? ⟨bk,off+5,none⟩=some (.bool k.yes):=hr 5 _ rfl;have g6:V1.cell? ⟨bk,off+6,none⟩=some (.slice ak k.kids.length ckk):=hr 6 _ rfl;have g7:V1.cell? ⟨bk,off+7,none⟩=some (.int .i64 k.pos):=hr 7 _ rfl;have mkS:∀ W:World,Fw B b V1 W→Fw B b V1 W∧W.cell? ⟨w.heap.size,6,none⟩=some (.slice (some ⟨bk,off,none⟩) kids.length c)∧W.cell? ⟨bk,off,none⟩=some (.int .i64 k.op)∧W.cell? ⟨bk,off+1,none⟩=some (.string ⟨k.name.toArray⟩)∧W.cell? ⟨bk,off+2,none⟩=some (.string ⟨k.mod.toArray⟩)∧W.cell? ⟨bk,off+3,none⟩=some (.bool nk)∧W.cell? ⟨bk,off+4,none⟩=some (sk)∧W.cell? ⟨bk,off+5,none⟩=some (.bool k.yes)∧W.cell? ⟨bk,off+6,none⟩=some (.slice ak k.kids.length ckk)∧W.cell? ⟨bk,off+7,none⟩=some (.int .i64 k.pos)∧W.cell? ⟨w1.heap.size,1,none⟩=some (.int .i64 f1):=fun W hb=> ⟨hb,(cells8 (HM.o _ ((H2.a.trans (Fw.refl B b V1)).trans hb)).1).2.2.2.2.2.2.1,(hb.below.cell hbk).trans g0,(hb.below.cell hbk).trans g1,(hb.below.cell hbk).trans g2,(hb.below.cell hbk).trans g3,(hb.below.cell hbk).trans g4,(hb.below.cell hbk).trans g5,(hb.below.cell hbk).trans g6,(hb.below.cell hbk).trans g7,Q3 (HFM.o _ (((Fw.refl B b V1)).trans hb)) 1 rfl⟩;have HS:=hd_ mkS;have HRE:=hd_ hre;clear hr hre hbk g0 g1 g2 g3 g4 g5 g6 g7 mkS hnk;go_wp2_with fail;go_region_held3 (fun w'=> Fw B b V1 w'∧w'.cell? ⟨w.heap.size,6,none⟩=some (.slice (some ⟨bk,off,none⟩) kids.length c)∧w'.cell? ⟨bk,off,none⟩=some (.int .i64 k.op)∧w'.cell? ⟨bk,off+1,none⟩=some (.string ⟨k.name.toArray⟩)∧w'.cell? ⟨bk,off+2,none⟩=some (.string ⟨k.mod.toArray⟩)∧w'.cell? ⟨bk,off+3,none⟩=some (.bool nk)∧w'.cell? ⟨bk,off+4,none⟩=some (sk)∧w'.cell? ⟨bk,off+5,none⟩=some (.bool k.yes)∧w'.cell? ⟨bk,off+6,none⟩=some (.slice ak k.kids.length ckk)∧w'.cell? ⟨bk,off+7,none⟩=some (.int .i64 k.pos)∧w'.cell? ⟨w1.heap.size,1,none⟩=some (.int .i64 f1)) (first | exact HS.o _ (Fw.refl _ _ _).drew | exact HS.o _ hf9) ((go_at_call 168;refine eH_ (ZX HKK.a HP.a ((Fw.refl B b _).drew.rde H2.B HP.a HRE.o) (H2.B.below (eB_ _ _).drew) (HM.o _ ((H2.a.trans (Fw.refl B b V1)).drew)).2.2.2 (by have:=HP.b;have:=HKK.E;omega)) ?_;rintro r w3 ⟨rfl,⟨l3,hl3,hw3⟩,hf3⟩;have hf9:=(Fw.refl B b V1).drew.trans hf3;have H3:=h3_ (((Fw.refl B b V1)).trans hf9) hw3 hl3;clear hf3 hw3 hl3));clear hf9 HS;obtain ⟨a0,a1,a2,a3,a4,a5,a6,a7⟩:=cells8 (HM.o _ (H2.a.trans H3.a)).1;have s3:=Q3 (HFM.o _ H3.a) 3 rfl;go_wp2_with fail;have hx4:=Qk (w:=w3) #[.string ⟨#[32]⟩,.string ⟨sg.toArray⟩,.string ⟨#[32]⟩] 9;refine eH_ (X1 (ss:= [[32],sg, [32]]) (H3.b.below hx4.2) (eE_ (HM.o _ (H2.a.trans H3.a)).2.2.2 hx4.2.size) hx4.1 (by have:=H3.b.lt;omega) (by have:=HP.b;have:=HKK.E;have:=H3.C;have:=HSG.o;simp at*;omega) (by simp)) ?_;rintro r w4 ⟨rfl,hw4,hb4,hn4⟩;have hf4:Fw B b V w4:=((H2.a.trans H3.a).trans (Fw.of (HM.o _ (H2.a.trans H3.a)).2.2.2 hx4.2)).trans ⟨hb4,hn4⟩;clear a0 a1 a2 a3 a4 a5 a6 a7;obtain ⟨a0,a1,a2,a3,a4,a5,a6,a7⟩:=cells8 (HM.o _ hf4).1;have H4:=h2_ hf4 hw4;have H4b:Hid (Fw B b V1 w4):=(H3.a.trans (Fw.of (HM.o _ (H2.a.trans H3.a)).2.2.2 hx4.2)).trans ⟨hb4,hn4⟩;clear hf4 hb4 hn4 hw4 hx4;dsimp only;have s2:=Q3 (HFM.o _ H4b.o) 2 rfl;obtain ⟨bk2,off2,ck2,cs2,q1,_,hr,hre,hbk⟩:=HK.o _ (H2.a.trans H4b.o) 1 m HKK.d;injection q1 with q1;injection q1 with q1 q2;subst q1 q2;obtain ⟨sk,kv2,rfl,_,ak,ckk,rfl⟩:=hre.cells;obtain ⟨nk,hnk⟩:∃ x,decide (Ex.num m < 0)=x:=⟨_,rfl⟩
  rw[hnk] at hr hre;have g0:w4.cell? ⟨bk,off+8,none⟩=some (.int .i64 m.op):=hr 0 _ rfl;have g1:w4.cell? ⟨bk,off+8+1,none⟩=some (.string ⟨m.name.toArray⟩):=hr 1 _ rfl;have g2:w4.cell? ⟨bk,off+8+2,none⟩=some (.string ⟨m.mod.toArray⟩):=hr 2 _ rfl;have g3:w4.cell? ⟨bk,off+8+3,none⟩=some (.bool nk):=hr 3 _ rfl;have g4:w4.cell? ⟨bk,off+8+4,none⟩=some (sk):=hr 4 _ rfl;have g5:w4.cell? ⟨bk,off+8+5,none⟩=some (.bool m.yes):=hr 5 _ rfl;have g6:w4.cell? ⟨bk,off+8+6,none⟩=some (.slice ak m.kids.length ckk):=hr 6 _ rfl;have g7:w4.cell? ⟨bk,off+8+7,none⟩=some (.int .i64 m.pos):=hr 7 _ rfl;have mkS:∀ W:World,Fw B b w4 W→Fw B b w4 W∧W.cell? ⟨w.heap.size,6,none⟩=some (.slice (some ⟨bk,off,none⟩) kids.length c)∧W.cell? ⟨bk,off+8,none⟩=some (.int .i64 m.op)∧W.cell? ⟨bk,off+8+1,none⟩=some (.string ⟨m.name.toArray⟩)∧W.cell? ⟨bk,off+8+2,none⟩=some (.string ⟨m.mod.toArray⟩)∧W.cell? ⟨bk,off+8+3,none⟩=some (.bool nk)∧W.cell? ⟨bk,off+8+4,none⟩=some (sk)∧W.cell? ⟨bk,off+8+5,none⟩=some (.bool m.yes)∧W.cell? ⟨bk,off+8+6,none⟩=some (.slice ak m.kids.length ckk)∧W.cell? ⟨bk,off+8+7,none⟩=some (.int .i64 m.pos)∧W.cell? ⟨w1.heap.size,2,none⟩=some (.int .i64 f2):=fun W hb=> ⟨hb,(cells8 (HM.o _ ((H2.a.trans H4b.o).trans hb)).1).2.2.2.2.2.2.1,(hb.below.cell hbk).trans g0,(hb.below.cell hbk).trans g1,(hb.below.cell hbk).trans g2,(hb.below.cell hbk).trans g3,(hb.below.cell hbk).trans g4,(hb.below.cell hbk).trans g5,(hb.below.cell hbk).trans g6,(hb.below.cell hbk).trans g7,Q3 (HFM.o _ ((H4b.o).trans hb)) 2 rfl⟩;have HS:=hd_ mkS;have HRE:=hd_ hre;clear hr hre hbk g0 g1 g2 g3 g4 g5 g6 g7 mkS hnk;go_wp2_with fail;go_region_held3 (fun w'=> Fw B b w4 w'∧w'.cell? ⟨w.heap.size,6,none⟩=some (.slice (some ⟨bk,off,none⟩) kids.length c)∧w'.cell? ⟨bk,off+8,none⟩=some (.int .i64 m.op)∧w'.cell? ⟨bk,off+8+1,none⟩=some (.string ⟨m.name.toArray⟩)∧w'.cell? ⟨bk,off+8+2,none⟩=some (.string ⟨m.mod.toArray⟩)∧w'.cell? ⟨bk,off+8+3,none⟩=some (.bool nk)∧w'.cell? ⟨bk,off+8+4,none⟩=some (sk)∧w'.cell? ⟨bk,off+8+5,none⟩=some (.bool m.yes)∧w'.cell? ⟨bk,off+8+6,none⟩=some (.slice ak m.kids.length ckk)∧w'.cell? ⟨bk,off+8+7,none⟩=some (.int .i64 m.pos)∧w'.cell? ⟨w1.heap.size,2,none⟩=some (.int .i64 f2)) (first | exact HS.o _ (Fw.refl _ _ _).drew | exact HS.o _ hf9) ((go_at_call 168;refine eH_ (ZX HKK.b HP.a ((Fw.refl B b _).drew.rde H4.B HP.a HRE.o) (H4.B.below (eB_ _ _).drew) (HM.o _ ((H2.a.trans H4b.o).drew)).2.2.2 (by have:=HP.b;have:=HKK.E;have:=H3.C;have:=HSG.o;simp at*;omega)) ?_;rintro r w5 ⟨rfl,⟨l5,hl5,hw5⟩,hf5⟩;have hf9:=(Fw.refl B b w4).drew.trans hf5;have H5:=h3_ ((H4b.o).trans hf9) hw5 hl5;clear hf5 hw5 hl5));clear hf9 HS;go_wp2_with fail;go_end0;exact ⟨rfl,⟨_,by have:=HKK.E;have:=H3.C;have:=H5.C;have:=HSG.o;simp at*;omega,H5.b⟩,(HM.o _ (H2.a.trans H5.a)).2.1⟩
namespace Ex
theorem Zg:∀ (a b:List Ex),ofs (a++b)=(ofs a).bind fun x=> (ofs b).map fun y=> x++y
 | [],b=> by
  rw[List.nil_append,ofs,Option.bind_some];cases ofs b <;> simp
 | e::r,b=> by
  rw[List.cons_append,ofs,ofs,Zg r b];cases of e with
  | none=> rfl
  | some t=>
   cases ofs r with
   | none=> rfl
   | some x=> cases ofs b <;> rfl
theorem Q3C (k:Ex):ofs [k]=(of k).map fun t=> [t]:=by
 rw[ofs,ofs];cases of k <;> rfl
theorem Q60 {l:List Ex} {ts:List Tp.T} {t:Tp.T} (h:ofs (l.take j)=some ts) (hk:l[j]? =some k) (ht:of k=some t):ofs (l.take (j+1))=some (ts++ [t]):=by
 rw[List.take_add_one,hk,Option.toList_some,Zg,h,Q3C,ht];rfl
theorem Q61 {l:List Ex} {ts:List Tp.T} (h:ofs (l.take j)=some ts) (hk:l[j]? =some k) (ht:of k=Option.none):ofs l=Option.none:=by
 have hlt:=(List.getElem?_eq_some_iff.1 hk).1;have e:l=l.take (j+1)++l.drop (j+1):=(eW_ _ _).symm;rw[e,Zg,List.take_add_one,hk,Option.toList_some,Zg,h,Q3C,ht];rfl
theorem U5:∀ {l:List Ex} {ts:List Tp.T},ofs l=some ts→ts.length=l.length∧∀ (i:Nat) (t:Tp.T),ts[i]? =some t→∃ k,l[i]? =some k∧of k=some t
 | [],ts,h=> by
  rw[ofs] at h;injection h with h;subst h;exact ⟨rfl,fun i t hi=> by simp at hi⟩
 | e::r,ts,h=> by
  rw[ofs] at h;split at h
  ·cases h
  ·rename_i t ht;split at h
   ·cases h
   ·rename_i x hx;injection h with h;subst h;obtain ⟨h1,h2⟩:=U5 hx;refine ⟨by simp[h1],fun i t2 hi=> ?_⟩
    match i with
    | 0=>
     simp only[eZ_,Option.some.injEq] at hi ⊢;exact ⟨e,rfl,hi ▸ ht⟩
    | i+1=>
     simp only[List.getElem?_cons_succ] at hi ⊢;exact h2 i t2 hi
end Ex
theorem Q4y {k:Nat} (h:(Zp.dec n).length≤k):n < 10 ^ k:=by
 by_cases hn:n=0
 ·subst hn;exact Nat.pow_pos (by decide)
 ·rw[Zp.dec,if_neg hn,List.length_map,List.length_reverse] at h;rcases eS_ n (10 ^ k) with h1 | h1
  ·exact h1
  ·have hd:=Zp.QF (B:=10) (by decide) n;have h2:=Zp.Jd (by decide) hd;rw[Zp.Qx (by decide)] at h2;exact eI_ h2 (Nat.pow_le_pow_right (by decide) h)
theorem Q3c (h:(Zp.text z).length≤60):Bd 60 z:=by
 unfold Bd;refine Q4y ?_;unfold Zp.text at h;split at h
 ·simp only[eL_] at h;omega
 ·exact h
theorem Q62 (op pos z:Int) (name mod:List UInt8) (yes:Bool) (kids:List Ex) (ks:List Tp.T):Ex.ofK (.mk op name mod z yes kids pos) ks=
  if op=1 then some ⟨[],z⟩ else if op=3 then some (Tp.name name) else if op=4 then some (Tp.name [114,101,115]) else if op=5 then some (Tp.add Tp.zero (ks.getD 0 Tp.zero) (-1))
  else if op=7 then some (Tp.add (ks.getD 0 Tp.zero) (ks.getD 1 Tp.zero) 1) else if op=8 then some (Tp.add (ks.getD 0 Tp.zero) (ks.getD 1 Tp.zero) (-1)) else if op=9 then Ex.prod (ks.getD 0 Tp.zero) (ks.getD 1 Tp.zero) else none:=rfl
theorem Q63 (hs:Ex.Sm e):∀ {t:Tp.T},Ex.right e=true→Ex.of e=some t→Sm (Ex.wl e) t∧Tp.Ok t.l:=by
 induction hs with
 | @mk op pos z name mod yes kids hn hm hz hk hkk ih=>
  intro t hr ht;obtain ⟨h1,h20,h60,hkn,hkr⟩:=ZH hr;rw[Ex.of] at ht;split at ht
  ·cases ht
  ·rename_i ks hks;obtain ⟨hl,hg⟩:=Ex.U5 hks;have hkid:∀ (i:Nat) (u:Tp.T),ks[i]? =some u→∃ k,kids[i]? =some k∧Sm (Ex.wl k) u∧Tp.Ok u.l:=fun i u hu=> by
    obtain ⟨k,hk1,hk2⟩:=hg i u hu;have hm:=eP_ hk1;exact ⟨k,hk1,ih k hm (hkr k hm) hk2⟩
   rw[Ex.wl];rw[Q62] at ht;by_cases e1:op=1
   ·rw[if_pos e1] at ht;injection ht with ht;subst ht;exact ⟨⟨fun p hp=> (by cases hp),(Q3c (h60 e1)).mono (by omega),eV_ _⟩,Tp.Ok.nil⟩
   rw[if_neg e1] at ht;by_cases e3:op=3
   ·rw[if_pos e3] at ht;injection ht with ht;subst ht;exact ⟨(Sm.name name).mono (by omega),XE name⟩
   rw[if_neg e3] at ht;by_cases e4:op=4
   ·rw[if_pos e4] at ht;injection ht with ht;subst ht;exact ⟨(Sm.name _).mono (by omega),XE _⟩
   rw[if_neg e4] at ht;by_cases e5:op=5
   ·rw[if_pos e5] at ht;injection ht with ht;subst ht;have hk1:kids.length=1:=(by subst e5;rw[show knum 5=1 from rfl] at hkn;omega);obtain ⟨a,rfl⟩:∃ a,ks= [a]:=List.length_eq_one_iff.1 (hl.trans hk1);obtain ⟨k,q1,q2,q3⟩:=hkid 0 a rfl;have hw:=Gn (eP_ q1);show Sm _ (Tp.add Tp.zero a (-1))∧_;exact ⟨(Sm.add Sm.zero Tp.Ok.nil q2 q3.rise (show Bd 1 (-1) by unfold Bd;decide)).mono (by omega),Tp.Yp Tp.Ok.nil _ _⟩
   rw[if_neg e5] at ht;have h7:op=7∨op=8∨op=9:=by
    rcases Int.lt_or_le 6 op with h | h
    ·by_cases e7:op=7
     ·exact Or.inl e7
     ·rw[if_neg e7] at ht;by_cases e8:op=8
      ·exact Or.inr (Or.inl e8)
      ·rw[if_neg e8] at ht;by_cases e9:op=9
       ·exact Or.inr (Or.inr e9)
       ·rw[if_neg e9] at ht;cases ht
    ·rw[if_neg (by omega),if_neg (by omega),if_neg (by omega)] at ht;cases ht
   have hk2:kids.length=2:=by
    unfold knum at hkn;rw[if_neg (by omega),if_neg (by omega)] at hkn;omega
   obtain ⟨a,b,rfl⟩:∃ a b,ks= [a,b]:=by
    match ks,hl.trans hk2 with
    | [a,b],_=> exact ⟨a,b,rfl⟩
   obtain ⟨k,q1,q2,q3⟩:=hkid 0 a rfl;obtain ⟨m,p1,p2,p3⟩:=hkid 1 b rfl;have hw:20+Ex.wl k+Ex.wl m≤Ex.wls kids:=by
    match kids,q1,p1 with
    | x::y::r,hk,hm=>
     simp only[eZ_,List.getElem?_cons_succ,Option.some.injEq] at hk hm;subst hk hm;rw[Ex.wls,Ex.wls];omega
   simp only[List.getD_cons_zero,List.getD_cons_succ] at ht;rcases h7 with e7 | e8 | e9
   ·rw[if_pos e7] at ht;injection ht with ht;subst ht;exact ⟨(Sm.add q2 q3 p2 p3.rise (show Bd 1 1 by unfold Bd;decide)).mono (by omega),Tp.Yp q3 _ _⟩
   ·rw[if_neg (by omega),if_pos e8] at ht;injection ht with ht;subst ht;exact ⟨(Sm.add q2 q3 p2 p3.rise (show Bd 1 (-1) by unfold Bd;decide)).mono (by omega),Tp.Yp q3 _ _⟩
   ·rw[if_neg (by omega),if_neg (by omega),if_pos e9] at ht;unfold Ex.prod at ht;split at ht
    ·injection ht with ht;subst ht;exact ⟨(Sm.add Sm.zero Tp.Ok.nil p2 p3.rise q2.rest).mono (by omega),Tp.Yp Tp.Ok.nil _ _⟩
    ·split at ht
     ·injection ht with ht;subst ht;exact ⟨(Sm.add Sm.zero Tp.Ok.nil q2 q3.rise p2.rest).mono (by omega),Tp.Yp Tp.Ok.nil _ _⟩
     ·cases ht
end Go.Proofs.YtiecccakcenobaaGreatDoor
