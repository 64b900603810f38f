/- A part of the proof. -/
import Derived.Test.YtiecccakcenobaaGreatDoorTdvM1
import Derived.Deep.Cut
import Derived.BigRegion
import Derived.RangeFuncNested
import Derived.RangeFuncBound
import Derived.RangeFuncCalls
import Derived.RangeFuncLeaves
import Derived.RangeFuncBox
import Derived.Shelf.Abstract
import Derived.Shelf.RegionOpen
import Derived.OwnWalkIn
import Derived.TacticsInMore
import Derived.LoopNIn
import Derived.LoopIn
import Derived.Sort.LoopGhostIn
set_option linter.all false
set_option maxRecDepth 100000
set_option maxHeartbeats 64000000
namespace Go.Proofs.YtiecccakcenobaaGreatDoor
open Tryz
open Go.RowKit
variable {l:List Int} {ns:List Tr.Nd} {B b c d j n:Nat} {P:Nat->Prop} {t:Tr.T} {kv v vn vt:Value} {W w w' w1 w4 w5 wr:World}
def badKid (n:Nat) (k:Int):Bool:=decide (k < 0) || decide ((n:Int)<=k)
theorem Q1t {an:Option Addr} {cn:Nat} (hn:n<=1073741824) (k:Int) (h0:w.cell? ⟨c,0,none⟩=some (.pointer (some ⟨b,0,none⟩))) (h1:w.cell? ⟨b,1,none⟩=some (.slice an n cn)):
  Calls prog 197 #[.int .i64 k,.pointer (some ⟨c,0,none⟩)] w fun e w'=> e= .returned (.bool (badKid n k))/\w=w':=by
 have hn':(n:Int)<=1073741824:=by omega
 unfold badKid;by_cases hk:k < 0
 ·go_in;go_wp2;go_ret;exact ⟨by simp[hk],rfl⟩
 ·have hk':0<=k:=by omega
  go_in;go_wp2;go_ret;exact ⟨by simp only[eK_ (show ¬ k < 0 by omega),Bool.false_or];rfl,rfl⟩
theorem Q3a (h:RdS w P 1 v l.length (intCells l)) (hl:l.length<=1073741824) {b c:Nat} {an:Option Addr} {n cn:Nat} (hn:n<=1073741824)
  (h0:w.cell? ⟨c,0,none⟩=some (.pointer (some ⟨b,0,none⟩))) (h1:w.cell? ⟨b,1,none⟩=some (.slice an n cn)):
  Calls prog 224 #[v,.func (.func 197) #[] #[.pointer (some ⟨c,0,none⟩)]] w fun e w'=>
   ∃ r:Int,e= .returned (.int .i64 r)/\decide (0<=r)=l.any (badKid n)/\w=w':=by
 obtain ⟨_,a,cl,rfl,_,hd⟩:=h;have hl':(l.length:Int)<=1073741824:=by omega
 have HC:=fun k=> hd_ (Q1t hn k h0 h1);have HD:=hd_ hd;clear h0 h1 hd;go_in;go_wp2;go_loopg [8] l.length (fun k v8 wr=> ∃ j:Nat,v8= .int .i64 j/\k=l.length - j/\j<=l.length/\wr=w/\((l.take j).any (badKid n))=false)
 case atStart=> exact ⟨0,rfl,rfl,eV_ _,rfl,by simp⟩
 case round=>
  obtain ⟨j,rfl,hk,hj,rfl,hall⟩:=hrel;have HK:=hd_ hk;have HA:=hd_ hall;clear hk hall;by_cases hlt:j < l.length
  ·have hlt':(j:Int) < (l.length:Int):=(by omega);obtain ⟨b2,off,rfl,_,hr⟩:=HD.o.resolve_left (fun h=> by omega);have hcell:wr.cell? ⟨b2,off+j,none⟩=some (.int .i64 l[j]):=hr j _ (by simp[intCells,eA_ hlt]);clear hr;obtain ⟨y,hy⟩:∃ y,l[j]=y:=⟨_,rfl⟩
   rw[hy] at hcell;have HY:=hd_ hy;clear hy;cases hb:badKid n y
   ·have HB:=hd_ hb;have HCB:=hd_ (hb ▸ (HC y).out);clear hb;go_wp2_with (go_at_call 197;refine HCB.o.mono ?_;rintro e w1 ⟨rfl,rfl⟩);go_roundg (l.length - (j+1))
    case measure=> have:=HK.o;omega
    case rel=>
     refine ⟨j+1,by go_num,rfl,by omega,rfl,?_⟩;rw[List.take_succ_eq_append_getElem hlt,List.any_append,HA.o,HY.o];simp[HB.o]
   ·have HB:=hd_ hb;have HCB:=hd_ (hb ▸ (HC y).out);clear hb;go_wp2_with (go_at_call 197;refine HCB.o.mono ?_;rintro e w1 ⟨rfl,rfl⟩);go_ret;refine ⟨(j:Int),rfl,?_,rfl⟩;have h2:l.any (badKid n)=true:=List.any_eq_true.2 ⟨y,by rw[<-HY.o];exact List.getElem_mem hlt,HB.o⟩;rw[h2];simp
  ·obtain rfl:j=l.length:=(by omega);go_wp2;go_ret;refine ⟨-1,rfl,?_,rfl⟩;have h2:=HA.o;rw[List.take_length] at h2;rw[h2];rfl
theorem L9 (h:RdS w P 1 v l.length (intCells l)) (hl:l.length<=1073741824) {b c:Nat} {an:Option Addr} {n cn:Nat} (hn:n<=1073741824)
  (h0:w.cell? ⟨c,0,none⟩=some (.pointer (some ⟨b,0,none⟩))) (h1:w.cell? ⟨b,1,none⟩=some (.slice an n cn)):
  Calls prog 196 #[v,.func (.func 197) #[] #[.pointer (some ⟨c,0,none⟩)]] w fun e w'=>
   e= .returned (.bool (l.any (badKid n)))/\w=w':=by
 have HI:=hd_ (Q3a h hl hn h0 h1);clear h h0 h1;go_in;go_wp2_with (go_at_call 224;refine HI.o.mono ?_;rintro e w1 ⟨r,rfl,hr,rfl⟩;have HR:=hd_ hr;clear hr);go_ret;exact ⟨by rw[<-HR.o];rfl,rfl⟩
section
variable {Q:Nat->Prop}
def NodeSays (Q:Nat->Prop) (w:World) (B b:Nat) (vt vn:Value) (t:Tr.T) (used:Nat) (kind:Int) (l:List Int) (e:Ending) (w':World):Prop:=
 if l.any (badKid t.nodes.length) then e= .returned (.int .i64 (-1))/\BuildI Q w' B b vt vn t used/\Grew w w' b vn vn
 else ∃ vn',e= .returned (.int .i64 t.nodes.length)/\BuildI Q w' B b vt vn' ⟨t.toks,t.nodes++ [⟨kind,-1,l⟩]⟩ used/\Grew w w' b vn vn'
theorem BuildI.own {w w':World} {B b:Nat} {vt vn:Value} {t:Tr.T} {used:Nat} (h:BuildI Q w B b vt vn t used) {base:Nat} {e:TypeId} {size n:Nat} {v:Value} {xs:List Value} (ho:w'.ownsRow base e size v n xs) (hb:w.heap.size<=base) (hQ:∀ k,w.heap.size<=k->Q k):
  RdS w' (BPq Q e w' B b vn) size v n xs:=by
 refine (RdS.own ho).imp fun k hk=> ⟨⟨⟨?_,?_,?_,hk.2.2⟩,Qm ho hk.1⟩,hQ k (eE_ hb hk.2.1)⟩
 ·have:=h.base;have:=Q4 h.cell;omega
 ·have:=Q4 h.cell;omega
 ·obtain ⟨kvs,_,hk2,_⟩:=h.nodes;intro e;have:=(hk2.lt k e).2;omega
theorem Qd {u:Value} (h:w.cell? ⟨b,j,none⟩=some u):b < w.heap.size:=by
 rcases eS_ b w.heap.size with h1 | h1
 ·exact h1
 ·simp[World.cell?,Array.getElem?_eq_none h1] at h
theorem BuildI.far {used:Nat} (h:BuildI Q w B b vt vn t used):w.heap.size≠b/\vn.ownBlock≠some w.heap.size:=by
 refine ⟨by have:=Q4 h.cell;omega,?_⟩;obtain ⟨kvs,_,hk2,_⟩:=h.nodes;intro e;have:=(hk2.lt _ e).2;omega
theorem Grew.cell {w w':World} {b:Nat} {vn vn':Value} (h:Grew w w' b vn vn') {c j:Nat} {u:Value} (hc:w.cell? ⟨c,j,none⟩=some u) (h1:c≠b) (h2:vn.ownBlock≠some c):w'.cell? ⟨c,j,none⟩=some u:=by
 rw[<-hc];exact World.cell?_of_block (a:=⟨c,j,none⟩) (h.1.block c (Qd hc) (by rintro (e | e) <;> contradiction))
theorem BuildI.past {used:Nat} (h:BuildI Q w B b vt vn t used) (hb:Below w.drew.heap.size w.drew w'):BuildI Q w' B b vt vn t used:=h.keep hb.size fun k hk _=> hb.block k hk
theorem D7 {used:Nat} (h:BuildI Q w B b vt vn t used) (hn:t.nodes.length<=1073741823) {P:Nat->Prop} {v:Value} {l:List Int} (hk:RdS w P 1 v l.length (intCells l))
  (hP:∀ k,P k->k < w.heap.size) (hl:l.length<=1073741824) (hQ:∀ k,w.heap.size<=k->Q k) (kind:Int):
  Calls prog 151 #[.pointer (some ⟨b,0,none⟩),.int .i64 kind,v] w (NodeSays Q w B b vt vn t used kind l):=by
 have hb1:Below w.heap.size w (w.alloc (.cells #[.pointer (some ⟨b,0,none⟩)] 188)):=(eB_ _ _).alloc (rl_ _) _;have h1:=h.keep (w':=w.alloc (.cells #[.pointer (some ⟨b,0,none⟩)] 188)) hb1.size fun k hk _=> hb1.block k hk;have hk1:=hk.keep (Keeps.of hb1 hP);obtain ⟨kvs,_,hk2,_⟩:=h.nodes;obtain ⟨an,cn,rfl⟩:=Qj hk2;have e0:(w.alloc (.cells #[.pointer (some ⟨b,0,none⟩)] 188)).cell? ⟨w.heap.size,0,none⟩=some (.pointer (some ⟨b,0,none⟩)):=Q3 (eD_ _ _) 0 rfl;have e1:=Q3 h1.cell 1 rfl;have HC:=hd_ (L9 hk1 hl (show t.nodes.length<=1073741824 by omega) e0 e1);have HG:=hd_ (Grew.of (b:=b) (vn:= .slice an t.nodes.length cn) hb1);have HH:=hd_ h1;have HK:=hd_ hk1;have HN:=h2_ hn hl;have HFAR:=hd_ h.far;have HQ:=hd_ (fun k (hk:(w.alloc (.cells #[.pointer (some ⟨b,0,none⟩)] 188)).heap.size<=k)=> hQ k (eE_ hb1.size hk));obtain ⟨al,cl,rfl⟩:=hk.form;clear h hk hk1 hk2 h1 hb1 e1 hn hl hP hQ;unfold NodeSays;cases hbad:l.any (badKid t.nodes.length)
 ·rw[hbad] at HC;clear hbad;simp only[Bool.false_eq_true,if_false];go_in;go_wp2_with (go_at_call 196;refine HC.o.mono ?_;rintro e w2 ⟨rfl,rfl⟩);generalize w.alloc (.cells #[.pointer (some ⟨b,0,none⟩)] 188)=w1 at*;generalize w.heap.size=c at*;go_region_held3 (fun w'=> w'.cell? ⟨c,0,none⟩=some (.pointer (some ⟨b,0,none⟩))) (first | exact e0 | exact e2 | exact e3 | go_keep)
   (first
    | (go_at_call 145;refine (LF (w:=w1.drew) HK.o HN.B (ints_one l)).mono ?_;rintro e w2 ⟨v2,rfl,ho,hb⟩;have e2:w2.cell? ⟨c,0,none⟩=some (.pointer (some ⟨b,0,none⟩)):=(hb.cell (p:=⟨c,0,none⟩) (Qd e0)).trans e0;obtain ⟨a2,c2,rfl⟩:=Qj ho;have HO:=hd_ ho;have HB:=hd_ hb;clear ho hb)
    | (go_at_call 195;refine (LJ (HH.o.past HB.o) HN.a ⟨kind,-1,l⟩ _ (HH.o.own HO.o (rl_ _) HQ.o)).mono ?_;rintro e w3 ⟨vn',rfl,q1,q2⟩;have e3:w3.cell? ⟨c,0,none⟩=some (.pointer (some ⟨b,0,none⟩)):=q2.cell e2 HFAR.a HFAR.B;have Q1:=hd_ q1;have Q2:=hd_ q2;clear q1 q2))
  go_wp2;go_ret;exact ⟨vn',rfl,Q1.o,(HG.o.trans (Grew.of (Below.drew (eB_ _ _)))).trans ((Grew.of HB.o).trans Q2.o)⟩
 ·rw[hbad] at HC;clear hbad;simp only[if_true];go_in;go_wp2_with (go_at_call 196;refine HC.o.mono ?_;rintro e w2 ⟨rfl,rfl⟩);go_ret;exact ⟨rfl,HH.o,HG.o⟩
end
section
variable {Q:Nat->Prop}
structure TrI (w:World) (B b:Nat) (vt vn:Value) (t:Tr.T):Prop where
 base:B<=b
 lt:b < w.heap.size
 ne:vn.ownBlock≠some b
 toks:RdS w (BP w B b vn) 4 vt t.toks.length (tksCells t.toks)
 nodes:∃ kvs:List Value,kvs.length=t.nodes.length/\w.ownsRow B 157 3 vn t.nodes.length ((t.nodes.zip kvs).flatMap ndCells)/\
  ∀ (i:Nat) (n:Tr.Nd) (kv:Value),t.nodes[i]? =some n->kvs[i]? =some kv->RdS w (BP w B b vn) 1 kv n.kids.length (intCells n.kids)
theorem TrI.keep {w w':World} {B b:Nat} {vt vn:Value} {t:Tr.T} (h:TrI w B b vt vn t) (hs:w.heap.size<=w'.heap.size) (hk:∀ k,k < w.heap.size->k≠b->B<=k->w'.heap[k]? =w.heap[k]?):TrI w' B b vt vn t:=by
 have hkeep:Keeps (BP w B b vn) w w':=fun k hk'=> hk k hk'.2.2.2 hk'.2.1 hk'.1;obtain ⟨kvs,hk1,hk2,hk3⟩:=h.nodes;exact ⟨h.base,eI_ h.lt hs,h.ne,(h.toks.keep hkeep).imp fun k hk=> hk.size hs,kvs,hk1,Qk hk2 fun k hk'=> hk k (hk2.lt k hk').2 (fun e=> h.ne (by rw[hk',e])) (hk2.lt k hk').1,fun i n kv hi hkv=> ((hk3 i n kv hi hkv).keep hkeep).imp fun k hk=> hk.size hs⟩
theorem TrI.below (h:TrI w B b vt vn t) (hb:Below w.heap.size w w'):TrI w' B b vt vn t:=h.keep hb.size fun k hk _ _=> hb.block k hk
theorem TrI.own {w w':World} {B b:Nat} {vt vn:Value} {t:Tr.T} (h:TrI w B b vt vn t) {base:Nat} {e:TypeId} {size n:Nat} {v:Value} {xs:List Value} (ho:w'.ownsRow base e size v n xs) (hb:w.heap.size<=base):
  RdS w' (BP w' B b vn) size v n xs:=by
 refine (RdS.own ho).imp fun k hk=> ⟨?_,?_,?_,hk.2.2⟩
 ·have:=h.base;have:=h.lt;omega
 ·have:=h.lt;omega
 ·obtain ⟨kvs,_,hk2,_⟩:=h.nodes;intro e;have:=(hk2.lt k e).2;omega
theorem TrI.rd (h:TrI w B b vt vn t):RdT w (fun k=> B<=k/\k < w.heap.size) vt vn t:=by
 obtain ⟨kvs,hk1,hk2,hk3⟩:=h.nodes;exact ⟨h.toks.imp fun k hk=> ⟨hk.1,hk.2.2.2⟩,kvs,hk1,(RdS.own hk2).imp fun k hk=> hk.2,fun i n kv hi hkv=> (hk3 i n kv hi hkv).weak.imp fun k hk=> ⟨hk.1,hk.2.2.2⟩⟩
theorem TrI.push (h:TrI w B b vt vn t) {n:Tr.Nd} {kv:Value} (hk:RdS w (BP w B b vn) 1 kv n.kids.length (intCells n.kids)) {g cap:Nat}
  {kvs:List Value} (hk1:kvs.length=t.nodes.length) (hk3:∀ (i:Nat) (n:Tr.Nd) (kv:Value),t.nodes[i]? =some n->kvs[i]? =some kv->RdS w (BP w B b vn) 1 kv n.kids.length (intCells n.kids))
  (hown:w1.ownsRow B 157 3 (.slice (some ⟨g,0,none⟩) (t.nodes.length+1) cap) (t.nodes.length+1) ((t.nodes.zip kvs).flatMap ndCells++ [.int .i64 n.kind,.int .i64 n.tok,kv]))
  (hgrow:w.grownBy w1 vn.ownBlock) (hat:vn.ownBlock=some g\/w.heap.size<=g):
  TrI (w1.setCell ⟨b,1,none⟩ (.slice (some ⟨g,0,none⟩) (t.nodes.length+1) cap)) B b vt (.slice (some ⟨g,0,none⟩) (t.nodes.length+1) cap) ⟨t.toks,t.nodes++ [n]⟩:=by
 have hblt:=h.lt;have hs1:w.heap.size<=w1.heap.size:=hgrow.size;have hgb:g≠b:=by
  rcases hat with h1 | h1
  ·intro e;exact h.ne (by rw[h1,e])
  ·omega
 have hglt:g < w1.heap.size:=(hown.lt g rfl).2;generalize hv:Value.slice (some ⟨g,0,none⟩) (t.nodes.length+1) cap=v at*;have hvo:v.ownBlock=some g:=by rw[<-hv];rfl
 have hsz:(w1.setCell ⟨b,1,none⟩ v).heap.size=w1.heap.size:=by simp[World.setCell]
 have hne:∀ k,k≠b->(w1.setCell ⟨b,1,none⟩ v).heap[k]? =w1.heap[k]? :=fun k h2=> Below.heap_setCell _ _ _ _ h2;have hold:∀ k,k < w.heap.size->k≠b->vn.ownBlock≠some k->(w1.setCell ⟨b,1,none⟩ v).heap[k]? =w.heap[k]? :=by
  intro k h1 h2 h3;rw[hne k h2,hgrow.block k h1 (fun e=> h3 e.symm)]
 have hbp:∀ k,BP w B b vn k->BP (w1.setCell ⟨b,1,none⟩ v) B b v k:=by
  rintro k ⟨h1,h2,h3,h4⟩;refine ⟨h1,h2,?_,by rw[hsz];omega⟩;rw[hvo];intro e;injection e with e;subst e;rcases hat with h5 | h5
  ·exact h3 h5
  ·omega
 have hkeep:Keeps (BP w B b vn) w (w1.setCell ⟨b,1,none⟩ v):=fun k hk=> hold k hk.2.2.2 hk.2.1 hk.2.2.1;refine ⟨h.base,by rw[hsz];omega,?_,(h.toks.keep hkeep).imp hbp,kvs++ [kv],by simp[hk1],?_,?_⟩
 ·rw[hvo];intro e;injection e with e;exact hgb e
 ·have h1:(t.nodes++ [n]).zip (kvs++ [kv])=t.nodes.zip kvs++ [(n,kv)]:=by rw[List.zip_append hk1.symm];rfl
  simp only[h1,List.flatMap_append,eC_,eL_,eU_];refine Qk (by simpa [ndCells] using hown) fun k hk=> ?_;rw[hvo] at hk;injection hk with hk;subst hk;exact hne g hgb
 ·intro i m kv' hi hkv;rcases eS_ i t.nodes.length with hlt | hge
  ·rw[eT_ hlt] at hi;rw[eT_ (by omega)] at hkv;exact ((hk3 i m kv' hi hkv).keep hkeep).imp hbp
  ·have h0:i=t.nodes.length:=by
    rcases eS_ t.nodes.length i with h1 | h1
    ·rw[List.getElem?_eq_none (by simp;omega)] at hi;cases hi
    ·omega
   subst h0;rw[eO_ (rl_ _)] at hi;rw[eO_ (by omega)] at hkv;simp only[Nat.sub_self,eZ_,Option.some.injEq,hk1] at hi hkv;subst hi hkv;exact (hk.keep hkeep).imp hbp
def DoneRel (w:World) (vt:Value) (toks:List Tr.Tk) (ns:List Tr.Nd) (d:Nat) (k:Nat) (v19:Value) (wr:World):Prop:=
 ∃ (j:Nat) (a:Option Addr) (c:Nat),v19= .int .i64 j/\k=ns.length - j/\j<=ns.length/\wr.heap[w.heap.size]? =some (.cells #[.slice none 0 0,.slice none 0 0] 90 (0,0))/\w.heap.size < d/\
  wr.heap[d]? =some (.cells #[vt,.slice a j c] 90 (0,0))/\TrI wr (w.heap.size+1) d vt (.slice a j c) ⟨toks,ns.take j⟩/\Below w.heap.size w wr
theorem Q3b {used:Nat} (h:BuildI Q w B b vt vn t used) {o:Obj} (hb:Below (w.alloc o).heap.size (w.alloc o) w1):w1.heap[b]? =some (.cells #[vt,vn,.int .i64 used] 224 (0,0)):=by
 have hlt:=Q4 h.cell;rw[hb.block b (by rw[<-Q5];omega),eJ_ _ _ _ hlt];exact h.cell
theorem Q3c (w:World) {w1:World} {v:Value} {toks:List Tr.Tk} {ns:List Tr.Nd}
  (ho:w1.ownsRow (w.alloc (.cells #[.slice none 0 0,.slice none 0 0] 90)).heap.size 197 4 v toks.length (tksCells toks))
  (hb:Below (w.alloc (.cells #[.slice none 0 0,.slice none 0 0] 90)).heap.size (w.alloc (.cells #[.slice none 0 0,.slice none 0 0] 90)) w1):
  DoneRel w v toks ns w1.heap.size ns.length (.int .i64 0) (w1.alloc (.cells #[v,.slice none 0 0] 90)):=by
 have hs:=hb.size;rw[<-Q5] at hs ho;have hw1:w1.heap[w.heap.size]? =some (.cells #[.slice none 0 0,.slice none 0 0] 90 (0,0)):=by
  rw[hb.block _ (by rw[<-Q5];omega)];exact eD_ _ _
 have ha:Below w1.heap.size w1 (w1.alloc (.cells #[v,.slice none 0 0] 90)):=(eB_ _ _).alloc (rl_ _) _;refine ⟨0,none,0,rfl,rfl,eV_ _,by rw[ha.block _ (by omega)];exact hw1,by omega,eD_ _ _,⟨by omega,by rw[<-Q5];omega,by simp[Value.ownBlock],?_, [],rfl,World.ownsRow_nil _ _ _ _,fun i n kv hi=> by simp at hi⟩,?_⟩
 ·exact ((RdS.own ho).keep (Keeps.of ha fun i hi=> hi.2.2)).imp fun k hk=> ⟨hk.2.1,by have:=hk.2.2;omega,by simp[Value.ownBlock],by rw[<-Q5];have:=hk.2.2;omega⟩
 ·exact (((eB_ w.heap.size w).alloc (rl_ _) _).trans (hb.mono (by rw[<-Q5];omega))).trans (ha.mono (by omega))
def RdNs (w:World) (P:Nat->Prop) (vn:Value) (ns:List Tr.Nd):Prop:=
 ∃ kvs:List Value,kvs.length=ns.length/\RdS w P 3 vn ns.length ((ns.zip kvs).flatMap ndCells)/\∀ (i:Nat) (n:Tr.Nd) (kv:Value),ns[i]? =some n->kvs[i]? =some kv->RdS w P 1 kv n.kids.length (intCells n.kids)
theorem RdNs.keep {w w':World} {P:Nat->Prop} {vn:Value} {ns:List Tr.Nd} (h:RdNs w P vn ns) (hb:Keeps P w w'):RdNs w' P vn ns:=by
 obtain ⟨kvs,h1,h2,h3⟩:=h;exact ⟨kvs,h1,h2.keep hb,fun i n kv hn hk=> (h3 i n kv hn hk).keep hb⟩
theorem RdNs.node (h:RdNs w P vn ns) {i:Nat} {n:Tr.Nd} (hi:ns[i]? =some n):
  ∃ b off c kv,vn= .slice (some ⟨b,off,none⟩) ns.length c/\P b/\w.rangeAt b (off+i*3) [.int .i64 n.kind,.int .i64 n.tok,kv]/\RdS w P 1 kv n.kids.length (intCells n.kids):=by
 obtain ⟨kvs,h1,⟨h2,a,c,rfl,hc,h4⟩,h3⟩:=h;have hlt:i < ns.length:=by
  rcases eS_ i ns.length with h | h
  ·exact h
  ·rw[List.getElem?_eq_none h] at hi;cases hi
 have hk:kvs[i]? =some (kvs[i]'(by omega)):=eA_ (by omega);rcases h4 with ⟨_,h4⟩ | ⟨b,off,rfl,h5,h6⟩
 ·omega
 ·refine ⟨b,off,c,kvs[i]'(by omega),rfl,h5.resolve_left (by omega),?_,h3 i n _ hi hk⟩;exact QV (f:=ndCells) (s:=3) (x:=(n,kvs[i]'(by omega))) (fun _=> rfl) h6 (by rw[List.getElem?_zip_eq_some];exact ⟨hi,hk⟩)
theorem BuildI.rd {used:Nat} (h:BuildI Q w B b vt vn t used):RdNs w (fun k=> k < w.heap.size) vn t.nodes:=by
 obtain ⟨kvs,hk1,hk2,hk3⟩:=h.nodes;exact ⟨kvs,hk1,(RdS.own hk2).imp fun k hk=> hk.2.2,fun i n kv hi hkv=> (hk3 i n kv hi hkv).imp fun k hk=> hk.1.1.2.2.2⟩
theorem Ja {cs:Array Value} {T:TypeId} (hb:Below (w.alloc (.cells cs T)).heap.size (w.alloc (.cells cs T)) w'):w'.heap[w.heap.size]? =some (.cells cs T (0,0)):=by
 rw[hb.block _ (by rw[<-Q5];omega)];exact eD_ _ _
theorem Q6g {w3:World} {tt:Tr.T} (htr:TrI wr B d vt vn tt) {x y kv v3:Value} {T:TypeId}
  (hb3:Below (wr.alloc (.cells #[x,y,kv] T)).heap.size (wr.alloc (.cells #[x,y,kv] T)) w3) {m:Nat} {xs:List Value} (ho3:w3.ownsRow (wr.alloc (.cells #[x,y,kv] T)).heap.size 3 1 v3 m xs):
  TrI (w3.setCell ⟨wr.heap.size,2,none⟩ v3) B d vt vn tt/\RdS (w3.setCell ⟨wr.heap.size,2,none⟩ v3) (BP (w3.setCell ⟨wr.heap.size,2,none⟩ v3) B d vn) 1 v3 m xs/\Below wr.heap.size wr (w3.setCell ⟨wr.heap.size,2,none⟩ v3)/\
  (w3.setCell ⟨wr.heap.size,2,none⟩ v3).heap[wr.heap.size]? =some (.cells #[x,y,v3] T (0,0)):=by
 have hnb:=Ja hb3;have h4:Below wr.heap.size wr (w3.setCell ⟨wr.heap.size,2,none⟩ v3):=(((eB_ wr.heap.size wr).alloc (rl_ _) _).trans (hb3.mono (by rw[<-Q5];omega))).setCell (rl_ _) _;refine ⟨htr.below h4,?_,h4,Qx hnb _⟩;refine htr.own (base:=wr.heap.size+1) (e:=3) (Qk (w:=w3) (by rw[Q5];exact ho3) fun k hk=> ?_) (Nat.le_succ _);have:=(ho3.lt k hk).1;rw[<-Q5] at this;exact Below.heap_setCell _ _ _ _ (by simp only;omega)
theorem Q6h {xs:List Value} (hj:(ns.take j).length=j) (h:w4.ownsRow B 157 3 v (ns.take j).length xs) (o:Obj):(w4.alloc o).ownsRow B 157 3 v j xs:=by
 rw[hj] at h;exact h.alloc o
theorem Q57 {toks:List Tr.Tk} {n:Tr.Nd} {kvs:List Value} {g cap:Nat} (hj:(ns.take j).length=j) (h:TrI w4 B d vt vn ⟨toks,ns.take j⟩) (hW:Below w4.heap.size w4 W)
  (hk:RdS w4 (BP w4 B d vn) 1 kv n.kids.length (intCells n.kids)) (q1:kvs.length=(ns.take j).length)
  (q3:∀ (i:Nat) (n:Tr.Nd) (kv:Value),(ns.take j)[i]? =some n->kvs[i]? =some kv->RdS w4 (BP w4 B d vn) 1 kv n.kids.length (intCells n.kids))
  (hown:w5.ownsRow B 157 3 (.slice (some ⟨g,0,none⟩) (j+1) cap) (j+1) (((ns.take j).zip kvs).flatMap ndCells++ [.int .i64 n.kind,.int .i64 n.tok,kv]))
  (hgrow:W.grownBy w5 vn.ownBlock) (hat:vn.ownBlock=some g\/g=W.heap.size):
  TrI (w5.setCell ⟨d,1,none⟩ (.slice (some ⟨g,0,none⟩) (j+1) cap)) B d vt (.slice (some ⟨g,0,none⟩) (j+1) cap) ⟨toks,ns.take j++ [n]⟩:=by
 have hkeep:Keeps (BP w4 B d vn) w4 W:=Keeps.of hW fun k hk=> hk.2.2.2;have:=(h.below hW).push (n:=n) ((hk.keep hkeep).imp fun k hk=> hk.size hW.size) (kvs:=kvs) q1 (fun i m v hi hv=> ((q3 i m v hi hv).keep hkeep).imp fun k hk=> hk.size hW.size) (g:=g) (cap:=cap) (w1:=w5) (by simpa only[hj] using hown) hgrow (hat.imp_right fun e=> by omega);simpa only[hj] using this
theorem Q3d (hb:Below w.heap.size w wr) (hd:w.heap.size < d) (h4:Below wr.heap.size wr w4) (hW:Below w4.heap.size w4 W) (hg:W.grownBy w5 vn.ownBlock) (hv:∀ k,vn.ownBlock=some k->w.heap.size+1<=k) (hdl:d<=w4.heap.size) (u:Value):
  (∀ {o:Obj},wr.heap[w.heap.size]? =some o->(w5.setCell ⟨d,1,none⟩ u).heap[w.heap.size]? =some o)/\Below w.heap.size w (w5.setCell ⟨d,1,none⟩ u):=by
 have s1:=hb.size;have s2:=h4.size;have s3:=hW.size;refine ⟨fun {o} ho=> ?_,?_⟩
 ·have hlt:=Q4 ho;rw[Below.heap_setCell _ _ _ _ (by simp only;omega),hg.block _ (by omega) (fun e=> by have:=hv _ e.symm;omega),hW.block _ (by omega),h4.block _ hlt];exact ho
 ·exact (((hb.trans (h4.mono s1)).trans (hW.mono (eE_ s1 s2))).grown hg (by omega) (fun k hk=> by have:=hv k hk;omega)).setCell (by simp only;omega) _
theorem Q3e {used:Nat} (h:BuildI Q w B b vt vn t used) (hn:t.nodes.length<=1073741823) (ht:t.toks.length<=1073741824) (hkids:∀ n∈t.nodes,n.kids.length<=1073741824):
  Calls prog 113 #[.pointer (some ⟨b,0,none⟩)] w fun e w'=> ∃ vt' vn',e= .returned (.agg #[vt',vn'])/\RdT w' (fun k=> w.heap.size<=k/\k < w'.heap.size) vt' vn' t/\Below w.heap.size w w':=by
 obtain ⟨kvs,hk1,hk2,hk3⟩:=h.nodes;obtain ⟨an,cn,rfl⟩:=Qj hk2;have hb1:Below w.heap.size w (w.alloc (.cells #[.slice none 0 0,.slice none 0 0] 90)):=(eB_ _ _).alloc (rl_ _) _;have h1:=h.keep (w':=w.alloc (.cells #[.slice none 0 0,.slice none 0 0] 90)) hb1.size fun k hk _=> hb1.block k hk;obtain ⟨at_,ct,rfl⟩:=h.toks.form;have e0:=Q3 h1.cell 0 rfl;have HH:=hd_ h;have HC:=hd_ (LE h1.toks ht (Q4s t.toks));have HN:=h2_ hn hkids;have HR:=hd_ hb1;have hn':(t.nodes.length:Int)<=1073741823:=by omega
 clear h hk1 hk2 hk3 hb1 h1 hn hkids;go_in;go_wp2_with (go_at_call 144;refine HC.o.mono ?_;rintro e w1 ⟨v1,rfl,ho,hb⟩;obtain ⟨a1,c1,rfl⟩:=Qj ho;have e1:=Q3 (Q3b HH.o hb) 1 rfl;have l1:=Qd e1;have HO:=hd_ ho;have HB:=hd_ hb;clear ho hb);go_loopg [19] t.nodes.length (fun k v19 wr=> DoneRel w (.slice a1 t.toks.length c1) t.toks t.nodes w1.heap.size k v19 wr)
 case atStart=> exact Q3c w HO.o HB.o
 case round=>
  obtain ⟨j,a,c,rfl,hk,hj,hc2,hd2,hdc,htr,hb⟩:=hrel;by_cases hlt:j < t.nodes.length
  ·have hlt':(j:Int) < (t.nodes.length:Int):=(by omega);obtain ⟨n,hnj⟩:∃ n,t.nodes[j]? =some n:=⟨_,eA_ hlt⟩
   obtain ⟨g0,o0,c0,kv,he,hg0,hrg,hkv⟩:=(HH.o.rd.keep (Keeps.of hb fun _ h=> h)).node hnj;simp only[Value.slice.injEq,true_and] at he;obtain ⟨rfl,rfl⟩:=he;have hkl:=HN.B n (eP_ hnj);have HG:=hd_ hrg;have hbn:Below wr.heap.size wr (wr.alloc (.cells #[.int .i64 n.kind,.int .i64 n.tok,kv] 157)):=(eB_ _ _).alloc (rl_ _) _;have HCI:=hd_ (LF (hkv.keep (Keeps.of hbn fun i hi=> eI_ hi hb.size)) hkl (ints_one n.kids));obtain ⟨ka,kc,rfl⟩:=hkv.form;have HRL:=h8_ hk hc2 hd2 hdc htr hb hnj hbn;clear hk hc2 hd2 hdc htr hb hnj hrg hkv hkl hbn;go_upto_region 6 with (first
    | (refine wpList_load_mid rfl 157 _ rfl g0 (o0+j*3) rfl _ _ HG.o underlying157 rfl rfl ?_)
    | (go_at_call 145;refine HCI.o.mono ?_;rintro e w3 ⟨v3,rfl,ho,hb3⟩;obtain ⟨a3,c3,rfl⟩:=Qj ho;have hnb:=Ja hb3;have d2:=Q3 hnb 2 rfl;have f2:=Qp hnb 2;have HO3:=hd_ ho;have HB3:=hd_ hb3;have HNB:=hd_ hnb;clear ho hb3 hnb))
   have hm:=Q6g HRL.e HB3.o HO3.o;clear d2 f2 l1;generalize w3.setCell ⟨wr.heap.size,2,none⟩ (.slice a3 n.kids.length c3)=w4 at*;have hd4:w4.heap[w1.heap.size]? =some (.cells #[.slice a1 t.toks.length c1,.slice a j c] 90 (0,0)):=(by rw[hm.2.2.1.block _ HRL.e.lt];exact HRL.d);obtain ⟨kvs2,q1,q2,q3⟩:=hm.1.nodes;have hW:Below w4.heap.size w4 (w4.alloc (.cells #[.int .i64 n.kind,.int .i64 n.tok,.slice a3 n.kids.length c3] 157)):=(eB_ _ _).alloc (rl_ _) _;have e4:=Q3 hd4 1 rfl;have l4:=Qd e4;have HM:=hd_ hm;have HD4:=hd_ hd4;have HW:=hd_ hW;have HQ:=h3_ q1 q2 q3;obtain ⟨i0,hi,hz0,hz1,hz2⟩:=Qw LH;have Hi:=hd_ hi;have Hz0:=hd_ hz0;have Hz1:=hd_ hz1;have Hz2:=hd_ hz2;have hjl:(t.nodes.take j).length=j:=(by simp;omega);have HJ:=hd_ hjl;clear hm hd4 hW q1 q2 q3 hi hz0 hz1 hz2 hjl;go_wp2_with (first
    | (refine wpList_load_row rfl 157 _ rfl wr.heap.size rfl _ _ _ _ HM.D underlying157 rfl rfl ?_)
    | (at_builtin;refine wpList_append_lies _ rfl _ _ 88 rfl (w.heap.size+1) 157 i0 (.agg #[.int .i64 0,.int .i64 0,.slice none 0 0]) 3 40 underlying88 Hi.o Hz0.o Hz1.o Hz2.o rfl (by decide) (.slice a j c) j (((t.nodes.take j).zip kvs2).flatMap ndCells) rfl (Q6h HJ.o HQ.b _) ⟨w4.heap.size,0,none⟩ 1 1 [.int .i64 n.kind,.int .i64 n.tok,.slice a3 n.kids.length c3] rfl rfl (World.news_of_block (eD_ _ _)) (by simp[Value.oneCell']) (by decide) (by have:=HN.a;unfold maxLen;omega) (by have:=HN.a;omega) (eE_ (eE_ HM.a.base (Nat.le_of_lt HM.a.lt)) HW.o.size) _ rfl ?_))
   intro g cap w5 hown hgrow hat hlt5;have hp:=Q57 HJ.o HM.a HW.o HM.b HQ.a HQ.C hown hgrow (hat.imp_right fun e=> e.trans (Q5 _ _));have hd5:w5.heap[w1.heap.size]? =some (.cells #[.slice a1 t.toks.length c1,.slice a j c] 90 (0,0)):=by
    rw[hgrow.block _ (eI_ HM.a.lt HW.o.size) (fun e=> HM.a.ne e.symm),HW.o.block _ HM.a.lt];exact HD4.o
   have hst:=Qx (j:=1) hd5 (.slice (some ⟨g,0,none⟩) (j+1) cap);have e5:=Q3 hd5 1 rfl;have f5:=Qp hd5 1;have hbig:=Q3d HRL.f HRL.c HM.c HW.o hgrow (fun k hk=> (HQ.b.lt k hk).1) (Nat.le_of_lt HM.a.lt);have HP:=hd_ hp;have HST:=hd_ hst;have HBG:=hd_ hbig;clear hp hst hbig hown hgrow hat hlt5 hd5;go_wp2;go_roundg (t.nodes.length - (j+1))
   case measure=> have:=HRL.a;omega
   case rel=>
    refine ⟨j+1,some ⟨g,0,none⟩,cap,by go_num,rfl,by omega,?_,HRL.c,HST.o,?_,?_⟩
    ·exact (HBG.o _).1 HRL.b
    ·rw[List.take_add_one,HRL.g];exact HP.o
    ·exact (HBG.o _).2
  ·obtain rfl:j=t.nodes.length:=(by omega);have HC2:=hd_ hc2;have HD2:=hd_ hdc;have HTR:=h3_ htr hb hd2;clear hc2 hdc htr hb hd2 e0 e1 l1;go_wp2_with (first
    | (refine wpList_load_row rfl 90 _ rfl w1.heap.size rfl _ _ _ _ HD2.o underlying90 rfl rfl ?_)
    | (refine Qc rfl 90 _ _ rfl 90 w.heap.size _ _ rfl HC2.o rfl rfl rfl (by simp[Value.oneCell']) ?_))
   refine eG_ (v:=_) (eY_ rfl _ _ w.heap.size _ _ _ _ rfl (Qb HC2.o) underlying90 rfl rfl) rfl ?_;obtain ⟨htr,hb,hd2⟩:=HTR.o;rw[List.take_length] at htr;refine ⟨_,_,rfl,?_,Q9 hb (rl_ _) _⟩;refine (htr.rd.keep fun k hk=> Q8 (by omega)).imp fun k hk=> ⟨by omega,?_⟩;have hsz:(wr.setRow w.heap.size #[.slice a1 t.toks.length c1,.slice a t.nodes.length c]).heap.size=wr.heap.size:=(by simp[World.setRow]);rw[hsz];exact hk.2
end
theorem La (k:Int) (h0:w.cell? ⟨c,0,none⟩=some (.int .i64 n)):
  Calls prog 236 #[.int .i64 k,.pointer (some ⟨c,0,none⟩)] w fun e w'=> e= .returned (.bool (badKid n k))/\w=w':=by
 unfold badKid;by_cases hk:k < 0
 ·go_in;go_wp2;go_ret;exact ⟨by simp[hk],rfl⟩
 ·have hk':0<=k:=by omega
  go_in;go_wp2;go_ret;exact ⟨by simp only[eK_ (show ¬ k < 0 by omega),Bool.false_or];rfl,rfl⟩
theorem Q3f (h:RdW w P 1 v l.length (intCells l)) (hl:l.length<=1073741824) {c n:Nat} (h0:w.cell? ⟨c,0,none⟩=some (.int .i64 n)):
  Calls prog 224 #[v,.func (.func 236) #[] #[.pointer (some ⟨c,0,none⟩)]] w fun e w'=>
   ∃ r:Int,e= .returned (.int .i64 r)/\decide (0<=r)=l.any (badKid n)/\w=w':=by
 obtain ⟨_,a,cl,rfl,_,hd⟩:=h;have hl':(l.length:Int)<=1073741824:=by omega
 have HC:=fun k=> hd_ (La k h0);have HD:=hd_ hd;clear h0 hd;go_in;go_wp2;go_loopg [8] l.length (fun k v8 wr=> ∃ j:Nat,v8= .int .i64 j/\k=l.length - j/\j<=l.length/\wr=w/\((l.take j).any (badKid n))=false)
 case atStart=> exact ⟨0,rfl,rfl,eV_ _,rfl,by simp⟩
 case round=>
  obtain ⟨j,rfl,hk,hj,rfl,hall⟩:=hrel;have HK:=hd_ hk;have HA:=hd_ hall;clear hk hall;by_cases hlt:j < l.length
  ·have hlt':(j:Int) < (l.length:Int):=(by omega);obtain ⟨b2,off,rfl,_,hr⟩:=HD.o.resolve_left (fun h=> by omega);have hcell:wr.cell? ⟨b2,off+j,none⟩=some (.int .i64 l[j]):=hr j _ (by simp[intCells,eA_ hlt]);clear hr;obtain ⟨y,hy⟩:∃ y,l[j]=y:=⟨_,rfl⟩
   rw[hy] at hcell;have HY:=hd_ hy;clear hy;cases hb:badKid n y
   ·have HB:=hd_ hb;have HCB:=hd_ (hb ▸ (HC y).out);clear hb;go_wp2_with (go_at_call 236;refine HCB.o.mono ?_;rintro e w1 ⟨rfl,rfl⟩);go_roundg (l.length - (j+1))
    case measure=> have:=HK.o;omega
    case rel=>
     refine ⟨j+1,by go_num,rfl,by omega,rfl,?_⟩;rw[List.take_succ_eq_append_getElem hlt,List.any_append,HA.o,HY.o];simp[HB.o]
   ·have HB:=hd_ hb;have HCB:=hd_ (hb ▸ (HC y).out);clear hb;go_wp2_with (go_at_call 236;refine HCB.o.mono ?_;rintro e w1 ⟨rfl,rfl⟩);go_ret;refine ⟨(j:Int),rfl,?_,rfl⟩;have h2:l.any (badKid n)=true:=List.any_eq_true.2 ⟨y,by rw[<-HY.o];exact List.getElem_mem hlt,HB.o⟩;rw[h2];simp
  ·obtain rfl:j=l.length:=(by omega);go_wp2;go_ret;refine ⟨-1,rfl,?_,rfl⟩;have h2:=HA.o;rw[List.take_length] at h2;rw[h2];rfl
theorem Lb (h:RdW w P 1 v l.length (intCells l)) (hl:l.length<=1073741824) {c n:Nat} (h0:w.cell? ⟨c,0,none⟩=some (.int .i64 n)):
  Calls prog 196 #[v,.func (.func 236) #[] #[.pointer (some ⟨c,0,none⟩)]] w fun e w'=>
   e= .returned (.bool (l.any (badKid n)))/\w=w':=by
 have HI:=hd_ (Q3f h hl h0);clear h h0;go_in;go_wp2_with (go_at_call 224;refine HI.o.mono ?_;rintro e w1 ⟨r,rfl,hr,rfl⟩;have HR:=hd_ hr;clear hr);go_ret;exact ⟨by rw[<-HR.o];rfl,rfl⟩
theorem Q58 (t:Tr.T) (i:Nat) (n:Tr.Nd):Tr.formed t i n=if n.kind < 1\/19 < n.kind then false
 else if n.kind=19 then n.kids.isEmpty && decide (0<=n.tok) && decide (n.tok < (t.toks.length:Int))
 else decide (n.tok=-1) && !(n.kids.any (badKid i)):=rfl
theorem Q0u {at_:Option Addr} {ct:Nat} {n:Tr.Nd} (hk:RdW w P 1 kv n.kids.length (intCells n.kids)) (hP:∀ k,P k->k < w.heap.size) (hl:n.kids.length<=1073741824)
  (ht:t.toks.length<=1073741824) (i:Nat):
  Calls prog 225 #[.agg #[.slice at_ t.toks.length ct,vn],.int .i64 i,.agg #[.int .i64 n.kind,.int .i64 n.tok,kv]] w fun e w'=> e= .returned (.bool (Tr.formed t i n))/\Below w.heap.size w w':=by
 have hb:Below w.heap.size w (((w.alloc (.cells #[.slice at_ t.toks.length ct,vn] 90)).alloc (.cells #[.int .i64 i] 3)).alloc (.cells #[.int .i64 n.kind,.int .i64 n.tok,kv] 157)):=
  (((eB_ _ _).alloc (rl_ _) _).alloc (by rw[<-Q5];omega) _).alloc (by rw[<-Q5, <-Q5];omega) _
 have hc:(((w.alloc (.cells #[.slice at_ t.toks.length ct,vn] 90)).alloc (.cells #[.int .i64 i] 3)).alloc (.cells #[.int .i64 n.kind,.int .i64 n.tok,kv] 157)).cell? ⟨w.heap.size+1,0,none⟩=some (.int .i64 i):=by
  refine Q3 (T:=3) (fr:=(0,0)) (cs:= #[.int .i64 i]) ?_ 0 rfl;rw[eJ_ _ _ _ (by rw[<-Q5, <-Q5];omega),Q5 w (.cells #[.slice at_ t.toks.length ct,vn] 90)];exact eD_ _ _
 have HF:=hd_ (Lb (hk.keep (Keeps.of hb hP)) hl hc);obtain ⟨ka,kc,rfl⟩:=hk.form;have ht':(t.toks.length:Int)<=1073741824:=by omega
 have hl':(n.kids.length:Int)<=1073741824:=by omega
 have HB:=hd_ (show ∀ o1 o2 o3:Obj,Below w.heap.size w (((w.alloc o1).alloc o2).alloc o3) from fun o1 o2 o3=> (((eB_ _ _).alloc (rl_ _) _).alloc (by rw[<-Q5];omega) _).alloc (by rw[<-Q5, <-Q5];omega) _);clear hk hP hb hc hl;obtain ⟨kind,tok,kids⟩:=n;simp only at HF hl';rw[Q58];simp only;by_cases h1:kind < 1
 ·rw[if_pos (Or.inl h1)];go_in;go_wp2;go_ret;exact ⟨rfl,HB.o _ _ _⟩
 ·by_cases h2:19 < kind
  ·rw[if_pos (Or.inr h2)];have h1':1<=kind:=(by omega);go_in;go_wp2;go_ret;exact ⟨rfl,HB.o _ _ _⟩
  ·rw[if_neg (by omega)];have h1':1<=kind:=(by omega);have h2':kind<=19:=(by omega);by_cases h3:kind=19
   ·rw[if_pos h3];subst h3;by_cases h4:kids.length=0
    ·have h4':kids.isEmpty=true:=(by rw[List.isEmpty_iff];exact List.eq_nil_of_length_eq_zero h4);by_cases h5:0<=tok
     ·rw[h4',eM_ h5,Bool.true_and,Bool.true_and];clear h4';go_in;go_wp2;go_ret;exact ⟨rfl,HB.o _ _ _⟩
     ·rw[h4',eK_ h5,Bool.and_false,Bool.false_and];clear h4';have h5':tok < 0:=(by omega);go_in;go_wp2;go_ret;exact ⟨rfl,HB.o _ _ _⟩
    ·have h4':kids.isEmpty=false:=by
      cases hq:kids with
      | nil=> rw[hq] at h4;exact absurd rfl h4
      | cons a l=> rfl
     have h6:((kids.length:Int)==0)=false:=(by rw[beq_eq_false_iff_ne];omega);rw[h4',Bool.false_and,Bool.false_and];clear h4';go_in;go_wp2;go_ret;exact ⟨rfl,HB.o _ _ _⟩
   ·rw[if_neg h3];have h3':(kind==19)=false:=(by simp[h3]);by_cases h7:tok=-1
    ·rw[eM_ h7,Bool.true_and];subst h7;go_in;go_wp2_with (go_at_call 196;refine HF.o.mono ?_;rintro e w2 ⟨rfl,rfl⟩);go_ret;exact ⟨rfl,HB.o _ _ _⟩
    ·rw[eK_ h7,Bool.false_and];have h7':(tok==-1)=false:=(by simp[h7]);go_in;go_wp2;go_ret;exact ⟨rfl,HB.o _ _ _⟩
def boolCells (l:List Bool):List Value:=l.map (.bool ·)
theorem Q3g {l:List Bool} (h:RdS w P 1 v l.length (boolCells l)) (hl:l.length<=1073741824):
  Calls prog 237 #[v,.bool false] w fun e w'=> ∃ r:Int,e= .returned (.int .i64 r)/\decide (0<=r)=l.contains false/\w=w':=by
 obtain ⟨_,a,cl,rfl,_,hd⟩:=h;have hl':(l.length:Int)<=1073741824:=by omega
 have HD:=hd_ hd;clear hd;go_in;go_wp2;go_loopg [8] l.length (fun k v8 wr=> ∃ j:Nat,v8= .int .i64 j/\k=l.length - j/\j<=l.length/\wr=w/\(l.take j).contains false=false)
 case atStart=> exact ⟨0,rfl,rfl,eV_ _,rfl,by simp⟩
 case round=>
  obtain ⟨j,rfl,hk,hj,rfl,hall⟩:=hrel;have HK:=hd_ hk;have HA:=hd_ hall;clear hk hall;by_cases hlt:j < l.length
  ·have hlt':(j:Int) < (l.length:Int):=(by omega);obtain ⟨b2,off,rfl,_,hr⟩:=HD.o.resolve_left (fun h=> by omega);have hcell:wr.cell? ⟨b2,off+j,none⟩=some (.bool l[j]):=hr j _ (by simp[boolCells,eA_ hlt]);clear hr;obtain ⟨y,hy⟩:∃ y,l[j]=y:=⟨_,rfl⟩
   rw[hy] at hcell;have HY:=hd_ hy;clear hy;cases y
   ·go_wp2;go_ret;refine ⟨(j:Int),rfl,?_,rfl⟩;have h2:l.contains false=true:=(by rw[List.contains_iff_mem, <-HY.o];exact List.getElem_mem hlt);rw[h2];simp
   ·go_wp2;go_roundg (l.length - (j+1))
    case measure=> have:=HK.o;omega
    case rel=>
     refine ⟨j+1,by go_num,rfl,by omega,rfl,?_⟩;rw[List.take_succ_eq_append_getElem hlt,HY.o];have:=HA.o;simp only[List.contains_eq_mem,decide_eq_false_iff_not] at this |-;simp[this]
  ·obtain rfl:j=l.length:=(by omega);go_wp2;go_ret;refine ⟨-1,rfl,?_,rfl⟩;have h2:=HA.o;rw[List.take_length] at h2;rw[h2];rfl
theorem Lc {l:List Bool} (h:RdS w P 1 v l.length (boolCells l)) (hl:l.length<=1073741824):
  Calls prog 226 #[v,.bool false] w fun e w'=> e= .returned (.bool (l.contains false))/\w=w':=by
 have HI:=hd_ (Q3g h hl);clear h;go_in;go_wp2_with (go_at_call 237;refine HI.o.mono ?_;rintro e w1 ⟨r,rfl,hr,rfl⟩;have HR:=hd_ hr;clear hr);go_ret;exact ⟨by rw[<-HR.o];rfl,rfl⟩
section
variable {Q:Nat->Prop}
theorem Q3h {used:Nat} (h:BuildI Q w B b vt vn t used) (ht:t.toks.length<=1073741824) (hu:used<=t.toks.length) {k:Tr.Tk} (hk:t.toks[min used (t.toks.length - 1)]? =some k):
  Calls prog 152 #[.pointer (some ⟨b,0,none⟩)] w fun e w'=> e= .returned (.agg #[.int .i64 k.kind,.string ⟨k.lead.toArray⟩,.string ⟨k.text.toArray⟩,.int .i64 k.pos])/\Below w.heap.size w w':=by
 have hlen:0 < t.toks.length:=by
  rcases Nat.eq_zero_or_pos t.toks.length with h0 | h0
  ·rw[List.getElem?_eq_none (by omega)] at hk;cases hk
  ·exact h0
 have ht':(t.toks.length:Int)<=1073741824:=by omega
 have hu':(used:Int)<=(t.toks.length:Int):=by omega
 have hlen':0 < (t.toks.length:Int):=by omega
 obtain ⟨g,o,c,he,hg,hrg⟩:=h.toks.tok hk;subst he;obtain ⟨m,hm⟩:∃ m,min used (t.toks.length - 1)=m:=⟨_,rfl⟩
 rw[hm] at hrg;have hb1:Below w.heap.size w (w.alloc (.cells #[.int .i64 0,.string ⟨#[]⟩,.string ⟨#[]⟩,.int .i64 0] 197)):=(eB_ _ _).alloc (rl_ _) _;obtain ⟨W,hW⟩:∃ W,w.alloc (.cells #[.int .i64 0,.string ⟨#[]⟩,.string ⟨#[]⟩,.int .i64 0] 197)=W:=⟨_,rfl⟩
 have hnew:W.heap[w.heap.size]? =some (.cells #[.int .i64 0,.string ⟨#[]⟩,.string ⟨#[]⟩,.int .i64 0] 197 (0,0)):=by rw[<-hW];exact eD_ _ _
 have hcb:W.heap[b]? =some (.cells #[.slice (some ⟨g,o,none⟩) t.toks.length c,vn,.int .i64 used] 224 (0,0)):=by rw[<-hW,eJ_ _ _ _ (Q4 h.cell)];exact h.cell
 have hrW:W.rangeAt g (o+m*4) [.int .i64 k.kind,.string ⟨k.lead.toArray⟩,.string ⟨k.text.toArray⟩,.int .i64 k.pos]:=by rw[<-hW];exact Xi hrg (eJ_ _ _ _ hg.1.2.2.2)
 have e:(min (used:Int) ((t.toks.length:Int) - 1)).toNat=m:=by omega
 rw[<-e] at hrW;have c0:=Q3 hcb 0 rfl;have c2:=Q3 hcb 2 rfl;have q0:W.cell? ⟨g,o+(min (used:Int) ((t.toks.length:Int) - 1)).toNat*4,none⟩=some (.int .i64 k.kind):=hrW 0 _ rfl;have q1:W.cell? ⟨g,o+(min (used:Int) ((t.toks.length:Int) - 1)).toNat*4+1,none⟩=some (.string ⟨k.lead.toArray⟩):=hrW 1 _ rfl;have q2:W.cell? ⟨g,o+(min (used:Int) ((t.toks.length:Int) - 1)).toNat*4+2,none⟩=some (.string ⟨k.text.toArray⟩):=hrW 2 _ rfl;have q3:W.cell? ⟨g,o+(min (used:Int) ((t.toks.length:Int) - 1)).toNat*4+3,none⟩=some (.int .i64 k.pos):=hrW 3 _ rfl;have n0:=Q3 hnew 0 rfl;have n1:=Q3 hnew 1 rfl;have n2:=Q3 hnew 2 rfl;have n3:=Q3 hnew 3 rfl;have f0:=Qp hnew 0;have f1:=Qp hnew 1;have f2:=Qp hnew 2;have f3:=Qp hnew 3;have HB:=h2_ hb1 hnew;rw[hW] at HB;clear h hk hrg hg hb1 hnew hcb hrW;clear hm e;go_in;go_wp2_with fail;clear hW;go_region
 all_goals go_wp2
 all_goals
  obtain ⟨hb1,hnew⟩:=HB.o;have hd:W.drew.heap[w.heap.size]? =some (.cells #[.int .i64 0,.string ⟨#[]⟩,.string ⟨#[]⟩,.int .i64 0] 197 (0,0)):=hnew;refine eG_ (v:= .agg #[.int .i64 k.kind,.string ⟨k.lead.toArray⟩,.string ⟨k.text.toArray⟩,.int .i64 k.pos]) (eY_ rfl _ _ w.heap.size _ _ _ _ rfl (Qx (Qx (Qx (Qx hd _) _) _) _) underlying197 rfl rfl) rfl ?_;exact ⟨rfl,(((hb1.drew.setCell (rl_ _) _).setCell (rl_ _) _).setCell (rl_ _) _).setCell (rl_ _) _⟩
end
open Go.RowKit Go.Shelf
attribute [local go_sem] Oper.semAt_some
def backUpto (zs:List Int) (k:Nat):List (Int × Int):=(List.range k).map fun j:Nat=> (((zs.length:Int) - 1 - (j:Int)),zs[zs.length - 1 - j]?.getD 0)
theorem Jt (zs:List Int) (k:Nat):backUpto zs (k+1)=backUpto zs k++ [((zs.length:Int) - 1 - k,zs[zs.length - 1 - k]?.getD 0)]:=by simp[backUpto,List.range_succ]
theorem Gt (zs:List Int) (k:Nat):(backUpto zs k).length=k:=by simp[backUpto]
theorem Q6i (F:Fence) (n:Nat) (h8:F.fn 244) (hro:F.round=none) (hn:1<=n) (l Bs b off cap:Nat) (P:Nat->Prop) (zs:List Int) (hreach:zs.length<=1073741824) (hb:0 < zs.length->P b) (J Jx:List (Int × Int)->World->Prop)
  (hY:∀ pre x W,J pre W->pre.length < zs.length->YieldAt F (n - 1) prog l #[.int .i64 x.1,.int .i64 x.2] W fun e W'=>
   (e= .returned (.bool true)/\J (pre++ [x]) W'/\Keeps P W W')\/(e= .returned (.bool false)/\Jx (pre++ [x]) W'))
  (W:World) (hBn:P Bs) (hBs:W.cell? ⟨Bs,0,none⟩=some (.slice (some ⟨b,off,none⟩) zs.length cap)) (hc:∀ j,j < zs.length->W.cell? ⟨b,off+j,none⟩=some (.int .i64 (zs[j]?.getD 0))) (h0:J [] W):
  CallsIn F n prog 244 #[.func (.yield l) #[] #[],.pointer (some ⟨Bs,0,none⟩)] W fun e W'=> (∃ v,e= .returned v)/\
   ((∃ ys,ys=backUpto zs zs.length/\J ys W')\/(∃ pre,(∃ k,k<=zs.length/\pre=backUpto zs k)/\Jx pre W')):=by
 have hreach':(zs.length:Int)<=1073741824:=by omega
 refine callsIn_of_wp Tryz.func244 rfl h8 ?_ hro;simp only[Tryz.ntmps244,List.size_toArray,eL_,eU_,Nat.reduceAdd,Nat.reduceSub,Array.replicate_succ,Array.replicate_zero,List.push_toArray,List.append_toArray,List.nil_append,List.cons_append]
 gi_wp2
 gi_loopw [3] (fun i wr=> ∃ k:Nat,k<=zs.length/\i= .int .i64 ((zs.length:Int) - 1 - k)/\J (backUpto zs k) wr/\Keeps P W wr)
  (fun i _=> (intOf i+1).toNat)
 case atStart=> exact ⟨0,eV_ _,by simp,h0,Keeps.refl _ _⟩
 case round=>
  obtain ⟨k,hk,rfl,hJs,hnx⟩:=hrel;by_cases hlt:k < zs.length
  ·have hcx:wr.cell? ⟨b,off+(zs.length - 1 - k),none⟩=some (.int .i64 (zs[zs.length - 1 - k]?.getD 0)):=(World.cell?_of_block (a:=⟨b,off+(zs.length - 1 - k),none⟩) (hnx b (hb (by omega)))).trans (hc _ (by omega));have hbx:wr.cell? ⟨Bs,0,none⟩=some (.slice (some ⟨b,off,none⟩) zs.length cap):=(World.cell?_of_block (a:=⟨Bs,0,none⟩) (hnx Bs hBn)).trans hBs;obtain ⟨fn,tmps,assign,body,hy,hR⟩:=hY _ ((zs.length:Int) - 1 - k,zs[zs.length - 1 - k]?.getD 0) wr hJs (by rw[Gt];exact hlt);dsimp only at hy;obtain ⟨m,hm⟩:∃ m:Nat,(zs.length:Int) - 1 - k=m:=⟨zs.length - 1 - k,by omega⟩
   have hm2:zs.length - 1 - k=m:=(by omega);rw[hm2] at hcx hy;rw[hm] at hy;have hml:(m:Int) < (zs.length:Int):=(by omega);rw[hm]
   gi_wp2
   refine hR.mono ?_;rintro e W3 (⟨rfl,hJ3,hk3⟩ | ⟨rfl,hJx3⟩)
   ·gi_wp2
    go_roundw
    case rel=> exact ⟨k+1,by omega,(by first | (simp;done) | (simp;omega)),by rw[Jt];exact hJ3,hnx.trans hk3⟩
    case measure=> first | (simp[intOf];done) | (simp[intOf];omega)
   ·gi_wp2
    refine eG_ (results_none rfl _ _ _) rfl ?_;exact ⟨⟨_,rfl⟩,.inr ⟨_,⟨k+1,by omega,(Jt _ _).symm⟩,hJx3⟩⟩
  ·have hm:(zs.length:Int) - 1 - k=-1:=(by omega);rw[hm]
   gi_wp2
   go_end0;obtain rfl:k=zs.length:=(by omega);exact ⟨⟨_,rfl⟩,.inl ⟨_,rfl,hJs⟩⟩
theorem Q0v (F:Fence) (n:Nat) (h8:F.fn 244) (hro:F.round=none) (l Bs:Nat) (J:List (Int × Int)->World->Prop) (W:World) (a:Option Addr) (c:Nat) (hBs:W.cell? ⟨Bs,0,none⟩=some (.slice a 0 c)) (h0:J [] W):
  CallsIn F n prog 244 #[.func (.yield l) #[] #[],.pointer (some ⟨Bs,0,none⟩)] W fun e W'=> (∃ v,e= .returned v)/\J [] W':=by
 refine callsIn_of_wp Tryz.func244 rfl h8 ?_ hro;simp only[Tryz.ntmps244,List.size_toArray,eL_,eU_,Nat.reduceAdd,Nat.reduceSub,Array.replicate_succ,Array.replicate_zero,List.push_toArray,List.append_toArray,List.nil_append,List.cons_append]
 gi_wp2
 gi_loopw [3] (fun i wr=> i= .int .i64 (-1)/\J [] wr) (fun _ _=> 0)
 case atStart=> exact ⟨rfl,h0⟩
 case round=>
  obtain ⟨rfl,hJs⟩:=hrel
  gi_wp2
  go_end0;exact ⟨⟨_,rfl⟩,hJs⟩
def markDs (ds:List Nat):List Deferred:=ds.map fun D=> {target:= .collected D,args:= #[]}
theorem UM {k D:Nat} {o:Obj} (h:k≠D):(w.putObj D o).heap[k]? =w.heap[k]? :=by
 simp only[World.putObj];rw[Array.getElem?_setIfInBounds_ne (by omega)]
theorem U1 {P:Program} {F:Fence} {n:Nat} {fn:Func} {tmps:Array Value} {R:Ending->World->Prop}:∀ (ds:List Nat) (w:World),ds.Nodup->(∀ D∈ds,w.heap[D]? =some (.deferred (some [])))->
  (∀ w':World,w'.os=w.os->w'.tape=w.tape->w'.output=w.output->w'.heap.size=w.heap.size->(∀ k,k∉ds->w'.heap[k]? =w.heap[k]?)->∃ v,(results fn tmps).run P w'= .ok v w'/\R (.returned v) w')->
  LeavesInM F n P fn tmps R (markDs ds) .returning w
 | [],w,_,_,h=> h w rfl rfl rfl rfl fun _ _=> rfl
 | D::ds,w,hnd,hD,h=> by
  refine ⟨by simp,.inl ⟨D,_,rfl,run_takeDeferred (hD D (by simp)),?_⟩⟩;have hn:=List.nodup_cons.1 hnd;refine U1 ds _ hn.2 (fun E hE=> ?_) fun w' h1 h2 h3 h4 h5=> h w' h1 h2 h3 (by rw[h4];simp[World.putObj]) fun k hk=> ?_
  ·rw[UM (fun e=> hn.1 (by rw[<-e];exact hE))];exact hD E (by simp[hE])
  ·simp only[List.mem_cons,not_or] at hk;rw[h5 k hk.2,UM hk.1]
end Go.Proofs.YtiecccakcenobaaGreatDoor
namespace Go.Proofs.YtiecccakcenobaaGreatDoor.Tr
open Tryz
variable {i:Nat}
def sz (ns:List Nd):Nat->Nat->Nat
 | 0,_=> 0
 | f+1,i=> match ns[i]? with
  | none=> 0
  | some n=> 1+(n.kids.map fun k=> sz ns f k.toNat).sum
def lv (ns:List Nd):Nat->Nat->List Int
 | 0,_=> []
 | f+1,i=> match ns[i]? with
  | none=> []
  | some n=> if n.kind=19 then [n.tok] else n.kids.flatMap fun k=> lv ns f k.toNat
def Low (ns:List Nd):Prop:=∀ (i:Nat) (n:Nd),ns[i]? =some n->(∀ k∈n.kids,0<=k/\k < (i:Int))/\(n.kind=19->n.kids= [])
theorem Q4t {ns:List Nd} (h:Low ns):∀ (f g i:Nat),i < f->i < g->sz ns f i=sz ns g i
 | 0,_,_,h1,_=> absurd h1 (by omega)
 | _,0,_,_,h1=> absurd h1 (by omega)
 | f+1,g+1,i,h1,h2=> by
  unfold sz;cases hn:ns[i]? with
  | none=> rfl
  | some n=>
   simp only;congr 2;apply List.map_congr_left;intro k hk;have:=(h i n hn).1 k hk;exact Q4t h f g k.toNat (by omega) (by omega)
theorem Q4u {ns:List Nd} (h:Low ns):∀ (f g i:Nat),i < f->i < g->lv ns f i=lv ns g i
 | 0,_,_,h1,_=> absurd h1 (by omega)
 | _,0,_,_,h1=> absurd h1 (by omega)
 | f+1,g+1,i,h1,h2=> by
  unfold lv;cases hn:ns[i]? with
  | none=> rfl
  | some n=>
   simp only;split
   ·rfl
   ·rw[List.flatMap_def,List.flatMap_def];congr 1;apply List.map_congr_left;intro k hk;have:=(h i n hn).1 k hk;exact Q4u h f g k.toNat (by omega) (by omega)
def size (ns:List Nd) (i:Nat):Nat:=sz ns (i+1) i
def leafs (ns:List Nd) (i:Nat):List Int:=lv ns (i+1) i
theorem Jb {ns:List Nd} (h:Low ns) {i:Nat} {n:Nd} (hn:ns[i]? =some n):size ns i=1+(n.kids.map fun k=> size ns k.toNat).sum:=by
 unfold size
 conv=> lhs;unfold sz
 rw[hn];simp only;congr 2;apply List.map_congr_left;intro k hk;have:=(h i n hn).1 k hk;exact Q4t h i (k.toNat+1) k.toNat (by omega) (by omega)
theorem D8 {ns:List Nd} {n:Nd} (hn:ns[i]? =some n) (hk:n.kind=19):leafs ns i= [n.tok]:=by
 unfold leafs lv;rw[hn];simp only[if_pos hk]
theorem D9 {ns:List Nd} (h:Low ns) {i:Nat} {n:Nd} (hn:ns[i]? =some n) (hk:n.kind≠19):leafs ns i=n.kids.flatMap fun k=> leafs ns k.toNat:=by
 unfold leafs
 conv=> lhs;unfold lv
 rw[hn];simp only[if_neg hk];rw[List.flatMap_def,List.flatMap_def];congr 1;apply List.map_congr_left;intro k hk;have:=(h i n hn).1 k hk;exact Q4u h i (k.toNat+1) k.toNat (by omega) (by omega)
theorem Q6j {ns:List Nd} (h:i < ns.length):0 < size ns i:=by
 unfold size sz;rw[eA_ h];simp only;omega
def marks:List Bool->List Int->Option (List Bool)
 | kid, []=> some kid
 | kid,k::ks=> if kid.getD k.toNat false then none else marks (kid.set k.toNat true) ks
def rightGo (t:T):Nat->List Nd->List Bool->Option (List Bool)
 | _, [],kid=> some kid
 | i,n::l,kid=> if formed t i n then (match marks kid n.kids with | none=> none | some kid'=> rightGo t (i+1) l kid') else none
def right (t:T):Bool:=
 match rightGo t 0 t.nodes (List.replicate t.nodes.length false) with
 | none=> false
 | some kid=> !kid.isEmpty && !((kid.take (kid.length - 1)).contains false) && (leafs t.nodes (t.nodes.length - 1)==(List.range t.toks.length).map fun i:Nat=> (i:Int))
theorem JH {t:T} {n:Nd} (h:formed t i n=true):(∀ k∈n.kids,0<=k/\k < (i:Int))/\(n.kind=19->n.kids= []):=by
 unfold formed at h;split at h
 ·cases h
 ·split at h
  ·rename_i h1;simp only[Bool.and_eq_true,List.isEmpty_iff] at h;exact ⟨fun k hk=> (by rw[h.1.1] at hk;cases hk),fun _=> h.1.1⟩
  ·rename_i h1;refine ⟨fun k hk=> ?_,fun h2=> absurd h2 h1⟩;simp only[Bool.and_eq_true,Bool.not_eq_true',List.any_eq_false] at h;have:=h.2 k hk;simp only[Bool.or_eq_true,decide_eq_true_eq,not_or] at this;omega
def YN (ns:List Nd) (kid:List Bool) (i:Nat):Nat:=((List.range i).map fun j=> if kid.getD j false then 0 else size ns j).sum
theorem UN (ns:List Nd) (kid:List Bool) (i:Nat):YN ns kid (i+1)=YN ns kid i+(if kid.getD i false then 0 else size ns i):=by
 unfold YN;rw[List.range_succ,List.map_append,List.sum_append];simp
theorem Q1u {ns:List Nd} {kid:List Bool} {k:Nat} (hk:kid.getD k false=false) (hl:k < kid.length):∀ i,k < i->YN ns (kid.set k true) i+size ns k=YN ns kid i
 | 0,h=> absurd h (by omega)
 | i+1,h=> by
  rw[UN,UN];by_cases he:k=i
  ·subst he;have e1:(kid.set k true).getD k false=true:=(by simp[List.getD,hl]);have e2:YN ns (kid.set k true) k=YN ns kid k:=by
    unfold YN;congr 1;apply List.map_congr_left;intro j hj;have:j < k:=List.mem_range.1 hj;have e3:(kid.set k true).getD j false=kid.getD j false:=(by simp only[List.getD];rw[List.getElem?_set_ne (by omega)]);rw[e3]
   rw[e1,e2,hk];simp
  ·have e3:(kid.set k true).getD i false=kid.getD i false:=(by simp only[List.getD];rw[List.getElem?_set_ne he]);have:=Q1u (ns:=ns) hk hl i (by omega);rw[e3];omega
theorem Da {ns:List Nd} {i:Nat}:∀ {ks:List Int} {kid kid':List Bool},marks kid ks=some kid'->(∀ k∈ks,0<=k/\k < (i:Int))->i<=kid.length->(∀ j,i<=j->kid.getD j false=false)->
  YN ns kid' i+(ks.map fun k=> size ns k.toNat).sum=YN ns kid i/\kid'.length=kid.length/\(∀ j,i<=j->kid'.getD j false=false)
 | [],kid,kid',h,_,_,hz=> by
  simp only[marks,Option.some.injEq] at h;subst h;exact ⟨by simp,rfl,hz⟩
 | k::ks,kid,kid',h,hk,hi,hz=> by
  unfold marks at h;split at h
  ·cases h
  ·rename_i h1;have hk0:=hk k (by simp);have h2:kid.getD k.toNat false=false:=(by simpa using h1);have ih:=Da (ns:=ns) h (fun x hx=> hk x (by simp[hx])) (by simpa using hi) (fun j hj=> by
    simp only[List.getD];rw[List.getElem?_set_ne (by omega)];exact hz j hj)
   have h3:=Q1u (ns:=ns) h2 (by omega) i (by omega);refine ⟨?_,by rw[ih.2.1];simp,ih.2.2⟩;rw[List.map_cons,List.sum_cons];omega
def FormedTo (t:T) (i:Nat):Prop:=∀ (j:Nat) (n:Nd),j < i->t.nodes[j]? =some n->formed t j n=true
theorem XZ {t:T}:∀ {l:List Nd} {i:Nat} {kid kid':List Bool},rightGo t i l kid=some kid'->t.nodes.drop i=l->FormedTo t i->FormedTo t t.nodes.length
 | [],i,kid,kid',_,hl,hf=> by
  intro j n hj hn;have:t.nodes.length<=i:=List.drop_eq_nil_iff.1 hl;exact hf j n (by omega) hn
 | n::l,i,kid,kid',h,hl,hf=> by
  have hlt:i < t.nodes.length:=by
   rcases eS_ i t.nodes.length with h1 | h1
   ·exact h1
   ·rw[List.drop_eq_nil_of_le h1] at hl;cases hl
  have hl2:=List.drop_eq_getElem_cons hlt;rw[hl] at hl2;injection hl2 with e1 e2;unfold rightGo at h;split at h
  ·rename_i hfm;split at h
   ·cases h
   ·rename_i kid1 hm;refine XZ h e2.symm fun j m hj hm2=> ?_;rcases eS_ j i with h1 | h1
    ·exact hf j m h1 hm2
    ·have:j=i:=(by omega);subst this;rw[eA_ hlt, <-e1,Option.some.injEq] at hm2;rw[<-hm2];exact hfm
  ·cases h
theorem FormedTo.low {t:T} (h:FormedTo t t.nodes.length):Low t.nodes:=fun i n hn=> JH (h i n (by
 rcases eS_ i t.nodes.length with h1 | h1
 ·exact h1
 ·rw[List.getElem?_eq_none h1] at hn;cases hn) hn)
theorem U2 {t:T} (hlow:Low t.nodes):∀ {l:List Nd} {i:Nat} {kid kid':List Bool},rightGo t i l kid=some kid'->t.nodes.drop i=l->kid.length=t.nodes.length->(∀ j,i<=j->kid.getD j false=false)->YN t.nodes kid i=i->
  (∀ j,j < i->size t.nodes j<=j+1)->i<=t.nodes.length->(∀ j,j < t.nodes.length->size t.nodes j<=j+1)/\kid'.length=t.nodes.length/\YN t.nodes kid' t.nodes.length=t.nodes.length/\(∀ j,t.nodes.length<=j->kid'.getD j false=false)/\(0 < t.nodes.length->i < t.nodes.length->kid'.getD (t.nodes.length - 1) false=false)
 | [],i,kid,kid',h,hl,hkl,hz,ho,hs,hi=> by
  have:t.nodes.length<=i:=List.drop_eq_nil_iff.1 hl;have hi2:i=t.nodes.length:=by omega
  subst hi2;simp only[rightGo,Option.some.injEq] at h;subst h;exact ⟨hs,hkl,ho,hz,fun _ h=> absurd h (by omega)⟩
 | n::l,i,kid,kid',h,hl,hkl,hz,ho,hs,hi=> by
  have hlt:i < t.nodes.length:=by
   rcases eS_ i t.nodes.length with h1 | h1
   ·exact h1
   ·rw[List.drop_eq_nil_of_le h1] at hl;cases hl
  have hl2:=List.drop_eq_getElem_cons hlt;rw[hl] at hl2;injection hl2 with e1 e2;have hn:t.nodes[i]? =some n:=by rw[eA_ hlt, <-e1]
  unfold rightGo at h;split at h
  ·split at h
   ·cases h
   ·rename_i kid1 hm;have h1:=Da (ns:=t.nodes) hm (hlow i n hn).1 (by omega) hz;have h2:=Jb hlow hn;have h3:=UN t.nodes kid1 i;rw[h1.2.2 i (rl_ _)] at h3;simp only[Bool.false_eq_true,if_false] at h3;have h4:YN t.nodes kid1 (i+1)=i+1:=(by omega);have h5:size t.nodes i<=i+1:=(by omega);have ih:=U2 hlow h e2.symm (by rw[h1.2.1];exact hkl) (fun j hj=> h1.2.2 j (by omega)) h4 (fun j hj=> by
     rcases eS_ j i with h6 | h6
     ·exact hs j h6
     ·have:j=i:=(by omega);rw[this];exact h5) hlt
    refine ⟨ih.1,ih.2.1,ih.2.2.1,ih.2.2.2.1,fun h0 _=> ?_⟩;rcases eS_ (i+1) t.nodes.length with h6 | h6
    ·exact ih.2.2.2.2 h0 h6
    ·have e3:l= []:=(by rw[e2];exact List.drop_eq_nil_of_le h6);subst e3;simp only[rightGo,Option.some.injEq] at h;subst h;have e4:t.nodes.length - 1=i:=(by omega);rw[e4];exact h1.2.2 i (rl_ _)
  ·cases h
end Go.Proofs.YtiecccakcenobaaGreatDoor.Tr
namespace Go.Proofs.YtiecccakcenobaaGreatDoor.Tr
open Tryz
def stackLv (ns:List Nd) (st:List Int):List Int:=st.reverse.flatMap fun k=> leafs ns k.toNat
def stackSz (ns:List Nd) (st:List Int):Nat:=(st.map fun k=> size ns k.toNat).sum
def InR (ns:List Nd) (st:List Int):Prop:=∀ k∈st,0<=k/\k < (ns.length:Int)
theorem U3 (ns:List Nd) (st:List Int) (i:Int):stackLv ns (st++ [i])=leafs ns i.toNat++stackLv ns st:=by simp[stackLv]
theorem U4 (ns:List Nd) (st:List Int) (i:Int):stackSz ns (st++ [i])=stackSz ns st+size ns i.toNat:=by simp[stackSz]
theorem Q0w (ns:List Nd) (st ks:List Int):stackLv ns (st++ks.reverse)=(ks.flatMap fun k=> leafs ns k.toNat)++stackLv ns st:=by simp[stackLv]
theorem Q0x (ns:List Nd) (st ks:List Int):stackSz ns (st++ks.reverse)=stackSz ns st+(ks.map fun k=> size ns k.toNat).sum:=by
 simp[stackSz,List.map_reverse,List.sum_reverse]
theorem InR.len {ns:List Nd}:∀ {st:List Int},InR ns st->st.length<=stackSz ns st
 | [],_=> by simp[stackSz]
 | k::st,h=> by
  have h1:=InR.len (st:=st) fun x hx=> h x (by simp[hx]);have h2:=h k (by simp);have h3:=Q6j (ns:=ns) (i:=k.toNat) (by omega);simp only[stackSz,List.map_cons,List.sum_cons,eL_] at h1 |-;omega
theorem InR.left {ns:List Nd} {st l:List Int} (h:InR ns (st++l)):InR ns st:=fun k hk=> h k (by simp[hk])
theorem InR.kids {ns:List Nd} (hl:Low ns) {st:List Int} (h:InR ns st) {i:Nat} {n:Nd} (hn:ns[i]? =some n):InR ns (st++n.kids.reverse):=by
 have hlt:i < ns.length:=by
  rcases eS_ i ns.length with h1 | h1
  ·exact h1
  ·rw[List.getElem?_eq_none h1] at hn;cases hn
 intro k hk;simp only[List.mem_append,List.mem_reverse] at hk;rcases hk with hk | hk
 ·exact h k hk
 ·have:=(hl i n hn).1 k hk;omega
theorem Q3i {ns:List Nd} (hl:Low ns) {st:List Int} {i:Nat} {n:Nd} (hn:ns[i]? =some n) (hk:n.kind=19):
  stackLv ns (st++ [(i:Int)])=n.tok::stackLv ns st/\stackSz ns (st++ [(i:Int)])=stackSz ns st+1:=by
 rw[U3,U4];simp only[Int.toNat_natCast];rw[D8 hn hk,Jb hl hn,(hl i n hn).2 hk];exact ⟨rfl,rfl⟩
theorem Q3j {ns:List Nd} (hl:Low ns) {st:List Int} {i:Nat} {n:Nd} (hn:ns[i]? =some n) (hk:n.kind≠19):
  stackLv ns (st++ [(i:Int)])=stackLv ns (st++n.kids.reverse)/\stackSz ns (st++ [(i:Int)])=stackSz ns (st++n.kids.reverse)+1:=by
 rw[U3,U4,Q0w,Q0x];simp only[Int.toNat_natCast];rw[D9 hl hn hk,Jb hl hn];exact ⟨rfl,by omega⟩
end Go.Proofs.YtiecccakcenobaaGreatDoor.Tr
namespace Go.Proofs.YtiecccakcenobaaGreatDoor
open Tryz
open Go.RowKit Go.Shelf
variable {n:Nat} {P:Program}
theorem YO {F:Fence} {ops:Array Oper} {rest:List Oper} {o:Oper} {a:Act} {w:World} {Q:Exit->Act->World->Prop} (hgd:o.guard=none) (ty:TypeId) (x:Operand) (ho:o.op= .load ty x)
  (b off:Nat) (hx:a.eval x= .pointer (some ⟨b,off,none⟩)) (cs:List Value) (d:TypeDesc) (hc:w.rangeAt b off cs)
  (hu:P.underlying ty=some d) (hd:d.isRow=true) (hi:(P.info? ty).map (·.size)=some cs.length)
  (h:wpListIn F n P ops Q rest (a.put o.dst (.agg cs.toArray)) w):wpListIn F n P ops Q (o::rest) a w:=by
 refine wpListIn_plain hgd fun K hK=> ?_;unfold Oper.wpIn;refine ⟨by simp[Oper.about,ho],?_⟩;rw[Oper.semAt_plain F _ _ (by rw[ho];intro c hc';cases hc')];unfold execOp;simp only[ho,hx,Instr.loadAt,Instr.sureAddr,Sem.run_bind,Sem.run_pure,Result.andThen_ok,run_loadVar_mid w b off ty cs d hc hu hd hi];exact hK _ _ h
theorem Yg {F:Fence} {nF:Nat} (w:World) {ops:Array Oper} {rest:List Oper} {o:Oper} {a:Act} {Q:Exit->Act->World->Prop} (hgd:o.guard=none) (s x:Operand) (t:TypeId)
  (ho:o.op= .call {callee:= .builtin .append,args:= #[s,x],argTypes:= #[t,t]})
  (base:Nat) (e:TypeId) (i:TypeInfo) (z:Value) (size bytes:Nat) (ht:P.underlying t=some (.slice e)) (hi:P.info? e=some i) (hz:i.zero=some z)
  (hsize:i.size=size) (hby:i.bytes=bytes) (hzs:z.cells.size=size) (hsz:0 < size)
  (v:Value) (n:Nat) (xs:List Value) (hs:a.eval s=v) (hown:w.ownsRow base e size v n xs)
  (ad:Addr) (m c:Nat) (news:List Value) (hx:a.eval x= .slice (some ad) m c) (hl:news.length=m*size) (hnews:∀ j u,news[j]? =some u->w.cell? (ad.add j)=some u) (h1:∀ u∈news,u.oneCell'=true)
  (hm:0 < m) (h63:n+m<=maxLen) (hbytes:(n+m)*bytes<=140737488355328) (hbase:base<=w.heap.size) (H:Nat) (hH:w.heap.size=H)
  (h:∀ g cap w',w'.ownsRow base e size (.slice (some ⟨g,0,none⟩) (n+m) cap) (n+m) (xs++news)->w.grownBy w' v.ownBlock->(v.ownBlock=some g\/g=H)->g < w'.heap.size->wpListIn F nF P ops Q rest (a.put o.dst (.slice (some ⟨g,0,none⟩) (n+m) cap)) w'):wpListIn F nF P ops Q (o::rest) a w:=by
 refine wpListIn_plain hgd fun K hK=> ?_;obtain ⟨g,cap,w',hr,h2,h3,h4,h5⟩:=run_append_lies (P:=P) w t o.type base e i z size bytes ht hi hz hsize hby hzs hsz v n xs hown ad m c news hl hnews h1 hm h63 hbytes hbase H hH;unfold Oper.wpIn;refine ⟨by simp[Oper.about,ho,resolve,Target.leads,Sem.run_pure],?_⟩;rw[Oper.semAt_plain F _ _ (by rw[ho];intro c hc';cases hc')];simp[execOp,ho,resolve,invoke,builtin,hs,hx,hr,Result.andThen];exact hK _ _ (h g cap w' h2 h3 h4 h5)
structure LvMem (w:World) (vt vn:Value) (ob:Nat) (ds:List Nat) (st acc:List Int) (v5:Value) (g c:Nat) (W:World):Prop where
 box:Boxed W ob 46 (.slice (some ⟨g,0,none⟩) st.length c)
 own:W.ownsRow w.heap.size 3 1 (.slice (some ⟨g,0,none⟩) st.length c) st.length (intCells st)
 out:W.ownsRow w.heap.size 3 1 v5 acc.length (intCells acc)
 ne:v5.ownBlock≠some g
 tbox:W.heap[w.heap.size]? =some (.cells #[vt,vn] 90 (0,0))
 obl:w.heap.size < ob
 below:Below w.heap.size w W
 nd:ds.Nodup
 mks:∀ D∈ds,w.heap.size<=D/\W.heap[D]? =some (.deferred (some []))
variable {w:World} {vt vn:Value} {ob:Nat} {ds:List Nat} {st acc:List Int} {v5:Value} {g c:Nat} {W:World}
theorem LvMem.turned (h:LvMem w vt vn ob ds st acc v5 g c W) {W':World} {row:Option Nat} (hg:W.grownBy W' row) (hr:∀ r,row=some r->(∀ D∈ds,D < r)/\w.heap.size<=r/\∃ o:Obj,W.heap[r]? =some o/\o.isCells=false):LvMem w vt vn ob ds st acc v5 g c W':=by
 have hc:∀ {k:Nat} {cs:Array Value} {T:TypeId} {fr:Nat × Nat},W.heap[k]? =some (.cells cs T fr)->W'.heap[k]? =W.heap[k]? :=by
  intro k cs T fr hk;refine hg.block k (Q4 hk) fun e=> ?_;obtain ⟨_,_,o,ho,hn⟩:=hr k e.symm;rw[hk] at ho;cases ho;cases hn
 have ho:∀ {v:Value} {n:Nat} {xs:List Value},W.ownsRow w.heap.size 3 1 v n xs->W'.ownsRow w.heap.size 3 1 v n xs:=by
  intro v n xs hv;refine Qk hv fun k hk=> ?_;obtain ⟨cur,hcur⟩:=Qm hv hk;exact hc hcur
 refine ⟨(hc h.box).trans h.box,ho h.own,ho h.out,h.ne,(hc h.tbox).trans h.tbox,h.obl,h.below.grown hg h.below.size (fun k e=> (hr k e).2.1),h.nd,fun D hD=> ⟨(h.mks D hD).1,?_⟩⟩;rw[hg.block D (Q4 (h.mks D hD).2) fun e=> by have:=(hr D e.symm).1 D hD;omega];exact (h.mks D hD).2
theorem LvMem.alloc (h:LvMem w vt vn ob ds st acc v5 g c W) (o:Obj):LvMem w vt vn ob ds st acc v5 g c (W.alloc o):=h.turned (World.grownBy_alloc W o none) (fun r e=> by cases e)
theorem LvMem.apart (h:LvMem w vt vn ob ds st acc v5 g c W):g≠ob/\g≠w.heap.size/\v5.ownBlock≠some ob/\v5.ownBlock≠some w.heap.size/\(∀ D∈ds,D≠ob/\D≠g/\v5.ownBlock≠some D):=by
 obtain ⟨cur,hg⟩:=Qm h.own (k:=g) rfl;have hb:=h.box;unfold Boxed at hb;refine ⟨?_,?_,?_,?_,fun D hD=> ⟨?_,?_,?_⟩⟩
 ·rintro rfl;rw[hb] at hg;simp at hg
 ·rintro rfl;rw[h.tbox] at hg;simp at hg
 ·intro e;obtain ⟨c5,h5⟩:=Qm h.out e;rw[hb] at h5;simp at h5
 ·intro e;obtain ⟨c5,h5⟩:=Qm h.out e;rw[h.tbox] at h5;simp at h5
 ·rintro rfl;rw[(h.mks _ hD).2] at hb;cases hb
 ·rintro rfl;rw[(h.mks _ hD).2] at hg;cases hg
 ·intro e;obtain ⟨c5,h5⟩:=Qm h.out e;rw[(h.mks _ hD).2] at h5;cases h5
theorem XQ {W:World} {b j k:Nat} (v:Value) (h:k≠b):(W.setCell ⟨b,j,none⟩ v).heap[k]? =W.heap[k]? :=Below.heap_setCell _ _ _ _ h
theorem Q1v {w:World} {base:Nat} {e:TypeId} {g c:Nat} {xs:List Value} {x:Value} (h:w.ownsRow base e 1 (.slice (some ⟨g,0,none⟩) (n+1) c) (n+1) (xs++ [x])):w.ownsRow base e 1 (.slice (some ⟨g,0,none⟩) n c) n xs:=by
 obtain ⟨h1,h2⟩:=h;have hl:xs.length=n:=by simpa using h1
 rcases h2 with ⟨h2,_⟩ | ⟨k,cap,cur,hv,hb,hh,hn,hm,hs,ht⟩
 ·cases h2
 ·injection hv with hv1 hv2 hv3;injection hv1 with hv1;subst hv3;refine ⟨by simpa using hl,Or.inr ⟨k,c,cur,by rw[hv1],hb,hh,by omega,hm,hs,?_⟩⟩;have h3:(cur.toList.take ((n+1)*1)).take n=xs:=by rw[ht,List.take_append_of_le_length (by omega),List.take_of_length_le (by omega)]
  rw[List.take_take] at h3;rw[<-h3];congr 1;omega
theorem LvMem.pop {i:Int} {m:Nat} (hm:(st++ [i]).length=m+1) (h:LvMem w vt vn ob ds (st++ [i]) acc v5 g c W):LvMem w vt vn ob ds st acc v5 g c (W.setCell ⟨ob,0,none⟩ (.slice (some ⟨g,0,none⟩) m c)):=by
 have hml:st.length=m:=by simpa using hm
 have ha:=h.apart;subst hml;have hobl:=h.obl;have ho:=h.own;simp only[intCells,List.map_append,List.map_cons,List.map_nil,eC_,eL_,eU_,Nat.zero_add] at ho;refine ⟨h.box.set _,Qk (Q1v ho) fun k hk=> XQ _ ?_,Qk h.out fun k hk=> XQ _ ?_,h.ne,?_,h.obl,h.below.setCell (by simp only;omega) _,h.nd,fun D hD=> ⟨(h.mks D hD).1,?_⟩⟩
 ·injection hk with hk;subst hk;exact ha.1
 ·intro e;rw[e] at hk;exact ha.2.2.1 hk
 ·rw[XQ _ (by omega)];exact h.tbox
 ·rw[XQ _ (ha.2.2.2.2 D hD).1];exact (h.mks D hD).2
theorem LvMem.push (h:LvMem w vt vn ob ds st acc v5 g c W) {o:Obj} {x:Int} {g' cap:Nat} {w1:World} (hown:w1.ownsRow w.heap.size 3 1 (.slice (some ⟨g',0,none⟩) (st.length+1) cap) (st.length+1) (intCells st++ [.int .i64 x]))
  (hgrow:(W.alloc o).grownBy w1 (some g)) (hat:some g=some g'\/g'=(W.alloc o).heap.size):
  Boxed w1 ob 46 (.slice (some ⟨g,0,none⟩) st.length c)/\LvMem w vt vn ob ds (st++ [x]) acc v5 g' cap (w1.setCell ⟨ob,0,none⟩ (.slice (some ⟨g',0,none⟩) (st.length+1) cap))/\
  KeepsOthers W (w1.setCell ⟨ob,0,none⟩ (.slice (some ⟨g',0,none⟩) (st.length+1) cap))/\(∀ k,k < W.heap.size->k≠g->k≠ob->(w1.setCell ⟨ob,0,none⟩ (.slice (some ⟨g',0,none⟩) (st.length+1) cap)).heap[k]? =W.heap[k]?):=by
 have ha:=h.apart;have hA:=h.alloc o;have hobl:=h.obl;have hs:(W.alloc o).heap.size=W.heap.size+1:=(Q5 W o).symm;have hb1:Boxed w1 ob 46 (.slice (some ⟨g,0,none⟩) st.length c):=hA.box.kept hgrow fun e=> by injection e with e;exact ha.1 e.symm
 have hmove:∀ k,k < W.heap.size->k≠g->k≠ob->(w1.setCell ⟨ob,0,none⟩ (.slice (some ⟨g',0,none⟩) (st.length+1) cap)).heap[k]? =W.heap[k]? :=by
  intro k hk h1 h2;rw[XQ _ h2,hgrow.block k (by omega) (fun e=> by injection e with e;exact h1 e),eJ_ _ _ _ hk]
 have hg'ob:g'≠ob:=by
  rcases hat with e | e
  ·injection e with e;rw[<-e];exact ha.1
  ·have:=h.box.lt;omega
 refine ⟨hb1,⟨by simpa using hb1.set _,Qk (by simpa [intCells] using hown) fun k hk=> XQ _ ?_,Qk h.out fun k hk=> hmove k (h.out.lt k hk).2 ?_ ?_,?_,?_,h.obl,?_,h.nd,fun D hD=> ⟨(h.mks D hD).1,?_⟩⟩,?_,hmove⟩
 ·injection hk with hk;subst hk;exact hg'ob
 ·intro e;rw[e] at hk;exact h.ne hk
 ·intro e;rw[e] at hk;exact ha.2.2.1 hk
 ·rcases hat with e | e
  ·injection e with e;rw[<-e];exact h.ne
  ·intro e2;have:=(h.out.lt g' e2).2;omega
 ·rw[hmove _ (Q4 h.tbox) (fun e=> ha.2.1 e.symm) (by omega)];exact h.tbox
 ·refine (hA.below.grown hgrow hA.below.size fun k e=> ?_).setCell (by simp only;omega) _;injection e with e;rw[<-e];exact (h.own.lt g rfl).1
 ·rw[hmove D (Q4 (h.mks D hD).2) (ha.2.2.2.2 D hD).2.1 (ha.2.2.2.2 D hD).1];exact (h.mks D hD).2
 ·refine ((KeepsOthers.alloc W o).trans (KeepsOthers.of_grownBy hgrow fun j oo ej hj=> ?_)).trans (KeepsOthers.setCell _ _ _);injection ej with ej;obtain ⟨cur,hcur⟩:=Qm hA.own (k:=g) rfl;rw[<-ej,hcur] at hj;cases hj;rfl
theorem LvMem.outp (h:LvMem w vt vn ob ds st acc v5 g c W) {o:Obj} {x:Int} {g' cap:Nat} {w1:World} (hown:w1.ownsRow w.heap.size 3 1 (.slice (some ⟨g',0,none⟩) (acc.length+1) cap) (acc.length+1) (intCells acc++ [.int .i64 x]))
  (hgrow:(W.alloc o).grownBy w1 v5.ownBlock) (hat:v5.ownBlock=some g'\/g'=(W.alloc o).heap.size):
  LvMem w vt vn ob ds st (acc++ [x]) (.slice (some ⟨g',0,none⟩) (acc.length+1) cap) g c w1:=by
 have ha:=h.apart;have hA:=h.alloc o;have hobl:=h.obl;have hs:(W.alloc o).heap.size=W.heap.size+1:=(Q5 W o).symm;have hmove:∀ k,k < W.heap.size->v5.ownBlock≠some k->w1.heap[k]? =W.heap[k]? :=by
  intro k hk h1;rw[hgrow.block k (by omega) (fun e=> h1 e.symm),eJ_ _ _ _ hk]
 refine ⟨(hmove ob h.box.lt ha.2.2.1).trans h.box,Qk h.own fun k hk=> hmove k (h.own.lt k hk).2 ?_,by simpa [intCells] using hown,?_,?_,h.obl,?_,h.nd,fun D hD=> ⟨(h.mks D hD).1,?_⟩⟩
 ·intro e;injection hk with hk;rw[<-hk] at e;exact h.ne e
 ·intro e;injection e with e;subst e;rcases hat with e | e
  ·exact h.ne e
  ·have:=(h.own.lt g' rfl).2;omega
 ·rw[hmove _ (Q4 h.tbox) ha.2.2.2.1];exact h.tbox
 ·exact hA.below.grown hgrow hA.below.size fun k e=> (h.out.lt k e).1
 ·rw[hmove D (Q4 (h.mks D hD).2) (ha.2.2.2.2 D hD).2.2];exact (h.mks D hD).2
theorem LvMem.mark (h:LvMem w vt vn ob ds st acc v5 g c W) {D:Nat} (hn:∀ E∈ds,E < D) (hw:w.heap.size<=D) (hD:W.heap[D]? =some (.deferred (some []))):LvMem w vt vn ob (D::ds) st acc v5 g c W:=by
 refine ⟨h.box,h.own,h.out,h.ne,h.tbox,h.obl,h.below,List.nodup_cons.2 ⟨fun hm=> Nat.lt_irrefl _ (hn D hm),h.nd⟩,fun E hE=> ?_⟩;rcases List.mem_cons.1 hE with rfl | hE
 ·exact ⟨hw,hD⟩
 ·exact h.mks E hE
attribute [local go_sem] Oper.semAt_some
theorem YB (w:World) (cs:Array Value) (T:TypeId) {r:Nat} (h:r=w.heap.size):(w.alloc (.cells cs T)).heap[r]? =some (.cells cs T (0,0)):=by
 subst h;exact World.alloc_heap_new _ _
theorem Q6k (W:World) (p:Addr) (v:Value) (o:Obj):W.heap.size+1=((W.setCell p v).alloc o).heap.size:=by
 rw[<-Q5];simp[World.setCell]
theorem Q7C (st:List Int):st= []\/∃ st0 i,st=st0++ [i]:=by
 rcases List.eq_nil_or_concat st with h | ⟨l,i,h⟩
 ·exact .inl h
 ·exact .inr ⟨l,i,by rw[h,List.concat_eq_append]⟩
theorem Q0y (zs:List Int):(backUpto zs zs.length).map (·.2)=zs.reverse:=by
 apply List.ext_getElem?;intro i;by_cases h:i < zs.length
 ·have h2:zs.length - 1 - i < zs.length:=by omega
  rw[List.getElem?_reverse h];simp[backUpto,h,h2]
 ·rw[List.getElem?_eq_none (by simp[backUpto];omega),List.getElem?_eq_none (by simp;omega)]
theorem Q1w (F:Fence) (n:Nat) (h:F.fn 238) (hro:F.round=none) (v:Value) (h1:v.oneCell'=true) (w:World):
  CallsIn F n prog 238 #[v] w fun e w'=> e= .returned (.func (.func 244) #[] #[.pointer (some ⟨w.heap.size,0,none⟩)])/\w.alloc (.cells #[v] 46)=w':=by
 refine callsIn_of_wp Tryz.func238 rfl h ?_ hro;simp only[Tryz.ntmps238,List.size_toArray,eL_,eU_,Nat.reduceAdd,Nat.reduceSub,Array.replicate_succ,Array.replicate_zero,List.push_toArray,List.append_toArray,List.nil_append,List.cons_append]
 gi_wp2
 go_ret;exact ⟨rfl,rfl⟩
theorem Q3k (F:Fence) (n:Nat) (h8:F.fn 244) (hro:F.round=none) (hn:1<=n) (Bs:Nat) (P:Nat->Prop) (v:Value) (zs:List Int) (hreach:zs.length<=1073741824) (w w0:World)
  (hrd:RdW w P 1 v zs.length (intCells zs)) (hP:∀ k,P k->k < w.heap.size) (hb0:Below w.heap.size w w0) (hbox:Boxed w0 Bs 46 v):
  SeqStopsK F n prog 244 #[.pointer (some ⟨Bs,0,none⟩)] (fun x:Int × Int=> #[.int .i64 x.1,.int .i64 x.2]) (Keeps fun k=> P k\/k=Bs) (fun ys=> ys=backUpto zs zs.length) (fun pre=> ∃ k,k<=zs.length/\pre=backUpto zs k) zs.length w0:=by
 intro l J Jx W hW _ _ hY h0;have hbW:W.cell? ⟨Bs,0,none⟩=some v:=(hW.cell (p:=⟨Bs,0,none⟩) hbox.lt).trans hbox.cell;obtain ⟨hl,a,c,rfl,_,hd⟩:=hrd;rcases hd with ⟨_,h00⟩ | ⟨b,off,rfl,hpb,hrg⟩
 ·have hz:zs= []:=List.eq_nil_of_length_eq_zero h00;subst hz;refine (Q0v F n h8 hro l Bs J W a c hbW h0).mono ?_;rintro e W' ⟨hv,hJ⟩;exact ⟨hv,.inl ⟨_,rfl,hJ⟩⟩
 ·refine Q6i F n h8 hro hn l Bs b off c (fun k=> P k\/k=Bs) zs hreach (fun h=> .inl (hpb.resolve_left (by omega))) J Jx hY W (.inr rfl) hbW (fun j hj=> ?_) h0;have hpb':=hpb.resolve_left (by omega);have h1:=hrg j (.int .i64 (zs[j]?.getD 0)) (by simp[intCells,eA_ hj]);have hlt:=hP b hpb';rw[<-h1];refine World.cell?_of_block (a:=⟨b,off+j,none⟩) ?_;show W.heap[b]? =w.heap[b]?;rw[hW.block b (eI_ hlt hb0.size),hb0.block b hlt]
def LvRel (w:World) (vt vn:Value) (ns:List Tr.Nd) (root:Nat) (k:Nat) (ds:List Nat) (v5:Value) (W:World):Prop:=
 ∃ st acc g c,k=Tr.stackSz ns st/\Tr.InR ns st/\acc++Tr.stackLv ns st=Tr.leafs ns root/\acc.length+k<=1073741823/\LvMem w vt vn (w.heap.size+1+1) ds st acc v5 g c W
theorem Q6l (w:World) (vt vn:Value) (ns:List Tr.Nd) (root:Nat) (hroot:root < ns.length) (hsz:Tr.size ns root<=1073741823):
  LvRel w vt vn ns root (Tr.size ns root) [] (.slice none 0 0) (((w.alloc (.cells #[vt,vn] 90)).alloc (.cells #[.int .i64 (root:Int)] 3)).alloc (.cells #[.slice (some ⟨w.heap.size+1,0,none⟩) 1 1] 46)):=by
 have s1:(w.alloc (.cells #[vt,vn] 90)).heap.size=w.heap.size+1:=(Q5 _ _).symm;have s2:((w.alloc (.cells #[vt,vn] 90)).alloc (.cells #[.int .i64 (root:Int)] 3)).heap.size=w.heap.size+1+1:=by rw[<-Q5,s1]
 refine ⟨[(root:Int)], [],w.heap.size+1,1,by simp[Tr.stackSz],by intro k hk;simp at hk;omega,by simp[Tr.stackLv],by simpa using hsz,?_⟩;refine ⟨?_,?_,World.ownsRow_nil _ _ _ _,by simp[Value.ownBlock],?_,by omega,?_,List.nodup_nil,by simp⟩
 ·unfold Boxed;rw[<-s2];exact World.alloc_heap_new _ _
 ·refine ⟨rfl,Or.inr ⟨w.heap.size+1,1, #[.int .i64 (root:Int)],rfl,by omega,?_,rl_ _,by decide,rfl,rfl⟩⟩;rw[eJ_ _ _ _ (by omega), <-s1];exact World.alloc_heap_new _ _
 ·rw[eJ_ _ _ _ (by omega),eJ_ _ _ _ (by omega)];exact World.alloc_heap_new _ _
 ·exact (((eB_ _ _).alloc (rl_ _) _).alloc (by omega) _).alloc (by omega) _
def LvAct (w:World) (vt vn:Value) (ns:List Tr.Nd) (root:Nat) (k:Nat) (a:Act) (W:World):Prop:=
 ∃ (ds:List Nat) (v5 u7 u8 u13 u14 u15 u16 u17 u18 u19 u20 u21 u22 u23 u24 u25 u26 u27 u28 u29 u30 u31 u32 u33 u34 u35 u36 u37 u38 u39 u40 u41 u42:Value),LvRel w vt vn ns root k ds v5 W/\a={tmps:= #[.agg #[vt,vn],.int .i64 (root:Int),.pointer (some ⟨w.heap.size,0,none⟩),undef,.slice none 0 0,v5,.pointer (some ⟨w.heap.size+1+1,0,none⟩),u7,u8,undef,undef,.int .i64 (root:Int),.slice (some ⟨w.heap.size+1,0,none⟩) 1 1,u13,u14,u15,u16,u17,u18,u19,u20,u21,u22,u23,u24,u25,u26,u27,u28,u29,u30,u31,u32,u33,u34,u35,u36,u37,u38,u39,u40,u41,u42,undef,undef,undef,undef,undef,undef,undef],defers:=markDs ds}
theorem Q0z {w:World} {P:Nat->Prop} {vt vn:Value} {t:Tr.T} (h:RdT w P vt vn t) (hP:∀ k,P k->k < w.heap.size) (hlow:Tr.Low t.nodes) (root:Nat) (hroot:root < t.nodes.length) (hn:t.nodes.length<=1073741824)
  (hsz:Tr.size t.nodes root<=1073741823):
  Calls prog 227 #[.agg #[vt,vn],.int .i64 root] w fun e w'=> ∃ v,e= .returned v/\w'.ownsRow w.heap.size 3 1 v (Tr.leafs t.nodes root).length (intCells (Tr.leafs t.nodes root))/\Below w.heap.size w w':=by
 refine (callsIn_wide (n:=5)).1 ?_;refine callsIn_of_wp_marks Tryz.func227 rfl trivial ?_ rfl;simp only[Tryz.ntmps227,List.size_toArray,eL_,eU_,Nat.reduceAdd,Nat.reduceSub,Array.replicate_succ,Array.replicate_zero,List.push_toArray,List.append_toArray,List.nil_append,List.cons_append]
 gi_wp2_with fail
 refine wpIn_loop_ghost_k (fun k a W=> LvAct w vt vn t.nodes root k a W) (Tr.size t.nodes root) ?_ ?_
 ·exact ⟨[],_,_,_,_,_,_,_,_,_,_,_,_,_,_,_,_,_,_,_,_,_,_,_,_,_,_,_,_,_,_,_,_,_,Q6l w vt vn t.nodes root hroot hsz,rfl⟩
 ·rintro k a W ⟨ds,v5,u7,u8,u13,u14,u15,u16,u17,u18,u19,u20,u21,u22,u23,u24,u25,u26,u27,u28,u29,u30,u31,u32,u33,u34,u35,u36,u37,u38,u39,u40,u41,u42,⟨st,acc,g,c,hk,hin,hlv,hroom,hm⟩,rfl⟩ J K hJ hK;rcases Q7C st with rfl | ⟨st0,i,rfl⟩
  ·have c6:=hm.box.cell;simp only[eU_] at c6;have HM:=h2_ hm hlv;clear hm hlv hk hin hroom hJ hK
   gi_wp2_with fail
   obtain ⟨hm,hlv⟩:=HM.o;refine U1 ds W hm.nd (fun D hD=> (hm.mks D hD).2) fun w' h1 h2 h3 h4 h5=> ⟨_,results_tmp rfl _ _ _,v5,rfl,?_,?_⟩
   ·have e:acc=Tr.leafs t.nodes root:=(by simpa [Tr.stackLv] using hlv);rw[<-e];refine Qk hm.out fun k hk=> h5 k fun hD=> (hm.apart.2.2.2.2 k hD).2.2 hk
   ·refine hm.below.trans ⟨h1,h2,h3,Nat.le_of_eq h4.symm,fun k hk=> h5 k fun hD=> ?_⟩;have:=(hm.mks k hD).1;omega
  ·have hi:=hin i (by simp);obtain ⟨j,rfl⟩:∃ j:Nat,i=j:=⟨i.toNat,by omega⟩
   obtain ⟨x,hx⟩:∃ x,t.nodes[j]? =some x:=⟨_,eA_ (by omega)⟩
   have hlen:=hin.len;have hm1:=hm.pop (m:=st0.length) (by simp);have hrd1:=h.2.keep (Keeps.of hm1.below hP);obtain ⟨b,off,cn,kv,rfl,hPb,hrg,hkv⟩:=hrd1.node hx;have c6:=hm.box.cell;simp only[eC_,eL_,eU_,Nat.zero_add] at c6;have cg:W.cell? ⟨g,st0.length,none⟩=some (.int .i64 (j:Int)):=by
    have:=hm.own.cells (g:=g) rfl st0.length (.int .i64 (j:Int)) (by simp[intCells]);rwa [Addr.add_mid,Nat.zero_add] at this
   have ct:=Q3 hm.tbox 1 rfl;have f6:=hm.box.frozen;have hmc:st0.length < c:=by
    rcases hm.own.2 with ⟨hq,_⟩ | ⟨_,cap,_,hv,_,_,hle,_⟩
    ·cases hq
    ·injection hv with _ _ hc;subst hc;simp at hle;omega
   obtain ⟨kind,tok,kids⟩:=x;simp only at hrg hkv;obtain ⟨ka,kc,rfl⟩:=hkv.form;obtain ⟨i0,hi0,hz0,hz1,hz2⟩:=Qw Q1o;have Hi:=hd_ hi0;have Hz0:=hd_ hz0;have Hz1:=hd_ hz1;have Hz2:=hd_ hz2;have HG:=hd_ hrg;have hmc':(st0.length:Int) < (c:Int):=(by omega);have hjn:(j:Int) < (t.nodes.length:Int):=hi.2;have hsl:(st0.length:Int)<=1073741823:=by
    have:st0.length<=(st0++ [(j:Int)]).length:=(by simp);omega
   have hn':(t.nodes.length:Int)<=1073741824:=(by omega);have hwW:w.heap.size<=W.heap.size:=hm.below.size;have HH:=h14_ h hP hin hlv hm1 hroom hlow hx hk hkv hJ hK hlen hPb;clear hi0 hz0 hz1 hz2 hrg h hP hin hlv hm1 hroom hlow hx hk hkv hJ hK hlen hPb hroot hsz hrd1 hi hm hmc hn;by_cases hk19:kind=19
   ·subst hk19
    gi_wp2_with (first
     | (refine YO rfl 157 _ rfl b (off+j*3) rfl _ _ HG.o underlying157 rfl rfl ?_)
     | (gi_at_builtin;refine Yg _ rfl (.tmp 35) (.tmp 38) 46 rfl w.heap.size 3 i0 (.int .i64 0) 1 8 underlying46 Hi.o Hz0.o Hz1.o Hz2.o rfl (by decide) v5 acc.length (intCells acc) rfl ((HH.e.alloc _).alloc _).out ⟨_,0,none⟩ 1 1 [.int .i64 tok] rfl rfl (World.news_of_block (YB _ _ _ (Q6k _ _ _ _))) (by simp[Value.oneCell']) (by decide) (by have:=HH.f;unfold maxLen;omega) (by have:=HH.f;omega) ((HH.e.alloc _).alloc _).below.size _ rfl ?_))
    intro g1 cap w1 hown hgrow hat hlt1;have HW:=h4_ hown hgrow hat hlt1;clear hown hgrow hat hlt1
    gi_wp2_with fail
    obtain ⟨h,hP,hin,hlv,hm1,hroom,hlow,hx,hk,hkv,hJ,hK,hlen,hPb⟩:=HH.o;obtain ⟨hown,hgrow,hat,hlt1⟩:=HW.o;have hs:=Tr.Q3i (st:=st0) hlow hx rfl;have hm2:=(hm1.alloc (.cells #[.int .i64 19,.int .i64 tok,.slice ka kids.length kc] 157)).outp hown hgrow (hat.imp_right fun e=> by rw[e, <-Q5, <-Q5];simp[World.setCell]);refine hK _ _ (Handed.intro (Tr.stackSz t.nodes st0) ?_ (hJ _ _ _ ?_))
    ·rw[hk,hs.2];omega
    refine ⟨ds,_,_,_,_,_,_,_,_,_,_,_,_,_,_,_,_,_,_,_,_,_,_,_,_,_,_,_,_,_,_,_,_,_,⟨st0,acc++ [tok],g,c,rfl,hin.left,?_,?_,hm2⟩,rfl⟩
    ·rw[<-hlv,hs.1];simp
    ·rw[hs.2] at hk;simp;omega
   ·have hk19':(kind==19)=false:=(by simp[hk19]);have HK19:=hd_ hk19;clear hk19
    gi_wp2_with (first
     | (refine YO rfl 157 _ rfl b (off+j*3) rfl _ _ HG.o underlying157 rfl rfl ?_)
     | (refine ⟨trivial,?_⟩;gi_at_call 238;refine (Q1w Fence.wide _ trivial rfl (.slice ka kids.length kc) rfl _).mono ?_;rintro e w' ⟨rfl,rfl⟩))
    obtain ⟨V,hV⟩:∃ V,(W.setCell ⟨w.heap.size+1+1,0,none⟩ (.slice (some ⟨g,0,none⟩) st0.length c)).alloc (.cells #[.int .i64 kind,.int .i64 tok,.slice ka kids.length kc] 157)=V:=⟨_,rfl⟩
    rw[hV];have hVs:V.heap.size=W.heap.size+1:=(by rw[<-hV, <-Q5];simp[World.setCell]);have hVm:LvMem w vt (.slice (some ⟨b,off,none⟩) t.nodes.length cn) (w.heap.size+1+1) ds st0 acc v5 g c V:=(by rw[<-hV];exact HH.e.alloc _);have hVk:RdW V P 1 (.slice ka kids.length kc) kids.length (intCells kids):=by
     rw[<-hV];exact HH.j.keep (Keeps.of ((eB_ _ _).alloc (rl_ _) _) fun k hk=> eI_ (HH.b k hk) HH.e.below.size)
    obtain ⟨h,hP,hin,hlv,hm1,hroom,hlow,hx,hk,hkv,hJ,hK,hlen,hPb⟩:=HH.o;have hs:=Tr.Q3j (st:=st0) hlow hx HK19.o;simp only at hs;have hin2:=(Tr.InR.left (l:= [(j:Int)]) hin).kids hlow hx;have hl2:=hin2.len;simp only[eC_,List.length_reverse] at hl2;rw[hs.2] at hk;have hob:=hm1.box.lt;rw[show (W.setCell ⟨w.heap.size+1+1,0,none⟩ (.slice (some ⟨g,0,none⟩) st0.length c)).heap.size=W.heap.size from by simp[World.setCell]] at hob;have hkl:kids.length<=1073741823:=(by omega);have hbB:Below V.heap.size V (V.alloc (.cells #[.slice ka kids.length kc] 46)):=(eB_ _ _).alloc (rl_ _) _;have hbx:Boxed (V.alloc (.cells #[.slice ka kids.length kc] 46)) (W.heap.size+1) 46 (.slice ka kids.length kc):=(by rw[<-hVs];exact Boxed.new _ _ _);have hVB:=Q5 V (.cells #[.slice ka kids.length kc] 46);refine wpIn_rangeFunc_ownG rfl (by decide) (gf:=244) (lb:= #[.pointer (some ⟨W.heap.size+1,0,none⟩)]) rfl trivial (enters_of Tryz.func244 (by kernel_rfl) rfl)
     (Q3k Fence.wide (5 - 1) trivial rfl (by decide) (W.heap.size+1) P (.slice ka kids.length kc) kids (by omega) V _ hVk (fun k hk=> eI_ (hP k hk) hVm.below.size) hbB hbx)
     Keeps.trans (fun W0 l o o' hl ho _ _ k hk=> ?keep) (eB_ _ _) (by intro _;rfl)
     (fun pre W2=> (∃ g c,LvMem w vt (.slice (some ⟨b,off,none⟩) t.nodes.length cn) (w.heap.size+1+1) ds (st0++pre.map (·.2)) acc v5 g c W2)/\Boxed W2 (W.heap.size+1) 46 (.slice ka kids.length kc))
     (fun _ _ _=> False) ?own (fun _ _ _ _ _ hs _ _=> hs) ⟨⟨g,c,by simpa using hVm.alloc _⟩,hbx⟩ ?act ?assign ?body ?done ?stop
    case assign=>
     intro l x W2 K2 hK2
     gi_wp2
     exact hK2
    case keep=>
     refine UM ?_;rcases hk with hk | rfl
     ·have:=hP k hk;omega
     ·omega
    case own=>
     rintro pre W2 W3 row ⟨⟨g2,c2,hm2⟩,hbx2⟩ hg hr;refine ⟨⟨g2,c2,hm2.turned hg fun r e=> ⟨fun D hD=> ?_,?_,(hr r e).2⟩⟩,(hg.block _ hbx2.lt fun e=> ?_).trans hbx2⟩
     ·have h1:=(hr r e).1;have h2:=Q4 (hm1.mks D hD).2;rw[show (W.setCell ⟨w.heap.size+1+1,0,none⟩ (.slice (some ⟨g,0,none⟩) st0.length c)).heap.size=W.heap.size from by simp[World.setCell]] at h2;omega
     ·have h1:=(hr r e).1;omega
     ·obtain ⟨_,o,ho,hn⟩:=hr _ e.symm;rw[show W2.heap[W.heap.size+1]? =_ from hbx2] at ho;cases ho;cases hn
    case stop=>
     rintro D c0 pre W2 _ _ hf;exact hf.elim
    case done=>
     rintro D ys W2 hD rfl ⟨⟨g2,c2,hm2⟩,hbx2⟩ hDW;rw[Q0y] at hm2;refine hK _ _ (Handed.intro (Tr.stackSz t.nodes (st0++kids.reverse)) (by omega) (hJ _ _ _ ?_));refine ⟨D::ds,_,_,_,_,_,_,_,_,_,_,_,_,_,_,_,_,_,_,_,_,_,_,_,_,_,_,_,_,_,_,_,_,_,⟨st0++kids.reverse,acc,g2,c2,rfl,hin2,?_,by omega,hm2.mark ?_ ?_ hDW⟩,rfl⟩
     ·rw[<-hlv,hs.1]
     ·intro E hE;have h2:=Q4 (hm1.mks E hE).2;rw[show (W.setCell ⟨w.heap.size+1+1,0,none⟩ (.slice (some ⟨g,0,none⟩) st0.length c)).heap.size=W.heap.size from by simp[World.setCell]] at h2;omega
     ·omega
    case body=>
     rintro l pre x W2 ⟨⟨g2,c2,hm2⟩,hbx2⟩ hlt;obtain ⟨s2,hs2⟩:∃ s2,st0++pre.map (·.2)=s2:=⟨_,rfl⟩
     have hs2l:s2.length<=1073741823:=(by rw[<-hs2];simp;omega);have hnext:st0++(pre++ [x]).map (·.2)=s2++ [x.2]:=(by rw[<-hs2];simp);rw[hs2] at hm2;have c62:=hm2.box.cell;have f62:=hm2.box.frozen;have HM2:=h4_ hm2 hbx2 hs2l hnext;have HP:=h4_ hP hob hVs hbB;clear hs2 hm2 hbx2 hs2l hnext hV hVs hVm hVk h hP hin hlv hm1 hroom hlow hx hk hkv hJ hK hlen hPb hs hin2 hl2 hob hkl hbB hbx hVB hlt c6 cg ct f6 HG HH HK19 hk19'
     gi_wp2_with (gi_at_builtin;refine Yg _ rfl (.tmp 45) (.tmp 47) 46 rfl w.heap.size 3 i0 (.int .i64 0) 1 8 underlying46 Hi.o Hz0.o Hz1.o Hz2.o rfl (by decide) (.slice (some ⟨g2,0,none⟩) s2.length c2) s2.length (intCells s2) rfl (HM2.a.own.alloc _) ⟨_,0,none⟩ 1 1 [.int .i64 x.2] rfl rfl (World.news_of_block (YB _ _ _ rfl)) (by simp[Value.oneCell']) (by decide) (by have:=HM2.c;unfold maxLen;omega) (by have:=HM2.c;omega) (HM2.a.alloc _).below.size _ rfl ?_;intro g3 cap w3 hown hgrow hat hlt3;have hpu:=HM2.a.push hown hgrow (hat.imp id fun e=> by rw[e, <-Q5]);have c63:=hpu.1.cell;have f63:=hpu.1.frozen;have HPU:=hd_ hpu.2;clear hpu hown hgrow hat hlt3)
     obtain ⟨hm2,hbx2,_,hnext⟩:=HM2.o;obtain ⟨hP,hob,_,_⟩:=HP.o;obtain ⟨hm3,hko,hmv⟩:=HPU.o;have hg2:=(hm2.own.lt g2 rfl).1;have hws:=hm2.below.size;have hmb:=hmv _ hbx2.lt (fun e=> hbx2.not_row (by decide) hm2.own (by rw[e];rfl)) (by omega);refine ⟨hko.from _,fun k hk=> ?_,⟨g3,cap,by rw[hnext];exact hm3⟩,hmb.trans hbx2⟩;rcases hk with hk | rfl
     ·have:=hP k hk;exact hmv k (by omega) (by omega) (by omega)
     ·exact hmb
end Go.Proofs.YtiecccakcenobaaGreatDoor
namespace Go.Proofs.YtiecccakcenobaaGreatDoor.Tr
open Tryz
variable {k:Int} {ks l:List Int} {j m:Nat}
theorem Zl {t:T} (h:rightGo t 0 t.nodes (List.replicate t.nodes.length false)=none):right t=false:=by
 unfold right;rw[h]
theorem Db {t:T} {kid:List Bool} (h:rightGo t 0 t.nodes (List.replicate t.nodes.length false)=some kid):
  right t=(!kid.isEmpty && !((kid.take (kid.length - 1)).contains false) && (leafs t.nodes (t.nodes.length - 1)==(List.range t.toks.length).map fun i:Nat=> (i:Int))):=by
 unfold right;rw[h]
theorem Zm {α:Type} {l:List α} {x:α} (h:l[j]? =some x):j < l.length:=by
 rcases eS_ j l.length with h1 | h1
 ·exact h1
 ·rw[List.getElem?_eq_none h1] at h;cases h
theorem ZN {α:Type} {l:List α} {x:α} (h:l[j]? =some x):l.drop j=x::l.drop (j+1):=by
 have hlt:=Zm h;rw[eA_ hlt,Option.some.injEq] at h;rw[List.drop_eq_getElem_cons hlt,h]
theorem Q1x {t:T} {n:Nd} (h:t.nodes[j]? =some n) (kid:List Bool) (hf:formed t j n=false):rightGo t j (t.nodes.drop j) kid=none:=by
 rw[ZN h];simp[rightGo,hf]
theorem Ld {t:T} {n:Nd} (h:t.nodes[j]? =some n) (kid:List Bool) (hm:marks kid n.kids=none):rightGo t j (t.nodes.drop j) kid=none:=by
 rw[ZN h];simp[rightGo,hm]
theorem Q0A {t:T} {n:Nd} (h:t.nodes[j]? =some n) {kid kid':List Bool} (hf:formed t j n=true) (hm:marks kid n.kids=some kid'):rightGo t j (t.nodes.drop j) kid=rightGo t (j+1) (t.nodes.drop (j+1)) kid':=by
 rw[ZN h];simp[rightGo,hf,hm]
theorem Q59 {kid:List Bool} (h:ks[j]? =some k) (hb:kid.getD k.toNat false=true):marks kid (ks.drop j)=none:=by
 rw[ZN h];simp only[marks,hb,if_true]
theorem Q3l {kid:List Bool} (h:ks[j]? =some k) (hb:kid.getD k.toNat false=false):marks kid (ks.drop j)=marks (kid.set k.toNat true) (ks.drop (j+1)):=by
 rw[ZN h];simp only[marks,hb];rfl
theorem Q3m {t:T} {n:Nd} (hf:formed t j n=true) {i:Nat} {k:Int} (h:n.kids[i]? =some k):0<=k/\k < (j:Int):=(JH hf).1 k (eP_ h)
theorem Q6m (ns:List Nd):∀ (f i:Nat),(lv ns f i).length<=sz ns f i
 | 0,_=> by simp[lv]
 | f+1,i=> by
  unfold lv sz;cases hn:ns[i]? with
  | none=> simp
  | some n=>
   simp only;split
   ·simp
   ·have h:∀ ks:List Int,(ks.flatMap fun k=> lv ns f k.toNat).length<=(ks.map fun k=> sz ns f k.toNat).sum:=by
     intro ks
     induction ks with
     | nil=> simp
     | cons k ks ih=>
      have:=Q6m ns f k.toNat;simp only[List.flatMap_cons,eC_,List.map_cons,List.sum_cons];omega
    have:=h n.kids;omega
theorem Q5a (ns:List Nd) (i:Nat):(leafs ns i).length<=size ns i:=Q6m ns (i+1) i
theorem Q6n {x:Int} (h:l[j]? =some x) (hx:(j:Int)≠x):(l==(List.range m).map fun i:Nat=> (i:Int))=false:=by
 rw[beq_eq_false_iff_ne];rintro rfl;have hlt:=Zm h;simp at hlt;rw[List.getElem?_map,List.getElem?_range hlt] at h;simp at h;exact hx h
theorem Q6o (h:∀ j,j < l.length->l[j]? =some (j:Int)):(l==(List.range m).map fun i:Nat=> (i:Int))=decide ((l.length:Int)=(m:Int)):=by
 have e:l=(List.range l.length).map fun i:Nat=> (i:Int):=by
  apply List.ext_getElem?;intro i;by_cases hi:i < l.length
  ·rw[h i hi,List.getElem?_map,List.getElem?_range hi];rfl
  ·rw[List.getElem?_eq_none (by omega),List.getElem?_eq_none (by simp;omega)]
 by_cases hm:l.length=m
 ·subst hm;rw[<-e];simp
 ·rw[eK_ (by omega),beq_eq_false_iff_ne];rintro rfl;simp at hm
theorem Gg {t:T} {kid:List Bool} (h:rightGo t 0 t.nodes (List.replicate t.nodes.length false)=some kid):
  Low t.nodes/\(∀ j,j < t.nodes.length->size t.nodes j<=j+1)/\kid.length=t.nodes.length:=by
 have hf:=XZ h (by simp) (fun j n hj=> absurd hj (by omega));have hl:=hf.low;have hz:∀ j,(List.replicate t.nodes.length false).getD j false=false:=fun j=> by
  simp only[List.getD,List.getElem?_replicate];split <;> rfl
 have hs:=U2 hl h (by simp) (by simp) (fun j _=> hz j) (by simp[YN]) (fun j hj=> absurd hj (by omega)) (eV_ _);exact ⟨hl,hs.1,hs.2.1⟩
end Go.Proofs.YtiecccakcenobaaGreatDoor.Tr
namespace Go.Proofs.YtiecccakcenobaaGreatDoor
open Tryz
open Go.RowKit
variable {cs:Array Value} {P:Nat->Prop} {t:Tr.T} {T2:TypeId} {vn vt:Value} {w w2 wr:World}
theorem Ju {P:Program} (t e:TypeId) (i:TypeInfo) (z:Value) (ht:P.underlying t=some (.slice e)) (hi:P.info? e=some i) (hz:i.zero=some z)
  (kl kc:IntKind) (n c:Nat) (hnc:n<=c) (hbytes:i.bytes*c<=281474976710656) (h63:c<=9223372036854775807) (w:World):
  (Instr.makeSlice t (.int kl (n:Int)) (.int kc (c:Int))).run P w= .ok (.slice (some ⟨w.heap.size,0,none⟩) n c) (w.alloc (.cells (madeCells z.cells (c*i.size)) e)):=by
 have hb:(i.bytes:Int)*(c:Int)<=281474976710656:=by
  have h:((i.bytes*c:Nat):Int)<=281474976710656:=by omega
  rwa [Int.natCast_mul] at h
 have hr:=run_make (P:=P) w t e i z ht hi hz kl kc n c (by omega) (by omega) hb (by omega);simp only[Int.toNat_natCast] at hr;exact hr
theorem Q5b:(prog.info? 4).map (fun i=> (i.zero,i.size,i.bytes))=some (some (.bool false),1,1):=by kernel_rfl
theorem Q3n (n:Nat):madeCells (Value.bool false).cells (n*1)=(boolCells (List.replicate n false)).toArray:=by
 apply Array.ext
 ·simp[madeCells,boolCells]
 ·intro j h1 h2;simp[madeCells,boolCells,Value.cells,Nat.mod_one]
theorem Q3o (n:Nat) (hn:n<=1073741824) (w:World):(Instr.makeSlice 279 (.int .i64 (n:Int)) (.int .i64 (n:Int))).run prog w= .ok (.slice (some ⟨w.heap.size,0,none⟩) n n) (w.alloc (.cells (boolCells (List.replicate n false)).toArray 4)):=by
 obtain ⟨i0,hi,hz0,hz1,hz2⟩:=Qw Q5b;have h:=Ju (P:=prog) 279 4 i0 (.bool false) underlying279 hi hz0 .i64 .i64 n n (rl_ _) (by rw[hz2];omega) (by omega) w;rw[hz1,Q3n] at h;exact h
def RtRel (w:World) (vt vn:Value) (t:Tr.T) (nl:Nat) (k:Nat) (v18:Value) (wr:World):Prop:=
 ∃ (j:Nat) (kid:List Bool),v18= .int .i64 j/\k=nl - j/\j<=nl/\kid.length=nl/\wr.heap[w.heap.size+1]? =some (.cells (boolCells kid).toArray 4 (0,0))/\wr.heap[w.heap.size]? =some (.cells #[vt,vn] 90 (0,0))/\
  Below w.heap.size w wr/\Tr.rightGo t j (t.nodes.drop j) kid=Tr.rightGo t 0 t.nodes (List.replicate t.nodes.length false)
def RtIn (w:World) (vt vn:Value) (nl:Nat) (kid0:List Bool) (kids:List Int) (k:Nat) (v31:Value) (wr:World):Prop:=
 ∃ (j:Nat) (kid:List Bool),v31= .int .i64 j/\k=kids.length - j/\j<=kids.length/\kid.length=nl/\wr.heap[w.heap.size+1]? =some (.cells (boolCells kid).toArray 4 (0,0))/\wr.heap[w.heap.size]? =some (.cells #[vt,vn] 90 (0,0))/\
  Below w.heap.size w wr/\Tr.marks kid (kids.drop j)=Tr.marks kid0 kids
theorem Q6p (w:World) (vt vn:Value) (t:Tr.T) (nl:Nat) (hnl:t.nodes.length=nl):
  RtRel w vt vn t nl nl (.int .i64 0) ((w.alloc (.cells #[vt,vn] 90)).alloc (.cells (boolCells (List.replicate nl false)).toArray 4)):=by
 refine ⟨0,List.replicate nl false,rfl,rfl,eV_ _,by simp,?_,?_,((eB_ _ _).alloc (rl_ _) _).alloc (by rw[<-Q5];omega) _,?_⟩
 ·exact YB _ _ _ (Q5 _ _)
 ·rw[eJ_ _ _ _ (by rw[<-Q5];omega)];exact YB _ _ _ rfl
 ·rw[hnl];rfl
theorem UO (w:World) (vt:Value) (a:Option Addr) (n c:Nat) (hn:n+1<=1073741824):
  Calls prog 81 #[.agg #[vt,.slice a (n+1) c]] w fun e w'=> e= .returned (.int .i64 (n:Int))/\w.alloc (.cells #[vt,.slice a (n+1) c] 90)=w':=by
 refine (Q1s w vt a (n+1) c hn).mono ?_;rintro e w' ⟨rfl,rfl⟩;refine ⟨?_,rfl⟩;rw[show ((n+1:Nat):Int) - 1=(n:Int) by omega]
theorem Q1y {g m:Nat} {kid:List Bool} (h:w.heap[g]? =some (.cells (boolCells kid).toArray 4 (0,0))) (hm:m<=kid.length) (hn:m<=1073741824) {c:Nat} (hc:m<=c:=by omega):
  Calls prog 226 #[.slice (some ⟨g,0,none⟩) m c,.bool false] w fun e w'=> e= .returned (.bool ((kid.take m).contains false))/\w=w':=by
 have hl:(kid.take m).length=m:=by simp;omega
 refine Lc (P:=fun _=> True) (v:= .slice (some ⟨g,0,none⟩) m c) (l:=kid.take m) ⟨by simp[boolCells],some ⟨g,0,none⟩,c,by rw[hl],by omega,Or.inr ⟨g,0,rfl,Or.inr trivial,?_⟩⟩ (by omega);intro j v hj;rw[Nat.zero_add];refine Q3 h j ?_;have hjm:j < m:=by
  have:=Tr.Zm hj;simp only[boolCells,List.length_map] at this;omega
 rw[<-hj];simp[boolCells,hjm]
theorem Q6q {V:World} {cs2:Array Value} {T:TypeId} (hV:Below w.heap.size w V) (ht:V.heap[w.heap.size]? =some (.cells cs T (0,0))) (hb:Below (V.alloc (.cells cs2 T2)).drew.heap.size (V.alloc (.cells cs2 T2)).drew w2):
  Below w.heap.size w w2/\w2.heap[w.heap.size]? =some (.cells cs T (0,0)):=by
 have hlt:=Q4 ht;have h2:Below (V.alloc (.cells cs2 T2)).heap.size (V.alloc (.cells cs2 T2)).drew w2:=hb;have h3:Below w.heap.size (V.alloc (.cells cs2 T2)).drew w2:=h2.mono (by rw[<-Q5];omega);refine ⟨((hV.alloc hV.size _).drew).trans h3,?_⟩;rw[h2.block _ (by rw[<-Q5];omega)];show (V.alloc _).heap[w.heap.size]? =_;rw[eJ_ _ _ _ hlt];exact ht
theorem Q7D {B n c:Nat} {a:Option Addr} {l:List Int} (h:w.ownsRow B 3 1 (.slice a n c) n (intCells l)) {i:Nat} {x:Int} (hx:l[i]? =some x):∃ g,a=some ⟨g,0,none⟩/\w.cell? ⟨g,i,none⟩=some (.int .i64 x):=by
 have hlt:=Tr.Zm hx;have hl:=h.1;simp only[intCells,List.length_map] at hl;obtain ⟨g,cap,he,_,_⟩:=h.form (by omega);simp only[Value.slice.injEq] at he;obtain ⟨rfl,_,_⟩:=he;refine ⟨g,rfl,?_⟩;have h2:=h.cells (g:=g) rfl i (.int .i64 x) (by simp[intCells,hx]);rwa [Addr.add_mid,Nat.zero_add] at h2
theorem Q5c (l:List Bool) (y:Nat) (v:Bool):(boolCells (l.set y v)).toArray=(boolCells l).toArray.setIfInBounds y (.bool v):=by
 simp[boolCells,List.map_set]
theorem Q6r {w3:World} {ns:List Tr.Nd} (_h:RdN w P vn ns) {j:Nat} {n:Tr.Nd} (_hn:ns[j]? =some n) {ka:Option Addr} {kc:Nat} (hkv:RdW wr P 1 (.slice ka n.kids.length kc) n.kids.length (intCells n.kids)) (hP:∀ k,P k->k < w.heap.size) (hb:Below w.heap.size w wr)
  (hkp:Keeps P w w3) {i:Nat} {x:Int} (hx:n.kids[i]? =some x):∃ b o,ka=some ⟨b,o,none⟩/\w3.cell? ⟨b,o+i,none⟩=some (.int .i64 x):=by
 have hlt:=Tr.Zm hx;have hkp2:Keeps P wr w3:=fun k hk=> (hkp k hk).trans (hb.block k (hP k hk)).symm;obtain ⟨_,a,c,he,_,hd⟩:=hkv.keep hkp2;simp only[Value.slice.injEq] at he;obtain ⟨rfl,_,_⟩:=he;rcases hd with ⟨_,h0⟩ | ⟨b,o,rfl,_,hr⟩
 ·omega
 ·exact ⟨b,o,rfl,hr i _ (by simp[intCells,hx])⟩
theorem Q6s {x y z:Value} {T T1:TypeId} {tb:Array Value} (hg:wr.heap[w.heap.size+1]? =some (.cells cs T1 (0,0))) (ht:wr.heap[w.heap.size]? =some (.cells tb T2 (0,0))) (hb:Below w.heap.size w wr)
  (hb2:Below (wr.alloc (.cells #[x,y,z] T)).heap.size (wr.alloc (.cells #[x,y,z] T)) w2):w2.heap[w.heap.size+1]? =some (.cells cs T1 (0,0))/\w2.heap[w.heap.size]? =some (.cells tb T2 (0,0))/\Below w.heap.size w w2:=by
 have h:Below wr.heap.size wr w2:=((eB_ wr.heap.size wr).alloc (rl_ _) _).trans (hb2.mono (by rw[<-Q5];omega));exact ⟨(h.block _ (Q4 hg)).trans hg,(h.block _ (Q4 ht)).trans ht,hb.trans (h.mono hb.size)⟩
theorem Q1z (h:RdT w P vt vn t) (hP:∀ k,P k->k < w.heap.size) (hn:t.nodes.length<=1073741823) (ht:t.toks.length<=1073741824) (hkids:∀ n∈t.nodes,n.kids.length<=1073741823):
  Calls prog 198 #[.agg #[vt,vn]] w fun e w'=> e= .returned (.bool (Tr.right t))/\Below w.heap.size w w':=by
 obtain ⟨at_,ct,rfl⟩:=h.1.form;obtain ⟨an,cn,rfl⟩:∃ a c,vn= .slice a t.nodes.length c:=by
  obtain ⟨kvs,_,h2,_⟩:=h.2;exact h2.form
 have HH:=h4_ h hP ht hkids;obtain ⟨nl,hnl⟩:∃ nl,t.nodes.length=nl:=⟨_,rfl⟩
 rw[hnl] at HH hn |-;have hn':(nl:Int)<=1073741823:=by omega
 have hmk:=Q3o nl (by omega);have HNL:=hd_ hnl;have ht':(t.toks.length:Int)<=1073741824:=by omega
 clear h hP ht hkids hnl;go_in;go_wp2_with fail;go_loopg [18] nl (fun k v18 wr=> RtRel w (.slice at_ t.toks.length ct) (.slice an nl cn) t nl k v18 wr)
 case atStart=> exact Q6p _ _ _ _ _ HNL.o
 case round=>
  clear hmk;obtain ⟨j,kid,rfl,hk,hj,hkl,hg,htb,hb,hgo⟩:=hrel;have HR:=h6_ hk hkl hg htb hb hgo;by_cases hlt:j < nl
  ·have hlt':(j:Int) < (nl:Int):=(by omega);obtain ⟨n,hnj⟩:∃ n,t.nodes[j]? =some n:=⟨_,eA_ (by rw[HNL.o];exact hlt)⟩
   obtain ⟨b,off,c',kv,he,hbB,hrg,hkv⟩:=(HH.a.2.keep (Keeps.of hb HH.b)).node hnj;obtain ⟨rfl,rfl⟩:an=some ⟨b,off,none⟩/\cn=c':=by
    simp only[Value.slice.injEq] at he;exact ⟨he.1,he.2.2⟩
   have t0:=Q3 htb 0 rfl;have t1:=Q3 htb 1 rfl;have l0:=Qd t0;obtain ⟨ka,kc,rfl⟩:=hkv.form;have hnk:=HH.D n (eP_ hnj);have hba:Below wr.heap.size wr (wr.alloc (.cells #[.int .i64 n.kind,.int .i64 n.tok,.slice ka n.kids.length kc] 157)):=(eB_ _ _).alloc (rl_ _) _;have HF:=hd_ (Q0u (at_:=at_) (ct:=ct) (vn:= .slice (some ⟨b,off,none⟩) nl cn) (t:=t) (hkv.keep (Keeps.of hba fun k hk=> eI_ (HH.b k hk) hb.size)) (fun k hk=> eI_ (eI_ (HH.b k hk) hb.size) hba.size) (by omega) HH.c j);have HG:=hd_ hrg;have HN:=hd_ hnj;have HKR:Hid (∀ (w3:World),Keeps P w w3->∀ (i:Nat) (x:Int),n.kids[i]? =some x->∃ b o,ka=some ⟨b,o,none⟩/\w3.cell? ⟨b,o+i,none⟩=some (.int .i64 x)):=fun w3 hkp i x hx=> Q6r HH.a.2 hnj hkv HH.b hb hkp hx;clear hk hkl hg htb hb hgo hrg hkv hnj hba hnk he;cases hf:Tr.formed t j n
   ·have HF2:=hd_ (hf ▸ HF.o);have HFF:=hd_ hf;clear HF hf;go_wp2_with (first
     | (refine wpList_load_mid rfl 157 _ rfl b (off+j*3) rfl _ _ HG.o underlying157 rfl rfl ?_)
     | (go_at_call 225;refine HF2.o.mono ?_;rintro e w2 ⟨rfl,hb2⟩;have HB2:=hd_ hb2;clear hb2))
    go_ret;refine ⟨?_,HR.e.trans (((eB_ w.heap.size wr).alloc HR.e.size _).trans (HB2.o.mono (eE_ HR.e.size ((eB_ wr.heap.size wr).alloc (rl_ _) _).size)))⟩;rw[Tr.Zl (by rw[<-HR.F,Tr.Q1x HN.o kid HFF.o])];rfl
   ·have HF2:=hd_ (hf ▸ HF.o);have HFF:=hd_ hf;clear HF hf;go_wp2_with (first
     | (refine wpList_load_mid rfl 157 _ rfl b (off+j*3) rfl _ _ HG.o underlying157 rfl rfl ?_)
     | (go_at_call 225;refine HF2.o.mono ?_;rintro e w2 ⟨rfl,hb2⟩;have e2:=Q3 (Ja hb2) 2 rfl;have HB2:=hd_ hb2;clear hb2))
    have HI:=hd_ (Q6s (x:= .int .i64 n.kind) (y:= .int .i64 n.tok) (z:= .slice ka n.kids.length kc) HR.c HR.d HR.e HB2.o);have hnk:=HH.D n (eP_ HN.o);have hnk':(n.kids.length:Int)<=1073741823:=(by omega);clear t0 t1 l0 e2 HG;generalize wr=w0 at*;go_loopg [31] n.kids.length (fun k v31 wr=> RtIn w (.slice at_ t.toks.length ct) (.slice (some ⟨b,off,none⟩) nl cn) nl kid n.kids k v31 wr)
    case atStart=> exact ⟨0,kid,rfl,rfl,eV_ _,HR.b,HI.a,HI.b,HI.C,rfl⟩
    case round=>
     obtain ⟨i,kid2,rfl,hk,hi,hkl,hg,htb,hb,hmk⟩:=hrel;have HS:=h6_ hk hkl hg htb hb hmk;by_cases hlti:i < n.kids.length
     ·have hlti':(i:Int) < (n.kids.length:Int):=(by omega);obtain ⟨x,hx⟩:∃ x,n.kids[i]? =some x:=⟨_,eA_ hlti⟩
      have hxk:=Tr.Q3m HFF.o hx;obtain ⟨y,rfl⟩:∃ y:Nat,x=y:=⟨x.toNat,by omega⟩
      have hyn:y < nl:=(by omega);have hyn':(y:Int) < (nl:Int):=(by omega);obtain ⟨v,hv⟩:∃ v,kid2[y]? =some v:=⟨_,eA_ (by omega)⟩
      obtain ⟨bk,ok,rfl,hkr⟩:=HKR.o wr (Keeps.of hb HH.b) i _ hx;have cy:=Q3 hg y (u:= .bool v) (by simp[boolCells,hv]);have fy:=Qp hg y;have HX:=h2_ hx hv;clear hk hkl hg htb hb hmk hx hxk hv hyn;cases v
      ·go_wp2;go_roundg (n.kids.length - (i+1))
       case measure=> have:=HS.a;omega
       case rel=>
        obtain ⟨_,hkl,hg,htb,hb,hmk⟩:=HS.o;refine ⟨i+1,kid2.set y true,by go_num,rfl,by omega,by simpa using hkl,?_,?_,hb.setCell (by simp only;omega) _,?_⟩
        ·rw[Q5c];exact Qx hg _
        ·rw[XQ _ (by omega)];exact htb
        ·rw[<-hmk,Tr.Q3l HX.a (by simp[HX.B])];rfl
      ·go_wp2;go_ret;refine ⟨?_,HS.e⟩;rw[Tr.Zl (by rw[<-HR.F];exact Tr.Ld HN.o kid (by rw[<-HS.F];exact Tr.Q59 HX.a (by simp[HX.B])))];rfl
     ·obtain rfl:i=n.kids.length:=(by omega);go_wp2;go_roundg (nl - (j+1))
      case measure=> have:=HR.a;omega
      case rel=>
       obtain ⟨_,hkl,hg,htb,hb,hmk⟩:=HS.o;refine ⟨j+1,kid2,by go_num,rfl,by omega,hkl,hg,htb,hb,?_⟩;rw[List.drop_length] at hmk;rw[<-HR.F,Tr.Q0A HN.o HFF.o hmk.symm]
  ·obtain rfl:j=nl:=(by omega);have hall:Tr.rightGo t 0 t.nodes (List.replicate t.nodes.length false)=some kid:=by
    rw[<-hgo, <-HNL.o,List.drop_length];rfl
   have hfa:=Tr.Gg hall;have hri:=Tr.Db hall;have t0:=Q3 htb 0 rfl;have t1:=Q3 htb 1 rfl;have l0:=Qd t0;have l1:=Q4 hg;have HA:=h2_ hfa hri;clear hk hg htb hb hgo hall hfa hri;cases j with
   | zero=>
    go_wp2;go_ret;refine ⟨?_,HR.e⟩;rw[HA.B];obtain rfl:kid= []:=List.eq_nil_of_length_eq_zero hkl;rfl
   | succ m=>
    clear hkl;have hm':(m:Int)<=1073741823:=(by omega);have HL:Hid (∀ W:World,Below w.heap.size w W->Calls prog 227 #[.agg #[.slice at_ t.toks.length ct,.slice an (m+1) cn],.int .i64 (m:Int)] W fun e w'=> ∃ v,e= .returned v/\w'.ownsRow W.heap.size 3 1 v (Tr.leafs t.nodes m).length (intCells (Tr.leafs t.nodes m))/\Below W.heap.size W w'):=
     fun W hW=> Q0z (HH.a.keep (Keeps.of hW HH.b)) (fun k hk=> eI_ (HH.b k hk) hW.size) HA.a.1 m (by rw[HNL.o];omega) (by rw[HNL.o];omega) (by have:=HA.a.2.1 m (by rw[HNL.o];omega);omega)
    have HC:Hid (∀ W:World,W.heap[w.heap.size+1]? =some (.cells (boolCells kid).toArray 4 (0,0))->Calls prog 226 #[.slice (some ⟨w.heap.size+1,0,none⟩) m (m+1),.bool false] W fun e w'=> e= .returned (.bool ((kid.take m).contains false))/\W=w'):=
     fun W hW=> Q1y hW (by have:=HR.b;omega) (by omega)
    have HG:Hid (wr.heap[w.heap.size+1]? =some (.cells (boolCells kid).toArray 4 (0,0))):=HR.c;have h10:((m:Int)+1==0)=false:=(by rw[beq_eq_false_iff_ne];omega);cases hc:(kid.take m).contains false
    ·rw[hc] at HC;have HCC:=hd_ hc;clear hc;go_wp2_with (go_at_call 81;refine (UO _ _ _ _ _ (by omega)).mono ?_;rintro e w2 ⟨rfl,rfl⟩);refine (HC.o _ (by rw[eJ_ _ _ _ (Q4 HG.o)];exact HG.o)).mono ?_;rintro e w2 ⟨rfl,rfl⟩;dsimp only;go_wp2_with fail;have hVb:Below w.heap.size w (wr.alloc (.cells #[.slice at_ t.toks.length ct,.slice an (m+1) cn] 90)):=HR.e.alloc HR.e.size _;have hVt:(wr.alloc (.cells #[.slice at_ t.toks.length ct,.slice an (m+1) cn] 90)).heap[w.heap.size]? =some (.cells #[.slice at_ t.toks.length ct,.slice an (m+1) cn] 90 (0,0)):=(by rw[eJ_ _ _ _ l0];exact HR.d);clear t0 t1 l0 l1;generalize wr.alloc (.cells #[.slice at_ t.toks.length ct,.slice an (m+1) cn] 90)=V at*;have t0:=Q3 hVt 0 rfl;have t1:=Q3 hVt 1 rfl;have l0:=Qd t0;have HVB:=h2_ hVb hVt;clear hVb hVt;go_region_held3 (fun w'=> w'.cell? ⟨w.heap.size,0,none⟩=some (.slice at_ t.toks.length ct)/\w'.cell? ⟨w.heap.size,1,none⟩=some (.slice an (m+1) cn)) (first | exact ⟨t0,t1⟩ | exact ⟨e20,e21⟩ | go_keep)
      ((first
       | (go_at_call 81;refine (UO _ _ _ _ _ (by omega)).mono ?_;rintro e w2 ⟨rfl,rfl⟩)
       | (go_at_call 227;refine (HL.o _ (HVB.a.alloc HVB.a.size _).drew).mono ?_;rintro e w2 ⟨v2,rfl,ho2,hb2⟩;obtain ⟨a2,c2,rfl⟩:=Qj ho2;have hb3:=Q6q HVB.a HVB.B hb2;have e20:=Q3 hb3.2 0 rfl;have e21:=Q3 hb3.2 1 rfl;have HO2:=hd_ ho2;have HB3:=hd_ hb3;clear ho2 hb2 hb3)))
     have HRI:Hid (Tr.right t=(Tr.leafs t.nodes m==(List.range t.toks.length).map fun i:Nat=> (i:Int))):=by
      have hq:=HA.B;have hk2:=HR.b;rw[HNL.o,hk2,show m+1 - 1=m from rfl,HCC.o] at hq;have he:kid.isEmpty=false:=by
       cases hkk:kid with
       | nil=> rw[hkk] at hk2;simp at hk2
       | cons _ _=> rfl
      rw[he] at hq;refine hd_ ?_;simpa using hq
     have hlf:(Tr.leafs t.nodes m).length<=1073741823:=(by have h1:=Tr.Q5a t.nodes m;have h2:=HA.a.2.1 m (by rw[HNL.o];omega);omega);obtain ⟨lf,hlfe⟩:∃ lf,Tr.leafs t.nodes m=lf:=⟨_,rfl⟩
     rw[hlfe] at HO2 HRI hlf |-;have hlf':(lf.length:Int)<=1073741823:=(by omega);clear hlfe HL HC t0 t1;generalize wr=w0 at*;go_wp2_with fail;go_loopg [60] lf.length (fun k v60 wr=> ∃ i:Nat,v60= .int .i64 i/\k=lf.length - i/\i<=lf.length/\wr=w2/\∀ j,j < i->lf[j]? =some (j:Int))
     case atStart=> exact ⟨0,rfl,rfl,eV_ _,rfl,fun j hj=> absurd hj (by omega)⟩
     case round=>
      obtain ⟨i,rfl,hk,hi,rfl,hall⟩:=hrel;have HS:=h2_ hk hall;clear hk hall;by_cases hlt:i < lf.length
      ·have hlt':(i:Int) < (lf.length:Int):=(by omega);obtain ⟨x,hx⟩:∃ x,lf[i]? =some x:=⟨_,eA_ hlt⟩
       obtain ⟨g2,rfl,hcx⟩:=Q7D HO2.o hx;have HX:=hd_ hx;clear hx;by_cases hxi:(i:Int)=x
       ·subst hxi;go_wp2_with fail;refine Handed.intro (lf.length - (i+1)) ?_ ?_
        ·have:=HS.a;omega
        go_step
        repeat apply Exists.intro
        refine ⟨?_,rfl⟩;refine ⟨i+1,by go_num,rfl,by omega,rfl,fun j hj=> ?_⟩;rcases eS_ j i with h1 | h1
        ·exact HS.B j h1
        ·rw[show j=i by omega];exact HX.o
       ·have hxi':((i:Int) !=x)=true:=(by simp[hxi]);have HXI:=hd_ hxi;clear hxi;go_wp2_with fail;go_ret;refine ⟨?_,HB3.a⟩;rw[HRI.o,Tr.Q6n HX.o HXI.o];rfl
      ·obtain rfl:i=lf.length:=(by omega);go_wp2_with fail;go_ret;refine ⟨?_,HB3.a⟩;rw[HRI.o,Tr.Q6o HS.B];rfl
    ·rw[hc] at HC;have HCC:=hd_ hc;clear hc;go_wp2_with (go_at_call 81;refine (UO _ _ _ _ _ (by omega)).mono ?_;rintro e w2 ⟨rfl,rfl⟩);refine (HC.o _ (by rw[eJ_ _ _ _ (Q4 HG.o)];exact HG.o)).mono ?_;rintro e w2 ⟨rfl,rfl⟩;dsimp only;go_wp2_with fail;go_ret;refine ⟨?_,HR.e.alloc HR.e.size _⟩;rw[HA.B,HR.b,show m+1 - 1=m from rfl,HCC.o];simp
def Tr.check (t:Tr.T) (n:Int):Int:=if Tr.right t=false then 10 else if n < 0\/(t.nodes.length:Int)<=n then 12 else 0
theorem GD {T:TypeId} (hb:Below (w.alloc (.cells cs T)).heap.size (w.alloc (.cells cs T)) w2):w2.heap[w.heap.size]? =some (.cells cs T (0,0)):=Ja hb
theorem UP (h:RdT w P vt vn t) (hP:∀ k,P k->k < w.heap.size) (hn:t.nodes.length<=1073741823) (ht:t.toks.length<=1073741824) (hkids:∀ n∈t.nodes,n.kids.length<=1073741823) (n:Int):
  Calls prog 154 #[.agg #[vt,vn],.int .i64 n] w fun e w'=> e= .returned (.int .i64 (Tr.check t n))/\Below w.heap.size w w':=by
 have hb1:Below w.heap.size w (w.alloc (.cells #[vt,vn] 90)):=(eB_ _ _).alloc (rl_ _) _;have HR:=hd_ (Q1z (h.keep (Keeps.of hb1 hP)) (fun k hk=> eI_ (hP k hk) hb1.size) hn ht hkids);obtain ⟨at_,ct,rfl⟩:=h.1.form;obtain ⟨an,cn,rfl⟩:∃ a c,vn= .slice a t.nodes.length c:=by
  obtain ⟨kvs,_,h2,_⟩:=h.2;exact h2.form
 have HB:=hd_ hb1;have hn':(t.nodes.length:Int)<=1073741823:=by omega
 clear h hP hb1 hn ht hkids;unfold Tr.check;cases hr:Tr.right t
 ·rw[hr] at HR;rw[if_pos rfl];clear hr;go_in;go_wp2_with (go_at_call 198;refine HR.o.mono ?_;rintro e w2 ⟨rfl,hb2⟩;have HB2:=hd_ hb2;clear hb2);go_ret;exact ⟨rfl,HB.o.trans (HB2.o.mono HB.o.size)⟩
 ·rw[hr] at HR;rw[if_neg (by simp)];clear hr;by_cases h1:n < 0
  ·rw[if_pos (Or.inl h1)];go_in;go_wp2_with (go_at_call 198;refine HR.o.mono ?_;rintro e w2 ⟨rfl,hb2⟩;have hbx:=GD hb2;have c1:=Q3 hbx 1 rfl;have HB2:=hd_ hb2;clear hb2 hbx);go_ret;exact ⟨rfl,HB.o.trans (HB2.o.mono HB.o.size)⟩
  ·by_cases h2:(t.nodes.length:Int)<=n
   ·rw[if_pos (Or.inr h2)];have h1':0<=n:=(by omega);go_in;go_wp2_with (go_at_call 198;refine HR.o.mono ?_;rintro e w2 ⟨rfl,hb2⟩;have hbx:=GD hb2;have c1:=Q3 hbx 1 rfl;have HB2:=hd_ hb2;clear hb2 hbx);go_ret;exact ⟨rfl,HB.o.trans (HB2.o.mono HB.o.size)⟩
   ·rw[if_neg (by omega)];have h1':0<=n:=(by omega);have h2':n < (t.nodes.length:Int):=(by omega);go_in;go_wp2_with (go_at_call 198;refine HR.o.mono ?_;rintro e w2 ⟨rfl,hb2⟩;have hbx:=GD hb2;have c1:=Q3 hbx 1 rfl;have HB2:=hd_ hb2;clear hb2 hbx);go_ret;exact ⟨rfl,HB.o.trans (HB2.o.mono HB.o.size)⟩
end Go.Proofs.YtiecccakcenobaaGreatDoor
namespace Go.Proofs.YtiecccakcenobaaGreatDoor.Tr
open Tryz
def dp (t:T):Nat->Nat->List UInt8
 | 0,_=> []
 | f+1,i=> match t.nodes[i]? with
  | none=> []
  | some n=> if n.kind=19 then (match t.toks[n.tok.toNat]? with | none=> [] | some k=> (if k.kind=5 then [36] else [])++k.text)
   else [40]++Lib.decDigits n.kind.toNat++(n.kids.flatMap fun k=> [32]++dp t f k.toNat)++ [41]
def dump (t:T) (i:Nat):List UInt8:=dp t (i+1) i
theorem Q4v {t:T} (h:Low t.nodes):∀ (f g i:Nat),i < f->i < g->dp t f i=dp t g i
 | 0,_,_,h1,_=> absurd h1 (by omega)
 | _,0,_,_,h1=> absurd h1 (by omega)
 | f+1,g+1,i,h1,h2=> by
  unfold dp;cases hn:t.nodes[i]? with
  | none=> rfl
  | some n=>
   simp only;split
   ·rfl
   ·rw[List.flatMap_def,List.flatMap_def];congr 3;apply List.map_congr_left;intro k hk;have:=(h i n hn).1 k hk;rw[Q4v h f g k.toNat (by omega) (by omega)]
theorem UQ {t:T} {i:Nat} {n:Nd} {k:Tk} (hn:t.nodes[i]? =some n) (hk:n.kind=19) (ht:t.toks[n.tok.toNat]? =some k):dump t i=(if k.kind=5 then [36] else [])++k.text:=by
 unfold dump dp;rw[hn];simp only[if_pos hk,ht]
theorem UR {t:T} (h:Low t.nodes) {i:Nat} {n:Nd} (hn:t.nodes[i]? =some n) (hk:n.kind≠19):dump t i= [40]++Lib.decDigits n.kind.toNat++(n.kids.flatMap fun k=> [32]++dump t k.toNat)++ [41]:=by
 unfold dump
 conv=> lhs;unfold dp
 rw[hn];simp only[if_neg hk];rw[List.flatMap_def,List.flatMap_def];congr 3;apply List.map_congr_left;intro k hk;have:=(h i n hn).1 k hk;rw[Q4v h i (k.toNat+1) k.toNat (by omega) (by omega)]
def dumpTo (t:T) (n:Nd) (j:Nat):List UInt8:= [40]++Lib.decDigits n.kind.toNat++((n.kids.take j).flatMap fun k=> [32]++dump t k.toNat)
theorem Gh (t:T) {n:Nd} {j:Nat} {k:Int} (h:n.kids[j]? =some k):dumpTo t n (j+1)=dumpTo t n j++ [32]++dump t k.toNat:=by
 unfold dumpTo;rw[List.take_add_one,h];simp
theorem LK (t:T) (n:Nd) (j:Nat):(dumpTo t n j).length<=(dumpTo t n n.kids.length).length:=by
 unfold dumpTo;rw[List.take_length];have e:(n.kids.flatMap fun k=> [32]++dump t k.toNat)=((n.kids.take j).flatMap fun k=> [32]++dump t k.toNat)++((n.kids.drop j).flatMap fun k=> [32]++dump t k.toNat):=by
  rw[<-List.flatMap_append,eW_]
 rw[e];simp only[eC_];omega
theorem Q7E (t:T) (h:Low t.nodes) {i:Nat} {n:Nd} (hn:t.nodes[i]? =some n) (hk:n.kind≠19):dump t i=dumpTo t n n.kids.length++ [41]:=by
 rw[UR h hn hk];unfold dumpTo;rw[List.take_length]
theorem Jv (k:Nat) (h:k < 100):(Lib.decDigits k).length<=2:=by
 by_cases h1:k < 10
 ·rw[Lib.decDigits_one h1];simp
 ·rw[Lib.decDigits_two h1 h];simp
theorem ZO {t:T} {i:Nat} {n:Nd} (h:formed t i n=true):1<=n.kind/\n.kind<=19/\(n.kind=19->0<=n.tok/\n.tok < (t.toks.length:Int)):=by
 unfold formed at h;split at h
 ·cases h
 ·rename_i h1;refine ⟨by omega,by omega,fun h2=> ?_⟩;rw[if_pos h2] at h;simp only[Bool.and_eq_true,decide_eq_true_eq] at h;exact ⟨h.1.2,h.2⟩
theorem Q6t {t:T} {L:Nat} (hL:∀ k∈t.toks,k.text.length<=L) (hf:FormedTo t t.nodes.length) (i:Nat):i < t.nodes.length->(dump t i).length+1<=(L+6)*size t.nodes i:=by
 induction i using Nat.strongRecOn with
 | ind i ih=>
  intro hi;have hl:=hf.low;obtain ⟨n,hn⟩:∃ n,t.nodes[i]? =some n:=⟨_,eA_ hi⟩
  have hfn:=ZO (hf i n hi hn);rw[Jb hl hn,Nat.mul_add,Nat.mul_one];by_cases hk:n.kind=19
  ·have h2:=hfn.2.2 hk;obtain ⟨k,hkk⟩:∃ k,t.toks[n.tok.toNat]? =some k:=⟨_,eA_ (by omega)⟩
   have h3:=hL k (eP_ hkk);rw[UQ hn hk hkk];simp only[eC_];split <;> simp <;> omega
  ·have h2:=Jv n.kind.toNat (by omega);have h:∀ ks:List Int,(∀ k∈ks,0<=k/\k < (i:Int))->(ks.flatMap fun k=> [32]++dump t k.toNat).length<=(L+6)*(ks.map fun k=> size t.nodes k.toNat).sum:=by
    intro ks hks
    induction ks with
    | nil=> simp
    | cons k ks ihk=>
     have h3:=hks k (by simp);have h4:=ih k.toNat (by omega) (by omega);have h5:=ihk fun x hx=> hks x (by simp[hx]);simp only[List.flatMap_cons,eC_,eL_,eU_,List.map_cons,List.sum_cons,Nat.mul_add] at h5 |-;omega
   have h6:=h n.kids (hl i n hn).1;rw[UR hl hn hk];simp only[eC_,eL_,eU_] at h6 |-;omega
end Go.Proofs.YtiecccakcenobaaGreatDoor.Tr
namespace Go.Proofs.YtiecccakcenobaaGreatDoor
open Tryz
open Go.RowKit
variable {l pre:List UInt8} {B b k:Nat} {P R:Nat->Prop} {t:Tr.T} {vn vn' vt:Value} {W W' w w' x y:World}
def IsB (w:World) (B b:Nat) (l:List UInt8):Prop:=Lib.IsBuilder 108 5 B b (Lib.byteCells l) w
theorem Z9 (h:IsB w B b pre) (l:List UInt8) (hl:pre.length+l.length<=1073741824) (hB:B<=w.heap.size):
  Calls prog 48 #[.pointer (some ⟨b,0,none⟩),.string ⟨l.toArray⟩] w fun e w'=> (∃ n,e= .returned (.tuple #[.int .i64 n,.nilIface]))/\IsB w' B b (pre++l)/\Below B w w'/\NB b w w':=by
 have hs:(⟨l.toArray⟩:ByteArray).size=l.length:=by simp[ByteArray.size]
 refine (Q0s B b (Lib.byteCells pre) ⟨l.toArray⟩ w h (by rw[Lib.byteCells_length,hs];omega) hB).mono ?_;rintro e w' ⟨rfl,h1,h2,h3⟩;refine ⟨⟨_,rfl⟩,?_,h2,h3⟩;unfold IsB;rw[Lib.byteCells_append];exact h1
theorem IsB.lt (h:IsB w B b l):b < w.heap.size/\B<=b:=by
 rcases h with ⟨h1,v,h2,_⟩ | ⟨h1,v,h2,_⟩
 ·exact ⟨ZM h2,h1⟩
 ·exact ⟨ZM h2,h1⟩
theorem IsB.below (h:IsB w B b l) (hb:Below w.heap.size w w'):IsB w' B b l:=X9 h hb
theorem NB.cells {b k:Nat} {x y:World} (h:NB b x y) {cs:Array Value} {T:TypeId} {fr:Nat × Nat} (hk:x.heap[k]? =some (.cells cs T fr)) (hne:k≠b) (hT:T≠5):y.heap[k]? =some (.cells cs T fr):=
 h.block k _ hk hne fun cs2 fr2 e=> by injection e with _ e2 _;exact hT e2
def DumpSays (w:World) (B b:Nat) (l:List UInt8) (e:Ending) (w':World):Prop:=e= .returned (.tuple #[])/\IsB w' B b l/\Below B w w'/\NB b w w'
theorem Gu (h:RdT w P vt vn t) (hP:∀ k,P k->k < B) (hf:Tr.FormedTo t t.nodes.length) (hn:t.nodes.length<=1073741823) (ht:t.toks.length<=1073741823)
  {i:Nat} {n:Tr.Nd} (hi:t.nodes[i]? =some n) (hk:n.kind=19) (hB:B<=w.heap.size) (hbu:IsB w B b pre) (hl:pre.length+(Tr.dump t i).length<=1073741824):
  Calls prog 155 #[.agg #[vt,vn],.pointer (some ⟨b,0,none⟩),.int .i64 (i:Int)] w (DumpSays w B b (pre++Tr.dump t i)):=by
 have hil:=Tr.Zm hi;have hkt:=(Tr.ZO (hf i n hil hi)).2.2 hk;obtain ⟨tk,htk⟩:∃ tk,t.toks[n.tok.toNat]? =some tk:=⟨_,eA_ (by omega)⟩
 rw[Tr.UQ hi hk htk] at hl |-;obtain ⟨kind,tok,kids⟩:=n;simp only at hk hkt htk;subst hk;obtain ⟨q,rfl⟩:∃ q:Nat,tok=q:=⟨tok.toNat,by omega⟩
 simp only[Int.toNat_natCast] at htk;obtain ⟨gn,on,cn,kv,rfl,hgn,hrn,hkv⟩:=h.2.node hi;obtain ⟨gt,ot,ct,rfl,hgt,hrt⟩:=h.1.tok htk;have hil':(i:Int) < (t.nodes.length:Int):=by omega
 have hn':(t.nodes.length:Int)<=1073741823:=by omega
 have ht':(t.toks.length:Int)<=1073741823:=by omega
 have hqt:(q:Int) < (t.toks.length:Int):=hkt.2;obtain ⟨ka,kc,rfl⟩:=hkv.form;obtain ⟨kd,ld,tx,ps⟩:=tk;have hgn2:=hP _ hgn;have hgt2:=hP _ hgt;have HRN:Hid (∀ w2:World,Below B w w2->w2.rangeAt gn (on+i*3) [.int .i64 19,.int .i64 (q:Int),.slice ka kids.length kc]):=fun w2 h2=> Xi hrn (h2.block _ hgn2);have HRT:Hid (∀ w2:World,Below B w w2->w2.rangeAt gt (ot+q*4) [.int .i64 kd,.string ⟨ld.toArray⟩,.string ⟨tx.toArray⟩,.int .i64 ps]):=fun w2 h2=> Xi hrt (h2.block _ hgt2);have HB:=hd_ hbu;have HL:=hd_ hl;have HBB:Hid (∀ o1 o2 o3:Obj,Below B w (((w.alloc o1).alloc o2).alloc o3)):=fun o1 o2 o3=> (((eB_ _ _).alloc hB _).alloc (by rw[<-Q5];omega) _).alloc (by rw[<-Q5, <-Q5];omega) _;have HBW:=hd_ hB;clear hbu hl hrn hrt hkv h hf hi hil hkt htk hP hgn2 hgt2 hgn hgt;by_cases hk5:kd=5
 ·subst hk5;go_in;go_wp2_with (first
   | (refine wpList_load_mid rfl 157 _ rfl gn (on+i*3) rfl _ _ (HRN.o _ ((eB_ _ _).alloc HBW.o _)) underlying157 rfl rfl ?_)
   | (refine wpList_load_mid rfl 197 _ rfl gt (ot+q*4) rfl _ _ (HRT.o _ (((eB_ _ _).alloc HBW.o _).alloc (by rw[<-Q5];have:=HBW.o;omega) _)) underlying197 rfl rfl ?_))
  obtain ⟨W,hW⟩:∃ W,((w.alloc (.cells #[.slice (some ⟨gt,ot,none⟩) t.toks.length ct,.slice (some ⟨gn,on,none⟩) t.nodes.length cn] 90)).alloc (.cells #[.int .i64 19,.int .i64 (q:Int),.slice ka kids.length kc] 157)).alloc (.cells #[.int .i64 5,.string ⟨ld.toArray⟩,.string ⟨tx.toArray⟩,.int .i64 ps] 197)=W:=⟨_,rfl⟩
  have hWB:Below B w W:=by rw[<-hW];exact HBB.o _ _ _
  have hWb:Below w.heap.size w W:=by rw[<-hW];exact (((eB_ _ _).alloc (rl_ _) _).alloc (by rw[<-Q5];omega) _).alloc (by rw[<-Q5, <-Q5];omega) _
  have hWt:W.heap[w.heap.size+1+1]? =some (.cells #[.int .i64 5,.string ⟨ld.toArray⟩,.string ⟨tx.toArray⟩,.int .i64 ps] 197 (0,0)):=by rw[<-hW];exact YB _ _ _ (by rw[<-Q5, <-Q5])
  have HW:=h4_ hWB hWt (HB.o.below hWb) hWb;rw[hW];clear hW hWB hWb hWt;refine (Z9 HW.c [36] (by have:=HL.o;simp at this |-;omega) (eE_ HBW.o HW.D.size)).mono ?_;rintro e w1 ⟨⟨n1,rfl⟩,hi1,hb1,hn1⟩;have ht1:=hn1.cells HW.b (by have:=HB.o.lt;omega) (by decide);have d2:=Q3 ht1 2 rfl;have H1:=h3_ hi1 hb1 hn1;clear hi1 hb1 hn1 ht1;dsimp only;go_wp2_with fail;refine (Z9 H1.a tx (by have:=HL.o;simp at this |-;omega) (eE_ (eE_ HBW.o HW.D.size) H1.b.size)).mono ?_;rintro e w2 ⟨⟨n2,rfl⟩,hi2,hb2,hn2⟩;have H2:=h3_ hi2 hb2 hn2;clear hi2 hb2 hn2 d2;dsimp only;go_wp2_with fail;refine eG_ (results_none rfl _ _ _) rfl ?_;refine ⟨rfl,by simpa using H2.a,(HW.a.trans H1.b).trans H2.b,((NB.of HW.D).trans H1.C).trans H2.C⟩
 ·have hk5':(kd==5)=false:=by rw[beq_eq_false_iff_ne];exact hk5
  have HK5:=hd_ hk5;clear hk5;go_in;go_wp2_with (first
   | (refine wpList_load_mid rfl 157 _ rfl gn (on+i*3) rfl _ _ (HRN.o _ ((eB_ _ _).alloc HBW.o _)) underlying157 rfl rfl ?_)
   | (refine wpList_load_mid rfl 197 _ rfl gt (ot+q*4) rfl _ _ (HRT.o _ (((eB_ _ _).alloc HBW.o _).alloc (by rw[<-Q5];have:=HBW.o;omega) _)) underlying197 rfl rfl ?_))
  obtain ⟨W,hW⟩:∃ W,((w.alloc (.cells #[.slice (some ⟨gt,ot,none⟩) t.toks.length ct,.slice (some ⟨gn,on,none⟩) t.nodes.length cn] 90)).alloc (.cells #[.int .i64 19,.int .i64 (q:Int),.slice ka kids.length kc] 157)).alloc (.cells #[.int .i64 kd,.string ⟨ld.toArray⟩,.string ⟨tx.toArray⟩,.int .i64 ps] 197)=W:=⟨_,rfl⟩
  have hWB:Below B w W:=by rw[<-hW];exact HBB.o _ _ _
  have hWb:Below w.heap.size w W:=by rw[<-hW];exact (((eB_ _ _).alloc (rl_ _) _).alloc (by rw[<-Q5];omega) _).alloc (by rw[<-Q5, <-Q5];omega) _
  have hWt:W.heap[w.heap.size+1+1]? =some (.cells #[.int .i64 kd,.string ⟨ld.toArray⟩,.string ⟨tx.toArray⟩,.int .i64 ps] 197 (0,0)):=by rw[<-hW];exact YB _ _ _ (by rw[<-Q5, <-Q5])
  have HW:=h4_ hWB hWt (HB.o.below hWb) hWb;rw[hW];clear hW hWB hWb hWt;refine (Z9 HW.c tx (by have:=HL.o;rw[if_neg HK5.o] at this;simp at this |-;omega) (eE_ HBW.o HW.D.size)).mono ?_;rintro e w2 ⟨⟨n2,rfl⟩,hi2,hb2,hn2⟩;have H2:=h3_ hi2 hb2 hn2;clear hi2 hb2 hn2;dsimp only;go_wp2_with fail;refine eG_ (results_none rfl _ _ _) rfl ?_;refine ⟨rfl,by simpa using H2.a,HW.a.trans H2.b,(NB.of HW.D).trans H2.C⟩
def DpRel (w:World) (vt vn:Value) (t:Tr.T) (n:Tr.Nd) (B b:Nat) (pre:List UInt8) (k:Nat) (v42:Value) (wr:World):Prop:=
 ∃ j:Nat,v42= .int .i64 j/\k=n.kids.length - j/\j<=n.kids.length/\IsB wr B b (pre++Tr.dumpTo t n j)/\Below B w wr/\NB b w wr/\wr.heap[w.heap.size]? =some (.cells #[vt,vn] 90 (0,0))
theorem Q3p (hP:∀ k,P k->k < B) (hf:Tr.FormedTo t t.nodes.length) (hn:t.nodes.length<=1073741823) (ht:t.toks.length<=1073741823) (hkids:∀ n∈t.nodes,n.kids.length<=1073741823) (i:Nat):
  ∀ (w:World) (pre:List UInt8),i < t.nodes.length->RdT w P vt vn t->B<=w.heap.size->IsB w B b pre->pre.length+(Tr.dump t i).length<=1073741824->
  Calls prog 155 #[.agg #[vt,vn],.pointer (some ⟨b,0,none⟩),.int .i64 (i:Int)] w (DumpSays w B b (pre++Tr.dump t i)):=by
 induction i using Nat.strongRecOn with
 | ind i ih=>
 intro w pre hil h hB hbu hl;obtain ⟨n,hi⟩:∃ n,t.nodes[i]? =some n:=⟨_,eA_ hil⟩
 by_cases hk:n.kind=19
 ·exact Gu h hP hf hn ht hi hk hB hbu hl
 ·have hlow:=hf.low;have hkd:=Tr.ZO (hf i n hil hi);have hkl:=hkids n (eP_ hi);rw[Tr.Q7E t hlow hi hk] at hl |-;have hlw:=hlow i n hi;obtain ⟨gn,on,cn,kv,rfl,hgn,hrn,hkv⟩:=h.2.node hi;obtain ⟨at_,ct,rfl⟩:=h.1.form;obtain ⟨ka,kc,rfl⟩:=hkv.form;obtain ⟨kd,hkde⟩:∃ kd:Nat,n.kind=kd:=⟨n.kind.toNat,by omega⟩
  have hkd19:((kd:Int)==19)=false:=by rw[beq_eq_false_iff_ne];omega
  have hil':(i:Int) < (t.nodes.length:Int):=by omega
  have hn':(t.nodes.length:Int)<=1073741823:=by omega
  have hkl':(n.kids.length:Int)<=1073741823:=by omega
  have hgn2:=hP _ hgn;rw[hkde] at hrn;have HRN:Hid (∀ w2:World,Below B w w2->w2.rangeAt gn (on+i*3) [.int .i64 (kd:Int),.int .i64 n.tok,.slice ka n.kids.length kc]):=fun w2 h2=> Xi hrn (h2.block _ hgn2);obtain ⟨dg,hdg⟩:∃ dg,Lib.decDigits kd=dg:=⟨_,rfl⟩
  have hdl:dg.length<=2:=by rw[<-hdg];exact Tr.Jv kd (by omega)
  have hdl':(dg.length:Int)<=2:=by omega
  have HIT:Hid (∀ W:World,Calls prog 199 #[.int .i64 (kd:Int)] W fun e w'=> e= .returned (.string ⟨dg.toArray⟩)/\w'=W):=by
   rw[<-hdg];exact fun W=> Tryz.strconv_Itoa_small kd (by omega) W
  have HTO:Hid (Tr.dumpTo t n 0= [40]++dg):=by
   refine hd_ ?_;unfold Tr.dumpTo;rw[hkde, <-hdg];simp
  have HKD:=h2_ hkde hkd;have HKV:=h4_ h hkv hP hlw;have HB:=hd_ hbu;have HL:=hd_ hl;have HBW:=hd_ hB;have HIH:=hd_ ih;have HT:=h2_ hi hlow;clear hbu hl hrn hkv h hf hi hil hP hgn2 hgn hkde hkd hk ih hlow hlw hkids hdg;go_in;go_wp2_with (first
   | (refine wpList_load_mid rfl 157 _ rfl gn (on+i*3) rfl _ _ (HRN.o _ ((eB_ _ _).alloc HBW.o _)) underlying157 rfl rfl ?_)
   | (go_at_call 199;refine (HIT.o _).mono ?_;rintro e w' ⟨rfl,rfl⟩))
  obtain ⟨W,hW⟩:∃ W,(w.alloc (.cells #[.slice at_ t.toks.length ct,.slice (some ⟨gn,on,none⟩) t.nodes.length cn] 90)).alloc (.cells #[.int .i64 (kd:Int),.int .i64 n.tok,.slice ka n.kids.length kc] 157)=W:=⟨_,rfl⟩
  have hWb:Below w.heap.size w W:=by rw[<-hW];exact ((eB_ _ _).alloc (rl_ _) _).alloc (by rw[<-Q5];omega) _
  have hWt:W.heap[w.heap.size]? =some (.cells #[.slice at_ t.toks.length ct,.slice (some ⟨gn,on,none⟩) t.nodes.length cn] 90 (0,0)):=by rw[<-hW,eJ_ _ _ _ (by rw[<-Q5];omega)];exact YB _ _ _ rfl
  have hWx:W.heap[w.heap.size+1]? =some (.cells #[.int .i64 (kd:Int),.int .i64 n.tok,.slice ka n.kids.length kc] 157 (0,0)):=by rw[<-hW];exact YB _ _ _ (by rw[<-Q5])
  have HW:=h5_ hWb hWt hWx (HB.o.below hWb) (hWb.mono HBW.o);rw[hW];clear hW hWb hWt hWx;rw[show (⟨#[40]⟩:ByteArray)=⟨[40].toArray⟩ from rfl,Q0t];refine (Z9 HW.d ([40]++dg) ?_ (eE_ HBW.o HW.E.size)).mono ?_
  ·have h1:=HL.o;have h2:=Tr.LK t n 0;rw[HTO.o] at h2;simp only[eC_] at h1 h2 |-;omega
  rintro e w1 ⟨⟨n1,rfl⟩,hi1,hb1,hn1⟩;have ht1:=hn1.cells HW.b (by have:=HB.o.lt;omega) (by decide);have hx1:=hn1.cells HW.c (by have:=HB.o.lt;omega) (by decide);have d2:=Q3 hx1 2 rfl;have H1:=h4_ hi1 hb1 hn1 ht1;clear hi1 hb1 hn1 ht1 hx1;dsimp only;go_wp2_with fail;go_loopg [42] n.kids.length (fun k v42 wr=> DpRel w (.slice at_ t.toks.length ct) (.slice (some ⟨gn,on,none⟩) t.nodes.length cn) t n B b pre k v42 wr)
  case atStart=>
   refine ⟨0,rfl,rfl,eV_ _,?_,HW.E.trans H1.b,(NB.of HW.a).trans H1.c,H1.D⟩;rw[HTO.o];exact H1.a
  case round=>
   obtain ⟨j,rfl,hk,hj,hi2,hb2,hn2,ht2⟩:=hrel;have HR:=h5_ hk hi2 hb2 hn2 ht2;clear hk hi2 hb2 hn2 ht2 d2;by_cases hlt:j < n.kids.length
   ·have hlt':(j:Int) < (n.kids.length:Int):=(by omega);obtain ⟨x,hx⟩:∃ x,n.kids[j]? =some x:=⟨_,eA_ hlt⟩
    have hxi:=HKV.d x (eP_ hx);obtain ⟨y,rfl⟩:∃ y:Nat,x=y:=⟨x.toNat,by omega⟩
    obtain ⟨bk,ok,rfl,hcell⟩:=Q6r HKV.a.2 HT.a HKV.b (fun k hk=> eI_ (HKV.c k hk) HBW.o) (eB_ _ _) (Keeps.of HR.c HKV.c) hx;have HX:=h2_ hx hxi;have HLJ:Hid (pre.length+(Tr.dumpTo t n j).length+1+(Tr.dump t y).length<=1073741824):=by
     refine hd_ ?_;have h1:=HL.o;have h2:=Tr.LK t n (j+1);rw[Tr.Gh t hx] at h2;simp only[eC_,eL_,eU_,Int.toNat_natCast] at h1 h2;omega
    clear hx hxi;go_wp2_with fail;refine (Z9 HR.b [32] (by have:=HLJ.o;simp only[eC_,eL_,eU_];omega) (eE_ HBW.o HR.c.size)).mono ?_;rintro e w3 ⟨⟨n3,rfl⟩,hi3,hb3,hn3⟩;have ht3:=hn3.cells HR.E (by have:=HB.o.lt;omega) (by decide);have q0:=Q3 ht3 0 rfl;have q1:=Q3 ht3 1 rfl;have H3:=h4_ hi3 hb3 hn3 ht3;clear hi3 hb3 hn3 ht3;dsimp only;go_wp2_with fail;refine (HIH.o y (by have:=HX.B;omega) w3 _ (by have:=HX.B;omega) (HKV.a.keep (Keeps.of (HR.c.trans H3.b) HKV.c)) (eE_ HBW.o (HR.c.trans H3.b).size) H3.a (by have:=HLJ.o;simp only[eC_,eL_,eU_];omega)).mono ?_;rintro e w4 ⟨rfl,hi4,hb4,hn4⟩;have ht4:=hn4.cells H3.D (by have:=HB.o.lt;omega) (by decide);have H4:=h4_ hi4 hb4 hn4 ht4;clear hi4 hb4 hn4 ht4 q0 q1 hcell;dsimp only;go_wp2_with fail;refine Handed.intro (n.kids.length - (j+1)) ?_ ?_
    ·have:=HR.a;omega
    go_step
    repeat apply Exists.intro
    refine ⟨?_,rfl⟩;refine ⟨j+1,by go_num,rfl,by omega,?_,(HR.c.trans H3.b).trans H4.b,(HR.d.trans H3.c).trans H4.c,H4.D⟩;have:=H4.a;rw[Tr.Gh t HX.a];simpa using this
   ·obtain rfl:j=n.kids.length:=(by omega);go_wp2_with fail;refine (Z9 HR.b [41] (by have:=HL.o;simp only[eC_] at this |-;omega) (eE_ HBW.o HR.c.size)).mono ?_;rintro e w3 ⟨⟨n3,rfl⟩,hi3,hb3,hn3⟩;have H3:=h3_ hi3 hb3 hn3;clear hi3 hb3 hn3;dsimp only;go_wp2_with fail;refine eG_ (results_none rfl _ _ _) rfl ?_;exact ⟨rfl,by simpa using H3.a,HR.c.trans H3.b,HR.d.trans H3.C⟩
theorem Dc {n:Int} (h:Tr.check t n=0):Tr.right t=true/\0<=n/\n < (t.nodes.length:Int):=by
 unfold Tr.check at h;split at h
 ·omega
 ·rename_i h1;split at h
  ·omega
  ·exact ⟨by simpa using h1,by omega,by omega⟩
theorem Q0B (h:Tr.right t=true):Tr.FormedTo t t.nodes.length:=by
 cases hg:Tr.rightGo t 0 t.nodes (List.replicate t.nodes.length false) with
 | none=> rw[Tr.Zl hg] at h;cases h
 | some kid=> exact Tr.XZ hg (by simp) (fun j n hj=> absurd hj (by omega))
def DumpOut (t:Tr.T) (n:Int):List UInt8:=if Tr.check t n=0 then Tr.dump t n.toNat else []
theorem Q1A (h:RdT w P vt vn t) (hP:∀ k,P k->k < w.heap.size) (hn:t.nodes.length<=1073741823) (ht:t.toks.length<=1073741823) (hkids:∀ n∈t.nodes,n.kids.length<=1073741823) (n:Int)
  (hl:(DumpOut t n).length<=1073741824):
  Calls prog 117 #[.agg #[vt,vn],.int .i64 n] w fun e w'=> e= .returned (.tuple #[.string ⟨(DumpOut t n).toArray⟩,.int .i64 (Tr.check t n)])/\Below w.heap.size w w':=by
 have hb1:Below w.heap.size w (w.alloc (.cells #[vt,vn] 90)):=(eB_ _ _).alloc (rl_ _) _;have HC:=hd_ (UP (h.keep (Keeps.of hb1 hP)) (fun k hk=> eI_ (hP k hk) hb1.size) hn (by omega) hkids n);obtain ⟨at_,ct,rfl⟩:=h.1.form;obtain ⟨an,cn,rfl⟩:∃ a c,vn= .slice a t.nodes.length c:=by
  obtain ⟨kvs,_,h2,_⟩:=h.2;exact h2.form
 have HB:=hd_ hb1;have HH:=h5_ h hP hn ht hkids;unfold DumpOut at hl |-;clear h hP hb1 hn ht hkids;by_cases hc:Tr.check t n=0
 ·rw[if_pos hc] at hl |-;rw[hc] at HC |-;obtain ⟨hr,h0,h1⟩:=Dc hc;obtain ⟨i,rfl⟩:∃ i:Nat,n=i:=⟨n.toNat,by omega⟩
  rw[Int.toNat_natCast] at hl |-;have HR:=h3_ hr h1 hl;clear hc hr h0 h1 hl;go_in;go_wp2_with fail;refine HC.o.mono ?_;rintro e w2 ⟨rfl,hb2⟩;have hbx:=GD hb2;have c0:=Q3 hbx 0 rfl;have c1:=Q3 hbx 1 rfl;have l0:=Qd c0;have hw2:Below w.heap.size w w2:=HB.o.trans (hb2.mono HB.o.size);have HW:=h2_ hw2 hbx;clear hb2 hbx hw2;dsimp only;go_wp2_with fail;clear c0 c1 l0;have hwv:Below w2.heap.size w2 (w2.alloc (.cells #[.pointer none,.slice none 0 0] 108)):=(eB_ _ _).alloc (rl_ _) _;have hbu:IsB (w2.alloc (.cells #[.pointer none,.slice none 0 0] 108)) w2.heap.size w2.heap.size []:=Or.inl ⟨rl_ _,_,eD_ _ _,World.ownsRow_nil _ _ _ _,by simp[Value.ownBlock]⟩;obtain ⟨h,hP,hn,ht,hkids⟩:=HH.o;have hw0:Below w.heap.size w (w2.alloc (.cells #[.pointer none,.slice none 0 0] 108)):=HW.a.trans (hwv.mono HW.a.size);refine (Q3p (B:=w2.heap.size) (b:=w2.heap.size) (fun k hk=> eI_ (hP k hk) HW.a.size) (Q0B HR.a) hn ht hkids i _ [] (by have:=HR.b;omega) (h.keep (Keeps.of hw0 hP)) hwv.size hbu (by simpa using HR.C)).mono ?_;rintro e w3 ⟨rfl,hi3,hb3,hn3⟩;have H3:=h4_ hi3 hb3 hw0 hwv;clear h hP hn ht hkids hw0 hwv hbu hi3 hb3 hn3;dsimp only;go_wp2_with fail;refine (Tryz.Builder_String_any w2.heap.size w2.heap.size (Tr.dump t i) _ (by have:=H3.a;rwa [List.nil_append] at this) (eE_ H3.D.size H3.b.size)).mono ?_;rintro e w4 ⟨rfl,hb4⟩;have H4:=hd_ hb4;clear hb4;dsimp only;go_wp2_with fail;go_ret2;exact ⟨rfl,H3.c.trans ((H3.b.trans H4.o).mono HW.a.size)⟩
 ·rw[if_neg hc];have hc':(Tr.check t n !=0)=true:=by simp[hc]
  generalize Tr.check t n=c at*;clear hl hc;go_in;go_wp2_with fail;refine HC.o.mono ?_;rintro e w2 ⟨rfl,hb2⟩;have HB2:=hd_ hb2;clear hb2;dsimp only;go_wp2_with fail;go_ret2;exact ⟨rfl,HB.o.trans (HB2.o.mono HB.o.size)⟩
section
variable {Q:Nat->Prop}
def toTk (t:Lx.Tok):Tr.Tk:=⟨t.kind,t.lead,t.text,t.pos⟩
theorem JI (l:List Lx.Tok):toksCells l=tksCells (l.map toTk):=by
 simp only[toksCells,tksCells,List.flatMap_map];rfl
theorem Grew.low {used:Nat} (h:Grew w w' b vn vn') (hb:BuildI Q w B b vt vn t used):Below B w w':=by
 refine ⟨h.1.os,h.1.tape,h.1.output,h.1.size,fun k hk=> h.1.block k ?_ ?_⟩
 ·have:=hb.base;have:=Q4 hb.cell;omega
 ·rintro (e | e)
  ·have:=hb.base;omega
  ·obtain ⟨kvs,_,h2,_⟩:=hb.nodes;have:=(h2.lt k e).1;omega
theorem Xw (w:World) (l:List Int) {r:Nat} (hr:r=w.heap.size):RdS (w.alloc (.cells (intCells l).toArray 3)) (fun k=> k=w.heap.size) 1 (.slice (some ⟨r,0,none⟩) l.length l.length) l.length (intCells l):=by
 subst hr;refine ⟨by simp[intCells],_,_,rfl,rl_ _,Or.inr ⟨_,_,rfl,Or.inr rfl,?_⟩⟩;intro j v hj;rw[Nat.zero_add];exact Q3 (YB _ _ _ rfl) j (by simpa using hj)
structure NBt (T:TypeId) (b:Nat) (w w':World):Prop where
 os:w'.os=w.os
 tape:w'.tape=w.tape
 output:w'.output=w.output
 size:w.heap.size<=w'.heap.size
 block:∀ (k:Nat) (o:Obj),w.heap[k]? =some o->k≠b->(∀ cs fr,o≠ .cells cs T fr)->w'.heap[k]? =some o
theorem NBt.cells {T0:TypeId} {b k:Nat} {x y:World} (h:NBt T0 b x y) {cs:Array Value} {T:TypeId} {fr:Nat × Nat} (hk:x.heap[k]? =some (.cells cs T fr)) (hne:k≠b) (hT:T≠T0):y.heap[k]? =some (.cells cs T fr):=
 h.block k _ hk hne fun cs2 fr2 e=> by injection e with _ e2 _;exact hT e2
theorem Grew.nbt {used:Nat} (h:Grew w w' b vn vn') (hb:BuildI Q w B b vt vn t used):NBt 157 b w w':=by
 refine ⟨h.1.os,h.1.tape,h.1.output,h.1.size,fun k o hk hne hn=> ?_⟩;rw[h.1.block k (Q4 hk) ?_]
 ·exact hk
 ·rintro (e | e)
  ·exact hne e
  ·obtain ⟨kvs,_,h2,_⟩:=hb.nodes;rcases h2.2 with ⟨rfl,_⟩ | ⟨g,cap,cur,rfl,_,hg,_⟩
   ·cases e
   ·injection e with e;subst e;rw[hg] at hk;injection hk with hk;exact hn _ _ hk.symm
def Anc (Q:Nat->Prop) (w W:World) (b:Nat) (t:Tr.T) (used:Nat):Prop:=∃ B vt vn,w.heap.size<=B/\BuildI Q W B b vt vn t used/\Below w.heap.size w W
theorem Q7 {o:Obj} (h:w.heap[k]? =some o) (hb:Below w.heap.size w w'):w'.heap[k]? =some o:=(hb.block k (Q4 h)).trans h
theorem Anc.below {used:Nat} (h:Anc Q w W b t used):Below w.heap.size w W:=by
 obtain ⟨B,vt,vn,h1,h2,h3⟩:=h;exact h3
theorem Anc.past {used:Nat} (h:Anc Q w W b t used) (hb:Below W.heap.size W W'):Anc Q w W' b t used:=by
 obtain ⟨B,vt,vn,h1,h2,h3⟩:=h;exact ⟨B,vt,vn,h1,h2.keep hb.size fun k hk _=> hb.block k hk,h3.trans (hb.mono h3.size)⟩
theorem Q4w (Q:Nat->Prop) {w W:World} {P:Nat->Prop} {v:Value} {l:List Tr.Tk} (h:RdS W P 4 v l.length (tksCells l)) (hn:l.length<=1073741824) (hw:Below w.heap.size w W):
  Calls prog 111 #[v] W fun e w'=> ∃ b,e= .returned (.pointer (some ⟨b,0,none⟩))/\Anc Q w w' b ⟨l, []⟩ 0/\W.heap.size<=b/\Below W.heap.size W w':=by
 refine (UL Q h hn).mono ?_;rintro e w' ⟨b,vt,rfl,h1,h2⟩;exact ⟨b,rfl,⟨W.heap.size,vt,_,hw.size,h1,hw.trans (h2.mono hw.size)⟩,h1.base,h2⟩
theorem Q6u {used:Nat} (h:Anc Q w W b t used) (hn:t.nodes.length<=1073741823) (ht:t.toks.length<=1073741824) (hu:used < t.toks.length):
  Calls prog 149 #[.pointer (some ⟨b,0,none⟩)] W fun e w'=> e= .returned (.int .i64 t.nodes.length)/\Anc Q w w' b ⟨t.toks,t.nodes++ [⟨19,used, []⟩]⟩ (used+1)/\NBt 157 b W w':=by
 obtain ⟨B,vt,vn,h1,h2,h3⟩:=h;refine (D6 h2 hn ht (by omega)).mono ?_;intro e w' hs;unfold LeafSays at hs;rw[if_neg (by omega)] at hs;obtain ⟨vn',rfl,q1,q2⟩:=hs;exact ⟨rfl,⟨B,vt,vn',h1,q1,h3.trans ((q2.low h2).mono h1)⟩,q2.nbt h2⟩
theorem Q0C (h:Anc Q w W b t t.toks.length) (hn:t.nodes.length<=1073741823) (ht:t.toks.length<=1073741824):
  Calls prog 149 #[.pointer (some ⟨b,0,none⟩)] W fun e w'=> e= .returned (.int .i64 (-1))/\Anc Q w w' b t t.toks.length/\NBt 157 b W w':=by
 obtain ⟨B,vt,vn,h1,h2,h3⟩:=h;refine (D6 h2 hn ht (rl_ _)).mono ?_;intro e w' hs;unfold LeafSays at hs;rw[if_pos rfl] at hs;obtain ⟨rfl,q1,q2⟩:=hs;exact ⟨rfl,⟨B,vt,vn,h1,q1,h3.trans ((q2.low h2).mono h1)⟩,q2.nbt h2⟩
theorem Q6v {used:Nat} (h:Anc Q w W b t used) (hn:t.nodes.length<=1073741823) {P:Nat->Prop} {v:Value} {l:List Int} (hk:RdS W P 1 v l.length (intCells l)) (hP:∀ k,P k->k < W.heap.size) (hl:l.length<=1073741824) (hQ:∀ k,W.heap.size<=k->Q k) (kind:Int) (hok:l.any (badKid t.nodes.length)=false):
  Calls prog 151 #[.pointer (some ⟨b,0,none⟩),.int .i64 kind,v] W fun e w'=> e= .returned (.int .i64 t.nodes.length)/\Anc Q w w' b ⟨t.toks,t.nodes++ [⟨kind,-1,l⟩]⟩ used/\NBt 157 b W w':=by
 obtain ⟨B,vt,vn,h1,h2,h3⟩:=h;refine (D7 h2 hn hk hP hl hQ kind).mono ?_;intro e w' hs;unfold NodeSays at hs;rw[if_neg (by simp[hok])] at hs;obtain ⟨vn',rfl,q1,q2⟩:=hs;exact ⟨rfl,⟨B,vt,vn',h1,q1,h3.trans ((q2.low h2).mono h1)⟩,q2.nbt h2⟩
theorem Q0D {used:Nat} (h:Anc Q w W b t used) (hn:t.nodes.length<=1073741823) {P:Nat->Prop} {v:Value} {l:List Int} (hk:RdS W P 1 v l.length (intCells l)) (hP:∀ k,P k->k < W.heap.size) (hl:l.length<=1073741824) (hQ:∀ k,W.heap.size<=k->Q k) (kind:Int) (hok:l.any (badKid t.nodes.length)=true):
  Calls prog 151 #[.pointer (some ⟨b,0,none⟩),.int .i64 kind,v] W fun e w'=> e= .returned (.int .i64 (-1))/\Anc Q w w' b t used/\NBt 157 b W w':=by
 obtain ⟨B,vt,vn,h1,h2,h3⟩:=h;refine (D7 h2 hn hk hP hl hQ kind).mono ?_;intro e w' hs;unfold NodeSays at hs;rw[if_pos hok] at hs;obtain ⟨rfl,q1,q2⟩:=hs;exact ⟨rfl,⟨B,vt,vn,h1,q1,h3.trans ((q2.low h2).mono h1)⟩,q2.nbt h2⟩
theorem Q6w {used:Nat} (h:Anc Q w W b t used) (hn:t.nodes.length<=1073741823) (ht:t.toks.length<=1073741824) (hkids:∀ n∈t.nodes,n.kids.length<=1073741824):
  Calls prog 113 #[.pointer (some ⟨b,0,none⟩)] W fun e w'=> ∃ vt' vn',e= .returned (.agg #[vt',vn'])/\RdT w' (fun k=> W.heap.size<=k/\k < w'.heap.size) vt' vn' t/\Below W.heap.size W w':=by
 obtain ⟨B,vt,vn,h1,h2,h3⟩:=h;exact Q3e h2 hn ht hkids
theorem BuildI.grown {used:Nat} (h:BuildI Q w B b vt vn t used) (hs:w.heap.size<=w'.heap.size) (hT:∀ (k:Nat) (cs:Array Value) (T:TypeId),w.heap[k]? =some (.cells cs T (0,0))->T≠3->w'.heap[k]? =w.heap[k]?)
  (hq:∀ k,Q k->k < w.heap.size->w'.heap[k]? =w.heap[k]?):BuildI Q w' B b vt vn t used:=by
 have hbpt:∀ T k,w'.heap[k]? =w.heap[k]? ->BPt T w B b vn k->BPt T w' B b vn k:=fun T k he hk=> ⟨hk.1.size hs,hk.2.imp fun cs hc=> he.trans hc⟩;have hkt:Keeps (BPt 197 w B b vn) w w':=fun k hk=> by
  obtain ⟨cs,hc⟩:=hk.2;exact hT k cs _ hc (by decide)
 obtain ⟨kvs,hk1,hk2,hk3⟩:=h.nodes;refine ⟨by rw[hT b _ _ h.cell (by decide)];exact h.cell,h.base,h.ne,(h.toks.keep hkt).imp fun k hk=> hbpt _ k (hkt k hk) hk,kvs,hk1,Qk hk2 fun k hk=> ?_,fun i n kv hin hkv=> ?_⟩
 ·obtain ⟨cur,hc⟩:=Qm hk2 hk;exact hT k cur _ hc (by decide)
 ·have hki:Keeps (BPq Q 3 w B b vn) w w':=fun k hk=> hq k hk.2 hk.1.1.2.2.2;exact ((hk3 i n kv hin hkv).keep hki).imp fun k hk=> ⟨hbpt _ k (hki k hk) hk.1,hk.2⟩
theorem Anc.grown {w W W':World} {b base n:Nat} {t:Tr.T} {used:Nat} {v:Value} {xs:List Value} (h:Anc Q w W b t used) (ho:W.ownsRow base 3 1 v n xs) (hbase:w.heap.size<=base) (hv:∀ k,v.ownBlock=some k->¬ Q k) (hg:W.grownBy W' v.ownBlock):Anc Q w W' b t used:=by
 obtain ⟨B,vt,vn,h1,h2,h3⟩:=h;refine ⟨B,vt,vn,h1,h2.grown hg.size (fun k cs T hkk hT=> hg.block k (Q4 hkk) fun e=> ?_) (fun k hq hk=> hg.block k hk fun e=> hv k e.symm hq),h3.grown hg h3.size fun k e=> eE_ hbase (ho.lt k e).1⟩;obtain ⟨cur,hc⟩:=Qm ho e.symm;rw[hkk] at hc;simp only[Option.some.injEq,Obj.cells.injEq] at hc;exact hT hc.2.1
theorem BuildI.imp {R:Nat->Prop} {w:World} {B b:Nat} {vt vn:Value} {t:Tr.T} {used:Nat} (h:BuildI Q w B b vt vn t used) (hq:∀ k,k < w.heap.size->Q k->R k):BuildI R w B b vt vn t used:=by
 obtain ⟨kvs,hk1,hk2,hk3⟩:=h.nodes;exact ⟨h.cell,h.base,h.ne,h.toks,kvs,hk1,hk2,fun i n kv hin hkv=> (hk3 i n kv hin hkv).imp fun k hk=> ⟨hk.1,hq k hk.1.1.2.2.2 hk.2⟩⟩
theorem Anc.imp {R:Nat->Prop} {w W:World} {b:Nat} {t:Tr.T} {used:Nat} (h:Anc Q w W b t used) (hq:∀ k,k < W.heap.size->Q k->R k):Anc R w W b t used:=by
 obtain ⟨B,vt,vn,h1,h2,h3⟩:=h;exact ⟨B,vt,vn,h1,h2.imp hq,h3⟩
end
end Go.Proofs.YtiecccakcenobaaGreatDoor
namespace Go.Proofs.YtiecccakcenobaaGreatDoor.Ps
open Tryz
open Tr
structure St where
 nodes:List Nd
 used:Nat
 clause:Bool
 e:Int
 pos:Int
def tLet:List UInt8:= [108,101,116]
def tIn:List UInt8:= [105,110]
def tIf:List UInt8:= [105,102]
def tThen:List UInt8:= [116,104,101,110]
def tElse:List UInt8:= [101,108,115,101]
def tAssert:List UInt8:= [97,115,115,101,114,116]
def tTrue:List UInt8:= [116,114,117,101]
def tFalse:List UInt8:= [102,97,108,115,101]
def tNot:List UInt8:= [110,111,116]
def tRes:List UInt8:= [114,101,115]
def sOr:List (List UInt8):= [[124,124]]
def sAnd:List (List UInt8):= [[38,38]]
def sCmp:List (List UInt8):= [[61], [60,62], [60], [60,61], [62], [62,61]]
def sSum:List (List UInt8):= [[43], [45]]
def sMul:List (List UInt8):= [[42], [47], [37]]
section
variable (tk:List Tk)
def peek (u:Nat):Tk:=(tk[min u (tk.length - 1)]?).getD ⟨0, [], [],0⟩
def nextB (ts:List (List UInt8)) (u:Nat):Bool:=(decide ((peek tk u).kind=2) || decide ((peek tk u).kind=4)) && ts.contains (peek tk u).text
def fail (e:Int) (s:St):St:=if s.e=0 then {s with e:=e,pos:=(peek tk s.used).pos} else s
def leaf (s:St):Int × St:=if s.used=tk.length then (-1,s) else ((s.nodes.length:Int),{s with nodes:=s.nodes++ [⟨19,(s.used:Int), []⟩],used:=s.used+1})
def must (ts:List (List UInt8)) (s:St):Int × St:=if s.e=0/\nextB tk ts s.used=true then leaf tk s else (0,fail tk 22 s)
def kind (k:Int) (s:St):Int × St:=if s.e=0/\(peek tk s.used).kind=k then leaf tk s else (0,fail tk 22 s)
def node (k:Int) (l:List Int) (s:St):Int × St:=
 if s.e=0 then
  if l.any (fun x=> decide (x < 0) || decide ((s.nodes.length:Int)<=x)) then (-1,s) else ((s.nodes.length:Int),{s with nodes:=s.nodes++ [⟨k,-1,l⟩]})
 else (0,s)
def deep (d:Nat) (s:St):St:=if d=0 then fail tk 23 s else s
abbrev F:=St->Int × St
def rowGo (part:F) (ts:List (List UInt8)) (once:Bool):Nat->Int->St->Int × St
 | 0,a,s=> (a,s)
 | n+1,a,s=>
  if s.e=0/\nextB tk ts s.used=true then
   if once then node 10 [a,(leaf tk s).1,(part (leaf tk s).2).1] (part (leaf tk s).2).2
   else rowGo part ts once n (node 10 [a,(leaf tk s).1,(part (leaf tk s).2).1] (part (leaf tk s).2).2).1 (node 10 [a,(leaf tk s).1,(part (leaf tk s).2).1] (part (leaf tk s).2).2).2
  else (a,s)
def row (part:F) (ts:List (List UInt8)) (once:Bool) (s:St):Int × St:=rowGo tk part ts once tk.length (part s).1 (part s).2
def unary (d:Nat) (behind:F) (s:St):Int × St:=
 if (deep tk d (leaf tk s).2).e=0 then node 11 [(leaf tk s).1,(behind (deep tk d (leaf tk s).2)).1] (behind (deep tk d (leaf tk s).2)).2 else (0,deep tk d (leaf tk s).2)
def listGo (one:F):Nat->List Int->St->List Int × St
 | 0,ks,s=> (ks,fail tk 15 s)
 | k+1,ks,s=>
  if s.e=0 then
   if (one s).2.e=0/\nextB tk [[44]] (one s).2.used=true then listGo one k (ks++ [(one s).1,(leaf tk (one s).2).1]) (leaf tk (one s).2).2
   else (ks++ [(one s).1],(one s).2)
  else (ks,s)
def list (one:F) (s:St):List Int × St:=if nextB tk [[41]] s.used=true then ([],s) else listGo tk one 8 [] s
structure Lv where
 ex:F
 fo:F
 ne:F
 fa:F
def callee (s:St) (a:Int):List Int × St:=if nextB tk [[46]] s.used=true then ([a,(leaf tk s).1,(kind tk 1 (leaf tk s).2).1],(kind tk 1 (leaf tk s).2).2) else ([a],s)
def call (ex:F) (l:List Int) (s:St):Int × St:=
 let p:=must tk [[40]] s;let ls:=list tk ex p.2;let q:=must tk [[41]] ls.2
 node 13 (l++ [p.1]++ls.1++ [q.1]) q.2
def name (ex:F) (s:St):Int × St:=
 let a:=leaf tk s
 if a.2.clause || !nextB tk [[46], [40]] a.2.used then node 14 [a.1] a.2
 else call tk ex (callee tk a.2 a.1).1 (callee tk a.2 a.1).2
def group (ex:F) (s:St):Int × St:=
 let a:=leaf tk s;let b:=ex a.2;let c:=must tk [[41]] b.2
 node 12 [a.1,b.1,c.1] c.2
def atom (ex:F) (s:St):Int × St:=
 if s.e=0 then
  if (peek tk s.used).kind=3 then node 15 [(leaf tk s).1] (leaf tk s).2
  else if nextB tk [tTrue,tFalse] s.used then node 16 [(leaf tk s).1] (leaf tk s).2
  else if s.clause && nextB tk [tRes] s.used then node 17 [(leaf tk s).1] (leaf tk s).2
  else if nextB tk [[40]] s.used then group tk ex s
  else if (peek tk s.used).kind=1 then name tk ex s
  else (0,fail tk 22 s)
 else (0,s)
def factor (d:Nat) (lo:Lv) (s:St):Int × St:=if s.e=0/\nextB tk [[45]] s.used=true then unary tk d lo.fa s else atom tk lo.ex s
def product (d:Nat) (lo:Lv):F:=row tk (factor tk d lo) sMul false
def sum (d:Nat) (lo:Lv):F:=row tk (product tk d lo) sSum false
def comparison (d:Nat) (lo:Lv):F:=row tk (sum tk d lo) sCmp true
def negation (d:Nat) (lo:Lv) (s:St):Int × St:=if s.e=0/\nextB tk [tNot] s.used=true then unary tk d lo.ne s else comparison tk d lo s
def conjunction (d:Nat) (lo:Lv):F:=row tk (negation tk d lo) sAnd false
def disjunction (d:Nat) (lo:Lv):F:=row tk (conjunction tk d lo) sOr false
def formula (d:Nat) (lo:Lv) (s:St):Int × St:=
 let a:=disjunction tk d lo s
 if a.2.e=0/\nextB tk [[61,62]] a.2.used=true then
  let g:=leaf tk a.2;let s2:=deep tk d g.2
  if s2.e=0 then
   let f:=lo.fo s2
   node 10 [a.1,g.1,f.1] f.2
  else (0,s2)
 else a
def exLet (ex:F) (s:St):Int × St:=
 let a:=leaf tk s;let b:=kind tk 1 a.2;let c:=must tk [[61]] b.2;let d:=ex c.2;let e:=must tk [tIn] d.2;let f:=ex e.2
 node 7 [a.1,b.1,c.1,d.1,e.1,f.1] f.2
def exIf (ex:F) (s:St):Int × St:=
 let a:=leaf tk s;let b:=ex a.2;let c:=must tk [tThen] b.2;let d:=ex c.2;let e:=must tk [tElse] d.2;let f:=ex e.2
 node 8 [a.1,b.1,c.1,d.1,e.1,f.1] f.2
def exAssert (ex:F) (s:St):Int × St:=
 let a:=leaf tk s;let b:=ex a.2;let c:=must tk [tIn] b.2;let d:=ex c.2
 node 9 [a.1,b.1,c.1,d.1] d.2
def express (d:Nat) (lo:Lv) (s:St):Int × St:=
 if s.e=0 then
  if s.clause then formula tk d lo s
  else if nextB tk [tLet] s.used then exLet tk lo.ex s
  else if nextB tk [tIf] s.used then exIf tk lo.ex s
  else if nextB tk [tAssert] s.used then exAssert tk lo.ex s
  else formula tk d lo s
 else (0,s)
def lv:Nat->Lv
 | 0=> ⟨fun s=> (0,fail tk 23 s),fun s=> (0,fail tk 23 s),fun s=> (0,fail tk 23 s),fun s=> (0,fail tk 23 s)⟩
 | d+1=> ⟨express tk d (lv d),formula tk d (lv d),negation tk d (lv d),factor tk d (lv d)⟩
variable (ex:F)
def alone (s:St):Int × St:=
 let f:=ex {s with clause:=true};let c:=kind tk 5 f.2
 node 18 [f.1,c.1] c.2
end
def St.first:St:=⟨[],0,false,0,0⟩
end Go.Proofs.YtiecccakcenobaaGreatDoor.Ps
