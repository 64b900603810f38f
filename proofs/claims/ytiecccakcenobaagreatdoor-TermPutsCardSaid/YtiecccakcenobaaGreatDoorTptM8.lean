/- A part of the proof. -/
import Derived.Test.YtiecccakcenobaaGreatDoorTptM7
set_option linter.all false
set_option maxRecDepth 100000
set_option maxHeartbeats 64000000
namespace Go.Proofs.YtiecccakcenobaaGreatDoor
open Tryz
open Go.RowKit
variable {a:Act} {ops:Array Oper} {n:Int} {l m:List Int} {o:Oper} {s:Ps.St} {v:Value} {V V' W:World}
section
variable {w0:World} {p b:Nat} {tk:List Tr.Tk} {dp:Int}
def tokBox (t:Tr.Tk):Obj:= .cells #[.int .i64 t.kind,.string ⟨t.lead.toArray⟩,.string ⟨t.text.toArray⟩,.int .i64 t.pos] 197
theorem Qy {Q:Nat→Prop} (h:PI Q w0 V p b tk dp s) (hi:Pc.Inv tk s) (hl:tk.length≤1000000) (ts:List (List UInt8)) (hts:ts.length≤1000) {y:Bool} (hy:Ps.nextB tk ts s.used=y):
  Calls prog 148 #[.pointer (some ⟨p,0,none⟩),.slice (some ⟨V.heap.size,0,none⟩) ts.length ts.length] (V.alloc (.cells (strCells ts).toArray 9)) fun e W'=> e= .returned (.bool y)∧Below V.heap.size V W':=by
 have hal:Below V.heap.size V (V.alloc (.cells (strCells ts).toArray 9)):=(eB_ _ _).alloc (rl_ _) _;have hnx:=QQ (ts:=ts) (h.past hal) (Pc.Qd hi hl) (QR V ts rfl) (fun k hk=> by rw[hk, ←Q5];omega) hts;rw[hy] at hnx;refine hnx.mono ?_;rintro e W' ⟨rfl,hb⟩;exact ⟨rfl,hal.trans (hb.mono hal.size)⟩
theorem Yd {Q:Nat→Prop} (h:PI Q w0 V p b tk dp s) (hi:Pc.Inv tk s) (hl:tk.length≤1000000) (hQ:Up Q V) (l:List Int) (hn:l.length≤1000) (k:Int):
  Calls prog 115 #[.pointer (some ⟨p,0,none⟩),.int .i64 k,.slice (some ⟨V.heap.size,0,none⟩) l.length l.length] (V.alloc (.cells (intCells l).toArray 3)) fun e W'=> e= .returned (.int .i64 (Ps.node k l s).1)∧PI Q w0 W' p b tk dp (Ps.node k l s).2∧FrT PTs V W':=by
 have hal:Below V.heap.size V (V.alloc (.cells (intCells l).toArray 3)):=(eB_ _ _).alloc (rl_ _) _;refine (Xe (h.past hal) (Pc.Qd hi hl) (Xn V l rfl) (fun k hk=> by rw[hk, ←Q5];omega) (by omega) (hQ.size hal.size) k).mono ?_;rintro e W' ⟨rfl,h1,g1⟩;exact ⟨rfl,h1,(FrT.of hal).trans g1⟩
theorem Q1E (ht:Pc.Toks tk) (hl:tk.length≤1000000) {n:Int} (hn0:0≤n) (hn1:n≤300) {ex:Ps.F} {g:Pr.G} (hx:Pc.Sim tk ex g) (hex:Knows w0 p b tk dp 114 #[.pointer (some ⟨p,0,none⟩),.int .i64 (n+1)] ex)
  (hname:∀ (Q:Nat→Prop) (W:World) (s:Ps.St),Up Q W→PI Q w0 W p b tk dp s→Pc.Inv tk s→s.e=0→(Ps.peek tk s.used).kind=1→Calls prog 249 #[.pointer (some ⟨p,0,none⟩),.int .i64 n] W (Does Q w0 p b tk dp (Ps.name tk ex s) W)):
  Knows w0 p b tk dp 243 #[.pointer (some ⟨p,0,none⟩),.int .i64 n] (Ps.atom tk ex):=by
 intro Q W s hQ h hi;have hpk:=JU h.anc (Pc.Qd hi hl).1 hl (Pc.Qd hi hl).2.2.1;obtain ⟨t,htk⟩:∃ t,Ps.peek tk s.used=t:=⟨_,rfl⟩
 rw[htk] at hpk;have HPK:=hd_ hpk;have c0:=h.c0;have H:=h5_ ht hl hx hex hname;have HP:=h4_ h hi hQ htk;have HLF:=hd_ (fun (V:World) hV=> Qz (Q:=Q) (W:=V) (p:=p) (b:=b) (w0:=w0) (dp:=dp) (s:=s) hV (Pc.Qd hi hl));have HOGL:=hd_ (fun he hk=> (Pc.Og.nil hi).leaf ht he hk);unfold Ps.atom;rw[htk];obtain ⟨kd,ld,tx,ps⟩:=t;dsimp only at HPK ⊢;clear hpk htk h hi hQ ht hl hx hex hname;by_cases he:s.e=0
 ·rw[if_pos he];have HE:=hd_ he;have hed:decide (s.e=0)=true:=eM_ he;clear he;by_cases h3:kd=3
  ·subst h3;rw[if_pos rfl];go_in;go_wp2_with fail;refine HPK.o.mono ?_;rintro e W1 ⟨rfl,hb1⟩;have H1:=hd_ hb1;clear hb1 c0;dsimp only;go_wp2_with fail;have hok:=Qr (HP.a.past (H1.o.alloc H1.o.size (tokBox ⟨3,ld,tx,ps⟩)));rw[hed] at hok;have hbx:(W1.alloc (tokBox ⟨3,ld,tx,ps⟩)).heap[W1.heap.size]? =some (.cells #[.int .i64 3,.string ⟨ld.toArray⟩,.string ⟨tx.toArray⟩,.int .i64 ps] 197 (0,0)):=eD_ _ _;have HV:=h2_ (H1.o.alloc H1.o.size (tokBox ⟨3,ld,tx,ps⟩)) hbx;refine hok.mono ?_;rintro e V1 ⟨rfl,rfl⟩;have k0:=Q3 HV.B 0 rfl;have c2:=(HP.a.past HV.a).c2;have c0:=(HP.a.past HV.a).c0;change Hid (Below W.heap.size W (W1.alloc (tokBox ⟨3,ld,tx,ps⟩))∧_) at HV;clear hok hbx;generalize hV1:W1.alloc (tokBox ⟨3,ld,tx,ps⟩)=V at*;clear hV1;dsimp only;go_wp2_with fail;refine (HLF.o _ (HP.a.past HV.a)).mono ?_;rintro e W5 ⟨rfl,h5,g5⟩;have H5:=h2_ h5 ((FrT.of HV.a).trans g5);clear h5 g5 k0 c0 c2;dsimp only;go_wp2_with fail;refine (Yd H5.a (HOGL.o HE.o (by rw[HP.D];show (3:Int)≠5;decide)).1.inv H.b (HP.c.frt H5.B) [(Ps.leaf tk s).1] (by simp) 15).mono ?_;rintro e W6 ⟨rfl,h6,g6⟩;have H6:=h2_ h6 (H5.B.trans g6);clear h6 g6;dsimp only;go_wp2_with fail;go_ret;exact ⟨rfl,H6.a,H6.B⟩
  ·rw[if_neg h3];have k3:(kd==3)=false:=(by simpa using h3);clear h3;by_cases h2:Ps.nextB tk [Ps.tTrue,Ps.tFalse] s.used=true
   ·rw[if_pos h2];have HY2:=hd_ h2;clear h2;go_in;go_wp2_with fail;refine HPK.o.mono ?_;rintro e W1 ⟨rfl,hb1⟩;have H1:=hd_ hb1;clear hb1 c0;dsimp only;go_wp2_with fail;have hok:=Qr (HP.a.past (H1.o.alloc H1.o.size (tokBox ⟨kd,ld,tx,ps⟩)));rw[hed] at hok;have hbx:(W1.alloc (tokBox ⟨kd,ld,tx,ps⟩)).heap[W1.heap.size]? =some (.cells #[.int .i64 kd,.string ⟨ld.toArray⟩,.string ⟨tx.toArray⟩,.int .i64 ps] 197 (0,0)):=eD_ _ _;have HV:=h2_ (H1.o.alloc H1.o.size (tokBox ⟨kd,ld,tx,ps⟩)) hbx;refine hok.mono ?_;rintro e V1 ⟨rfl,rfl⟩;have k0:=Q3 HV.B 0 rfl;have c2:=(HP.a.past HV.a).c2;have c0:=(HP.a.past HV.a).c0;change Hid (Below W.heap.size W (W1.alloc (tokBox ⟨kd,ld,tx,ps⟩))∧_) at HV;clear hok hbx;generalize hV1:W1.alloc (tokBox ⟨kd,ld,tx,ps⟩)=V at*;clear hV1;dsimp only;go_wp2_with fail;refine (Qy (HP.a.past HV.a) HP.b H.b [Ps.tTrue,Ps.tFalse] (by simp) HY2.o).mono ?_;rintro e V2 ⟨rfl,hb⟩;have HV2:=h2_ (HV.a.trans (hb.mono HV.a.size)) (Qa HV.B hb);clear hb k0 c0 c2;have k0:=Q3 HV2.B 0 rfl;have c2:=(HP.a.past HV2.a).c2;have c0:=(HP.a.past HV2.a).c0;dsimp only;go_wp2_with fail;refine (HLF.o _ (HP.a.past HV2.a)).mono ?_;rintro e W5 ⟨rfl,h5,g5⟩;have H5:=h2_ h5 ((FrT.of HV2.a).trans g5);clear h5 g5 k0 c0 c2;dsimp only;go_wp2_with fail;refine (Yd H5.a (HOGL.o HE.o (Pc.Qp HY2.o)).1.inv H.b (HP.c.frt H5.B) [(Ps.leaf tk s).1] (by simp) 16).mono ?_;rintro e W6 ⟨rfl,h6,g6⟩;have H6:=h2_ h6 (H5.B.trans g6);clear h6 g6;dsimp only;go_wp2_with fail;go_ret;exact ⟨rfl,H6.a,H6.B⟩
   ·rw[if_neg h2];rw[Bool.not_eq_true] at h2;have HY2:=hd_ h2;clear h2;by_cases h4:(s.clause && Ps.nextB tk [Ps.tRes] s.used)=true
    ·rw[if_pos h4];have hcl:s.clause=true:=(by simp only[Bool.and_eq_true] at h4;exact h4.1);have HY4:=hd_ (show Ps.nextB tk [Ps.tRes] s.used=true by simp only[Bool.and_eq_true] at h4;exact h4.2);clear h4;go_in;go_wp2_with fail;refine HPK.o.mono ?_;rintro e W1 ⟨rfl,hb1⟩;have H1:=hd_ hb1;clear hb1 c0;dsimp only;go_wp2_with fail;have hok:=Qr (HP.a.past (H1.o.alloc H1.o.size (tokBox ⟨kd,ld,tx,ps⟩)));rw[hed] at hok;have hbx:(W1.alloc (tokBox ⟨kd,ld,tx,ps⟩)).heap[W1.heap.size]? =some (.cells #[.int .i64 kd,.string ⟨ld.toArray⟩,.string ⟨tx.toArray⟩,.int .i64 ps] 197 (0,0)):=eD_ _ _;have HV:=h2_ (H1.o.alloc H1.o.size (tokBox ⟨kd,ld,tx,ps⟩)) hbx;refine hok.mono ?_;rintro e V1 ⟨rfl,rfl⟩;have k0:=Q3 HV.B 0 rfl;have c2:=(HP.a.past HV.a).c2;have c0:=(HP.a.past HV.a).c0;change Hid (Below W.heap.size W (W1.alloc (tokBox ⟨kd,ld,tx,ps⟩))∧_) at HV;clear hok hbx;generalize hV1:W1.alloc (tokBox ⟨kd,ld,tx,ps⟩)=V at*;clear hV1;dsimp only;go_wp2_with fail;refine (Qy (HP.a.past HV.a) HP.b H.b [Ps.tTrue,Ps.tFalse] (by simp) HY2.o).mono ?_;rintro e V2 ⟨rfl,hb⟩;have HV2:=h2_ (HV.a.trans (hb.mono HV.a.size)) (Qa HV.B hb);clear hb k0 c0 c2;have k0:=Q3 HV2.B 0 rfl;have c2:=(HP.a.past HV2.a).c2;have c0:=(HP.a.past HV2.a).c0;rw[hcl] at c2;dsimp only;go_wp2_with fail;refine (Qy (HP.a.past HV2.a) HP.b H.b [Ps.tRes] (by simp) HY4.o).mono ?_;rintro e V4 ⟨rfl,hb⟩;have HV4:=h2_ (HV2.a.trans (hb.mono HV2.a.size)) (Qa HV2.B hb);clear hb k0 c0 c2;have k0:=Q3 HV4.B 0 rfl;have c2:=(HP.a.past HV4.a).c2;have c0:=(HP.a.past HV4.a).c0;dsimp only;go_wp2_with fail;refine (HLF.o _ (HP.a.past HV4.a)).mono ?_;rintro e W5 ⟨rfl,h5,g5⟩;have H5:=h2_ h5 ((FrT.of HV4.a).trans g5);clear h5 g5 k0 c0 c2;dsimp only;go_wp2_with fail;refine (Yd H5.a (HOGL.o HE.o (Pc.Qp HY4.o)).1.inv H.b (HP.c.frt H5.B) [(Ps.leaf tk s).1] (by simp) 17).mono ?_;rintro e W6 ⟨rfl,h6,g6⟩;have H6:=h2_ h6 (H5.B.trans g6);clear h6 g6;dsimp only;go_wp2_with fail;go_ret;exact ⟨rfl,H6.a,H6.B⟩
    ·rw[if_neg h4];cases hcl:s.clause
     ·clear h4;by_cases h6:Ps.nextB tk [[40]] s.used=true
      ·rw[if_pos h6];have HY6:=hd_ h6;clear h6;go_in;go_wp2_with fail;refine HPK.o.mono ?_;rintro e W1 ⟨rfl,hb1⟩;have H1:=hd_ hb1;clear hb1 c0;dsimp only;go_wp2_with fail;have hok:=Qr (HP.a.past (H1.o.alloc H1.o.size (tokBox ⟨kd,ld,tx,ps⟩)));rw[hed] at hok;have hbx:(W1.alloc (tokBox ⟨kd,ld,tx,ps⟩)).heap[W1.heap.size]? =some (.cells #[.int .i64 kd,.string ⟨ld.toArray⟩,.string ⟨tx.toArray⟩,.int .i64 ps] 197 (0,0)):=eD_ _ _;have HV:=h2_ (H1.o.alloc H1.o.size (tokBox ⟨kd,ld,tx,ps⟩)) hbx;refine hok.mono ?_;rintro e V1 ⟨rfl,rfl⟩;have k0:=Q3 HV.B 0 rfl;have c2:=(HP.a.past HV.a).c2;have c0:=(HP.a.past HV.a).c0;change Hid (Below W.heap.size W (W1.alloc (tokBox ⟨kd,ld,tx,ps⟩))∧_) at HV;clear hok hbx;generalize hV1:W1.alloc (tokBox ⟨kd,ld,tx,ps⟩)=V at*;clear hV1;dsimp only;go_wp2_with fail;refine (Qy (HP.a.past HV.a) HP.b H.b [Ps.tTrue,Ps.tFalse] (by simp) HY2.o).mono ?_;rintro e V2 ⟨rfl,hb⟩;have HV2:=h2_ (HV.a.trans (hb.mono HV.a.size)) (Qa HV.B hb);clear hb k0 c0 c2;have k0:=Q3 HV2.B 0 rfl;have c2:=(HP.a.past HV2.a).c2;have c0:=(HP.a.past HV2.a).c0;rw[hcl] at c2;dsimp only;go_wp2_with fail;refine (Qy (HP.a.past HV2.a) HP.b H.b [[40]] (by simp) HY6.o).mono ?_;rintro e V6 ⟨rfl,hb⟩;have HV6:=h2_ (HV2.a.trans (hb.mono HV2.a.size)) (Qa HV2.B hb);clear hb k0 c0 c2;have k0:=Q3 HV6.B 0 rfl;have c2:=(HP.a.past HV6.a).c2;have c0:=(HP.a.past HV6.a).c0;dsimp only;go_wp2_with fail;refine (HLF.o _ (HP.a.past HV6.a)).mono ?_;rintro e W5 ⟨rfl,h5,g5⟩;have H5:=h2_ h5 ((FrT.of HV6.a).trans g5);clear h5 g5 k0 c0 c2;dsimp only;go_wp2_with fail;have ho5:=(HOGL.o HE.o (Pc.Qp HY6.o)).1;refine (H.d Q _ _ (HP.c.frt H5.B) H5.a ho5.inv).mono ?_;rintro e W6 ⟨rfl,h6,g6⟩;have ho6:=ho5.then H.c;have H6:=h3_ h6 (H5.B.trans g6) ho6;clear h6 g6 ho5 ho6;dsimp only;go_wp2_with fail;have hal:Below W6.heap.size W6 (W6.alloc (.cells (strCells [[41]]).toArray 9)):=(eB_ _ _).alloc (rl_ _) _;refine (QX (ts:= [[41]]) (H6.a.past hal) (Pc.Qd H6.C.inv H.b) (QR W6 [[41]] rfl) (fun k hk=> by rw[hk, ←Q5];omega) (by simp)).mono ?_;rintro e W7 ⟨rfl,h7,g7⟩;have H7:=h3_ h7 (H6.b.trans ((FrT.of hal).trans g7)) (H6.C.then (Pc.X4 H.a [41]));clear h7 g7 hal;dsimp only;go_wp2_with fail;refine (Yd H7.a H7.C.inv H.b (HP.c.frt H7.b) [(Ps.leaf tk s).1,(ex (Ps.leaf tk s).2).1,(Ps.must tk [[41]] (ex (Ps.leaf tk s).2).2).1] (by simp) 12).mono ?_;rintro e W8 ⟨rfl,h8,g8⟩;have H8:=h2_ h8 (H7.b.trans g8);clear h8 g8;dsimp only;go_wp2_with fail;go_ret;exact ⟨rfl,H8.a,H8.B⟩
      ·rw[if_neg h6];rw[Bool.not_eq_true] at h6;have HY6:=hd_ h6;clear h6;by_cases h1:kd=1
       ·subst h1;rw[if_pos rfl];go_in;go_wp2_with fail;refine HPK.o.mono ?_;rintro e W1 ⟨rfl,hb1⟩;have H1:=hd_ hb1;clear hb1 c0;dsimp only;go_wp2_with fail;have hok:=Qr (HP.a.past (H1.o.alloc H1.o.size (tokBox ⟨1,ld,tx,ps⟩)));rw[hed] at hok;have hbx:(W1.alloc (tokBox ⟨1,ld,tx,ps⟩)).heap[W1.heap.size]? =some (.cells #[.int .i64 1,.string ⟨ld.toArray⟩,.string ⟨tx.toArray⟩,.int .i64 ps] 197 (0,0)):=eD_ _ _;have HV:=h2_ (H1.o.alloc H1.o.size (tokBox ⟨1,ld,tx,ps⟩)) hbx;refine hok.mono ?_;rintro e V1 ⟨rfl,rfl⟩;have k0:=Q3 HV.B 0 rfl;have c2:=(HP.a.past HV.a).c2;have c0:=(HP.a.past HV.a).c0;change Hid (Below W.heap.size W (W1.alloc (tokBox ⟨1,ld,tx,ps⟩))∧_) at HV;clear hok hbx;generalize hV1:W1.alloc (tokBox ⟨1,ld,tx,ps⟩)=V at*;clear hV1;dsimp only;go_wp2_with fail;refine (Qy (HP.a.past HV.a) HP.b H.b [Ps.tTrue,Ps.tFalse] (by simp) HY2.o).mono ?_;rintro e V2 ⟨rfl,hb⟩;have HV2:=h2_ (HV.a.trans (hb.mono HV.a.size)) (Qa HV.B hb);clear hb k0 c0 c2;have k0:=Q3 HV2.B 0 rfl;have c2:=(HP.a.past HV2.a).c2;have c0:=(HP.a.past HV2.a).c0;rw[hcl] at c2;dsimp only;go_wp2_with fail;refine (Qy (HP.a.past HV2.a) HP.b H.b [[40]] (by simp) HY6.o).mono ?_;rintro e V6 ⟨rfl,hb⟩;have HV6:=h2_ (HV2.a.trans (hb.mono HV2.a.size)) (Qa HV2.B hb);clear hb k0 c0 c2;have k0:=Q3 HV6.B 0 rfl;have c2:=(HP.a.past HV6.a).c2;have c0:=(HP.a.past HV6.a).c0;dsimp only;go_wp2_with fail;refine (H.E Q _ _ (HP.c.size HV6.a.size) (HP.a.past HV6.a) HP.b HE.o (by rw[HP.D])).mono ?_;rintro e W7 ⟨rfl,h7,g7⟩;have H7:=h2_ h7 ((FrT.of HV6.a).trans g7);clear h7 g7;dsimp only;go_wp2_with fail;go_ret;exact ⟨rfl,H7.a,H7.B⟩
       ·rw[if_neg h1];have k1:(kd==1)=false:=(by simpa using h1);clear h1;go_in;go_wp2_with fail;refine HPK.o.mono ?_;rintro e W1 ⟨rfl,hb1⟩;have H1:=hd_ hb1;clear hb1 c0;dsimp only;go_wp2_with fail;have hok:=Qr (HP.a.past (H1.o.alloc H1.o.size (tokBox ⟨kd,ld,tx,ps⟩)));rw[hed] at hok;have hbx:(W1.alloc (tokBox ⟨kd,ld,tx,ps⟩)).heap[W1.heap.size]? =some (.cells #[.int .i64 kd,.string ⟨ld.toArray⟩,.string ⟨tx.toArray⟩,.int .i64 ps] 197 (0,0)):=eD_ _ _;have HV:=h2_ (H1.o.alloc H1.o.size (tokBox ⟨kd,ld,tx,ps⟩)) hbx;refine hok.mono ?_;rintro e V1 ⟨rfl,rfl⟩;have k0:=Q3 HV.B 0 rfl;have c2:=(HP.a.past HV.a).c2;have c0:=(HP.a.past HV.a).c0;change Hid (Below W.heap.size W (W1.alloc (tokBox ⟨kd,ld,tx,ps⟩))∧_) at HV;clear hok hbx;generalize hV1:W1.alloc (tokBox ⟨kd,ld,tx,ps⟩)=V at*;clear hV1;dsimp only;go_wp2_with fail;refine (Qy (HP.a.past HV.a) HP.b H.b [Ps.tTrue,Ps.tFalse] (by simp) HY2.o).mono ?_;rintro e V2 ⟨rfl,hb⟩;have HV2:=h2_ (HV.a.trans (hb.mono HV.a.size)) (Qa HV.B hb);clear hb k0 c0 c2;have k0:=Q3 HV2.B 0 rfl;have c2:=(HP.a.past HV2.a).c2;have c0:=(HP.a.past HV2.a).c0;rw[hcl] at c2;dsimp only;go_wp2_with fail;refine (Qy (HP.a.past HV2.a) HP.b H.b [[40]] (by simp) HY6.o).mono ?_;rintro e V6 ⟨rfl,hb⟩;have HV6:=h2_ (HV2.a.trans (hb.mono HV2.a.size)) (Qa HV2.B hb);clear hb k0 c0 c2;have k0:=Q3 HV6.B 0 rfl;have c2:=(HP.a.past HV6.a).c2;have c0:=(HP.a.past HV6.a).c0;dsimp only;go_wp2_with fail;refine (Xd (HP.a.past HV6.a) (Pc.Qd HP.b H.b) 22).mono ?_;rintro e W7 ⟨rfl,h7,g7⟩;have H7:=h2_ h7 ((FrT.of HV6.a).trans g7);clear h7 g7;dsimp only;go_wp2_with fail;go_ret;exact ⟨rfl,H7.a,H7.B⟩
     ·have HY4:=hd_ (show Ps.nextB tk [Ps.tRes] s.used=false by rw[hcl,Bool.true_and,Bool.not_eq_true] at h4;exact h4);clear h4;by_cases h6:Ps.nextB tk [[40]] s.used=true
      ·rw[if_pos h6];have HY6:=hd_ h6;clear h6;go_in;go_wp2_with fail;refine HPK.o.mono ?_;rintro e W1 ⟨rfl,hb1⟩;have H1:=hd_ hb1;clear hb1 c0;dsimp only;go_wp2_with fail;have hok:=Qr (HP.a.past (H1.o.alloc H1.o.size (tokBox ⟨kd,ld,tx,ps⟩)));rw[hed] at hok;have hbx:(W1.alloc (tokBox ⟨kd,ld,tx,ps⟩)).heap[W1.heap.size]? =some (.cells #[.int .i64 kd,.string ⟨ld.toArray⟩,.string ⟨tx.toArray⟩,.int .i64 ps] 197 (0,0)):=eD_ _ _;have HV:=h2_ (H1.o.alloc H1.o.size (tokBox ⟨kd,ld,tx,ps⟩)) hbx;refine hok.mono ?_;rintro e V1 ⟨rfl,rfl⟩;have k0:=Q3 HV.B 0 rfl;have c2:=(HP.a.past HV.a).c2;have c0:=(HP.a.past HV.a).c0;change Hid (Below W.heap.size W (W1.alloc (tokBox ⟨kd,ld,tx,ps⟩))∧_) at HV;clear hok hbx;generalize hV1:W1.alloc (tokBox ⟨kd,ld,tx,ps⟩)=V at*;clear hV1;dsimp only;go_wp2_with fail;refine (Qy (HP.a.past HV.a) HP.b H.b [Ps.tTrue,Ps.tFalse] (by simp) HY2.o).mono ?_;rintro e V2 ⟨rfl,hb⟩;have HV2:=h2_ (HV.a.trans (hb.mono HV.a.size)) (Qa HV.B hb);clear hb k0 c0 c2;have k0:=Q3 HV2.B 0 rfl;have c2:=(HP.a.past HV2.a).c2;have c0:=(HP.a.past HV2.a).c0;rw[hcl] at c2;dsimp only;go_wp2_with fail;refine (Qy (HP.a.past HV2.a) HP.b H.b [Ps.tRes] (by simp) HY4.o).mono ?_;rintro e V4 ⟨rfl,hb⟩;have HV4:=h2_ (HV2.a.trans (hb.mono HV2.a.size)) (Qa HV2.B hb);clear hb k0 c0 c2;have k0:=Q3 HV4.B 0 rfl;have c2:=(HP.a.past HV4.a).c2;have c0:=(HP.a.past HV4.a).c0;dsimp only;go_wp2_with fail;refine (Qy (HP.a.past HV4.a) HP.b H.b [[40]] (by simp) HY6.o).mono ?_;rintro e V6 ⟨rfl,hb⟩;have HV6:=h2_ (HV4.a.trans (hb.mono HV4.a.size)) (Qa HV4.B hb);clear hb k0 c0 c2;have k0:=Q3 HV6.B 0 rfl;have c2:=(HP.a.past HV6.a).c2;have c0:=(HP.a.past HV6.a).c0;dsimp only;go_wp2_with fail;refine (HLF.o _ (HP.a.past HV6.a)).mono ?_;rintro e W5 ⟨rfl,h5,g5⟩;have H5:=h2_ h5 ((FrT.of HV6.a).trans g5);clear h5 g5 k0 c0 c2;dsimp only;go_wp2_with fail;have ho5:=(HOGL.o HE.o (Pc.Qp HY6.o)).1;refine (H.d Q _ _ (HP.c.frt H5.B) H5.a ho5.inv).mono ?_;rintro e W6 ⟨rfl,h6,g6⟩;have ho6:=ho5.then H.c;have H6:=h3_ h6 (H5.B.trans g6) ho6;clear h6 g6 ho5 ho6;dsimp only;go_wp2_with fail;have hal:Below W6.heap.size W6 (W6.alloc (.cells (strCells [[41]]).toArray 9)):=(eB_ _ _).alloc (rl_ _) _;refine (QX (ts:= [[41]]) (H6.a.past hal) (Pc.Qd H6.C.inv H.b) (QR W6 [[41]] rfl) (fun k hk=> by rw[hk, ←Q5];omega) (by simp)).mono ?_;rintro e W7 ⟨rfl,h7,g7⟩;have H7:=h3_ h7 (H6.b.trans ((FrT.of hal).trans g7)) (H6.C.then (Pc.X4 H.a [41]));clear h7 g7 hal;dsimp only;go_wp2_with fail;refine (Yd H7.a H7.C.inv H.b (HP.c.frt H7.b) [(Ps.leaf tk s).1,(ex (Ps.leaf tk s).2).1,(Ps.must tk [[41]] (ex (Ps.leaf tk s).2).2).1] (by simp) 12).mono ?_;rintro e W8 ⟨rfl,h8,g8⟩;have H8:=h2_ h8 (H7.b.trans g8);clear h8 g8;dsimp only;go_wp2_with fail;go_ret;exact ⟨rfl,H8.a,H8.B⟩
      ·rw[if_neg h6];rw[Bool.not_eq_true] at h6;have HY6:=hd_ h6;clear h6;by_cases h1:kd=1
       ·subst h1;rw[if_pos rfl];go_in;go_wp2_with fail;refine HPK.o.mono ?_;rintro e W1 ⟨rfl,hb1⟩;have H1:=hd_ hb1;clear hb1 c0;dsimp only;go_wp2_with fail;have hok:=Qr (HP.a.past (H1.o.alloc H1.o.size (tokBox ⟨1,ld,tx,ps⟩)));rw[hed] at hok;have hbx:(W1.alloc (tokBox ⟨1,ld,tx,ps⟩)).heap[W1.heap.size]? =some (.cells #[.int .i64 1,.string ⟨ld.toArray⟩,.string ⟨tx.toArray⟩,.int .i64 ps] 197 (0,0)):=eD_ _ _;have HV:=h2_ (H1.o.alloc H1.o.size (tokBox ⟨1,ld,tx,ps⟩)) hbx;refine hok.mono ?_;rintro e V1 ⟨rfl,rfl⟩;have k0:=Q3 HV.B 0 rfl;have c2:=(HP.a.past HV.a).c2;have c0:=(HP.a.past HV.a).c0;change Hid (Below W.heap.size W (W1.alloc (tokBox ⟨1,ld,tx,ps⟩))∧_) at HV;clear hok hbx;generalize hV1:W1.alloc (tokBox ⟨1,ld,tx,ps⟩)=V at*;clear hV1;dsimp only;go_wp2_with fail;refine (Qy (HP.a.past HV.a) HP.b H.b [Ps.tTrue,Ps.tFalse] (by simp) HY2.o).mono ?_;rintro e V2 ⟨rfl,hb⟩;have HV2:=h2_ (HV.a.trans (hb.mono HV.a.size)) (Qa HV.B hb);clear hb k0 c0 c2;have k0:=Q3 HV2.B 0 rfl;have c2:=(HP.a.past HV2.a).c2;have c0:=(HP.a.past HV2.a).c0;rw[hcl] at c2;dsimp only;go_wp2_with fail;refine (Qy (HP.a.past HV2.a) HP.b H.b [Ps.tRes] (by simp) HY4.o).mono ?_;rintro e V4 ⟨rfl,hb⟩;have HV4:=h2_ (HV2.a.trans (hb.mono HV2.a.size)) (Qa HV2.B hb);clear hb k0 c0 c2;have k0:=Q3 HV4.B 0 rfl;have c2:=(HP.a.past HV4.a).c2;have c0:=(HP.a.past HV4.a).c0;dsimp only;go_wp2_with fail;refine (Qy (HP.a.past HV4.a) HP.b H.b [[40]] (by simp) HY6.o).mono ?_;rintro e V6 ⟨rfl,hb⟩;have HV6:=h2_ (HV4.a.trans (hb.mono HV4.a.size)) (Qa HV4.B hb);clear hb k0 c0 c2;have k0:=Q3 HV6.B 0 rfl;have c2:=(HP.a.past HV6.a).c2;have c0:=(HP.a.past HV6.a).c0;dsimp only;go_wp2_with fail;refine (H.E Q _ _ (HP.c.size HV6.a.size) (HP.a.past HV6.a) HP.b HE.o (by rw[HP.D])).mono ?_;rintro e W7 ⟨rfl,h7,g7⟩;have H7:=h2_ h7 ((FrT.of HV6.a).trans g7);clear h7 g7;dsimp only;go_wp2_with fail;go_ret;exact ⟨rfl,H7.a,H7.B⟩
       ·rw[if_neg h1];have k1:(kd==1)=false:=(by simpa using h1);clear h1;go_in;go_wp2_with fail;refine HPK.o.mono ?_;rintro e W1 ⟨rfl,hb1⟩;have H1:=hd_ hb1;clear hb1 c0;dsimp only;go_wp2_with fail;have hok:=Qr (HP.a.past (H1.o.alloc H1.o.size (tokBox ⟨kd,ld,tx,ps⟩)));rw[hed] at hok;have hbx:(W1.alloc (tokBox ⟨kd,ld,tx,ps⟩)).heap[W1.heap.size]? =some (.cells #[.int .i64 kd,.string ⟨ld.toArray⟩,.string ⟨tx.toArray⟩,.int .i64 ps] 197 (0,0)):=eD_ _ _;have HV:=h2_ (H1.o.alloc H1.o.size (tokBox ⟨kd,ld,tx,ps⟩)) hbx;refine hok.mono ?_;rintro e V1 ⟨rfl,rfl⟩;have k0:=Q3 HV.B 0 rfl;have c2:=(HP.a.past HV.a).c2;have c0:=(HP.a.past HV.a).c0;change Hid (Below W.heap.size W (W1.alloc (tokBox ⟨kd,ld,tx,ps⟩))∧_) at HV;clear hok hbx;generalize hV1:W1.alloc (tokBox ⟨kd,ld,tx,ps⟩)=V at*;clear hV1;dsimp only;go_wp2_with fail;refine (Qy (HP.a.past HV.a) HP.b H.b [Ps.tTrue,Ps.tFalse] (by simp) HY2.o).mono ?_;rintro e V2 ⟨rfl,hb⟩;have HV2:=h2_ (HV.a.trans (hb.mono HV.a.size)) (Qa HV.B hb);clear hb k0 c0 c2;have k0:=Q3 HV2.B 0 rfl;have c2:=(HP.a.past HV2.a).c2;have c0:=(HP.a.past HV2.a).c0;rw[hcl] at c2;dsimp only;go_wp2_with fail;refine (Qy (HP.a.past HV2.a) HP.b H.b [Ps.tRes] (by simp) HY4.o).mono ?_;rintro e V4 ⟨rfl,hb⟩;have HV4:=h2_ (HV2.a.trans (hb.mono HV2.a.size)) (Qa HV2.B hb);clear hb k0 c0 c2;have k0:=Q3 HV4.B 0 rfl;have c2:=(HP.a.past HV4.a).c2;have c0:=(HP.a.past HV4.a).c0;dsimp only;go_wp2_with fail;refine (Qy (HP.a.past HV4.a) HP.b H.b [[40]] (by simp) HY6.o).mono ?_;rintro e V6 ⟨rfl,hb⟩;have HV6:=h2_ (HV4.a.trans (hb.mono HV4.a.size)) (Qa HV4.B hb);clear hb k0 c0 c2;have k0:=Q3 HV6.B 0 rfl;have c2:=(HP.a.past HV6.a).c2;have c0:=(HP.a.past HV6.a).c0;dsimp only;go_wp2_with fail;refine (Xd (HP.a.past HV6.a) (Pc.Qd HP.b H.b) 22).mono ?_;rintro e W7 ⟨rfl,h7,g7⟩;have H7:=h2_ h7 ((FrT.of HV6.a).trans g7);clear h7 g7;dsimp only;go_wp2_with fail;go_ret;exact ⟨rfl,H7.a,H7.B⟩
 ·rw[if_neg he];have hed:decide (s.e=0)=false:=eK_ he;go_in;go_wp2_with fail;refine HPK.o.mono ?_;rintro e W1 ⟨rfl,hb1⟩;have H1:=hd_ hb1;clear hb1 c0;dsimp only;go_wp2_with fail;have hok:=Qr (HP.a.past (H1.o.alloc H1.o.size (tokBox ⟨kd,ld,tx,ps⟩)));rw[hed] at hok;refine hok.mono ?_;rintro e V1 ⟨rfl,rfl⟩;have HV:=hd_ (H1.o.alloc H1.o.size (tokBox ⟨kd,ld,tx,ps⟩));clear hok;dsimp only;go_wp2_with fail;go_ret;exact ⟨rfl,HP.a.past HV.o,FrT.of HV.o⟩
end
section
variable {w0:World} {p b:Nat} {tk:List Tr.Tk} {dp:Int}
theorem UF (hl:tk.length≤1000000) {n:Int} (hd:n=dp+1):Knows w0 p b tk dp 114 #[.pointer (some ⟨p,0,none⟩),.int .i64 n] (Ps.lv tk 0).ex:=by
 intro Q W s hQ h hi;have hdp:=Yc (d:=0) h (Pc.Qd hi hl) (n:=n) (by simpa using hd);have he:(Ps.deep tk 0 s).e≠0:=by
  unfold Ps.deep;rw[if_pos rfl];unfold Ps.fail;by_cases h0:s.e=0
  ·rw[if_pos h0];show (23:Int)≠0;decide
  ·rw[if_neg h0];exact h0
 rw[eM_ he] at hdp;have HD:=hd_ hdp;have e1:(Ps.lv tk 0).ex s=(0,Ps.deep tk 0 s):=rfl;rw[e1];clear h hi hQ hdp he e1 hl hd;go_in;go_wp2_with fail;refine HD.o.mono ?_;rintro e W1 ⟨rfl,h,g⟩;have H1:=h2_ h g;clear h g;dsimp only;go_wp2_with fail;go_ret;exact ⟨rfl,H1.a,H1.B⟩
theorem JX (ht:Pc.Toks tk) (hl:tk.length≤1000000) {n:Int} {d:Nat} (hn0:0≤n) (hn1:n≤300) (hd:n+1+d=dp+1) {lo:Ps.Lv} {ex:Ps.F} (hlo:lo.ex=ex) {g:Pr.G} (hx:Pc.Sim tk ex g) (hex:Knows w0 p b tk dp 114 #[.pointer (some ⟨p,0,none⟩),.int .i64 (n+1)] ex)
  (hfo:Knows w0 p b tk dp 147 #[.pointer (some ⟨p,0,none⟩),.int .i64 n] (Ps.formula tk d lo)):
  Knows w0 p b tk dp 114 #[.pointer (some ⟨p,0,none⟩),.int .i64 n] (Ps.express tk d lo):=by
 intro Q W s hQ h hi;have hdp:=Yc (d:=d+1) h (Pc.Qd hi hl) (n:=n) (by omega);have hds:Ps.deep tk (d+1) s=s:=by unfold Ps.deep;rw[if_neg (by omega)]
 rw[hds] at hdp;have H:=h5_ ht hl hx hex hfo;have HP:=h3_ h hi hQ;unfold Ps.express;rw[hlo];by_cases he:s.e=0
 ·rw[if_pos he];rw[eK_ (by simp[he]:¬ s.e≠0)] at hdp;have HD:=hd_ hdp;have HE:=hd_ he;clear ht hl hx hex hfo h hi hQ hdp hds he hd hlo;cases hcl:s.clause
  ·rw[if_neg (by simp)];by_cases a:Ps.nextB tk [Ps.tLet] s.used=true
   ·rw[if_pos a];have HYa:=hd_ a;clear a;go_in;go_wp2_with fail;refine HD.o.mono ?_;rintro e V0 ⟨rfl,h,g⟩;have c2:=h.c2;rw[hcl] at c2;have H0:=h3_ h g (Pc.Og.nil HP.b);clear h g;dsimp only;go_wp2_with fail;refine (Qy H0.a HP.b H.b [Ps.tLet] (by simp) HYa.o).mono ?_;rintro e W0 ⟨rfl,hb⟩;have hq:=H0.o;clear H0;have H0:=h3_ (hq.1.past hb) (hq.2.1.trans (FrT.of hb)) hq.2.2;clear hb hq;have c0:=H0.a.c0;dsimp only;go_wp2_with fail;refine (Qz H0.a (Pc.Qd H0.C.inv H.b)).mono ?_;rintro e W1 ⟨rfl,h,g⟩;have H1:=h3_ h (H0.b.trans g) ((H0.C.leaf H.a HE.o (Pc.Qp HYa.o)).1);clear h g;obtain ⟨⟨x1,s1⟩,hx⟩:∃ r,Ps.leaf tk s=r:=⟨_,rfl⟩
    rw[hx] at H1 ⊢;have HX1:=hd_ hx;clear hx;dsimp only at H1 ⊢;go_wp2_with fail;refine (ZC H1.a (Pc.Qd H1.C.inv H.b) 1).mono ?_;rintro e W2 ⟨rfl,h,g⟩;have H2:=h3_ h (H1.b.trans g) (H1.C.then (Pc.JW H.a (k:=1) (by decide)));clear h g;obtain ⟨⟨x2,s2⟩,hx⟩:∃ r,Ps.kind tk 1 s1=r:=⟨_,rfl⟩
    rw[hx] at H2 ⊢;have HX2:=hd_ hx;clear hx;dsimp only at H2 ⊢;go_wp2_with fail;have hal:Below W2.heap.size W2 (W2.alloc (.cells (strCells [[61]]).toArray 9)):=(eB_ _ _).alloc (rl_ _) _;refine (QX (ts:= [[61]]) (H2.a.past hal) (Pc.Qd H2.C.inv H.b) (QR W2 [[61]] rfl) (fun k hk=> by rw[hk, ←Q5];omega) (by simp)).mono ?_;rintro e W3 ⟨rfl,h,g⟩;have H3:=h3_ h (H2.b.trans ((FrT.of hal).trans g)) (H2.C.then (Pc.X4 H.a [61]));clear h g hal;obtain ⟨⟨x3,s3⟩,hx⟩:∃ r,Ps.must tk [[61]] s2=r:=⟨_,rfl⟩
    rw[hx] at H3 ⊢;have HX3:=hd_ hx;clear hx;dsimp only at H3 ⊢;go_wp2_with fail;refine (H.d Q _ _ (HP.C.frt H3.b) H3.a H3.C.inv).mono ?_;rintro e W4 ⟨rfl,h,g⟩;have H4:=h3_ h (H3.b.trans g) (H3.C.then H.c);clear h g;obtain ⟨⟨x4,s4⟩,hx⟩:∃ r,ex s3=r:=⟨_,rfl⟩
    rw[hx] at H4 ⊢;have HX4:=hd_ hx;clear hx;dsimp only at H4 ⊢;go_wp2_with fail;have hal:Below W4.heap.size W4 (W4.alloc (.cells (strCells [Ps.tIn]).toArray 9)):=(eB_ _ _).alloc (rl_ _) _;refine (QX (ts:= [Ps.tIn]) (H4.a.past hal) (Pc.Qd H4.C.inv H.b) (QR W4 [Ps.tIn] rfl) (fun k hk=> by rw[hk, ←Q5];omega) (by simp)).mono ?_;rintro e W5 ⟨rfl,h,g⟩;have H5:=h3_ h (H4.b.trans ((FrT.of hal).trans g)) (H4.C.then (Pc.X4 H.a Ps.tIn));clear h g hal;obtain ⟨⟨x5,s5⟩,hx⟩:∃ r,Ps.must tk [Ps.tIn] s4=r:=⟨_,rfl⟩
    rw[hx] at H5 ⊢;have HX5:=hd_ hx;clear hx;dsimp only at H5 ⊢;go_wp2_with fail;refine (H.d Q _ _ (HP.C.frt H5.b) H5.a H5.C.inv).mono ?_;rintro e W6 ⟨rfl,h,g⟩;have H6:=h3_ h (H5.b.trans g) (H5.C.then H.c);clear h g;obtain ⟨⟨x6,s6⟩,hx⟩:∃ r,ex s5=r:=⟨_,rfl⟩
    rw[hx] at H6 ⊢;have HX6:=hd_ hx;clear hx;dsimp only at H6 ⊢;go_wp2_with fail;refine (Yd H6.a H6.C.inv H.b (HP.C.frt H6.b) [x1,x2,x3,x4,x5,x6] (by simp) 7).mono ?_;rintro e WN ⟨rfl,h,g⟩;have HN:=h2_ h (H6.b.trans g);clear h g;dsimp only;go_wp2_with fail;go_ret;have e1:Ps.exLet tk ex s=Ps.node 7 [x1,x2,x3,x4,x5,x6] s6:=by
     simp only[Ps.exLet,HX1.o,HX2.o,HX3.o,HX4.o,HX5.o,HX6.o]
    rw[e1];exact ⟨rfl,HN.a,HN.B⟩
   ·rw[if_neg a];rw[Bool.not_eq_true] at a;have HYa:=hd_ a;clear a;by_cases c:Ps.nextB tk [Ps.tIf] s.used=true
    ·rw[if_pos c];have HYc:=hd_ c;clear c;go_in;go_wp2_with fail;refine HD.o.mono ?_;rintro e V0 ⟨rfl,h,g⟩;have c2:=h.c2;rw[hcl] at c2;have H0:=h3_ h g (Pc.Og.nil HP.b);clear h g;dsimp only;go_wp2_with fail;refine (Qy H0.a HP.b H.b [Ps.tLet] (by simp) HYa.o).mono ?_;rintro e V1 ⟨rfl,hb⟩;have hq:=H0.o;clear H0;have H0:=h3_ (hq.1.past hb) (hq.2.1.trans (FrT.of hb)) hq.2.2;clear hb hq
     skip
     dsimp only;go_wp2_with fail;refine (Qy H0.a HP.b H.b [Ps.tIf] (by simp) HYc.o).mono ?_;rintro e W0 ⟨rfl,hb⟩;have hq:=H0.o;clear H0;have H0:=h3_ (hq.1.past hb) (hq.2.1.trans (FrT.of hb)) hq.2.2;clear hb hq;have c0:=H0.a.c0;dsimp only;go_wp2_with fail;refine (Qz H0.a (Pc.Qd H0.C.inv H.b)).mono ?_;rintro e W1 ⟨rfl,h,g⟩;have H1:=h3_ h (H0.b.trans g) ((H0.C.leaf H.a HE.o (Pc.Qp HYc.o)).1);clear h g;obtain ⟨⟨x1,s1⟩,hx⟩:∃ r,Ps.leaf tk s=r:=⟨_,rfl⟩
     rw[hx] at H1 ⊢;have HX1:=hd_ hx;clear hx;dsimp only at H1 ⊢;go_wp2_with fail;refine (H.d Q _ _ (HP.C.frt H1.b) H1.a H1.C.inv).mono ?_;rintro e W2 ⟨rfl,h,g⟩;have H2:=h3_ h (H1.b.trans g) (H1.C.then H.c);clear h g;obtain ⟨⟨x2,s2⟩,hx⟩:∃ r,ex s1=r:=⟨_,rfl⟩
     rw[hx] at H2 ⊢;have HX2:=hd_ hx;clear hx;dsimp only at H2 ⊢;go_wp2_with fail;have hal:Below W2.heap.size W2 (W2.alloc (.cells (strCells [Ps.tThen]).toArray 9)):=(eB_ _ _).alloc (rl_ _) _;refine (QX (ts:= [Ps.tThen]) (H2.a.past hal) (Pc.Qd H2.C.inv H.b) (QR W2 [Ps.tThen] rfl) (fun k hk=> by rw[hk, ←Q5];omega) (by simp)).mono ?_;rintro e W3 ⟨rfl,h,g⟩;have H3:=h3_ h (H2.b.trans ((FrT.of hal).trans g)) (H2.C.then (Pc.X4 H.a Ps.tThen));clear h g hal;obtain ⟨⟨x3,s3⟩,hx⟩:∃ r,Ps.must tk [Ps.tThen] s2=r:=⟨_,rfl⟩
     rw[hx] at H3 ⊢;have HX3:=hd_ hx;clear hx;dsimp only at H3 ⊢;go_wp2_with fail;refine (H.d Q _ _ (HP.C.frt H3.b) H3.a H3.C.inv).mono ?_;rintro e W4 ⟨rfl,h,g⟩;have H4:=h3_ h (H3.b.trans g) (H3.C.then H.c);clear h g;obtain ⟨⟨x4,s4⟩,hx⟩:∃ r,ex s3=r:=⟨_,rfl⟩
     rw[hx] at H4 ⊢;have HX4:=hd_ hx;clear hx;dsimp only at H4 ⊢;go_wp2_with fail;have hal:Below W4.heap.size W4 (W4.alloc (.cells (strCells [Ps.tElse]).toArray 9)):=(eB_ _ _).alloc (rl_ _) _;refine (QX (ts:= [Ps.tElse]) (H4.a.past hal) (Pc.Qd H4.C.inv H.b) (QR W4 [Ps.tElse] rfl) (fun k hk=> by rw[hk, ←Q5];omega) (by simp)).mono ?_;rintro e W5 ⟨rfl,h,g⟩;have H5:=h3_ h (H4.b.trans ((FrT.of hal).trans g)) (H4.C.then (Pc.X4 H.a Ps.tElse));clear h g hal;obtain ⟨⟨x5,s5⟩,hx⟩:∃ r,Ps.must tk [Ps.tElse] s4=r:=⟨_,rfl⟩
     rw[hx] at H5 ⊢;have HX5:=hd_ hx;clear hx;dsimp only at H5 ⊢;go_wp2_with fail;refine (H.d Q _ _ (HP.C.frt H5.b) H5.a H5.C.inv).mono ?_;rintro e W6 ⟨rfl,h,g⟩;have H6:=h3_ h (H5.b.trans g) (H5.C.then H.c);clear h g;obtain ⟨⟨x6,s6⟩,hx⟩:∃ r,ex s5=r:=⟨_,rfl⟩
     rw[hx] at H6 ⊢;have HX6:=hd_ hx;clear hx;dsimp only at H6 ⊢;go_wp2_with fail;refine (Yd H6.a H6.C.inv H.b (HP.C.frt H6.b) [x1,x2,x3,x4,x5,x6] (by simp) 8).mono ?_;rintro e WN ⟨rfl,h,g⟩;have HN:=h2_ h (H6.b.trans g);clear h g;dsimp only;go_wp2_with fail;go_ret;have e1:Ps.exIf tk ex s=Ps.node 8 [x1,x2,x3,x4,x5,x6] s6:=by
      simp only[Ps.exIf,HX1.o,HX2.o,HX3.o,HX4.o,HX5.o,HX6.o]
     rw[e1];exact ⟨rfl,HN.a,HN.B⟩
    ·rw[if_neg c];rw[Bool.not_eq_true] at c;have HYc:=hd_ c;clear c;by_cases d:Ps.nextB tk [Ps.tAssert] s.used=true
     ·rw[if_pos d];have HYd:=hd_ d;clear d;go_in;go_wp2_with fail;refine HD.o.mono ?_;rintro e V0 ⟨rfl,h,g⟩;have c2:=h.c2;rw[hcl] at c2;have H0:=h3_ h g (Pc.Og.nil HP.b);clear h g;dsimp only;go_wp2_with fail;refine (Qy H0.a HP.b H.b [Ps.tLet] (by simp) HYa.o).mono ?_;rintro e V1 ⟨rfl,hb⟩;have hq:=H0.o;clear H0;have H0:=h3_ (hq.1.past hb) (hq.2.1.trans (FrT.of hb)) hq.2.2;clear hb hq
      skip
      dsimp only;go_wp2_with fail;refine (Qy H0.a HP.b H.b [Ps.tIf] (by simp) HYc.o).mono ?_;rintro e V2 ⟨rfl,hb⟩;have hq:=H0.o;clear H0;have H0:=h3_ (hq.1.past hb) (hq.2.1.trans (FrT.of hb)) hq.2.2;clear hb hq
      skip
      dsimp only;go_wp2_with fail;refine (Qy H0.a HP.b H.b [Ps.tAssert] (by simp) HYd.o).mono ?_;rintro e W0 ⟨rfl,hb⟩;have hq:=H0.o;clear H0;have H0:=h3_ (hq.1.past hb) (hq.2.1.trans (FrT.of hb)) hq.2.2;clear hb hq;have c0:=H0.a.c0;dsimp only;go_wp2_with fail;refine (Qz H0.a (Pc.Qd H0.C.inv H.b)).mono ?_;rintro e W1 ⟨rfl,h,g⟩;have H1:=h3_ h (H0.b.trans g) ((H0.C.leaf H.a HE.o (Pc.Qp HYd.o)).1);clear h g;obtain ⟨⟨x1,s1⟩,hx⟩:∃ r,Ps.leaf tk s=r:=⟨_,rfl⟩
      rw[hx] at H1 ⊢;have HX1:=hd_ hx;clear hx;dsimp only at H1 ⊢;go_wp2_with fail;refine (H.d Q _ _ (HP.C.frt H1.b) H1.a H1.C.inv).mono ?_;rintro e W2 ⟨rfl,h,g⟩;have H2:=h3_ h (H1.b.trans g) (H1.C.then H.c);clear h g;obtain ⟨⟨x2,s2⟩,hx⟩:∃ r,ex s1=r:=⟨_,rfl⟩
      rw[hx] at H2 ⊢;have HX2:=hd_ hx;clear hx;dsimp only at H2 ⊢;go_wp2_with fail;have hal:Below W2.heap.size W2 (W2.alloc (.cells (strCells [Ps.tIn]).toArray 9)):=(eB_ _ _).alloc (rl_ _) _;refine (QX (ts:= [Ps.tIn]) (H2.a.past hal) (Pc.Qd H2.C.inv H.b) (QR W2 [Ps.tIn] rfl) (fun k hk=> by rw[hk, ←Q5];omega) (by simp)).mono ?_;rintro e W3 ⟨rfl,h,g⟩;have H3:=h3_ h (H2.b.trans ((FrT.of hal).trans g)) (H2.C.then (Pc.X4 H.a Ps.tIn));clear h g hal;obtain ⟨⟨x3,s3⟩,hx⟩:∃ r,Ps.must tk [Ps.tIn] s2=r:=⟨_,rfl⟩
      rw[hx] at H3 ⊢;have HX3:=hd_ hx;clear hx;dsimp only at H3 ⊢;go_wp2_with fail;refine (H.d Q _ _ (HP.C.frt H3.b) H3.a H3.C.inv).mono ?_;rintro e W4 ⟨rfl,h,g⟩;have H4:=h3_ h (H3.b.trans g) (H3.C.then H.c);clear h g;obtain ⟨⟨x4,s4⟩,hx⟩:∃ r,ex s3=r:=⟨_,rfl⟩
      rw[hx] at H4 ⊢;have HX4:=hd_ hx;clear hx;dsimp only at H4 ⊢;go_wp2_with fail;refine (Yd H4.a H4.C.inv H.b (HP.C.frt H4.b) [x1,x2,x3,x4] (by simp) 9).mono ?_;rintro e WN ⟨rfl,h,g⟩;have HN:=h2_ h (H4.b.trans g);clear h g;dsimp only;go_wp2_with fail;go_ret;have e1:Ps.exAssert tk ex s=Ps.node 9 [x1,x2,x3,x4] s4:=by
       simp only[Ps.exAssert,HX1.o,HX2.o,HX3.o,HX4.o]
      rw[e1];exact ⟨rfl,HN.a,HN.B⟩
     ·rw[if_neg d];rw[Bool.not_eq_true] at d;have HYd:=hd_ d;clear d;go_in;go_wp2_with fail;refine HD.o.mono ?_;rintro e V0 ⟨rfl,h,g⟩;have c2:=h.c2;rw[hcl] at c2;have H0:=h3_ h g (Pc.Og.nil HP.b);clear h g;dsimp only;go_wp2_with fail;refine (Qy H0.a HP.b H.b [Ps.tLet] (by simp) HYa.o).mono ?_;rintro e V1 ⟨rfl,hb⟩;have hq:=H0.o;clear H0;have H0:=h3_ (hq.1.past hb) (hq.2.1.trans (FrT.of hb)) hq.2.2;clear hb hq
      skip
      dsimp only;go_wp2_with fail;refine (Qy H0.a HP.b H.b [Ps.tIf] (by simp) HYc.o).mono ?_;rintro e V2 ⟨rfl,hb⟩;have hq:=H0.o;clear H0;have H0:=h3_ (hq.1.past hb) (hq.2.1.trans (FrT.of hb)) hq.2.2;clear hb hq
      skip
      dsimp only;go_wp2_with fail;refine (Qy H0.a HP.b H.b [Ps.tAssert] (by simp) HYd.o).mono ?_;rintro e V3 ⟨rfl,hb⟩;have hq:=H0.o;clear H0;have H0:=h3_ (hq.1.past hb) (hq.2.1.trans (FrT.of hb)) hq.2.2;clear hb hq
      skip
      dsimp only;go_wp2_with fail;refine (H.E Q _ _ (HP.C.frt H0.b) H0.a HP.b).mono ?_;rintro e WN ⟨rfl,h,g⟩;have HN:=h2_ h (H0.b.trans g);clear h g;dsimp only;go_wp2_with fail;go_ret;exact ⟨rfl,HN.a,HN.B⟩
  ·rw[if_pos rfl];go_in;go_wp2_with fail;refine HD.o.mono ?_;rintro e V0 ⟨rfl,h,g⟩;have c2:=h.c2;rw[hcl] at c2;have H0:=h3_ h g (Pc.Og.nil HP.b);clear h g;dsimp only;go_wp2_with fail;refine (H.E Q _ _ (HP.C.frt H0.b) H0.a HP.b).mono ?_;rintro e WN ⟨rfl,h,g⟩;have HN:=h2_ h (H0.b.trans g);clear h g;dsimp only;go_wp2_with fail;go_ret;exact ⟨rfl,HN.a,HN.B⟩
 ·rw[if_neg he];rw[eM_ he] at hdp;have HD:=hd_ hdp;clear ht hl hx hex hfo h hi hQ hdp hds he hd hlo;go_in;go_wp2_with fail;refine HD.o.mono ?_;rintro e W1 ⟨rfl,h,g⟩;have H1:=h2_ h g;clear h g;dsimp only;go_wp2_with fail;go_ret;exact ⟨rfl,H1.a,H1.B⟩
end
section
variable {w0:World} {p b:Nat} {tk:List Tr.Tk} {dp:Int} {Q:Nat→Prop}
structure KidsI (Q:Nat→Prop) (w0 W:World) (p b:Nat) (tk:List Tr.Tk) (dp:Int) (s:Ps.St) (V:World) (v:Value) (l:List Int):Prop where
 row:V.ownsRow W.heap.size 3 1 v l.length (intCells l)
 pi:PI (Off Q v) w0 V p b tk dp s
 fr:FrT PTs W V
theorem KidsI.up {W V:World} {s:Ps.St} {v:Value} {l:List Int} (h:KidsI Q w0 W p b tk dp s V v l) (hQ:Up Q W):Up (Off Q v) V:=Off.up (hQ.frt h.fr) h.row
theorem KidsI.step {s':Ps.St} (h:KidsI Q w0 W p b tk dp s V v l) (hp:PI (Off Q v) w0 V' p b tk dp s') (hf:FrT PTs V V'):KidsI Q w0 W p b tk dp s' V' v l:=
 ⟨YB h.row hf (by decide),hp,h.fr.trans hf⟩
theorem KidsI.past {W V V':World} {s:Ps.St} {v:Value} {l:List Int} (h:KidsI Q w0 W p b tk dp s V v l) (hb:Below V.heap.size V V'):KidsI Q w0 W p b tk dp s V' v l:=
 h.step (h.pi.past hb) (FrT.of hb)
theorem KidsI.append {v':Value} {n:Nat} (h:KidsI Q w0 W p b tk dp s V v l) (hw:w0.heap.size≤W.heap.size) (ho:V'.ownsRow W.heap.size 3 1 v' n (intCells l++intCells m)) (hn:n=l.length+m.length)
  (hg:V.grownBy V' v.ownBlock) (hat:∀ k,v'.ownBlock=some k→v.ownBlock=some k∨k=V.heap.size):KidsI Q w0 W p b tk dp s V' v' (l++m):=by
 refine ⟨?_,h.pi.appended h.row hw hg hat,h.fr.grown hg fun k hk=> (h.row.lt k hk).1⟩;have e:intCells (l++m)=intCells l++intCells m:=by simp[intCells]
 rw[e,eC_, ←hn];exact ho
theorem JY (h:PI Q w0 V p b tk dp s) (hf:FrT PTs W V) (l:List Int) (hl:l.length≤1000):
  KidsI Q w0 W p b tk dp s (V.alloc (.cells (intCells l).toArray 3)) (.slice (some ⟨V.heap.size,0,none⟩) l.length l.length) l:=by
 have hal:Below V.heap.size V (V.alloc (.cells (intCells l).toArray 3)):=(eB_ _ _).alloc (rl_ _) _;exact ⟨UN (Q6J V l hl) hf.size,(h.imp fun k hk hq=> ⟨hq,by simp only[Value.ownBlock,ne_eq,Option.some.injEq];omega⟩).past hal,hf.trans (FrT.of hal)⟩
theorem KidsI.node {W V:World} {s:Ps.St} {v:Value} {l:List Int} (h:KidsI Q w0 W p b tk dp s V v l) (hQ:Up Q W) (hi:Pc.Inv tk s) (hl:tk.length≤1000000) (hn:l.length≤1000000) (k:Int):
  Calls prog 115 #[.pointer (some ⟨p,0,none⟩),.int .i64 k,v] V fun e W'=> e= .returned (.int .i64 (Ps.node k l s).1)∧PI Q w0 W' p b tk dp (Ps.node k l s).2∧FrT PTs W W':=by
 refine (Xe h.pi (Pc.Qd hi hl) (RdS.own h.row) (fun k hk=> hk.2.2) hn (h.up hQ) k).mono ?_;rintro e W' ⟨rfl,h1,g1⟩;exact ⟨rfl,h1.imp fun k _ hq=> hq.1,h.fr.trans g1⟩
theorem YZ (h:PI Q w0 V p b tk dp s) (hi:Pc.Inv tk s) (hl:tk.length≤1000000) (ts:List (List UInt8)) (hts:ts.length≤1000) {y:Bool} (hy:Ps.nextB tk ts s.used=y) {r:Nat} (hr:r=V.heap.size):
  Calls prog 148 #[.pointer (some ⟨p,0,none⟩),.slice (some ⟨r,0,none⟩) ts.length ts.length] (V.alloc (.cells (strCells ts).toArray 9)) fun e W'=> e= .returned (.bool y)∧Below V.heap.size V W':=by
 subst hr;exact Qy h hi hl ts hts hy
def Boxes (p:Nat) (n:Int) (bp bn:Nat) (V:World):Prop:=V.heap[bp]? =some (.cells #[.pointer (some ⟨p,0,none⟩)] 151 (0,0))∧V.heap[bn]? =some (.cells #[.int .i64 n] 3 (0,0))
theorem Qm {p:Nat} {bp bn:Nat}:∀ V V',Boxes p n bp bn V→FrT PTs V V'→Boxes p n bp bn V':=fun _ _ h hf=> ⟨hf.cells h.1 (by decide),hf.cells h.2 (by decide)⟩
theorem JZ (hn0:0≤n) (hn1:n≤300) {bp bn:Nat} {ex:Ps.F} (hex:Knows w0 p b tk dp 114 #[.pointer (some ⟨p,0,none⟩),.int .i64 (n+1)] ex):
  KnowsB (Boxes p n bp bn) w0 p b tk dp 256 #[.pointer (some ⟨bp,0,none⟩),.pointer (some ⟨bn,0,none⟩)] ex:=by
 intro Q W s hQ h hi hB;have b0:=Q3 hB.1 0 rfl;have b1:=Q3 hB.2 0 rfl;have HC:=hd_ (hex Q W s hQ h hi);clear h hi hQ hB hex;go_in;go_wp2_with fail;refine HC.o.mono ?_;rintro e W1 ⟨rfl,h1,g1⟩;have H1:=h2_ h1 g1;clear h1 g1;dsimp only;go_wp2_with fail;go_ret;exact ⟨rfl,H1.a,H1.B⟩
end
section
variable {w0:World} {p b:Nat} {tk:List Tr.Tk} {dp:Int} {Q:Nat→Prop}
theorem Q1F (hK:KidsI Q w0 W p b tk dp s V v l) (hw:w0.heap.size≤W.heap.size) (hb:Below V.heap.size V V') {R:Nat→Prop} {xv:Value} {m:List Int} (hx:RdS V' R 1 xv m.length (intCells m)) (hn:l.length+m.length≤100000) (ty:TypeId):
  ∃ v' w',(Builtin.append_ #[46,46] ty #[v,xv]).run prog V'= .ok v' w'∧KidsI Q w0 W p b tk dp s w' v' (l++m):=by
 have hk:=hK.past hb;obtain ⟨i0,hii,hz0,hz1,hz2⟩:=Qv Lz;obtain ⟨a2,cap,w',hr,h2,h3,h4⟩:=Ys (P:=prog) V' 46 ty W.heap.size 3 i0 (.int .i64 0) 1 8 underlying46 hii hz0 hz1 hz2 rfl (by decide) v l.length (intCells l) hk.row hx (ints_one _) (by unfold maxLen;omega) (by omega) hk.fr.size;exact ⟨_,w',hr,hk.append hw h2 rfl h3 h4⟩
theorem Gm {rest:List Oper} {K:Exit→Act→World→Prop} (hgd:o.guard=none) (sx xx:Operand)
  (ho:o.op= .call {callee:= .builtin .append,args:= #[sx,xx],argTypes:= #[46,46]})
  {W V V':World} {s:Ps.St} {v:Value} {l:List Int} (hK:KidsI Q w0 W p b tk dp s V v l) (hw:w0.heap.size≤W.heap.size) (hs:a.eval sx=v) (hb:Below V.heap.size V V') {R:Nat→Prop} {xv:Value} (m:List Int) (hx:RdS V' R 1 xv m.length (intCells m)) (hxv:a.eval xx=xv) (hn:l.length+m.length≤100000)
  (h:∀ v' w',KidsI Q w0 W p b tk dp s w' v' (l++m)→wpList prog ops K rest (a.put o.dst v') w'):
  wpList prog ops K (o::rest) a V':=by
 refine wpList_plain hgd fun K2 hK2=> ?_;obtain ⟨v',w',hr,h2⟩:=Q1F hK hw hb hx hn o.type;unfold Oper.wp execOp;simp only[ho,resolve,invoke,builtin,Sem.run_bind,Sem.run_pure,Result.andThen_ok,List.map_toArray,List.map_cons,List.map_nil,hs,hxv,hr];exact hK2 _ _ (h v' w' h2)
theorem UG {K:Act→World→Prop} {K2:Exit→Act→World→Prop} {E:Prop} (hgd:o.guard=none) (sx xx:Operand)
  (ho:o.op= .call {callee:= .builtin .append,args:= #[sx,xx],argTypes:= #[46,46]})
  {W V V':World} {s:Ps.St} {v:Value} {l:List Int} (hK:KidsI Q w0 W p b tk dp s V v l) (hw:w0.heap.size≤W.heap.size) (hs:a.eval sx=v) (hb:Below V.heap.size V V') {R:Nat→Prop} {xv:Value} (m:List Int) (hx:RdS V' R 1 xv m.length (intCells m)) (hxv:a.eval xx=xv) (hn:l.length+m.length≤100000)
  (h:∀ v' w',KidsI Q w0 W p b tk dp s w' v' (l++m)→K (a.put o.dst v') w'):
  if Region.wanted o (yielded ops a.tmps)=true then Oper.wp prog o a V' K K2 else E:=by
 have hwt:Region.wanted o (yielded ops a.tmps)=true:=by simp[Region.wanted,hgd]
 rw[if_pos hwt];obtain ⟨v',w',hr,h2⟩:=Q1F hK hw hb hx hn o.type;unfold Oper.wp execOp;simp only[ho,resolve,invoke,builtin,Sem.run_bind,Sem.run_pure,Result.andThen_ok,List.map_toArray,List.map_cons,List.map_nil,hs,hxv,hr];exact h v' w' h2
theorem XM (V:World) (o:Obj):Below V.heap.size V (V.alloc o):=(eB_ _ _).alloc (rl_ _) _
theorem Q1G {base:Nat} (h:V.ownsRow base 3 1 v m.length (intCells m)):RdS V (fun k=> v.ownBlock=some k∧base≤k∧k < V.heap.size) 1 v m.length (intCells m):=RdS.own h
end
theorem Do {tk:List Tr.Tk} {f:Ps.F}:∀ (k:Nat) (ks:List Int) (s:Ps.St),(Ps.listGo tk f k ks s).1.length≤ks.length+2*k+1
 | 0,ks,s=> by unfold Ps.listGo;simp
 | k+1,ks,s=> by
  unfold Ps.listGo;split
  ·split
   ·have:=Do (tk:=tk) (f:=f) k (ks++ [(f s).1,(Ps.leaf tk (f s).2).1]) (Ps.leaf tk (f s).2).2;simp only[eC_,eL_,eU_] at this;omega
   ·simp only[eC_,eL_,eU_];omega
  ·show ks.length≤_;omega
theorem Q1H {tk:List Tr.Tk} {f:Ps.F} (s:Ps.St):(Ps.list tk f s).1.length≤17:=by
 unfold Ps.list;split
 ·simp
 ·have:=Do (tk:=tk) (f:=f) 8 [] s;simpa using this
theorem Pc.sim_listS {tk:List Tr.Tk} (ht:Pc.Toks tk) {f:Ps.F} {g:Pr.G} (hf:Pc.Sim tk f g):Pc.SimL tk (Ps.list tk f) (fun r=> if r.e=0∧Pr.is tk [41] r=false then Pr.args tk g r else ([],r)):=by
 refine ⟨fun s r he hi hr=> ?_,fun s he=> by rw[Pc.Lt he],fun r he=> by rw[if_neg (by simp[he])]⟩;have o:=Pc.Q1z ht hf (Pc.Out.nil hi hr);simp only[List.nil_append] at o;exact o
theorem Pc.inv_must {tk:List Tr.Tk} (ht:Pc.Toks tk) (ts:List (List UInt8)) {s:Ps.St} (hi:Pc.Inv tk s):Pc.Inv tk (Ps.must tk ts s).2:=by
 unfold Ps.must;split
 ·rename_i h;exact ((Pc.Og.nil hi).leaf ht h.1 (Pc.Qp h.2)).1.inv
 ·show Pc.Inv tk (Ps.fail tk 22 s);unfold Ps.fail;split
  ·exact hi
  ·exact hi
section
variable {w0:World} {p b:Nat} {tk:List Tr.Tk} {dp:Int} {Q:Nat→Prop}
theorem Q1I (ht:Pc.Toks tk) (hl:tk.length≤1000000) {n:Int} (hn0:0≤n) (hn1:n≤300) {ex:Ps.F} {g:Pr.G} (hx:Pc.Sim tk ex g) (hex:Knows w0 p b tk dp 114 #[.pointer (some ⟨p,0,none⟩),.int .i64 (n+1)] ex)
  {W:World} {s:Ps.St} (hQ:Up Q W) (h:PI Q w0 W p b tk dp s) (hi:Pc.Inv tk s) (he:s.e=0) (hk:(Ps.peek tk s.used).kind=1):
  Calls prog 249 #[.pointer (some ⟨p,0,none⟩),.int .i64 n] W (Does Q w0 p b tk dp (Ps.name tk ex s) W):=by
 have hlf:=(Pc.Og.nil hi).leaf ht he (by omega);have hV0:Below W.heap.size W ((W.alloc (.cells #[.pointer (some ⟨p,0,none⟩)] 151)).alloc (.cells #[.int .i64 n] 3)):=((eB_ _ _).alloc (rl_ _) _).alloc (by rw[←Q5];omega) _;have hB0:Boxes p n W.heap.size (W.heap.size+1) ((W.alloc (.cells #[.pointer (some ⟨p,0,none⟩)] 151)).alloc (.cells #[.int .i64 n] 3)):=by
  refine ⟨?_,?_⟩
  ·rw[eJ_ _ _ _ (by rw[←Q5];omega)];exact eD_ _ _
  ·have:=eD_ (W.alloc (.cells #[.pointer (some ⟨p,0,none⟩)] 151)) (.cells #[.int .i64 n] 3);rw[←Q5] at this;exact this
 have c0:=(h.past hV0).c0;obtain ⟨V0,hV0e⟩:∃ V0,(W.alloc (.cells #[.pointer (some ⟨p,0,none⟩)] 151)).alloc (.cells #[.int .i64 n] 3)=V0:=⟨_,rfl⟩
 have HE0:=hd_ hV0e;have b0:=Q3 hB0.1 0 rfl;rw[hV0e] at hV0 hB0;clear hV0e;have H:=h4_ ht hl hx hex;have HP:=h5_ h hi (hQ.size hV0.size) hV0 hB0;have HL:=hd_ hlf;clear ht hl hx hex h hi hQ hV0 hB0 hlf he hk;obtain ⟨⟨x1,s1⟩,hx1⟩:∃ r,Ps.leaf tk s=r:=⟨_,rfl⟩
 have hnm:Ps.name tk ex s=if (s1.clause || !Ps.nextB tk [[46], [40]] s1.used)=true then Ps.node 14 [x1] s1 else Ps.call tk ex (Ps.callee tk s1 x1).1 (Ps.callee tk s1 x1).2:=by
  unfold Ps.name;simp only[hx1]
 rw[hnm];rw[hx1] at HL;have HX1:=hd_ hx1;clear hnm hx1;dsimp only at HL;cases hcl:s1.clause
 ·rw[Bool.false_or];have HB:=h2_ (HP.a.below.trans (HP.d.mono HP.a.below.size)).size HP.c;by_cases hn:Ps.nextB tk [[46], [40]] s1.used=true
  ·rw[if_neg (by rw[hn];simp)];have HYn:=hd_ hn;clear hn;by_cases hd:Ps.nextB tk [[46]] s1.used=true
   ·have HYd:=hd_ hd;clear hd;obtain ⟨⟨x4,s4⟩,hx4⟩:∃ r,Ps.leaf tk s1=r:=⟨_,rfl⟩
    have hi4:=((Pc.Og.nil HL.a.inv).leaf H.a HL.B (Pc.Qp HYd.o)).1.inv;rw[hx4] at hi4;obtain ⟨⟨x5,s5⟩,hx5⟩:∃ r,Ps.kind tk 1 s4=r:=⟨_,rfl⟩
    have hi5:=(Pc.JW H.a (k:=1) (by decide)).keep hi4;rw[hx5] at hi5;have HX4:=hd_ hx4;have HX5:=hd_ hx5;have HI4:=hd_ hi4;have HI5:=hd_ hi5;have hce:Ps.callee tk s1 x1=([x1]++ [x4,x5],s5):=(by unfold Ps.callee;rw[if_pos HYd.o,hx4];simp only[hx5];rfl);rw[hce];clear hx4 hx5 hi4 hi5 hce;go_in;go_wp2_with fail;rw[HE0.o];refine (Qz (HP.a.past HP.d) (Pc.Qd HP.b H.b)).mono ?_;rintro e W1 ⟨rfl,h,g⟩;rw[HX1.o] at h ⊢;have hB1:=Qm _ _ HP.E g;have H1:=h2_ (JY h g [x1] (by simp)) (Qm _ _ hB1 (FrT.of ((eB_ _ _).alloc (rl_ _) (.cells (intCells [x1]).toArray 3))));have b0:(W1.alloc (.cells #[.int .i64 x1] 3)).cell? ⟨W.heap.size,0,none⟩=some (.pointer (some ⟨p,0,none⟩)):=Q3 H1.b 0 rfl;have c2:(W1.alloc (.cells #[.int .i64 x1] 3)).cell? ⟨p,2,none⟩=some (.bool s1.clause):=H1.a.pi.c2;rw[hcl] at c2;clear h g hB1 c0;dsimp only;go_wp2_with fail;refine (YZ H1.a.pi HL.a.inv H.b [[46], [40]] (by simp) HYn.o (Q5 _ _)).mono ?_;rintro e V2 ⟨rfl,hb⟩;have K2:=h2_ (H1.a.past hb) (Qm _ _ H1.B (FrT.of hb));clear hb b0 c2;have b0:=Q3 K2.b 0 rfl;have c0:=K2.a.pi.c0;dsimp only;go_wp2_with fail;refine (YZ K2.a.pi HL.a.inv H.b [[46]] (by simp) HYd.o rfl).mono ?_;rintro e V3 ⟨rfl,hb⟩;have KD:=h2_ (K2.a.past hb) (Qm _ _ K2.B (FrT.of hb));clear hb b0 c0;have b0:=Q3 KD.b 0 rfl;have c0:=KD.a.pi.c0;dsimp only;go_wp2_with fail;have K3:=h2_ KD.a HL.a.inv;have HA3:=hd_ ((eB_ V3.heap.size V3).drew);go_region_held3 (fun w'=> w'.cell? ⟨W.heap.size,0,none⟩=some (.pointer (some ⟨p,0,none⟩))∧w'.cell? ⟨p,0,none⟩=some (.pointer (some ⟨b,0,none⟩))) (first | exact ⟨b0,c0⟩ | exact ⟨b4,c4⟩ | exact ⟨b5,c5⟩ | exact ⟨b6,c6⟩ | go_keep)
     (first
      | (go_at_call 149;refine (Qz (K3.a.pi.past HA3.o) (Pc.Qd K3.B H.b)).mono ?_;rintro e WW4 ⟨rfl,h,g⟩;rw[HX4.o] at h ⊢;have KK4:=hd_ (K3.a.step h ((FrT.of HA3.o).trans g));have b4:=Q3 (Qm _ _ HP.E KK4.o.fr).1 0 rfl;have c4:=KK4.o.pi.c0;clear h g)
      | (go_at_call 116;refine (ZC KK4.o.pi (Pc.Qd HI4.o H.b) 1).mono ?_;rintro e WW5 ⟨rfl,h,g⟩;rw[HX5.o] at h ⊢;have KK5:=hd_ (KK4.o.step h g);have b5:=Q3 (Qm _ _ HP.E KK5.o.fr).1 0 rfl;have c5:=KK5.o.pi.c0;clear h g)
      | (refine UG rfl (.tmp 28) (.tmp 36) rfl KK5.o HB.a (by simp[Act.eval]) (XM _ _) [x4,x5] (Xn WW5 [x4,x5] rfl) (by simp[Act.eval]) (by simp) ?_;intro v6 WW6 hk6;have KK6:=hd_ hk6;have b6:=Q3 (Qm _ _ HP.E hk6.fr).1 0 rfl;have c6:=hk6.pi.c0;clear hk6))
    have K6:=h2_ KK6.o HI5.o;clear b0 c0 b4 c4 b5 c5;have b0:=b6;have c0:=c6;clear b6 c6;go_wp2_with fail;have hal:Below WW6.heap.size WW6 (WW6.alloc (.cells (strCells [[40]]).toArray 9)):=(eB_ _ _).alloc (rl_ _) _;refine (QX (ts:= [[40]]) (K6.a.pi.past hal) (Pc.Qd K6.B H.b) (QR WW6 [[40]] rfl) (fun k hk=> by rw[hk, ←Q5];omega) (by simp)).mono ?_;rintro e W7 ⟨rfl,h,g⟩;have K7:=h2_ (K6.a.step h ((FrT.of hal).trans g)) (Pc.inv_must H.a [[40]] K6.B);clear h g hal;obtain ⟨⟨x7,s7⟩,hx⟩:∃ r,Ps.must tk [[40]] s5=r:=⟨_,rfl⟩
    rw[hx] at K7 ⊢;have HX7:=hd_ hx;clear hx;dsimp only at K7 ⊢;clear b0 c0;go_wp2_with (at_builtin;refine Gm rfl _ _ rfl K7.a HB.a rfl (XM _ _) [x7] (Xn W7 [x7] rfl) rfl (by have:=HB.a;simp only[eC_,eL_,eU_] at this ⊢;omega) ?_);intro v8 W8 hk;have K8:=h2_ hk K7.B;clear hk;have b0:=Q3 (Qm _ _ HP.E K8.a.fr).1 0 rfl;have c0:=K8.a.pi.c0;go_wp2_with fail;refine (Dn H.a H.b H.c Qm (JZ hn0 hn1 H.D) _ _ _ (K8.a.up HP.c) K8.a.pi K8.B (Qm _ _ HP.E K8.a.fr)).mono ?_;rintro e W9 ⟨v9,rfl,ho6,hp6,g6⟩;have hll:=Q1H (tk:=tk) (f:=ex) s7;have hin:=(Pc.sim_listS H.a H.c).keep K8.B;obtain ⟨⟨l9,s9⟩,hx6⟩:∃ r,Ps.list tk ex s7=r:=⟨_,rfl⟩
    rw[hx6] at ho6 hp6 hll hin;dsimp only at ho6 hp6 hll hin ⊢;have K9:=h2_ (K8.a.step (hp6.imp fun k _ hq=> hq.1) g6) hin;have HO9:=h2_ ho6 hll;have HX9:=hd_ hx6;clear ho6 hp6 g6 hll hx6 hin b0 c0;go_wp2_with (at_builtin;refine Gm rfl _ _ rfl K9.a HB.a rfl (eB_ _ _) l9 (Q1G HO9.a) rfl (by have:=HO9.B;simp only[eC_,eL_,eU_];omega) ?_);intro v10 W10 hk;have K10:=h2_ hk K9.B;clear hk;have b0:=Q3 (Qm _ _ HP.E K10.a.fr).1 0 rfl;go_wp2_with fail;obtain ⟨⟨x8,s8⟩,hx8⟩:∃ r,Ps.must tk [[41]] s9=r:=⟨_,rfl⟩
    have HX8:=hd_ hx8;have hi8:=Pc.inv_must H.a [[41]] K10.B;rw[hx8] at hi8;have HI8:=hd_ hi8;have HA8:=hd_ (((eB_ W10.heap.size W10).drew).alloc (rl_ _) (.cells (strCells [[41]]).toArray 9));clear hx8 hi8;go_region_held3 (fun w'=> w'.cell? ⟨W.heap.size,0,none⟩=some (.pointer (some ⟨p,0,none⟩))) (first | exact b0 | exact b8 | exact b9 | exact b10 | go_keep)
     (first
      | (go_at_call 150;refine (QX (ts:= [[41]]) (K10.a.pi.past HA8.o) (Pc.Qd K10.B H.b) (QR W10.drew [[41]] rfl) (fun k hk=> by rw[hk, ←Q5];exact Nat.lt_succ_self _) (by simp)).mono ?_;rintro e WW8 ⟨rfl,h,g⟩;rw[HX8.o] at h ⊢;have KK8:=hd_ (K10.a.step h ((FrT.of HA8.o).trans g));have b8:=Q3 (Qm _ _ HP.E KK8.o.fr).1 0 rfl;clear h g)
      | (refine UG rfl (.tmp 50) (.tmp 54) rfl KK8.o HB.a (by simp[Act.eval]) (XM _ _) [x8] (Xn WW8 [x8] rfl) (by simp[Act.eval]) (by have:=HO9.B;simp only[eC_,eL_,eU_];omega) ?_;intro v9 WW9 hk9;have KK9:=hd_ hk9;have b9:=Q3 (Qm _ _ HP.E hk9.fr).1 0 rfl;clear hk9)
      | (go_at_call 115;refine (KK9.o.node HP.c HI8.o H.b (by have:=HO9.B;simp only[eC_,eL_,eU_];omega) 13).mono ?_;rintro e WW10 ⟨rfl,h,g⟩;have K10:=h2_ h g;have b10:=Q3 (Qm _ _ HP.E g).1 0 rfl;clear h g))
    go_wp2_with fail;go_ret;have e1:Ps.call tk ex [x1,x4,x5] s5=Ps.node 13 (((([x1]++ [x4,x5])++ [x7])++l9)++ [x8]) s8:=by
     simp only[Ps.call,HX7.o,HX9.o,HX8.o];try rfl
    rw[e1];exact ⟨rfl,K10.a,(FrT.of HP.d).trans K10.B⟩
   ·have hce:Ps.callee tk s1 x1=([x1],s1):=(by unfold Ps.callee;rw[if_neg hd]);rw[hce];rw[Bool.not_eq_true] at hd;have HYd:=hd_ hd;clear hd hce;go_in;go_wp2_with fail;rw[HE0.o];refine (Qz (HP.a.past HP.d) (Pc.Qd HP.b H.b)).mono ?_;rintro e W1 ⟨rfl,h,g⟩;rw[HX1.o] at h ⊢;have hB1:=Qm _ _ HP.E g;have H1:=h2_ (JY h g [x1] (by simp)) (Qm _ _ hB1 (FrT.of ((eB_ _ _).alloc (rl_ _) (.cells (intCells [x1]).toArray 3))));have b0:(W1.alloc (.cells #[.int .i64 x1] 3)).cell? ⟨W.heap.size,0,none⟩=some (.pointer (some ⟨p,0,none⟩)):=Q3 H1.b 0 rfl;have c2:(W1.alloc (.cells #[.int .i64 x1] 3)).cell? ⟨p,2,none⟩=some (.bool s1.clause):=H1.a.pi.c2;rw[hcl] at c2;clear h g hB1 c0;dsimp only;go_wp2_with fail;refine (YZ H1.a.pi HL.a.inv H.b [[46], [40]] (by simp) HYn.o (Q5 _ _)).mono ?_;rintro e V2 ⟨rfl,hb⟩;have K2:=h2_ (H1.a.past hb) (Qm _ _ H1.B (FrT.of hb));clear hb b0 c2;have b0:=Q3 K2.b 0 rfl;have c0:=K2.a.pi.c0;dsimp only;go_wp2_with fail;refine (YZ K2.a.pi HL.a.inv H.b [[46]] (by simp) HYd.o rfl).mono ?_;rintro e V3 ⟨rfl,hb⟩;have KD:=h2_ (K2.a.past hb) (Qm _ _ K2.B (FrT.of hb));clear hb b0 c0;have b0:=Q3 KD.b 0 rfl;have c0:=KD.a.pi.c0;dsimp only;go_wp2_with fail;have K3:=h2_ KD.a HL.a.inv;have hal:Below V3.heap.size V3 (V3.alloc (.cells (strCells [[40]]).toArray 9)):=(eB_ _ _).alloc (rl_ _) _;refine (QX (ts:= [[40]]) (K3.a.pi.past hal) (Pc.Qd K3.B H.b) (QR V3 [[40]] rfl) (fun k hk=> by rw[hk, ←Q5];omega) (by simp)).mono ?_;rintro e W4 ⟨rfl,h,g⟩;have K4:=h2_ (K3.a.step h ((FrT.of hal).trans g)) (Pc.inv_must H.a [[40]] K3.B);clear h g hal;obtain ⟨⟨x4,s4⟩,hx⟩:∃ r,Ps.must tk [[40]] s1=r:=⟨_,rfl⟩
    rw[hx] at K4 ⊢;have HX4:=hd_ hx;clear hx;dsimp only at K4 ⊢;clear b0 c0;go_wp2_with (at_builtin;refine Gm rfl _ _ rfl K4.a HB.a rfl (XM _ _) [x4] (Xn W4 [x4] rfl) rfl (by have:=HB.a;simp only[eC_,eL_,eU_] at this ⊢;omega) ?_);intro v5 W5 hk;have K5:=h2_ hk K4.B;clear hk;have b0:=Q3 (Qm _ _ HP.E K5.a.fr).1 0 rfl;have c0:=K5.a.pi.c0;go_wp2_with fail;refine (Dn H.a H.b H.c Qm (JZ hn0 hn1 H.D) _ _ _ (K5.a.up HP.c) K5.a.pi K5.B (Qm _ _ HP.E K5.a.fr)).mono ?_;rintro e W6 ⟨v6,rfl,ho6,hp6,g6⟩;have hll:=Q1H (tk:=tk) (f:=ex) s4;have hin:=(Pc.sim_listS H.a H.c).keep K5.B;obtain ⟨⟨l6,s6⟩,hx6⟩:∃ r,Ps.list tk ex s4=r:=⟨_,rfl⟩
    rw[hx6] at ho6 hp6 hll hin;dsimp only at ho6 hp6 hll hin ⊢;have K6:=h2_ (K5.a.step (hp6.imp fun k _ hq=> hq.1) g6) hin;have HO6:=h2_ ho6 hll;have HX6:=hd_ hx6;clear ho6 hp6 g6 hll hx6 hin b0 c0;go_wp2_with (at_builtin;refine Gm rfl _ _ rfl K6.a HB.a rfl (eB_ _ _) l6 (Q1G HO6.a) rfl (by have:=HO6.B;simp only[eC_,eL_,eU_];omega) ?_);intro v7 W7 hk;have K7:=h2_ hk K6.B;clear hk;have b0:=Q3 (Qm _ _ HP.E K7.a.fr).1 0 rfl;go_wp2_with fail;obtain ⟨⟨x8,s8⟩,hx8⟩:∃ r,Ps.must tk [[41]] s6=r:=⟨_,rfl⟩
    have HX8:=hd_ hx8;have hi8:=Pc.inv_must H.a [[41]] K7.B;rw[hx8] at hi8;have HI8:=hd_ hi8;have HA8:=hd_ (((eB_ W7.heap.size W7).drew).alloc (rl_ _) (.cells (strCells [[41]]).toArray 9));clear hx8 hi8;go_region_held3 (fun w'=> w'.cell? ⟨W.heap.size,0,none⟩=some (.pointer (some ⟨p,0,none⟩))) (first | exact b0 | exact b8 | exact b9 | exact b10 | go_keep)
     (first
      | (go_at_call 150;refine (QX (ts:= [[41]]) (K7.a.pi.past HA8.o) (Pc.Qd K7.B H.b) (QR W7.drew [[41]] rfl) (fun k hk=> by rw[hk, ←Q5];exact Nat.lt_succ_self _) (by simp)).mono ?_;rintro e WW8 ⟨rfl,h,g⟩;rw[HX8.o] at h ⊢;have KK8:=hd_ (K7.a.step h ((FrT.of HA8.o).trans g));have b8:=Q3 (Qm _ _ HP.E KK8.o.fr).1 0 rfl;clear h g)
      | (refine UG rfl (.tmp 50) (.tmp 54) rfl KK8.o HB.a (by simp[Act.eval]) (XM _ _) [x8] (Xn WW8 [x8] rfl) (by simp[Act.eval]) (by have:=HO6.B;simp only[eC_,eL_,eU_];omega) ?_;intro v9 WW9 hk9;have KK9:=hd_ hk9;have b9:=Q3 (Qm _ _ HP.E hk9.fr).1 0 rfl;clear hk9)
      | (go_at_call 115;refine (KK9.o.node HP.c HI8.o H.b (by have:=HO6.B;simp only[eC_,eL_,eU_];omega) 13).mono ?_;rintro e WW10 ⟨rfl,h,g⟩;have K10:=h2_ h g;have b10:=Q3 (Qm _ _ HP.E g).1 0 rfl;clear h g))
    go_wp2_with fail;go_ret;have e1:Ps.call tk ex [x1] s1=Ps.node 13 ((([x1]++ [x4])++l6)++ [x8]) s8:=by
     simp only[Ps.call,HX4.o,HX6.o,HX8.o];try rfl
    rw[e1];exact ⟨rfl,K10.a,(FrT.of HP.d).trans K10.B⟩
  ·rw[if_pos (by simpa using hn)];rw[Bool.not_eq_true] at hn;have HYn:=hd_ hn;clear hn;go_in;go_wp2_with fail;rw[HE0.o];refine (Qz (HP.a.past HP.d) (Pc.Qd HP.b H.b)).mono ?_;rintro e W1 ⟨rfl,h,g⟩;rw[HX1.o] at h ⊢;have hB1:=Qm _ _ HP.E g;have H1:=h2_ (JY h g [x1] (by simp)) (Qm _ _ hB1 (FrT.of ((eB_ _ _).alloc (rl_ _) (.cells (intCells [x1]).toArray 3))));have b0:(W1.alloc (.cells #[.int .i64 x1] 3)).cell? ⟨W.heap.size,0,none⟩=some (.pointer (some ⟨p,0,none⟩)):=Q3 H1.b 0 rfl;have c2:(W1.alloc (.cells #[.int .i64 x1] 3)).cell? ⟨p,2,none⟩=some (.bool s1.clause):=H1.a.pi.c2;rw[hcl] at c2;clear h g hB1 c0;dsimp only;go_wp2_with fail;refine (YZ H1.a.pi HL.a.inv H.b [[46], [40]] (by simp) HYn.o (Q5 _ _)).mono ?_;rintro e V2 ⟨rfl,hb⟩;have K2:=h2_ (H1.a.past hb) (Qm _ _ H1.B (FrT.of hb));clear hb b0 c2;have b0:=Q3 K2.b 0 rfl;have c0:=K2.a.pi.c0;dsimp only;go_wp2_with fail;refine (K2.a.node HP.c HL.a.inv H.b (by simp) 14).mono ?_;rintro e WN ⟨rfl,h,g⟩;have HN:=h2_ h g;clear h g;dsimp only;go_wp2_with fail;go_ret;exact ⟨rfl,HN.a,(FrT.of HP.d).trans HN.B⟩
 ·rw[Bool.true_or,if_pos rfl];go_in;go_wp2_with fail;rw[HE0.o];refine (Qz (HP.a.past HP.d) (Pc.Qd HP.b H.b)).mono ?_;rintro e W1 ⟨rfl,h,g⟩;rw[HX1.o] at h ⊢;have hB1:=Qm _ _ HP.E g;have H1:=h2_ (JY h g [x1] (by simp)) (Qm _ _ hB1 (FrT.of ((eB_ _ _).alloc (rl_ _) (.cells (intCells [x1]).toArray 3))));have b0:(W1.alloc (.cells #[.int .i64 x1] 3)).cell? ⟨W.heap.size,0,none⟩=some (.pointer (some ⟨p,0,none⟩)):=Q3 H1.b 0 rfl;have c2:(W1.alloc (.cells #[.int .i64 x1] 3)).cell? ⟨p,2,none⟩=some (.bool s1.clause):=H1.a.pi.c2;rw[hcl] at c2;clear h g hB1 c0;dsimp only;go_wp2_with fail;refine (H1.a.node HP.c HL.a.inv H.b (by simp) 14).mono ?_;rintro e W2 ⟨rfl,h,g⟩;have H2:=h2_ h g;clear h g b0 c2;dsimp only;go_wp2_with fail;go_ret;exact ⟨rfl,H2.a,(FrT.of HP.d).trans H2.B⟩
end
section
variable {w0:World} {p b:Nat} {tk:List Tr.Tk} {dp:Int}
structure KnowsV (w0:World) (p b:Nat) (tk:List Tr.Tk) (dp:Int) (d:Nat) (n:Int):Prop where
 ex:Knows w0 p b tk dp 114 #[.pointer (some ⟨p,0,none⟩),.int .i64 n] (Ps.lv tk d).ex
 rest:d≠0→Knows w0 p b tk dp 147 #[.pointer (some ⟨p,0,none⟩),.int .i64 n] (Ps.lv tk d).fo∧Knows w0 p b tk dp 234 #[.pointer (some ⟨p,0,none⟩),.int .i64 n] (Ps.lv tk d).ne∧Knows w0 p b tk dp 235 #[.pointer (some ⟨p,0,none⟩),.int .i64 n] (Ps.lv tk d).fa
theorem LA (ht:Pc.Toks tk) (hl:tk.length≤1000000) (hdp:dp≤200):∀ (d:Nat) (n:Int),0≤n→n+d=dp+1→KnowsV w0 p b tk dp d n
 | 0,n,_,hd=> ⟨UF hl (by simpa using hd),fun h=> absurd rfl h⟩
 | d+1,n,h0,hd=> by
  have h1:n≤300:=by omega
  have hd':n+1+d=dp+1:=by omega
  have hs:=Pc.Q0m ht d;have hk:KnowsV w0 p b tk dp d (n+1):=LA ht hl hdp d (n+1) (by omega) hd';have ha:=Q1E ht hl h0 h1 hs.ex hk.ex (fun Q W s hQ h hi he hkd=> Q1I ht hl h0 h1 hs.ex hk.ex hQ h hi he hkd);have hfa:=DN ht hl h0 h1 hd' hs (fun hz=> (hk.rest hz).2.2) ha;have sfa:=Pc.Jp ht hs;have hpr:=Ze ht hl (lv:=4) rfl (ts:=Ps.sMul) (by decide) Q0t sfa (Q4l hfa);have spr:=Pc.Yh ht sfa Ps.sMul;have hsu:=Ze ht hl (lv:=3) rfl (ts:=Ps.sSum) (by decide) Q0s spr (UE (lv:=3) rfl rfl (by decide) hpr);have ssu:=Pc.Yh ht spr Ps.sSum;have hco:=Q4j ht hl (ts:=Ps.sCmp) (by decide) Q0r ssu (UE (lv:=2) rfl rfl (by decide) hsu);have hne:=Gb ht hl h0 h1 hd' hs (fun hz=> (hk.rest hz).2.1) hco;have sne:=Pc.Yi ht hs;have hcj:=Ze ht hl (lv:=1) rfl (ts:=Ps.sAnd) (by decide) Q0q sne (Q4k hne);have scj:=Pc.Yh ht sne Ps.sAnd;have hdj:=Ze ht hl (lv:=0) rfl (ts:=Ps.sOr) (by decide) Q0p scj (UE (lv:=0) rfl rfl (by decide) hcj);have hfo:=Dm ht hl h0 h1 hd' hs (fun hz=> (hk.rest hz).1) hdj;have hex:=JX ht hl h0 h1 hd' rfl hs.ex hk.ex hfo;exact ⟨hex,fun _=> ⟨hfo,hne,hfa⟩⟩
end
section
variable {w0:World} {p b:Nat} {tk:List Tr.Tk} {dp:Int} {Q:Nat→Prop}
theorem KidsI.clause {W V:World} {s:Ps.St} {v:Value} {l:List Int} (h:KidsI Q w0 W p b tk dp s V v l) (y:Bool):KidsI Q w0 W p b tk dp {s with clause:=y} (V.setCell ⟨p,2,none⟩ (.bool y)) v l:=by
 have h2:=Qs (j:=2) h.pi.cell (.bool y);have h3:=h.pi.set (s':={s with clause:=y}) ⟨rfl,rfl⟩ (W':=V.setCell ⟨p,2,none⟩ (.bool y)) rfl rfl rfl (by simp[World.setCell]) h2 (fun k hk=> by rw[Below.heap_setCell _ _ _ _ hk]);exact h.step h3.1 h3.2
end
section
variable {w0:World} {p b:Nat} {tk:List Tr.Tk} {dp:Int}
theorem Q5N {Q:Nat→Prop} (h:PI Q w0 W p b tk dp s):KidsI Q w0 W p b tk dp s W (.slice none 0 0) []:=
 ⟨World.ownsRow_nil _ _ _ _,h.imp fun k _ hq=> ⟨hq,by simp[Value.ownBlock]⟩,FrT.refl _ _⟩
end
section
variable {w0:World} {p b:Nat} {tk:List Tr.Tk} {dp:Int}
theorem Q6K (hi:Pc.Inv tk s) (hl:tk.length≤1000000) (k:Int):Wk tk (Ps.kind tk k s).2:=by
 have h:=Pc.Qd hi hl;have h1:=hi.1;have h2:=hi.2.1;unfold Ps.kind;split
 ·unfold Ps.leaf;rw[if_neg (by omega)];exact ⟨h.1,h.2.1,by show s.used+1≤_;omega,by show (s.nodes++_).length≤_;simp only[eC_,eL_,eU_];omega⟩
 ·exact Wk.fail h 22
theorem Q0u (ht:Pc.Toks tk) (hl:tk.length≤1000000) {ex:Ps.F} {g:Pr.G} (hx:Pc.Sim tk ex g) (hex:Knows w0 p b tk dp 114 #[.pointer (some ⟨p,0,none⟩),.int .i64 1] ex)
  {Q:Nat→Prop} {W:World} {s:Ps.St} (hQ:Up Q W) (h:PI Q w0 W p b tk dp s) (hi:Pc.Inv tk s):
  Calls prog 78 #[.pointer (some ⟨p,0,none⟩)] W fun e W'=> e= .returned (.tuple #[])∧PI Q w0 W' p b tk dp (Ps.alone tk ex s).2∧FrT PTs W W':=by
 have H:=h4_ ht hl hx hex;have HB:=h3_ h.below.size hQ trivial;have K0:=h2_ (Q5N h) hi;have c2:=h.c2;have f2:=h.frozen 2;clear ht hl hx hex hQ h hi;go_in;go_wp2_with fail;clear c2 f2;have h:=K0.a.clause true;obtain ⟨W1,hw⟩:∃ r,W.setCell ⟨p,2,none⟩ (.bool true)=r:=⟨_,rfl⟩
 obtain ⟨s1,hs⟩:∃ r:Ps.St,{s with clause:=true}=r:=⟨_,rfl⟩
 have hin:Pc.Inv tk s1:=by rw[←hs];exact K0.B
 have HS1:Hid (W.heap.size=W1.heap.size):=by rw[←hw];exact hd_ (by simp[World.setCell])
 rw[hw,hs] at h;rw[hw];have K1:=h2_ h hin;have HX1:=hd_ hs;clear h hw hs hin;refine (H.D _ _ _ (K1.a.up HB.b) K1.a.pi K1.B).mono ?_;rintro e W2 ⟨rfl,h,g⟩;have K2:=h2_ (K1.a.step h g) (H.c.keep K1.B);clear h g;obtain ⟨⟨x2,s2⟩,hx⟩:∃ r,ex s1=r:=⟨_,rfl⟩
 rw[hx] at K2 ⊢;have HX2:=hd_ hx;clear hx;dsimp only at K2 ⊢;go_wp2_with fail;refine (ZC K2.a.pi (Pc.Qd K2.B H.b) 5).mono ?_;rintro e W3 ⟨rfl,h,g⟩;have hw:=Q6K K2.B H.b 5;obtain ⟨⟨x3,s3⟩,hx⟩:∃ r,Ps.kind tk 5 s2=r:=⟨_,rfl⟩
 rw[hx] at h hw ⊢;have K3:=h2_ (K2.a.step h g) hw;have HX3:=hd_ hx;clear h g hw hx;dsimp only at K3 ⊢;go_wp2_with fail;have hal:Below W3.heap.size W3 (W3.alloc (.cells (intCells [x2,x3]).toArray 3)):=XM _ _;refine (Xe (K3.a.pi.past hal) K3.B (Xn W3 [x2,x3] rfl) (fun k hk=> by rw[hk, ←Q5];omega) (by simp) ((K3.a.up HB.b).size hal.size) 18).mono ?_;rintro e W4 ⟨rfl,h,g⟩;have H4:=h2_ (h.imp fun k _ hq=> hq.1) (K3.a.fr.trans ((FrT.of hal).trans g));clear h g hal;dsimp only;go_wp2_with fail;refine bodyPost_end (results_none rfl _ _ _) rfl ?_;have e1:Ps.alone tk ex s=Ps.node 18 [x2,x3] s3:=by simp only[Ps.alone,HX1.o,HX2.o,HX3.o]
 rw[e1];exact ⟨rfl,H4.a,H4.B⟩
end
end Go.Proofs.YtiecccakcenobaaGreatDoor
namespace Go.Proofs.YtiecccakcenobaaGreatDoor.Pc
open Tryz
open Tr
def tkOf (t:Lx.Tok):Tk:=⟨t.kind,t.lead,t.text,t.pos⟩
def SoFar (acc:List Lx.Tok) (p:Nat):Prop:=(∀ t∈acc,t.kind≠5)∧acc.Pairwise (fun a b=> a.pos≤b.pos)∧∀ t∈acc,t.pos≤p
theorem SoFar.snoc {acc:List Lx.Tok} {p q:Nat} (h:SoFar acc p) {t:Lx.Tok} (hk:t.kind≠5) (hp:p≤t.pos) (hq:t.pos≤q):SoFar (acc++ [t]) q:=by
 refine ⟨fun x hx=> ?_,?_,fun x hx=> ?_⟩
 ·rcases List.mem_append.1 hx with hx | hx
  ·exact h.1 x hx
  ·rw[List.mem_singleton.1 hx];exact hk
 ·rw[List.pairwise_append];refine ⟨h.2.1,by simp,fun a ha b hb=> ?_⟩;rw[List.mem_singleton.1 hb];exact eE_ (h.2.2 a ha) hp
 ·rcases List.mem_append.1 hx with hx | hx
  ·exact eE_ (h.2.2 x hx) (eE_ hp hq)
  ·rw[List.mem_singleton.1 hx];exact hq
structure LexedTo (ts:List Lx.Tok):Prop where
 ends:∃ (init:List Lx.Tok) (z:Lx.Tok),ts=init++ [z]∧z.kind=5∧z.text= []∧(∀ t∈init,t.kind≠5)
 rising:ts.Pairwise fun a b=> a.pos≤b.pos
theorem Q4m {r:List UInt8} (he:(Lx.token r).2.2=0) (hk:(Lx.token r).1=5):(Lx.token r).2.1= []:=by
 have h:=(Lx.Yq r he).2.1 hk;rw[h];rfl
theorem Q1J:∀ (n:Nat) (r:List UInt8) (p:Nat) (acc:List Lx.Tok),r.length < n→(Lx.lexGo n r p acc).2.1=0→SoFar acc p→LexedTo (Lx.lexGo n r p acc).1
 | 0,_,_,_,h,_,_=> absurd h (by omega)
 | n+1,r,p,acc,h,hz,hs=> by
  by_cases he:(Lx.token (r.drop (Lx.between r).length)).2.2=0
  ·have ht:=Lx.Yq (r.drop (Lx.between r).length) he;by_cases hk:(Lx.token (r.drop (Lx.between r).length)).1=5
   ·rw[Lx.Uk he hk];refine ⟨⟨acc,_,rfl,hk,Q4m he hk,hs.1⟩,?_⟩;rw[List.pairwise_append];refine ⟨hs.2.1,by simp,fun a ha b hb=> ?_⟩;rw[List.mem_singleton.1 hb];exact eE_ (hs.2.2 a ha) (Nat.le_add_right _ _)
   ·rw[Lx.Gx he hk] at hz ⊢;have h3:=ht.2.2 hk;have h4:=ht.1.length_le;simp only[List.length_drop] at h4;exact Q1J n _ _ _ (by simp only[List.length_drop];omega) hz (hs.snoc hk (Nat.le_add_right _ _) (Nat.le_add_right _ _))
  ·rw[Lx.Uj he] at hz;exact absurd hz he
theorem Q5O {l:List UInt8} (h:(Lx.lex l).2.1=0):LexedTo (Lx.lex l).1:=by
 unfold Lx.lex at h ⊢;split at h
 ·exact absurd h (by simp)
 ·rename_i hs;rw[if_neg hs];exact Q1J _ _ _ _ (by omega) h ⟨fun t ht=> (by cases ht),List.Pairwise.nil,fun t ht=> (by cases ht)⟩
theorem LexedTo.toks {ts:List Lx.Tok} (h:LexedTo ts):Toks (ts.map tkOf):=by
 obtain ⟨init,z,rfl,h1,h2,h3⟩:=h.ends;refine ⟨by simp,fun k hk=> ?_,fun i k hi hk=> ?_⟩
 ·simp only[List.length_map,eC_,List.length_singleton,Nat.add_sub_cancel,List.map_append] at hk;rw[eO_ (by simp)] at hk;simp only[List.length_map,Nat.sub_self,List.map_cons,List.map_nil,eZ_,Option.some.injEq] at hk;subst hk;exact ⟨by simp[tkOf,h1],h2⟩
 ·simp only[List.length_map,eC_,List.length_singleton] at hi;rw[List.map_append,eT_ (by simp;omega),List.getElem?_map] at hk;cases hx:init[i]? with
  | none=> rw[hx] at hk;cases hk
  | some t=>
   rw[hx] at hk;simp only[Option.map_some,Option.some.injEq] at hk;subst hk;have:=h3 t (eP_ hx);simp only[tkOf];omega
end Go.Proofs.YtiecccakcenobaaGreatDoor.Pc
namespace Go.Proofs.YtiecccakcenobaaGreatDoor.Lx
open Tryz
def whole (l:List Tok):List UInt8:=l.flatMap fun t=> t.lead++t.text
theorem G2:∀ (n:Nat) (r:List UInt8) (p:Nat) (acc:List Tok),r.length < n→(lexGo n r p acc).2.1=0→whole (lexGo n r p acc).1=whole acc++r∧acc.length < (lexGo n r p acc).1.length∧(lexGo n r p acc).1.length≤acc.length+r.length+1
 | 0,_,_,_,h,_=> absurd h (by omega)
 | n+1,r,p,acc,h,hz=> by
  have hb:=LN r;by_cases he:(token (r.drop (between r).length)).2.2=0
  ·have ht:=Yq (r.drop (between r).length) he;by_cases hk:(token (r.drop (between r).length)).1=5
   ·rw[Uk he hk];have h1:=ht.2.1 hk;rw[h1] at hb;have h2:(token (r.drop (between r).length)).2.1= []:=by
     have h3:=ht.1;rw[h1] at h3 ⊢;exact List.prefix_nil.1 h3
    have hb1:between r=r:=by
     have:=hb.1;rw[hb.2,List.append_nil] at this;exact this
    refine ⟨?_,by simp,by simp⟩;simp only[whole,List.flatMap_append,List.flatMap_cons,List.flatMap_nil,List.append_nil,h2];rw[hb1]
   ·rw[Gx he hk] at hz ⊢;have h3:=ht.2.2 hk;have h4:=ht.1.length_le;simp only[List.length_drop] at h4;have ih:=G2 n _ _ _ (by simp only[List.length_drop];omega) hz;obtain ⟨i1,i2,i3⟩:=ih;refine ⟨?_,?_,?_⟩
    ·rw[i1];simp only[whole,List.flatMap_append,List.flatMap_cons,List.flatMap_nil,List.append_nil,eQ_];congr 1;obtain ⟨y,hy⟩:=ht.1;have h5:(token (r.drop (between r).length)).2.1++(r.drop (between r).length).drop (token (r.drop (between r).length)).2.1.length=r.drop (between r).length:=by
      generalize (token (r.drop (between r).length)).2.1=z at hy;rw[←hy];simp
     rw[h5];have:=hb.1;rw[hb.2] at this;exact this
    ·simp only[eC_,eL_,eU_] at i2;omega
    ·simp only[eC_,eL_,eU_,List.length_drop] at i3;omega
  ·rw[Uj he] at hz;exact absurd hz he
theorem LB {l:List UInt8} (h:(lex l).2.1=0):whole (lex l).1=l∧0 < (lex l).1.length∧(lex l).1.length≤l.length+1:=by
 unfold lex at h ⊢;split at h
 ·exact absurd h (by simp)
 ·rename_i hs;rw[if_neg hs];have:=G2 (l.length+1) l 0 [] (by omega) h;simpa [whole] using this
end Go.Proofs.YtiecccakcenobaaGreatDoor.Lx
namespace Go.Proofs.YtiecccakcenobaaGreatDoor
open Tryz
variable {a:Act} {fs ts:Array Value} {e:Ex} {n:Int} {txt:List UInt8} {cs:List Value} {B:Nat} {P Q:Nat→Prop} {o:Oper} {t:Tr.T} {u vn vt x y z:Value} {W W' w w' w0:World}
theorem Q31 (l:List Lx.Tok):wholeOf (l.map toTk)=Lx.whole l:=by
 simp only[wholeOf,Lx.whole,List.flatMap_map];rfl
open Go.RowKit
theorem Xx {P:Program} {fn:Func} {p q:Tmp} {ty ty2:TypeId} (h:fn.results= #[.cell p ty,.cell q ty2]) (tmps:Array Value) (w:World) (g g2:Nat) (t t2:TypeId) (cs cs2:Array Value) (fr fr2:Nat × Nat) (d d2:TypeDesc)
  (hp:tmps.getD p undef= .pointer (some ⟨g,0,none⟩)) (hq:tmps.getD q undef= .pointer (some ⟨g2,0,none⟩)) (hg:w.heap[g]? =some (.cells cs t fr)) (hg2:w.heap[g2]? =some (.cells cs2 t2 fr2))
  (hu:P.underlying ty=some d) (hd:(match d with | .struct _ | .array _ _=> true | _=> false)=true) (hi:(P.info? ty).map (·.size)=some cs.size)
  (hu2:P.underlying ty2=some d2) (hd2:(match d2 with | .struct _ | .array _ _=> true | _=> false)=true) (hi2:(P.info? ty2).map (·.size)=some cs2.size):
  (results fn tmps).run P w= .ok (.tuple #[.agg cs,.agg cs2]) w:=by
 have hp':tmps[p]?.getD undef= .pointer (some ⟨g,0,none⟩):=by simpa using hp
 have hq':tmps[q]?.getD undef= .pointer (some ⟨g2,0,none⟩):=by simpa using hq
 simp[results,h,hp',hq',asAddr,run_loadVar_row w g t ty cs fr d hg hu hd hi,run_loadVar_row w g2 t2 ty2 cs2 fr2 d2 hg2 hu2 hd2 hi2]
def Ps.read (what:List Tr.Tk→Nat→Ps.St) (l:List UInt8) (dp:Int):Tr.T × Int × Int:=
 if dp < 1∨200 < dp then (⟨[], []⟩,12,0)
 else if (Lx.lex l).2.1≠0 then (⟨[], []⟩,(Lx.lex l).2.1,(Lx.lex l).2.2)
 else if (what ((Lx.lex l).1.map toTk) dp.toNat).e≠0 then (⟨[], []⟩,(what ((Lx.lex l).1.map toTk) dp.toNat).e,(what ((Lx.lex l).1.map toTk) dp.toNat).pos)
 else (⟨(Lx.lex l).1.map toTk,(what ((Lx.lex l).1.map toTk) dp.toNat).nodes⟩,0,0)
def Ps.form (tk:List Tr.Tk) (d:Nat):Ps.St:=(Ps.alone tk (Ps.lv tk d).ex Ps.St.first).2
def Reads (r:Tr.T × Int × Int) (w:World) (e:Ending) (w':World):Prop:=
 ∃ vt vn,e= .returned (.tuple #[.agg #[vt,vn],.agg #[.int .i64 r.2.1,.int .i64 r.2.2]])∧RdT w' (fun k=> w.heap.size≤k∧k < w'.heap.size) vt vn r.1∧Below w.heap.size w w'
theorem U0 (w:World) (P:Nat→Prop):RdT w P (.slice none 0 0) (.slice none 0 0) ⟨[], []⟩:=
 ⟨⟨rfl,none,0,rfl,rl_ _,Or.inl ⟨rfl,rfl⟩⟩, [],rfl,⟨rfl,none,0,rfl,rl_ _,Or.inl ⟨rfl,rfl⟩⟩,fun i n kv h=> by simp at h⟩
theorem Yj (V:World) (o:Obj):Below V.heap.size V (V.alloc o):=(eB_ _ _).alloc (rl_ _) _
theorem Q4n {l:List UInt8} (h:(Lx.lex l).2.1=0):l.length≤65536:=by
 unfold Lx.lex at h;split at h
 ·exact absurd h (by simp)
 ·omega
def WhatDoes (k:FuncId) (what:List Tr.Tk→Nat→Ps.St):Prop:=
 (∀ (tk:List Tr.Tk) (dp:Int) (w0 W:World) (p b:Nat),Pc.Toks tk→tk.length≤1000000→1≤dp→dp≤200→PI (fun _=> True) w0 W p b tk dp Ps.St.first→
  Calls prog k #[.pointer (some ⟨p,0,none⟩)] W fun e W'=> e= .returned (.tuple #[])∧PI (fun _=> True) w0 W' p b tk dp (what tk dp.toNat)∧FrT PTs W W')∧
 ∀ (tk:List Tr.Tk) (d:Nat),Pc.Toks tk→(what tk d).e=0→(what tk d).nodes.length≤3*tk.length∧∀ n∈(what tk d).nodes,n.kids.length≤(what tk d).nodes.length
structure Two (w W:World) (ts:Array Value) (fs:Array Value):Prop where
 t:W.heap[w.heap.size]? =some (.cells ts 90 (0,0))
 f:W.heap[w.heap.size+1]? =some (.cells fs 92 (0,0))
 b:Below w.heap.size w W
theorem Q3z (w:World):Two w ((w.alloc (.cells #[.slice none 0 0,.slice none 0 0] 90)).alloc (.cells #[.int .i64 0,.int .i64 0] 92)) #[.slice none 0 0,.slice none 0 0] #[.int .i64 0,.int .i64 0]:=
 ⟨by rw[eJ_ _ _ _ (by rw[←Q5];omega)];exact eD_ _ _,heap_alloc2_new _ _ _,((eB_ _ _).alloc (rl_ _) _).alloc (by rw[←Q5];omega) _⟩
theorem Two.size {w W:World} {ts fs:Array Value} (h:Two w W ts fs):w.heap.size+2≤W.heap.size:=by
 have:=Q4 h.f;omega
theorem Two.past (h:Two w W ts fs) (hb:Below W.heap.size W W'):Two w W' ts fs:=
 ⟨Qa h.t hb,Qa h.f hb,h.b.trans (hb.mono h.b.size)⟩
theorem Two.set (h:Two w W ts fs) (us gs:Array Value):Two w ((W.setRow w.heap.size us).setRow (w.heap.size+1) gs) us gs:=
 ⟨by rw[Q9 (by omega)];exact Qb h.t,Qb (by rw[Q9 (by omega)];exact h.f),Qc (Qc h.b (rl_ _) _) (by omega) _⟩
theorem Two.set1 (h:Two w W ts fs) (us:Array Value):Two w (W.setRow w.heap.size us) us fs:=
 ⟨Qb h.t,by rw[Q9 (by omega)];exact h.f,Qc h.b (rl_ _) _⟩
theorem Two.drew {w W:World} {ts fs:Array Value} (h:Two w W ts fs):Two w W.drew ts fs:=⟨h.t,h.f,h.b.drew⟩
theorem Y4 (h:Below w.heap.size w W) {b j:Nat} (hb:w.heap.size≤b) (u:Value):Below w.heap.size w (W.setCell ⟨b,j,none⟩ u):=
 h.trans ⟨rfl,rfl,rfl,by simp[World.setCell],fun k hk=> Below.heap_setCell _ _ _ _ (show k≠b by omega)⟩
theorem Two.sets (h:Two w W #[x,y] #[z,u]) (a b c d:Value):
  Two w ((((W.setCell ⟨w.heap.size,0,none⟩ a).setCell ⟨w.heap.size,1,none⟩ b).setCell ⟨w.heap.size+1,0,none⟩ c).setCell ⟨w.heap.size+1,1,none⟩ d) #[a,b] #[c,d]:=by
 refine ⟨?_,?_,?_⟩
 ·rw[Below.heap_setCell _ _ _ _ (show w.heap.size≠w.heap.size+1 by omega),Below.heap_setCell _ _ _ _ (show w.heap.size≠w.heap.size+1 by omega)];exact Qs (j:=1) (Qs (j:=0) h.t a) b
 ·have h1:((W.setCell ⟨w.heap.size,0,none⟩ a).setCell ⟨w.heap.size,1,none⟩ b).heap[w.heap.size+1]? =some (.cells #[z,u] 92 (0,0)):=by
   rw[Below.heap_setCell _ _ _ _ (show w.heap.size+1≠w.heap.size by omega),Below.heap_setCell _ _ _ _ (show w.heap.size+1≠w.heap.size by omega)];exact h.f
  exact Qs (j:=1) (Qs (j:=0) h1 c) d
 ·exact Y4 (Y4 (Y4 (Y4 h.b (rl_ _) _) (rl_ _) _) (by omega) _) (by omega) _
theorem Two.frt (h:Two w W ts fs) (hf:FrT PTs W W') (hb:Below w.heap.size w W'):Two w W' ts fs:=⟨hf.cells h.t (by decide),hf.cells h.f (by decide),hb⟩
theorem Q1K (h:RdT W (fun k=> B≤k∧k < W.heap.size) vt vn t) (hB:w.heap.size+2≤B) (a b c d:Value):
  RdT ((((W.setCell ⟨w.heap.size,0,none⟩ a).setCell ⟨w.heap.size,1,none⟩ b).setCell ⟨w.heap.size+1,0,none⟩ c).setCell ⟨w.heap.size+1,1,none⟩ d)
   (fun k=> w.heap.size≤k∧k < ((((W.setCell ⟨w.heap.size,0,none⟩ a).setCell ⟨w.heap.size,1,none⟩ b).setCell ⟨w.heap.size+1,0,none⟩ c).setCell ⟨w.heap.size+1,1,none⟩ d).heap.size) vt vn t:=by
 have hs:((((W.setCell ⟨w.heap.size,0,none⟩ a).setCell ⟨w.heap.size,1,none⟩ b).setCell ⟨w.heap.size+1,0,none⟩ c).setCell ⟨w.heap.size+1,1,none⟩ d).heap.size=W.heap.size:=by simp[World.setCell]
 rw[hs];refine (h.keep fun k hk=> ?_).imp fun k hk=> ⟨by omega,hk.2⟩;rw[Below.heap_setCell _ _ _ _ (show k≠w.heap.size+1 by omega),Below.heap_setCell _ _ _ _ (show k≠w.heap.size+1 by omega),Below.heap_setCell _ _ _ _ (show k≠w.heap.size by omega),Below.heap_setCell _ _ _ _ (show k≠w.heap.size by omega)]
theorem ZW (h:Two w W #[x,y] #[z,u]):
  (W.cell? ⟨w.heap.size,0,none⟩=some x∧W.cell? ⟨w.heap.size,1,none⟩=some y∧W.cell? ⟨w.heap.size+1,0,none⟩=some z∧W.cell? ⟨w.heap.size+1,1,none⟩=some u)∧
  W.frozen? ⟨w.heap.size,0,none⟩=false∧W.frozen? ⟨w.heap.size,1,none⟩=false∧W.frozen? ⟨w.heap.size+1,0,none⟩=false∧W.frozen? ⟨w.heap.size+1,1,none⟩=false:=
 ⟨⟨Q3 h.t 0 rfl,Q3 h.t 1 rfl,Q3 h.f 0 rfl,Q3 h.f 1 rfl⟩,Qo h.t 0,Qo h.t 1,Qo h.f 0,Qo h.f 1⟩
theorem Q1L (hw:WhatDoes 78 Ps.form) (l:List UInt8) (hl:l.length≤1073741824) (dp:Int) (w:World):
  Calls prog 77 #[.string ⟨l.toArray⟩,.int .i64 dp,.func (.func 78) #[] #[]] w (Reads (Ps.read Ps.form l dp) w):=by
 have HW:=hd_ hw;have H0:=hd_ (Q3z w);clear hw;by_cases hr:dp < 1∨200 < dp
 ·have hrd:Ps.read Ps.form l dp=(⟨[], []⟩,12,0):=by unfold Ps.read;rw[if_pos hr]
  rw[hrd];clear hrd;by_cases h1:dp < 1
  ·clear hr;go_in;go_wp2_with (first | (refine Qf rfl 90 _ _ rfl 90 w.heap.size _ _ rfl H0.o.t rfl rfl rfl (by simp[Value.oneCell']) ?_) | (refine Qf rfl 92 _ _ rfl 92 (w.heap.size+1) _ _ rfl (H0.o.set1 _).f rfl rfl rfl (by simp[Value.oneCell']) ?_));refine eG_ (v:=_) (Xx rfl _ _ w.heap.size (w.heap.size+1) _ _ _ _ _ _ _ _ rfl rfl (H0.o.set _ _).t (H0.o.set _ _).f underlying90 rfl rfl underlying92 rfl rfl) rfl ?_;exact ⟨_,_,rfl,U0 _ _,(H0.o.set _ _).b⟩
  ·have h2:200 < dp:=(by omega);clear hr;go_in;go_wp2_with (first | (refine Qf rfl 90 _ _ rfl 90 w.heap.size _ _ rfl H0.o.t rfl rfl rfl (by simp[Value.oneCell']) ?_) | (refine Qf rfl 92 _ _ rfl 92 (w.heap.size+1) _ _ rfl (H0.o.set1 _).f rfl rfl rfl (by simp[Value.oneCell']) ?_));refine eG_ (v:=_) (Xx rfl _ _ w.heap.size (w.heap.size+1) _ _ _ _ _ _ _ _ rfl rfl (H0.o.set _ _).t (H0.o.set _ _).f underlying90 rfl rfl underlying92 rfl rfl) rfl ?_;exact ⟨_,_,rfl,U0 _ _,(H0.o.set _ _).b⟩
 ·have h1:1≤dp:=by omega
  have h2:dp≤200:=by omega
  have HR:=hd_ hr;clear hr;obtain ⟨V0,hV0⟩:∃ V,(w.alloc (.cells #[.slice none 0 0,.slice none 0 0] 90)).alloc (.cells #[.int .i64 0,.int .i64 0] 92)=V:=⟨_,rfl⟩
  rw[hV0] at H0;have HV0:=hd_ hV0;have HL:=hd_ (L7 l hl V0);clear hV0;by_cases hf:(Lx.lex l).2.1=0
  ·have hto:=(Pc.Q5O hf).toks;have hln:((Lx.lex l).1.map toTk).length≤1000000:=by
    have q1:=(Lx.LB hf).2.2;have q2:=Q4n hf;rw[List.length_map];omega
   have hrd:Ps.read Ps.form l dp=if (Ps.form ((Lx.lex l).1.map toTk) dp.toNat).e≠0 then ((⟨[], []⟩:Tr.T),(Ps.form ((Lx.lex l).1.map toTk) dp.toNat).e,(Ps.form ((Lx.lex l).1.map toTk) dp.toNat).pos) else ((⟨(Lx.lex l).1.map toTk,(Ps.form ((Lx.lex l).1.map toTk) dp.toNat).nodes⟩:Tr.T),(0:Int),(0:Int)):=by
    unfold Ps.read;rw[if_neg HR.o,if_neg (by simpa using hf)]
   rw[hrd];clear hrd;obtain ⟨⟨ts,fe,fp⟩,hx⟩:∃ r,Lx.lex l=r:=⟨_,rfl⟩
   rw[hx] at hf hto hln ⊢;dsimp only at hf hto hln ⊢;obtain ⟨tk,htk⟩:∃ tk,ts.map toTk=tk:=⟨_,rfl⟩
   have htk2:ts.map Pc.tkOf=tk:=htk;rw[htk] at hln ⊢;rw[htk2] at hto;subst hf;obtain ⟨s,hs⟩:∃ s,Ps.form tk dp.toNat=s:=⟨_,rfl⟩
   rw[hs];by_cases he:s.e=0
   ·rw[if_neg (by simp[he])];have HE:=hd_ he;clear he;have HS:=hd_ hs;have HX:=h2_ hx htk;have HT:=h2_ hto hln;clear hto hln hx htk htk2 hs;go_in;go_wp2_with fail;rw[HV0.o];refine HL.o.mono ?_;rintro e w1 ⟨v,rfl,ho1,hb1⟩;have H1:=hd_ (H0.o.past hb1);rw[Jh] at ho1;have hL0:(Lx.lex l).1.length=((Lx.lex l).1.map toTk).length:=(by rw[List.length_map]);rw[hL0,HX.a] at ho1;rw[HX.a];dsimp only at ho1 ⊢;rw[HX.B] at ho1;have HO1:=hd_ (RdS.own ho1);have HB1:=hd_ hb1;have hal:Below w1.heap.size w1 (w1.alloc (.cells #[.int .i64 0,.int .i64 fp] 92)):=(eB_ _ _).alloc (rl_ _) _;have h2:=H1.o.past hal;clear HL ho1 hb1 hL0;go_wp2_with fail;obtain ⟨V2,hV2⟩:∃ V,w1.alloc (.cells #[.int .i64 0,.int .i64 fp] 92)=V:=⟨_,rfl⟩
    rw[hV2] at h2 hal ⊢;have H2:=h2_ h2 hal;clear hV2 h2 hal;refine (Q3t (fun _=> True) (w:=w) (HO1.o.keep (Keeps.of H2.B fun k hk=> hk.2.2)) (by have:=HT.B;omega) H2.a.b).mono ?_;rintro e W3 ⟨b,rfl,hA,_,hb3⟩;have H3:=h2_ hA (H2.a.past hb3);clear hA hb3;dsimp only;go_wp2_with fail;have hp4:PI (fun _=> True) w (W3.alloc (.cells #[.pointer (some ⟨b,0,none⟩),.int .i64 dp,.bool false,.int .i64 0,.int .i64 0] 191)) W3.heap.size b tk dp Ps.St.first:=
     ⟨H3.a.past (Yj _ _),eD_ _ _,by have:=H3.B.size;omega⟩
    refine (HW.a tk dp w _ W3.heap.size b HT.a HT.B h1 h2 hp4).mono ?_;rintro e W5 ⟨rfl,h,g⟩;have h25:Two w W5 #[.slice none 0 0,.slice none 0 0] #[.int .i64 0,.int .i64 0]:=(H3.B.past (Yj _ _)).frt g h.below;have hw2:=HW.B tk dp.toNat HT.a;rw[HS.o] at h hw2;have H5:=h3_ h h25 hw2;have HSZ:=hd_ H3.B.size;clear h g h25 hw2 hp4;dsimp only;go_wp2_with fail;refine (Qr H5.a).mono ?_;rintro e W6 ⟨rfl,rfl⟩;rw[eM_ HE.o];have c0:=H5.a.c0;dsimp only;go_wp2_with fail;have hsm:=H5.C HE.o;refine (Q5c H5.a.anc (by show s.nodes.length≤_;have:=hsm.1;have:=HT.B;omega) (by show tk.length≤_;have:=HT.B;omega) (fun n hn=> by have h1:=hsm.2 n hn;have h2:=hsm.1;have h3:=HT.B;omega)).mono ?_;rintro e W7 ⟨vt,vn,rfl,hT,hb7⟩;obtain ⟨a1,c1,rfl⟩:∃ a c,vt= .slice a tk.length c:=hT.1.form;obtain ⟨a2,c2,rfl⟩:∃ a c,vn= .slice a s.nodes.length c:=by
     obtain ⟨kvs,_,h2,_⟩:=hT.2;exact h2.form
    have h27:=H5.b.past hb7;have H7:=h3_ h27 hT hb7.size;obtain ⟨⟨t0,t1,f0,f1⟩,g0,g1,g2,g3⟩:=ZW h27;clear hT hb7 h27 c0 hsm;dsimp only;go_wp2_with fail;have h9:=H7.a.sets (.slice a1 tk.length c1) (.slice a2 s.nodes.length c2) (.int .i64 0) (.int .i64 0);refine eG_ (v:=_) (Xx rfl _ _ w.heap.size (w.heap.size+1) _ _ _ _ _ _ _ _ rfl rfl h9.t h9.f underlying90 rfl rfl underlying92 rfl rfl) rfl ?_;refine ⟨_,_,rfl,Q1K H7.b ?_ _ _ _ _,h9.b⟩;have:=H5.b.size;omega
   ·rw[if_pos he];have HE:=hd_ he;clear he;have HS:=hd_ hs;have HX:=h2_ hx htk;have HT:=h2_ hto hln;clear hto hln hx htk htk2 hs;go_in;go_wp2_with fail;rw[HV0.o];refine HL.o.mono ?_;rintro e w1 ⟨v,rfl,ho1,hb1⟩;have H1:=hd_ (H0.o.past hb1);rw[Jh] at ho1;have hL0:(Lx.lex l).1.length=((Lx.lex l).1.map toTk).length:=(by rw[List.length_map]);rw[hL0,HX.a] at ho1;rw[HX.a];dsimp only at ho1 ⊢;rw[HX.B] at ho1;have HO1:=hd_ (RdS.own ho1);have HB1:=hd_ hb1;have hal:Below w1.heap.size w1 (w1.alloc (.cells #[.int .i64 0,.int .i64 fp] 92)):=(eB_ _ _).alloc (rl_ _) _;have h2:=H1.o.past hal;clear HL ho1 hb1 hL0;go_wp2_with fail;obtain ⟨V2,hV2⟩:∃ V,w1.alloc (.cells #[.int .i64 0,.int .i64 fp] 92)=V:=⟨_,rfl⟩
    rw[hV2] at h2 hal ⊢;have H2:=h2_ h2 hal;clear hV2 h2 hal;refine (Q3t (fun _=> True) (w:=w) (HO1.o.keep (Keeps.of H2.B fun k hk=> hk.2.2)) (by have:=HT.B;omega) H2.a.b).mono ?_;rintro e W3 ⟨b,rfl,hA,_,hb3⟩;have H3:=h2_ hA (H2.a.past hb3);clear hA hb3;dsimp only;go_wp2_with fail;have hp4:PI (fun _=> True) w (W3.alloc (.cells #[.pointer (some ⟨b,0,none⟩),.int .i64 dp,.bool false,.int .i64 0,.int .i64 0] 191)) W3.heap.size b tk dp Ps.St.first:=
     ⟨H3.a.past (Yj _ _),eD_ _ _,by have:=H3.B.size;omega⟩
    refine (HW.a tk dp w _ W3.heap.size b HT.a HT.B h1 h2 hp4).mono ?_;rintro e W5 ⟨rfl,h,g⟩;have h25:Two w W5 #[.slice none 0 0,.slice none 0 0] #[.int .i64 0,.int .i64 0]:=(H3.B.past (Yj _ _)).frt g h.below;have hw2:=HW.B tk dp.toNat HT.a;rw[HS.o] at h hw2;have H5:=h3_ h h25 hw2;have HSZ:=hd_ H3.B.size;clear h g h25 hw2 hp4;dsimp only;go_wp2_with fail;refine (Qr H5.a).mono ?_;rintro e W6 ⟨rfl,rfl⟩;rw[eK_ HE.o];have c3:=H5.a.c3;have c4:=H5.a.c4;obtain ⟨⟨t0,t1,f0,f1⟩,g0,g1,g2,g3⟩:=ZW H5.b;have hsz:=HSZ.o;have q1:¬ w.heap.size=W3.heap.size:=(by omega);have q2:¬ w.heap.size+1=W3.heap.size:=(by omega);have q3:¬ W3.heap.size=w.heap.size:=(by omega);have q4:¬ W3.heap.size=w.heap.size+1:=(by omega);clear hsz;dsimp only;go_wp2_with fail;go_region
    all_goals
     clear t0 t1 f0 f1 g0 g1 g2 g3 c3 c4 q1 q2 q3 q4;go_wp2_with fail;have h9:=(H5.b.sets (.slice none 0 0) (.slice none 0 0) (.int .i64 s.e) (.int .i64 s.pos)).drew;refine eG_ (v:=_) (Xx rfl _ _ w.heap.size (w.heap.size+1) _ _ _ _ _ _ _ _ rfl rfl h9.t h9.f underlying90 rfl rfl underlying92 rfl rfl) rfl ?_;exact ⟨_,_,rfl,U0 _ _,h9.b⟩
  ·have hrd:Ps.read Ps.form l dp=((⟨[], []⟩:Tr.T),((Lx.lex l).2.1:Int),((Lx.lex l).2.2:Int)):=(by unfold Ps.read;rw[if_neg HR.o,if_pos hf]);rw[hrd];clear hrd;obtain ⟨⟨ts,fe,fp⟩,hx⟩:∃ r,Lx.lex l=r:=⟨_,rfl⟩
   rw[hx] at hf ⊢;dsimp only at hf ⊢;have HX:=hd_ hx;clear hx;go_in;go_wp2_with fail;rw[HV0.o];refine HL.o.mono ?_;rintro e w1 ⟨v,rfl,ho1,hb1⟩;have H1:=hd_ (H0.o.past hb1);rw[HX.o];clear ho1 hb1 HL;dsimp only;have hfe:((fe:Int) !=0)=true:=(by simp[hf]);have hal:Below w1.heap.size w1 (w1.alloc (.cells #[.int .i64 fe,.int .i64 fp] 92)):=(eB_ _ _).alloc (rl_ _) _;have hnb:=eD_ w1 (.cells #[.int .i64 fe,.int .i64 fp] 92);have h2:=H1.o.past hal;go_wp2_with fail;obtain ⟨V2,hV2⟩:∃ V,w1.alloc (.cells #[.int .i64 fe,.int .i64 fp] 92)=V:=⟨_,rfl⟩
   rw[hV2] at hnb h2 ⊢;have H2:=hd_ h2;obtain ⟨⟨t0,t1,f0,f1⟩,g0,g1,g2,g3⟩:=ZW h2;have n0:=Q3 hnb 0 rfl;have n1:=Q3 hnb 1 rfl;have hsz:=H1.o.size;have q1:¬ w.heap.size=w1.heap.size:=(by omega);have q2:¬ w.heap.size+1=w1.heap.size:=(by omega);have q3:¬ w1.heap.size=w.heap.size:=(by omega);have q4:¬ w1.heap.size=w.heap.size+1:=(by omega);clear hal hnb hV2 h2;go_region
   all_goals
    clear t0 t1 f0 f1 g0 g1 g2 g3 n0 n1 q1 q2 q3 q4 hsz;go_wp2_with fail;have h9:=(H2.o.sets (.slice none 0 0) (.slice none 0 0) (.int .i64 fe) (.int .i64 fp)).drew;refine eG_ (v:=_) (Xx rfl _ _ w.heap.size (w.heap.size+1) _ _ _ _ _ _ _ _ rfl rfl h9.t h9.f underlying90 rfl rfl underlying92 rfl rfl) rfl ?_;exact ⟨_,_,rfl,U0 _ _,h9.b⟩
theorem Dp (hw:WhatDoes 78 Ps.form) (l:List UInt8) (hl:l.length≤1073741824) (dp:Int) (w:World):
  Calls prog 38 #[.string ⟨l.toArray⟩,.int .i64 dp] w (Reads (Ps.read Ps.form l dp) w):=by
 have H0:=hd_ (Q3z w);obtain ⟨V0,hV0⟩:∃ V,(w.alloc (.cells #[.slice none 0 0,.slice none 0 0] 90)).alloc (.cells #[.int .i64 0,.int .i64 0] 92)=V:=⟨_,rfl⟩
 rw[hV0] at H0;have HV0:=hd_ hV0;have hc:=Q1L hw l hl dp V0;obtain ⟨⟨T,fe,fp⟩,hr⟩:∃ r,Ps.read Ps.form l dp=r:=⟨_,rfl⟩
 rw[hr] at hc ⊢;have HC:=hd_ hc;clear hw hV0 hc hr;go_in;go_wp2_with fail;rw[HV0.o];refine HC.o.mono ?_;rintro e w1 ⟨vt,vn,rfl,hT,hb⟩;obtain ⟨a1,c1,rfl⟩:∃ a c,vt= .slice a T.toks.length c:=hT.1.form;obtain ⟨a2,c2,rfl⟩:∃ a c,vn= .slice a T.nodes.length c:=by
  obtain ⟨kvs,_,h2,_⟩:=hT.2;exact h2.form
 have h1:=H0.o.past hb;have H1:=h2_ h1 hT;obtain ⟨⟨t0,t1,f0,f1⟩,g0,g1,g2,g3⟩:=ZW h1;clear hT hb h1;dsimp only;go_wp2_with fail;have h9:=H1.a.sets (.slice a1 T.toks.length c1) (.slice a2 T.nodes.length c2) (.int .i64 fe) (.int .i64 fp);refine eG_ (v:=_) (Xx rfl _ _ w.heap.size (w.heap.size+1) _ _ _ _ _ _ _ _ rfl rfl h9.t h9.f underlying90 rfl rfl underlying92 rfl rfl) rfl ?_;exact ⟨_,_,rfl,Q1K H1.B H0.o.size _ _ _ _,h9.b⟩
theorem Dq:WhatDoes 78 Ps.form:=by
 refine ⟨fun tk dp w0 W p b ht hl h1 h2 h=> ?_,fun tk d ht he=> ?_⟩
 ·have hk:=LA (w0:=w0) (p:=p) (b:=b) ht hl h2 dp.toNat 1 (by omega) (by omega);exact Q0u ht hl (Pc.Q0m ht dp.toNat).ex hk.ex (fun _ _=> trivial) h (Pc.Ly ht).1
 ·exact (Pc.Q2Y ht d).small he
theorem J9 (l:List UInt8) (hl:l.length≤1073741824) (dp:Int) (w:World):
  Calls prog 38 #[.string ⟨l.toArray⟩,.int .i64 dp] w (Reads (Ps.read Ps.form l dp) w):=Dp Dq l hl dp w
inductive RdE (w:World) (P:Nat→Prop):Ex→List Value→Prop where
 | mk {op:Int} {name mod:List UInt8} {num:Int} {yes:Bool} {kids:List Ex} {pos:Int} {s v:Value} (css:List (List Value)) (hs:RdU w s (wd num)) (hl:css.length=kids.length)
   (hc:∀ c∈css,c.length=8) (hv:RdS w P 8 v kids.length css.flatten) (hk:∀ (i:Nat) (k:Ex) (c:List Value),kids[i]? =some k→css[i]? =some c→RdE w P k c):
   RdE w P (.mk op name mod num yes kids pos) [.int .i64 op,.string ⟨name.toArray⟩,.string ⟨mod.toArray⟩,.bool (decide (num < 0)),s,.bool yes,v,.int .i64 pos]
theorem RdE.keep {w w':World} {P:Nat→Prop} {e:Ex} {cs:List Value} (h:RdE w P e cs) (hk:Keeps P w w') (hf:FrT [30] w w'):RdE w' P e cs:=by
 induction h with
 | mk css hs hl hc hv _ ih=> exact .mk css (RdB.frt hs hf (by decide)) hl hc (hv.keep hk) ih
theorem RdE.imp {w:World} {P Q:Nat→Prop} {e:Ex} {cs:List Value} (h:RdE w P e cs) (hq:∀ k,P k→Q k):RdE w Q e cs:=by
 induction h with
 | mk css hs hl hc hv _ ih=> exact .mk css hs hl hc (hv.imp hq) ih
theorem RdE.len (h:RdE w P e cs):cs.length=8:=by cases h;rfl
theorem RdE.ones (h:RdE w P e cs):∀ u∈cs,u.oneCell'=true:=by
 cases h with
 | mk css hs hl hc hv hk=>
  obtain ⟨a,c,rfl⟩:=RdS.form hs;obtain ⟨a2,c2,rfl⟩:=hv.form;simp[Value.oneCell']
theorem RdE.form {w:World} {P:Nat→Prop} {e:Ex} {cs:List Value} (h:RdE w P e cs):∃ aw cw ak ck,cs= [.int .i64 e.op,.string ⟨e.name.toArray⟩,.string ⟨e.mod.toArray⟩,.bool (decide (e.num < 0)),.slice aw (wd e.num).length cw,.bool e.yes,.slice ak e.kids.length ck,.int .i64 e.pos]:=by
 cases h with
 | mk css hs hl hc hv hk=>
  obtain ⟨a,c,rfl⟩:=RdS.form hs;obtain ⟨a2,c2,rfl⟩:=hv.form;exact ⟨a,c,a2,c2,rfl⟩
def ExV (w:World) (P:Nat→Prop) (v:Value) (e:Ex):Prop:=∃ cs,v= .agg cs.toArray∧RdE w P e cs
theorem ExV.imp {w:World} {P Q:Nat→Prop} {v:Value} {e:Ex} (h:ExV w P v e) (hq:∀ k,P k→Q k):ExV w Q v e:=by
 obtain ⟨cs,h1,h2⟩:=h;exact ⟨cs,h1,h2.imp hq⟩
def New (w w':World) (k:Nat):Prop:=w.heap.size≤k∧k < w'.heap.size
def ExOut (w:World) (x:Ex) (e:Ending) (w':World):Prop:=∃ v,e= .returned v∧ExV w' (New w w') v x∧Below w.heap.size w w'
theorem QY:(prog.info? 30).map (·.size)=some 8:=by kernel_rfl
theorem ZE {op:Int} {name mod:List UInt8} {num:Int} {yes:Bool} {pos:Int} {s:Value} (hs:RdU w s (wd num)):
  RdE w P (.mk op name mod num yes [] pos) [.int .i64 op,.string ⟨name.toArray⟩,.string ⟨mod.toArray⟩,.bool (decide (num < 0)),s,.bool yes,.slice none 0 0,.int .i64 pos]:=
 .mk [] hs rfl (fun c hc=> by cases hc) (RdS.nil _ _ _) (fun i k c h _=> by simp at h)
theorem Q6L:wd 0= []:=Zp.QG B32
theorem ZF (w:World):RdU w (.slice none 0 0) (wd 0):=by
 rw[Q6L];exact RdS.nil _ _ _
structure TrR (w:World) (P:Nat→Prop) (vt vn:Value) (t:Tr.T):Prop where
 rd:RdT w P vt vn t
 low:∀ k,P k→k < w.heap.size
 nodes:t.nodes.length≤1000000
 toks:t.toks.length≤1000000
 kids:∀ n∈t.nodes,n.kids.length≤1000000
theorem TrR.below (h:TrR w P vt vn t) (hb:Below w.heap.size w w'):TrR w' P vt vn t:=
 ⟨h.rd.keep (Keeps.of hb h.low),fun k hk=> eI_ (h.low k hk) hb.size,h.nodes,h.toks,h.kids⟩
theorem TrR.form {w:World} {P:Nat→Prop} {vt vn:Value} {t:Tr.T} (h:TrR w P vt vn t):∃ at_ ct an cn,vt= .slice at_ t.toks.length ct∧vn= .slice an t.nodes.length cn:=by
 obtain ⟨a,c,e⟩:=h.rd.1.form;obtain ⟨kvs,_,h2,_⟩:=h.rd.2;obtain ⟨a2,c2,e2⟩:=h2.form;exact ⟨a,c,a2,c2,e,e2⟩
theorem TrR.node {w:World} {P:Nat→Prop} {vt:Value} {an:Option Addr} {nn cn:Nat} {t:Tr.T} (h:TrR w P vt (.slice an nn cn) t) {n:Int} {x:Tr.Nd} (hx:Ax.nd t n=some x):
  ∃ (i b off:Nat) (ak:Option Addr) (ck:Nat),n=(i:Int)∧i < t.nodes.length∧an=some ⟨b,off,none⟩∧w.cell? ⟨b,off+i*3,none⟩=some (.int .i64 x.kind)∧w.cell? ⟨b,off+i*3+1,none⟩=some (.int .i64 x.tok)∧w.cell? ⟨b,off+i*3+2,none⟩=some (.slice ak x.kids.length ck)∧x.kids.length≤1000000∧
   ∀ (j:Nat) (k:Int),x.kids[j]? =some k→∃ b2 o2,ak=some ⟨b2,o2,none⟩∧w.cell? ⟨b2,o2+j,none⟩=some (.int .i64 k):=by
 unfold Ax.nd at hx;split at hx
 ·cases hx
 ·rename_i hn;obtain ⟨b,off,c,kv,e,hb,hr,hk⟩:=h.rd.2.node hx;injection e with e1 e2 e3;obtain ⟨ak,ck,rfl⟩:=hk.form;have hi:=(List.getElem?_eq_some_iff.1 hx).1;refine ⟨n.toNat,b,off,ak,ck,by omega,hi,e1,hr 0 _ rfl,hr 1 _ rfl,hr 2 _ rfl,h.kids x (eP_ hx),fun j k hj=> ?_⟩;obtain ⟨_,a2,c2,e,_,h2⟩:=hk;injection e with e1 _ _;subst e1;have hj2:=(List.getElem?_eq_some_iff.1 hj).1;rcases h2 with ⟨h2,_⟩ | ⟨b2,o2,rfl,_,h2⟩
  ·omega
  ·exact ⟨b2,o2,rfl,h2 j _ (by simp[intCells,hj])⟩
theorem TrR.tok {at_:Option Addr} {nt ct:Nat} (h:TrR w P (.slice at_ nt ct) vn t) {j:Nat} {k:Tr.Tk} (hk:t.toks[j]? =some k):
  ∃ b off,at_=some ⟨b,off,none⟩∧j < t.toks.length∧w.cell? ⟨b,off+j*4,none⟩=some (.int .i64 k.kind)∧w.cell? ⟨b,off+j*4+1,none⟩=some (.string ⟨k.lead.toArray⟩)∧w.cell? ⟨b,off+j*4+2,none⟩=some (.string ⟨k.text.toArray⟩)∧w.cell? ⟨b,off+j*4+3,none⟩=some (.int .i64 k.pos):=by
 obtain ⟨_,a,c,e,_,h2⟩:=h.rd.1;injection e with e1 _ _;subst e1;have hj:=(List.getElem?_eq_some_iff.1 hk).1;rcases h2 with ⟨_,h2⟩ | ⟨b,off,rfl,_,h2⟩
 ·omega
 ·have h3:=QT (f:=tkCells) (s:=4) (fun _=> rfl) h2 hk;exact ⟨b,off,rfl,hj,h3 0 _ rfl,h3 1 _ rfl,h3 2 _ rfl,h3 3 _ rfl⟩
theorem Q70 {k:Tr.Tk} (h:Ax.tk t n=some k):∃ x j,Ax.nd t n=some x∧x.tok=((j:Nat):Int)∧t.toks[j]? =some k:=by
 unfold Ax.tk at h;split at h
 ·cases h
 ·rename_i x hx;split at h
  ·cases h
  ·exact ⟨x,x.tok.toNat,hx,by omega,h⟩
theorem Q1M:(prog.info? 197).map (·.size)=some 4:=by kernel_rfl
theorem Yk (h:TrR w P vt vn t) {n:Int} {k:Tr.Tk} (hk:Ax.tk t n=some k):
  Calls prog 119 #[.agg #[vt,vn],.int .i64 n] w fun e w'=> e= .returned (.agg #[.int .i64 k.kind,.string ⟨k.lead.toArray⟩,.string ⟨k.text.toArray⟩,.int .i64 k.pos])∧Below w.heap.size w w':=by
 obtain ⟨at_,ct,an,cn,rfl,rfl⟩:=h.form;obtain ⟨x,j,hx,hj,hkj⟩:=Q70 hk;have hb2:=(box2 w #[.slice at_ t.toks.length ct,.slice an t.nodes.length cn] 154 #[.int .i64 0,.string ⟨#[]⟩,.string ⟨#[]⟩,.int .i64 0] 197)
 obtain ⟨i,b,off,ak,ck,rfl,hi,rfl,c0,c1,c2,hkl,hkk⟩:=(h.below hb2.2.2).node hx;obtain ⟨bt,ot,rfl,hjl,k0,k1,k2,k3⟩:=(h.below hb2.2.2).tok hkj;rw[hj] at c1;have hi2:(i:Int) < (t.nodes.length:Int):=by omega
 have hj2:(j:Int) < (t.toks.length:Int):=by omega
 have hn2:(t.nodes.length:Int)≤1000000:=by have:=h.nodes;omega
 have ht2:(t.toks.length:Int)≤1000000:=by have:=h.toks;omega
 have a0:=Q3 hb2.1 0 rfl;have a1:=Q3 hb2.1 1 rfl;have r0:=Q3 hb2.2.1 0 rfl;have r1:=Q3 hb2.2.1 1 rfl;have r2:=Q3 hb2.2.1 2 rfl;have r3:=Q3 hb2.2.1 3 rfl;have z0:=Q6 hb2.2.1 0;have z1:=Q6 hb2.2.1 1;have z2:=Q6 hb2.2.1 2;have z3:=Q6 hb2.2.1 3;have HB:=hd_ hb2;clear h hk hx hj hkj hb2 hkl hkk hi hjl;go_in;go_wp2_with fail;go_region;go_wp2_with fail;have hb3:=(box2 w #[.slice (some ⟨bt,ot,none⟩) t.toks.length ct,.slice (some ⟨b,off,none⟩) t.nodes.length cn] 154 #[.int .i64 k.kind,.string ⟨k.lead.toArray⟩,.string ⟨k.text.toArray⟩,.int .i64 k.pos] 197)
 refine eG_ (eY_ rfl _ _ (w.heap.size+1) _ _ _ _ rfl hb3.2.1 underlying197 rfl Q1M) rfl ?_;exact ⟨rfl,hb3.2.2.drew⟩
theorem Q32 (k:Int) (l t:ByteArray) (q:Int) (w:World):(Instr.field 197 (.agg #[.int .i64 k,.string l,.string t,.int .i64 q]) 2).run prog w= .ok (.string t) w:=by kernel_rfl
theorem U1 (h:TrR w P vt vn t) {n:Int} {k:Tr.Tk} (hk:Ax.tk t n=some k):
  Calls prog 123 #[.agg #[vt,vn],.int .i64 n] w fun e w'=> e= .returned (.string ⟨k.text.toArray⟩)∧Below w.heap.size w w':=by
 obtain ⟨at_,ct,an,cn,rfl,rfl⟩:=h.form;have HH:=h2_ h hk;clear h hk;go_in;go_wp2_with fail;have hb:=box1 w #[.slice at_ t.toks.length ct,.slice an t.nodes.length cn] 154;refine (Yk (HH.a.below hb.2) HH.B).mono ?_;rintro e w2 ⟨rfl,hb2⟩;have HB:=hd_ (hb.2.trans (hb2.mono hb.2.size));clear hb hb2;dsimp only;have t2:=Q32 k.kind ⟨k.lead.toArray⟩ ⟨k.text.toArray⟩ k.pos w2;go_wp2_with fail;go_ret;exact ⟨rfl,HB.o⟩
def PtRel (w V:World) (t:Tr.T) (kids:List Int) (ks:List Int) (k:Nat) (v5 v16:Value) (wr:World):Prop:=
 ∃ (i:Nat) (done rest:List Int) (a:Option Addr) (c:Nat),v5= .slice a done.length c∧v16= .int .i64 (i:Int)∧k=kids.length - i∧i≤kids.length∧done.length≤i∧Ax.partsGo t (kids.drop i)=some rest∧done++rest=ks∧
  wr.ownsRow V.heap.size 3 1 (.slice a done.length c) done.length (intCells done)∧Below V.heap.size V wr
theorem Q0v (h:TrR w P vt vn t) {n:Int} {ks:List Int} (hk:Ax.parts t n=some ks):
  Calls prog 158 #[.agg #[vt,vn],.int .i64 n] w fun e w'=> ∃ v,e= .returned v∧w'.ownsRow w.heap.size 3 1 v ks.length (intCells ks)∧Below w.heap.size w w':=by
 obtain ⟨at_,ct,an,cn,rfl,rfl⟩:=h.form;obtain ⟨x,hx,hpg⟩:∃ x,Ax.nd t n=some x∧Ax.partsGo t x.kids=some ks:=by
  unfold Ax.parts at hk;split at hk
  ·cases hk
  ·exact ⟨_,by assumption,hk⟩
 have hn2:(t.nodes.length:Int)≤1000000:=by have:=h.nodes;omega
 have hb1:=box1 w #[.slice at_ t.toks.length ct,.slice an t.nodes.length cn] 154;obtain ⟨i,b,off,ak,ck,rfl,hi,rfl,c0,c1,c2,hkl,hkk⟩:=(h.below hb1.2).node hx;have hi2:(i:Int) < (t.nodes.length:Int):=by omega
 have hkl2:(x.kids.length:Int)≤1000000:=by omega
 have a0:=Q3 hb1.1 0 rfl;have a1:=Q3 hb1.1 1 rfl;have HH:=h6_ h hx hpg hb1 hkk hkl;clear h hk hx hpg hb1 hkk hkl;go_in;go_wp2_with fail;obtain ⟨V,hV⟩:∃ V,w.alloc (.cells #[.slice at_ t.toks.length ct,.slice (some ⟨b,off,none⟩) t.nodes.length cn] 154)=V:=⟨_,rfl⟩
 rw[hV] at HH a0 a1 c0 c1 c2 ⊢;clear hV;go_loopg [5,16] x.kids.length (fun k v5 v16 wr=> PtRel w V t x.kids ks k v5 v16 wr)
 case atStart=> exact ⟨0, [],ks,none,0,rfl,rfl,rfl,eV_ _,eV_ _,HH.c,rfl,World.ownsRow_nil _ _ _ _,eB_ _ _⟩
 case round=>
  obtain ⟨j,done,rest,ad,cd,rfl,rfl,hm,hj,hdl,hpg,hdr,hown,hb⟩:=hrel;have hwr:Below w.heap.size w wr:=HH.d.2.trans (hb.mono HH.d.2.size);have hbox:=(hb.block _ (Q4 HH.d.1)).trans HH.d.1;clear a0 a1 c0 c1 c2;have a0:=Q3 hbox 0 rfl;have a1:=Q3 hbox 1 rfl;have HR:=h7_ hm hpg hdr hown hb hwr hdl;clear hm hdr hown hb hbox hdl;by_cases hlt:j < x.kids.length
  ·have hlt2:(j:Int) < (x.kids.length:Int):=(by omega);obtain ⟨k,hkj⟩:∃ k,x.kids[j]? =some k:=⟨_,eA_ hlt⟩
   obtain ⟨b2,o2,e1,q0⟩:=HH.e j k hkj;subst e1;have q1:=(HR.e.cell (Q8 q0)).trans q0;clear q0;have hdrop:x.kids.drop j=k::x.kids.drop (j+1):=(by rw[List.drop_eq_getElem_cons hlt,(List.getElem?_eq_some_iff.1 hkj).2]);rw[hdrop] at hpg;obtain ⟨y,l,hy,hl,hrest⟩:∃ y l,Ax.nd t k=some y∧Ax.partsGo t (x.kids.drop (j+1))=some l∧rest=(if y.kind=19 then l else k::l):=by
    rw[Ax.partsGo] at hpg;split at hpg
    ·cases hpg
    ·split at hpg
     ·cases hpg
     ·injection hpg with hpg;exact ⟨_,_,by assumption,by assumption,hpg.symm⟩
   obtain ⟨i2,b3,off3,ak3,ck3,hk2,hi3,e3,d0,d1,d2,_,_⟩:=(HH.a.below hwr).node hy;injection e3 with e3;injection e3 with e3 e4;subst e3 e4 hk2;have hi4:(i2:Int) < (t.nodes.length:Int):=(by omega);have HY:=h2_ hl hrest;have hdn:(done.length:Int)≤1000000:=(by have:=HR.G;omega);clear hpg hkj hdrop hy hl hrest hlt hwr hi3;by_cases hkd:y.kind=19
   ·have hkd2:(y.kind !=19)=false:=(by rw[hkd];rfl);have HK:=hd_ hkd;clear hkd;go_wp2_with fail;go_roundg (x.kids.length - (j+1))
    case measure=> have:=HR.a;omega
    case rel=> exact ⟨j+1,done,_,_,_,rfl,by go_num,rfl,by omega,by have:=HR.G;omega,HY.a,by rw[←HR.c,HY.B,if_pos HK.o],HR.d,HR.e⟩
   ·have hkd2:(y.kind !=19)=true:=bne_iff_ne.2 hkd;have HK:=hd_ hkd;clear hkd;go_wp2_with (refine app1 rfl _ _ XD rfl rfl HR.d (rl_ _) HR.e.size HR.e _ rfl rfl rfl (by omega) ?_;rintro a2 c2' w2 ho2 hb2 -;have HA:=h2_ ho2 hb2;clear ho2 hb2);go_roundg (x.kids.length - (j+1))
    case measure=> have:=HR.a;omega
    case rel=>
     refine ⟨j+1,done++ [(i2:Int)],_,_,_,by rw[eC_];rfl,by go_num,rfl,by omega,by have:=HR.G;rw[eC_];simp;omega,HY.a,by rw[←HR.c,HY.B,if_neg HK.o,eQ_];rfl,?_,HA.B⟩;have h5:=HA.a;rw[eC_];simpa [intCells] using h5
  ·obtain rfl:x.kids.length=j:=(by omega);rw[List.drop_length,Ax.partsGo] at hpg;injection hpg with hpg;have hd:done=ks:=(by rw[←HR.c, ←hpg,List.append_nil]);subst hd;clear hpg hlt hwr;go_wp2_with fail;go_ret;exact ⟨_,rfl,Zb HR.d HH.d.2.size,HR.f⟩
def KnowsE (w0:World) (vt vn:Value) (f:Int→Option Ex):Prop:=∀ W,Below w0.heap.size w0 W→∀ n x,f n=some x→Calls prog 80 #[.agg #[vt,vn],.int .i64 n] W (ExOut W x)
theorem KnowsE.past {f:Int→Option Ex} (h:KnowsE w0 vt vn f) (hb:Below w0.heap.size w0 w):KnowsE w vt vn f:=fun W hW n x hx=> h W (hb.trans (hW.mono hb.size)) n x hx
theorem Q6M:(prog.info? 30).map (fun i=> (i.zero,i.size,i.bytes))=some (some (.agg #[.int .i64 0,.string ⟨#[]⟩,.string ⟨#[]⟩,.bool false,.slice none 0 0,.bool false,.slice none 0 0,.int .i64 0]),8,112):=by kernel_rfl
theorem Gc {P:Program} {K:Act→World→Prop} {Q:Exit→Act→World→Prop} (s x:Operand) (t:TypeId)
  (ho:o.op= .call {callee:= .builtin .append,args:= #[s,x],argTypes:= #[t,t]})
  (base:Nat) (e:TypeId) (i:TypeInfo) (z:Value) (size bytes:Nat) (ht:P.underlying t=some (.slice e)) (hi:P.info? e=some i) (hz:i.zero=some z)
  (hsize:i.size=size) (hby:i.bytes=bytes) (hzs:z.cells.size=size) (hsz:0 < size)
  (v:Value) (n:Nat) (xs:List Value) (hs:a.eval s=v) (hown:w.ownsRow base e size v n xs) {R:Nat→Prop} {xv:Value} {m:Nat} {news:List Value} (hxv:a.eval x=xv) (hx:RdS w R size xv m news) (h1:∀ u∈news,u.oneCell'=true)
  (h63:n+m≤maxLen) (hbytes:(n+m)*bytes≤140737488355328) (hbase:base≤w.heap.size)
  (h:∀ a2 cap w',w'.ownsRow base e size (.slice a2 (n+m) cap) (n+m) (xs++news)→w.grownBy w' v.ownBlock→(∀ k,(Value.slice a2 (n+m) cap).ownBlock=some k→v.ownBlock=some k∨k=w.heap.size)→K (a.put o.dst (.slice a2 (n+m) cap)) w'):
  Oper.wp P o a w K Q:=by
 obtain ⟨a2,cap,w',hr,h2,h3,h4⟩:=Ys (P:=P) w t o.type base e i z size bytes ht hi hz hsize hby hzs hsz v n xs hown hx h1 h63 hbytes hbase;unfold Oper.wp execOp;simp only[ho,resolve,invoke,builtin,Sem.run_bind,Sem.run_pure,Result.andThen_ok,List.map_toArray,List.map_cons,List.map_nil,hs,hxv,hr];exact h a2 cap w' h2 h3 h4
theorem G3 {t:Tr.T}:∀ {l ks:List Int},Ax.partsGo t l=some ks→ks.length≤l.length
 | [],ks,h=> by
  rw[Ax.partsGo] at h;injection h with h;rw[←h];exact rl_ _
 | k::r,ks,h=> by
  rw[Ax.partsGo] at h;split at h
  ·cases h
  ·split at h
   ·cases h
   ·rename_i l hl;injection h with h;have h2:=G3 hl;rw[←h];split <;> simp only[eL_] <;> omega
theorem Q5P {x:Tr.Nd} (h:Ax.nd t n=some x):x∈t.nodes:=by
 unfold Ax.nd at h;split at h
 ·cases h
 ·exact eP_ h
def OffW (B:Nat) (W:World) (v:Value) (k:Nat):Prop:=B≤k∧k < W.heap.size∧v.ownBlock≠some k
def zeroEx:Array Value:= #[.int .i64 0,.string ⟨#[]⟩,.string ⟨#[]⟩,.bool false,.slice none 0 0,.bool false,.slice none 0 0,.int .i64 0]
structure MdI (w:World) (B:Nat) (vt vn pv:Value) (op pos:Int) (ks:List Int) (f:Int→Option Ex) (es:List Ex) (i:Nat) (a:Option Addr) (c:Nat) (done rest:List Ex) (css:List (List Value)) (wr:World):Prop where
 left:Ax.exprs f (ks.drop i)=some rest
 app:done++rest=es
 dlen:done.length=i
 clen:css.length=i
 c8:∀ c∈css,c.length=8
 own:wr.ownsRow B 30 8 (.slice a i c) i css.flatten
 g9:wr.heap[w.heap.size+2]? =some (.cells #[.int .i64 op,.string ⟨#[]⟩,.string ⟨#[]⟩,.bool false,.slice none 0 0,.bool false,.slice a i c,.int .i64 pos] 30 (0,0))
 rds:∀ (j:Nat) (k:Ex) (cs:List Value),done[j]? =some k→css[j]? =some cs→RdE wr (OffW B wr (.slice a i c)) k cs
 box:wr.heap[w.heap.size]? =some (.cells #[vt,vn] 154 (0,0))
 res:wr.heap[w.heap.size+1]? =some (.cells zeroEx 30 (0,0))
 parts:wr.ownsRow B 3 1 pv ks.length (intCells ks)
 below:Below w.heap.size w wr
 size:B≤wr.heap.size
def MdeRel (w:World) (B:Nat) (vt vn pv:Value) (op pos:Int) (ks:List Int) (f:Int→Option Ex) (es:List Ex) (gk:Nat) (v19:Value) (wr:World):Prop:=
 ∃ (i:Nat) (a:Option Addr) (c:Nat) (done rest:List Ex) (css:List (List Value)),v19= .int .i64 (i:Int)∧gk=ks.length - i∧i≤ks.length∧MdI w B vt vn pv op pos ks f es i a c done rest css wr
theorem Q33 {base n:Nat} {a:Option Addr} {c:Nat} {l:List Int} (h:w.ownsRow base 3 1 (.slice a n c) n (intCells l)) {j:Nat} {k:Int} (hk:l[j]? =some k):∃ b,a=some ⟨b,0,none⟩∧base≤b∧w.cell? ⟨b,j,none⟩=some (.int .i64 k):=by
 obtain ⟨hl,⟨e,h0⟩ | ⟨g,cap,cur,e,hg,hh,_,_,_,ht⟩⟩:=h
 ·have:j < l.length:=(List.getElem?_eq_some_iff.1 hk).1;simp[intCells] at hl;omega
 ·injection e with e1 _ _;subst e1;refine ⟨g,rfl,hg,Q3 hh j ?_⟩;have h2:(intCells l)[j]? =some (.int .i64 k):=by simp[intCells,hk]
  rw[←ht,List.getElem?_take] at h2;split at h2
  ·simpa using h2
  ·cases h2
theorem Xy (h:TrR w P vt vn t) {f:Int→Option Ex} (hf:KnowsE w vt vn f) {op pos n:Int} {es:List Ex} (hm:Ax.made f t op pos n=some es):
  Calls prog 122 #[.agg #[vt,vn],.int .i64 op,.int .i64 pos,.int .i64 n] w (ExOut w (.mk op [] [] 0 false es pos)):=by
 obtain ⟨at_,ct,an,cn,rfl,rfl⟩:=h.form;obtain ⟨ks,hks,hes⟩:∃ ks,Ax.parts t n=some ks∧Ax.exprs f ks=some es:=by
  unfold Ax.made at hm;split at hm
  ·cases hm
  ·exact ⟨_,by assumption,hm⟩
 have hkl:ks.length≤1000000:=by
  have h1:=hks;unfold Ax.parts at h1;split at h1
  ·cases h1
  ·rename_i x hx;exact eE_ (G3 h1) (h.kids x (Q5P hx))
 have HH:=h5_ h hf hks hes hkl;have hkl2:(ks.length:Int)≤1000000:=by omega
 clear h hf hm hks hes hkl;go_in;go_wp2_with fail;obtain ⟨V,hV⟩:∃ V,((w.alloc (.cells #[.slice at_ t.toks.length ct,.slice an t.nodes.length cn] 154)).alloc (.cells #[.int .i64 0,.string ⟨#[]⟩,.string ⟨#[]⟩,.bool false,.slice none 0 0,.bool false,.slice none 0 0,.int .i64 0] 30)).alloc (.cells #[.int .i64 op,.string ⟨#[]⟩,.string ⟨#[]⟩,.bool false,.slice none 0 0,.bool false,.slice none 0 0,.int .i64 pos] 30)=V:=⟨_,rfl⟩
 have hbx:=box3 w #[.slice at_ t.toks.length ct,.slice an t.nodes.length cn] 154 #[.int .i64 0,.string ⟨#[]⟩,.string ⟨#[]⟩,.bool false,.slice none 0 0,.bool false,.slice none 0 0,.int .i64 0] 30 #[.int .i64 op,.string ⟨#[]⟩,.string ⟨#[]⟩,.bool false,.slice none 0 0,.bool false,.slice none 0 0,.int .i64 pos] 30;rw[hV] at hbx ⊢;have HV:=hd_ hbx;clear hbx hV;go_wp2_with fail;refine (Q0v (HH.a.below HV.D) HH.c).mono ?_;rintro e w1 ⟨pv,rfl,hown,hb⟩;obtain ⟨ap,cp,rfl⟩:=Qi hown;have H1:=h2_ hown hb;clear hown hb;dsimp only;go_wp2_with fail;go_loopg [19] ks.length (fun k v19 wr=> MdeRel w V.heap.size (.slice at_ t.toks.length ct) (.slice an t.nodes.length cn) (.slice ap ks.length cp) op pos ks f es k v19 wr)
 case atStart=>
  exact ⟨0,none,0, [],es, [],rfl,rfl,eV_ _,HH.d,rfl,rfl,rfl,fun c hc=> (by cases hc),World.ownsRow_nil _ _ _ _,(H1.B.block _ (Q4 HV.c)).trans HV.c,fun j k cs h _=> (by simp at h),(H1.B.block _ (Q4 HV.a)).trans HV.a,(H1.B.block _ (Q4 HV.b)).trans HV.b,H1.a,HV.D.trans (H1.B.mono HV.D.size),H1.B.size⟩
 case round=>
  obtain ⟨i,a,c,done,rest,css,rfl,hk,hi,hI⟩:=hrel;have HR:=h2_ hk hI;have b0:=Q3 hI.box 0 rfl;have b1:=Q3 hI.box 1 rfl;have g6:=Q3 hI.g9 6 rfl;clear hk;by_cases hlt:i < ks.length
  ·have hlt2:(i:Int) < (ks.length:Int):=(by omega);obtain ⟨k,hki⟩:∃ k,ks[i]? =some k:=⟨_,eA_ hlt⟩
   obtain ⟨bp,e1,hbp,q0⟩:=Q33 hI.parts hki;subst e1;obtain ⟨x,l,hx,hl,hrest⟩:∃ x l,f k=some x∧Ax.exprs f (ks.drop (i+1))=some l∧rest=x::l:=by
    have h1:=hI.left;rw[List.drop_eq_getElem_cons hlt,(List.getElem?_eq_some_iff.1 hki).2,Ax.exprs] at h1;split at h1
    ·cases h1
    ·split at h1
     ·cases h1
     ·injection h1 with h1;exact ⟨_,_,by assumption,by assumption,h1.symm⟩
   have HX:=h3_ hx hl hrest;clear hx hl hrest hki hlt hI;go_wp2_with fail;have c0:=b0;have c1:=b1;have c6:=g6;refine QM (S:=fun w'=> w'.cell? ⟨w.heap.size,0,none⟩=some (.slice at_ t.toks.length ct)∧w'.cell? ⟨w.heap.size,1,none⟩=some (.slice an t.nodes.length cn)∧w'.cell? ⟨w.heap.size+1+1,6,none⟩=some (.slice a i c)) (by simp) (by kernel_rfl) (by kernel_rfl) (⟨c0,c1,c6⟩) (fun hHeld=> ?_);simp only[lA_];refine tk_ 0 rfl ?_;(try simp only[Act.put,gP_]);refine tk_ 1 rfl ?_;(try simp only[Act.put,gP_]);refine tk_ 2 rfl ?_;(try simp only[Act.put,gP_]);refine tk_ 3 rfl ?_;(try simp only[Act.put,gP_]);refine rd_ 4 rfl (fun KK hKK=> ?_);simp only[gA_];go_simp;refine (HH.b wr.drew HR.B.below.drew k x HX.a).mono ?_;rintro e w6 ⟨v6,rfl,⟨cs,rfl,hre⟩,hc⟩;obtain ⟨aw,cw,ak,ck,rfl⟩:=hre.form;have hb6:Below wr.heap.size wr w6:=(Q7 (B:=wr.heap.size) wr 1).trans hc;have hbox6:=(hb6.block _ (Q4 HR.B.box)).trans HR.B.box;have hg96:=(hb6.block _ (Q4 HR.B.g9)).trans HR.B.g9;have hown6:=Qu HR.B.own hb6;have H6:=h5_ hre hb6 hbox6 hg96 hown6;have d0:=Q3 hbox6 0 rfl;have d1:=Q3 hbox6 1 rfl;have d6:=Q3 hg96 6 rfl;clear hre hc hb6 hbox6 hg96 hown6;dsimp only;refine hKK.out _ _ (⟨d0,d1,d6⟩) (fun hHeld=> ?_);clear hKK KK;(try simp only[Act.put,sA_]);have hal:=Qn w6 (.cells #[.int .i64 x.op,.string ⟨x.name.toArray⟩,.string ⟨x.mod.toArray⟩,.bool (decide (x.num < 0)),.slice aw (wd x.num).length cw,.bool x.yes,.slice ak x.kids.length ck,.int .i64 x.pos] 30);have hbox7:=(hal.block _ (Q4 H6.c)).trans H6.c;have hg97:=(hal.block _ (Q4 H6.d)).trans H6.d;have hown7:=Qu H6.E hal;have hnew7:=eD_ w6 (.cells #[.int .i64 x.op,.string ⟨x.name.toArray⟩,.string ⟨x.mod.toArray⟩,.bool (decide (x.num < 0)),.slice aw (wd x.num).length cw,.bool x.yes,.slice ak x.kids.length ck,.int .i64 x.pos] 30);have e0:=Q3 hbox7 0 rfl;have e1:=Q3 hbox7 1 rfl;have e6:=Q3 hg97 6 rfl;have H7:=h5_ hal hbox7 hg97 hown7 hnew7;clear hal hbox7 hg97 hown7 hnew7;refine rd_ 5 rfl (fun KK hKK=> ?_);simp only[gA_];go_simp;refine hKK.out _ _ (⟨e0,e1,e6⟩) (fun hHeld=> ?_);clear hKK KK;(try simp only[Act.put,sA_]);obtain ⟨i0,hi0,hz0,hz1,hz2⟩:=Qv Q6M;refine rd_ 6 rfl (fun KK hKK=> ?_);simp only[gA_];rw[if_pos (by rfl)];refine Gc (m:=1) (xv:= .slice (some ⟨w6.heap.size,0,none⟩) 1 1) (.tmp 24) (.tmp 28) 28 rfl V.heap.size 30 i0 _ 8 112 underlying28 hi0 hz0 hz1 hz2 rfl (by decide) (.slice a i c) i css.flatten rfl H7.d rfl (Q0h (size:=8) (cs:= [.int .i64 x.op,.string ⟨x.name.toArray⟩,.string ⟨x.mod.toArray⟩,.bool (decide (x.num < 0)),.slice aw (wd x.num).length cw,.bool x.yes,.slice ak x.kids.length ck,.int .i64 x.pos]) H7.E rfl) H6.a.ones (by unfold maxLen;omega) (by omega) (eE_ HR.B.size (eE_ H6.b.size H7.a.size)) ?_;intro a2 c2 w8 ho8 hg8 hat8;have hbox8:=Xu H7.b H7.d hg8 (by decide);have hg98:=hg8.block _ (Q4 H7.c) (fun e=> by have:=(H7.d.lt _ e.symm).1;have:=Q4 HV.c;omega);have hg98:=hg98.trans H7.c;have f0:=Q3 hbox8 0 rfl;have f1:=Q3 hbox8 1 rfl;have f6:=Q3 hg98 6 rfl;have z6:=Q6 hg98 6;have H8:=h5_ ho8 hg8 hat8 hbox8 hg98;clear ho8 hg8 hat8 hbox8 hg98;refine hKK.out _ _ (⟨f0,f1,f6⟩) (fun hHeld=> ?_);clear hKK KK;(try simp only[Act.put,sA_]);refine tk_ 7 rfl ?_;(try simp only[Act.put,gP_]);refine wpAnyH_done (by kernel_rfl) ?_ _;unfold PeelQ;dsimp only;go_simp;have e9:w8.setCell ⟨w.heap.size+1+1,6,none⟩ (.slice a2 (i+1) c2)=w8.setRow (w.heap.size+2) #[.int .i64 op,.string ⟨#[]⟩,.string ⟨#[]⟩,.bool false,.slice none 0 0,.bool false,.slice a2 (i+1) c2,.int .i64 pos]:=setCell_eq_setRow w8 _ 6 _ _ (0,0) _ H8.E;rw[e9];clear e9 b0 b1 c0 c1 c6 g6 d0 d1 d6 e0 e1 e6 f0 f1 f6 z6;have hVs:V.heap.size≤wr.heap.size:=HR.B.size;have hgB:w.heap.size+2 < V.heap.size:=Q4 HV.c;have hs6:=H6.b.size;have hs7:=H7.a.size;have hs8:=H8.b.size;have hlt7:=Xm w6 (.cells #[.int .i64 x.op,.string ⟨x.name.toArray⟩,.string ⟨x.mod.toArray⟩,.bool (decide (x.num < 0)),.slice aw (wd x.num).length cw,.bool x.yes,.slice ak x.kids.length ck,.int .i64 x.pos] 30);have hown:∀ k,(Value.slice a i c).ownBlock=some k→V.heap.size≤k∧k < wr.heap.size:=fun k hk=> HR.B.own.lt k hk;have hkeep:∀ k,V.heap.size≤k→k < w6.heap.size→(Value.slice a i c).ownBlock≠some k→(w8.setRow (w.heap.size+2) #[.int .i64 op,.string ⟨#[]⟩,.string ⟨#[]⟩,.bool false,.slice none 0 0,.bool false,.slice a2 (i+1) c2,.int .i64 pos]).heap[k]? =w6.heap[k]? :=fun k h1 h2 h3=> by
    rw[Q9 (by omega),H8.b.block k (by omega) (fun e=> h3 e.symm),H7.a.block k h2]
   have hft:FrT [30] w6 (w8.setRow (w.heap.size+2) #[.int .i64 op,.string ⟨#[]⟩,.string ⟨#[]⟩,.bool false,.slice none 0 0,.bool false,.slice a2 (i+1) c2,.int .i64 pos]):=((FrT.of H7.a).trans (ZV H7.d H8.b (by decide))).trans (Qg H8.E);have hI:MdI w V.heap.size (.slice at_ t.toks.length ct) (.slice an t.nodes.length cn) (.slice (some ⟨bp,0,none⟩) ks.length cp) op pos ks f es (i+1) a2 c2 (done++ [x]) l (css++ [[.int .i64 x.op,.string ⟨x.name.toArray⟩,.string ⟨x.mod.toArray⟩,.bool (decide (x.num < 0)),.slice aw (wd x.num).length cw,.bool x.yes,.slice ak x.kids.length ck,.int .i64 x.pos]]) (w8.setRow (w.heap.size+2) #[.int .i64 op,.string ⟨#[]⟩,.string ⟨#[]⟩,.bool false,.slice none 0 0,.bool false,.slice a2 (i+1) c2,.int .i64 pos]):=by
    refine ⟨HX.b,by rw[eQ_,List.singleton_append, ←HX.C];exact HR.B.app,by rw[eC_,HR.B.dlen];rfl,by rw[eC_,HR.B.clen];rfl,fun c hc=> ?_,?_,Qb H8.E,fun j k cs h1 h2=> ?_,?_,?_,?_,?_,?_⟩
    ·rcases List.mem_append.1 hc with hc | hc
     ·exact HR.B.c8 c hc
     ·rw[List.mem_singleton.1 hc];rfl
    ·rw[List.flatten_append,List.flatten_singleton];exact Qh H8.a fun k hk=> Q9 (by have:=(H8.a.lt k hk).1;omega)
    ·have him:∀ q,V.heap.size≤q→q < w6.heap.size→(Value.slice a i c).ownBlock≠some q→OffW V.heap.size (w8.setRow (w.heap.size+2) #[.int .i64 op,.string ⟨#[]⟩,.string ⟨#[]⟩,.bool false,.slice none 0 0,.bool false,.slice a2 (i+1) c2,.int .i64 pos]) (.slice a2 (i+1) c2) q:=fun q p1 p2 p3=> ⟨p1,by rw[QI];omega,fun e=> by
      rcases H8.c q e with e2 | e2
      ·exact p3 e2
      ·omega⟩
     rcases eS_ j i with hj | hj
     ·rw[eT_ (by rw[HR.B.dlen];exact hj)] at h1;rw[eT_ (by rw[HR.B.clen];exact hj)] at h2;exact ((HR.B.rds j k cs h1 h2).keep (fun q hq=> (hkeep q hq.1 (eI_ hq.2.1 hs6) hq.2.2).trans (H6.b.block q hq.2.1)) ((FrT.of H6.b).trans hft)).imp fun q hq=> him q hq.1 (eI_ hq.2.1 hs6) hq.2.2
     ·rw[eO_ (by rw[HR.B.dlen];exact hj),HR.B.dlen] at h1;rw[eO_ (by rw[HR.B.clen];exact hj),HR.B.clen] at h2;cases hd:j - i with
      | zero=>
       rw[hd] at h1 h2;simp only[eZ_,Option.some.injEq] at h1 h2;subst h1 h2;have hn:∀ q,New wr.drew w6 q→V.heap.size≤q∧q < w6.heap.size∧(Value.slice a i c).ownBlock≠some q:=fun q hq=> ⟨eE_ hVs hq.1,hq.2,fun e=> by have h1:=(hown q e).2;have h2:wr.heap.size≤q:=hq.1;omega⟩;exact (H6.a.keep (fun q hq=> hkeep q (hn q hq).1 (hn q hq).2.1 (hn q hq).2.2) hft).imp fun q hq=> him q (hn q hq).1 (hn q hq).2.1 (hn q hq).2.2
      | succ d=> rw[hd] at h1;simp at h1
    ·rw[Q9 (by omega)];exact H8.d
    ·rw[Q9 (by omega),H8.b.block _ (by have:=Q4 HR.B.res;omega) (fun e=> by have:=(H7.d.lt _ e.symm).1;omega),H7.a.block _ (by have:=Q4 HR.B.res;omega),H6.b.block _ (Q4 HR.B.res)];exact HR.B.res
    ·exact X3 (UC (Qu (Qu HR.B.parts H6.b) H7.a) H7.d H8.b (by decide)) H8.E (by decide) _
    ·exact Qc (((HR.B.below.trans (H6.b.mono HR.B.below.size)).trans (H7.a.mono (eE_ HR.B.below.size hs6))).trans ((YI H7.d H8.b (by omega)).mono (by omega))) (by omega) _
    ·rw[QI];omega
   have HI:=hd_ hI;clear hI hft hkeep hown hVs hgB hs6 hs7 hs8 hlt7;go_wp2_with fail;go_roundg (ks.length - (i+1))
   case measure=> have:=HR.a;omega
   case rel=> exact ⟨i+1,a2,c2,_,_,_,by go_num,rfl,by omega,HI.o⟩
  ·obtain rfl:ks.length=i:=(by omega);have hre:rest= []:=by
    have h1:=hI.left;rw[List.drop_length,Ax.exprs] at h1;injection h1 with h1;exact h1.symm
   have hde:done=es:=(by rw[←hI.app,hre,List.append_nil]);subst hde;have q0:=Q3 hI.g9 0 rfl;have q1:=Q3 hI.g9 1 rfl;have q2:=Q3 hI.g9 2 rfl;have q3:=Q3 hI.g9 3 rfl;have q4:=Q3 hI.g9 4 rfl;have q5:=Q3 hI.g9 5 rfl;have q7:=Q3 hI.g9 7 rfl;clear hlt hre hi hI;go_wp2_with (refine Qf rfl _ _ _ rfl 30 (w.heap.size+1) zeroEx #[.int .i64 op,.string ⟨#[]⟩,.string ⟨#[]⟩,.bool false,.slice none 0 0,.bool false,.slice a ks.length c,.int .i64 pos] rfl HR.B.res rfl rfl QY (by simp[Value.oneCell']) ?_);refine eG_ (eY_ rfl _ _ (w.heap.size+1) _ _ _ _ rfl (Qb HR.B.res) underlying30 rfl QY) rfl ?_;have hgB:w.heap.size+2 < V.heap.size:=Q4 HV.c;have hk:∀ q,V.heap.size≤q→(wr.setRow (w.heap.size+1) #[.int .i64 op,.string ⟨#[]⟩,.string ⟨#[]⟩,.bool false,.slice none 0 0,.bool false,.slice a ks.length c,.int .i64 pos]).heap[q]? =wr.heap[q]? :=fun q hq=> Q9 (by omega);have hw:Below w.heap.size w (wr.setRow (w.heap.size+1) #[.int .i64 op,.string ⟨#[]⟩,.string ⟨#[]⟩,.bool false,.slice none 0 0,.bool false,.slice a ks.length c,.int .i64 pos]):=Qc HR.B.below (by omega) _;have hrow:=RdS.own (Qh HR.B.own fun k e=> hk k (HR.B.own.lt k e).1);refine ⟨_,rfl,⟨[.int .i64 op,.string ⟨#[]⟩,.string ⟨#[]⟩,.bool false,.slice none 0 0,.bool false,.slice a ks.length c,.int .i64 pos],rfl,?_⟩,hw⟩;have hdl:done.length=ks.length:=HR.B.dlen;refine RdE.mk (op:=op) (name:= []) (mod:= []) (num:=0) (yes:=false) (kids:=done) (pos:=pos) css (ZF _) (by rw[HR.B.clen,hdl]) HR.B.c8 (by rw[hdl];exact hrow.imp fun k hk2=> ⟨by have:=hk2.2.1;omega,hk2.2.2⟩) fun j k cs h1 h2=> ?_;exact ((HR.B.rds j k cs h1 h2).keep (fun q hq=> hk q hq.1) (Qg HR.B.res)).imp fun q hq=> ⟨by have:=hq.1;omega,by rw[QI];exact hq.2.1⟩
def asgA:Array Value:= #[.string ⟨#[43]⟩,.string ⟨#[45]⟩,.string ⟨#[42]⟩,.string ⟨#[47]⟩,.string ⟨#[37]⟩,.string ⟨#[61]⟩,.string ⟨#[60,62]⟩,.string ⟨#[60]⟩,.string ⟨#[60,61]⟩,.string ⟨#[62]⟩,.string ⟨#[62,61]⟩,.string ⟨#[38,38]⟩,.string ⟨#[124,124]⟩,.string ⟨#[61,62]⟩]
def asgZ:Array Value:= #[.string ⟨#[]⟩,.string ⟨#[]⟩,.string ⟨#[]⟩,.string ⟨#[]⟩,.string ⟨#[]⟩,.string ⟨#[]⟩,.string ⟨#[]⟩,.string ⟨#[]⟩,.string ⟨#[]⟩,.string ⟨#[]⟩,.string ⟨#[]⟩,.string ⟨#[]⟩,.string ⟨#[]⟩,.string ⟨#[]⟩]
theorem asgSize:(prog.info? 234).map (·.size)=some asgA.size:=by kernel_rfl
theorem Q4o (w:World):(Instr.build 234 #[(0,.string ⟨#[43]⟩),(1,.string ⟨#[45]⟩),(2,.string ⟨#[42]⟩),(3,.string ⟨#[47]⟩),(4,.string ⟨#[37]⟩),(5,.string ⟨#[61]⟩),(6,.string ⟨#[60,62]⟩),(7,.string ⟨#[60]⟩),(8,.string ⟨#[60,61]⟩),(9,.string ⟨#[62]⟩),(10,.string ⟨#[62,61]⟩),(11,.string ⟨#[38,38]⟩),(12,.string ⟨#[124,124]⟩),(13,.string ⟨#[61,62]⟩)]).run prog w= .ok (.agg asgA) w:=by kernel_rfl
theorem Q4p (w:World):(Instr.alloc 234 true (.tuple #[])).run prog w= .ok (.pointer (some ⟨w.heap.size,0,none⟩)) (w.alloc (.cells asgZ 234)):=by kernel_rfl
theorem asgZsize:asgZ.size=asgA.size:=by kernel_rfl
theorem Q6N:∀ u∈asgA.toList,u.oneCell'=true:=by
 have h:asgA.toList.all (fun u=> u.oneCell')=true:=by rfl
 intro u hu;exact List.all_eq_true.1 h u hu
theorem Q4q (w:World):Calls prog 157 #[] w fun e w'=> e= .returned (.agg asgA)∧w.alloc (.cells asgA 234)=w':=by
 have hb:=Q4o;have ha:=Q4p;go_in;go_wp2_with (refine Qe rfl 234 _ _ rfl 234 asgZ asgA rfl rfl asgZsize asgSize Q6N ?_);exact eG_ (v:=_) (eY_ rfl _ _ w.heap.size _ _ _ _ rfl (eD_ _ _) underlying234 rfl asgSize) rfl ⟨rfl,rfl⟩
theorem Q7c (w:World):∀ j:Nat,j < 14→(Instr.index 234 (.agg asgA) (.int .i64 j)).run prog w= .ok (.string ⟨(Ax.signs.getD j []).toArray⟩) w:=by
 intro j hj
 match j,hj with
 | 0,_ | 1,_ | 2,_ | 3,_ | 4,_ | 5,_ | 6,_ | 7,_ | 8,_ | 9,_ | 10,_ | 11,_ | 12,_ | 13,_=> refine Eq.trans ?_ rfl;kernel_rfl
 | n+14,h=> omega
theorem Q5Q:∃ S:Array Value,S.size=14∧(∀ (w:World) (j:Nat),j < 14→(Instr.index 234 (.agg S) (.int .i64 j)).run prog w= .ok (.string ⟨(Ax.signs.getD j []).toArray⟩) w)∧∀ w,Calls prog 157 #[] w fun e w'=> e= .returned (.agg S)∧w.alloc (.cells S 234)=w':=
 ⟨asgA,rfl,Q7c,Q4q⟩
def TkAt (B:Nat) (w0:World) (k:Tr.Tk) (g:Nat) (W:World):Prop:=W.heap[g]? =some (.cells #[.int .i64 k.kind,.string ⟨k.lead.toArray⟩,.string ⟨k.text.toArray⟩,.int .i64 k.pos] 197 (0,0))∧Below B w0 W∧B≤g
theorem Q1N (k:Tr.Tk) (hb:Below B w0 W) (hB:B≤w0.heap.size):TkAt B w0 k W.heap.size (W.alloc (.cells #[.int .i64 k.kind,.string ⟨k.lead.toArray⟩,.string ⟨k.text.toArray⟩,.int .i64 k.pos] 197)):=
 ⟨eD_ _ _,hb.alloc (eE_ hB hb.size) _,eE_ hB hb.size⟩
theorem Dr (k:Tr.Tk) (hb:Below B w0 W) {g:Nat} {cs:Array Value} (hg:W.heap[g]? =some (.cells cs 197 (0,0))) (hs:cs.size=4) (hB:B≤g):
  TkAt B w0 k g ((((W.setCell ⟨g,0,none⟩ (.int .i64 k.kind)).setCell ⟨g,1,none⟩ (.string ⟨k.lead.toArray⟩)).setCell ⟨g,2,none⟩ (.string ⟨k.text.toArray⟩)).setCell ⟨g,3,none⟩ (.int .i64 k.pos)):=by
 rw[Ya hg hs];exact ⟨Qb hg,Qc hb hB _,hB⟩
theorem ZG (h:Below B w W) {g:Nat} (hg:B≤g) (x y z u:Value):Below B w ((((W.setCell ⟨g,0,none⟩ x).setCell ⟨g,1,none⟩ y).setCell ⟨g,2,none⟩ z).setCell ⟨g,3,none⟩ u):=(Yu h hg x y z).setCell (p:=⟨g,3,none⟩) hg u
theorem XJ {fn:Func} {g:Nat} {cs:Array Value} {tmps:Array Value} {p:Tmp} (h:fn.results= #[.cell p 30]) (hp:tmps.getD p undef= .pointer (some ⟨g,0,none⟩)) (hg:w.heap[g]? =some (.cells cs 30 (0,0))) (hs:cs.size=8):
  (results fn tmps).run prog w= .ok (.agg cs) w:=
 eY_ h _ _ g _ _ _ _ hp hg underlying30 rfl (by rw[hs];exact QY)
theorem QN {ops:Array Oper} {rest:List Oper} {Q:Exit→Act→World→Prop} {w1 w2:World} (hgd:o.guard=none) (x v:Operand) (ho:o.op= .store 30 x v)
  {g:Nat} {zs:Array Value} (hx:a.eval x= .pointer (some ⟨g,0,none⟩)) (hg:w2.heap[g]? =some (.cells zs 30 (0,0))) (hz:zs.size=8) {val:Value} {e:Ex} (hv:a.eval v=val) (hn:ExV w2 (New w1 w2) val e) (hg1:g < w1.heap.size) (h01:w0.heap.size≤g) (hb:Below w0.heap.size w0 w2)
  (h:∀ W cs,W.heap[g]? =some (.cells cs 30 (0,0))→cs.size=8→ExV W (New w0 W) (.agg cs) e→Below w0.heap.size w0 W→wpList prog ops Q rest (a.put o.dst undef) W):
  wpList prog ops Q (o::rest) a w2:=by
 obtain ⟨cs,rfl,hr⟩:=hn;have hl:cs.toArray.size=8:=by simpa using hr.len
 refine Qf hgd _ x v ho _ g zs cs.toArray hx hg hv (by rw[hz,hl]) (by rw[hl];exact QY) (by simpa using hr.ones) ?_;refine h _ cs.toArray (Qb hg) hl ⟨cs,rfl,(hr.keep (fun k hk=> Q9 (by have:=hk.1;omega)) (Qg hg)).imp fun k hk=> ⟨by have:=hk.1;omega,by rw[QI];exact hk.2⟩⟩ (Qc hb h01 _)
theorem Q3A (x y:List UInt8):((⟨x.toArray⟩:ByteArray).toList==(⟨y.toArray⟩:ByteArray).toList)=decide (x=y):=by
 rw[X9,X9];exact QC x y
theorem Zf {f:Int→Option Ex} {op pos:Int} {name mod:List UInt8} (h:Ax.wrap f t op pos name mod n=some e):∃ es,Ax.made f t op pos n=some es∧e= .mk op name mod 0 false es pos:=by
 unfold Ax.wrap at h;split at h
 ·cases h
 ·injection h with h;exact ⟨_,by assumption,h.symm⟩
theorem Q4r {f:Int→Option Ex} {x:Tr.Nd} (h:Ax.binary f t n x=some e):∃ k s,x.kids[1]? =some k∧Ax.tk t k=some s∧
  ((Ax.signs.findIdx? (·==s.text)=none∧e=Ex.none)∨∃ (i:Nat) (es:List Ex),Ax.signs.findIdx? (·==s.text)=some i∧Ax.made f t (7+(i:Int)) s.pos n=some es∧e= .mk (7+(i:Int)) [] [] 0 false es s.pos):=by
 unfold Ax.binary at h;split at h
 ·cases h
 ·rename_i k hk;split at h
  ·cases h
  ·rename_i s hs;refine ⟨k,s,hk,hs,?_⟩;split at h
   ·rename_i hf;injection h with h;exact Or.inl ⟨hf,h.symm⟩
   ·rename_i i hf;obtain ⟨es,h1,h2⟩:=Zf h;exact Or.inr ⟨i,es,hf,h1,h2⟩
def SgRel (V wc:World) (txt:List UInt8) (gk:Nat) (v20:Value) (wr:World):Prop:=∃ j:Nat,v20= .int .i64 (j:Int)∧gk=14 - j∧j≤14∧(∀ m,m < j→Ax.signs.getD m []≠txt)∧wr=wc
theorem Q5R {j:Nat} (hj:j < 14) (h:∀ m,m < j→Ax.signs.getD m []≠txt) (he:Ax.signs.getD j []=txt):Ax.signs.findIdx? (·==txt)=some j:=by
 have hl:Ax.signs.length=14:=rfl;rw[List.findIdx?_eq_some_iff_getElem];refine ⟨by omega,?_,fun m hm=> ?_⟩
 ·rw[List.getD_eq_getElem?_getD,eA_ (by omega)] at he;exact beq_iff_eq.2 he
 ·have h2:=h m hm;rw[List.getD_eq_getElem?_getD,eA_ (by omega)] at h2;intro e;exact h2 (beq_iff_eq.1 e)
theorem Q6O (h:∀ m,m < 14→Ax.signs.getD m []≠txt):Ax.signs.findIdx? (·==txt)=none:=by
 rw[List.findIdx?_eq_none_iff];intro y hy;obtain ⟨m,hm,rfl⟩:=List.getElem_of_mem hy;have hl:Ax.signs.length=14:=rfl;have h2:=h m (by omega);rw[List.getD_eq_getElem?_getD,eA_ hm] at h2;exact beq_false_of_ne h2
theorem DO (h:TrR w P vt vn t) {f:Int→Option Ex} (hf:KnowsE w vt vn f) {n:Int} {x:Tr.Nd} {e:Ex} (hx:Ax.nd t n=some x) (hbn:Ax.binary f t n x=some e):
  Calls prog 120 #[.agg #[vt,vn],.int .i64 n] w (ExOut w e):=by
 obtain ⟨at_,ct,an,cn,rfl,rfl⟩:=h.form;obtain ⟨S,hSs,hSa,hSc⟩:=Q5Q;obtain ⟨k,s,hk1,hks,hcase⟩:=Q4r hbn;have hn2:(t.nodes.length:Int)≤1000000:=by have:=h.nodes;omega
 have hbx:=box2 w #[.slice at_ t.toks.length ct,.slice an t.nodes.length cn] 154 #[.int .i64 0,.string ⟨#[]⟩,.string ⟨#[]⟩,.bool false,.slice none 0 0,.bool false,.slice none 0 0,.int .i64 0] 30;obtain ⟨i,b,off,ak,ck,hni,hi,e0,c0,c1,c2,hkl,hkk⟩:=(h.below hbx.2.2).node hx;subst hni e0;obtain ⟨b2,o2,e0,q0⟩:=hkk 1 k hk1;subst e0;have hi2:(i:Int) < (t.nodes.length:Int):=by omega
 have hk2:(1:Int) < (x.kids.length:Int):=by have:=(List.getElem?_eq_some_iff.1 hk1).1;omega
 have hk3:(x.kids.length:Int)≤1000000:=by omega
 have HH:=h7_ h hf hks hcase hSa hSc hx;clear hkk hk1 hbn hkl hcase hks hSa hSc hx h hf hi;go_in;go_wp2_with fail;obtain ⟨V,hV⟩:∃ V,(w.alloc (.cells #[.slice at_ t.toks.length ct,.slice (some ⟨b,off,none⟩) t.nodes.length cn] 154)).alloc (.cells #[.int .i64 0,.string ⟨#[]⟩,.string ⟨#[]⟩,.bool false,.slice none 0 0,.bool false,.slice none 0 0,.int .i64 0] 30)=V:=⟨_,rfl⟩
 rw[hV] at hbx c0 c1 c2 q0 ⊢;have a0:=Q3 hbx.1 0 rfl;have a1:=Q3 hbx.1 1 rfl;have mkS:∀ W:World,Below V.heap.size V W→Below V.heap.size V W∧W.cell? ⟨w.heap.size,0,none⟩=some (.slice at_ t.toks.length ct)∧W.cell? ⟨w.heap.size,1,none⟩=some (.slice (some ⟨b,off,none⟩) t.nodes.length cn)∧W.cell? ⟨b,off+i*3+2,none⟩=some (.slice (some ⟨b2,o2,none⟩) x.kids.length ck)∧W.cell? ⟨b2,o2+1,none⟩=some (.int .i64 k):=fun W hb=> ⟨hb,(hb.cell (Q4 hbx.1)).trans a0,(hb.cell (Q4 hbx.1)).trans a1,(hb.cell (Q8 c2)).trans c2,(hb.cell (Q8 q0)).trans q0⟩;have HV:=hd_ hbx;have HS:=hd_ mkS;clear hbx hV a0 a1 c0 c1 mkS;go_cut [5] from 8 to 18 (fun v5 wc=> ∃ g,v5= .pointer (some ⟨g,0,none⟩)∧TkAt V.heap.size V s g wc)
 case first=>
  go_region_held3 (fun w'=> Below V.heap.size V w'∧w'.cell? ⟨w.heap.size,0,none⟩=some (.slice at_ t.toks.length ct)∧w'.cell? ⟨w.heap.size,1,none⟩=some (.slice (some ⟨b,off,none⟩) t.nodes.length cn)∧w'.cell? ⟨b,off+i*3+2,none⟩=some (.slice (some ⟨b2,o2,none⟩) x.kids.length ck)∧w'.cell? ⟨b2,o2+1,none⟩=some (.int .i64 k)) (first | exact HS.o _ ((eB_ _ _).drew) | exact HS.o _ (XH (by assumption) (rl_ _) _) | exact HS.o _ hb7 | exact HS.o _ (hb7.alloc hb7.size _) | exact HS.o _ (ZG (Qq (by assumption)) (rl_ _) _ _ _ _)) ((go_at_call 119;refine eH_ (Yk (HH.a.below (HV.C.trans ((Qq (by assumption)).mono HV.C.size))) HH.c) ?_;rintro e w6 ⟨rfl,hc7⟩;have hb7:Below V.heap.size V w6:=QE hc7 (by assumption) (rl_ _);(first | (have hz6:=(hc7.block _ (Q4 (eD_ V (.cells #[.int .i64 0,.string ⟨#[]⟩,.string ⟨#[]⟩,.int .i64 0] 197)))).trans (eD_ V (.cells #[.int .i64 0,.string ⟨#[]⟩,.string ⟨#[]⟩,.int .i64 0] 197));have r0:=Q3 hz6 0 rfl;have r1:=Q3 hz6 1 rfl;have r2:=Q3 hz6 2 rfl;have r3:=Q3 hz6 3 rfl;have z0:=Q6 hz6 0;have z1:=Q6 hz6 1;have z2:=Q6 hz6 2;have z3:=Q6 hz6 3) | skip);clear hc7))
  all_goals (
   rename_i hh;clear hh;go_wp2_with fail;go_meet
   case rel=> first | exact ⟨_,rfl,Q1N s hb7 (rl_ _)⟩ | exact ⟨_,rfl,Dr s hb7 hz6 rfl (rl_ _)⟩)
 case rest=>
  obtain ⟨g5,rfl,hg5,hb5,hB5⟩:=hcut;have HC:=h3_ hg5 hb5 hB5;clear hg5 hb5 hB5 c2 q0;go_wp2_with fail;refine (HH.f wc).mono ?_;rintro e w1 ⟨rfl,hw1⟩;have hb1:Below V.heap.size V w1:=by rw[←hw1];exact HC.b.alloc HC.b.size _
  have hg1:w1.heap[g5]? =some (.cells #[.int .i64 s.kind,.string ⟨s.lead.toArray⟩,.string ⟨s.text.toArray⟩,.int .i64 s.pos] 197 (0,0)):=by rw[←hw1];exact (eJ_ _ _ _ (Q4 HC.a)).trans HC.a
  have hw:Below w.heap.size w w1:=HV.C.trans (hb1.mono HV.C.size);have hbox:=(hb1.block _ (Q4 HV.a)).trans HV.a;have hres:=(hb1.block _ (Q4 HV.b)).trans HV.b;have H1:=h4_ hw hbox hres hg1;have a0:=Q3 hbox 0 rfl;have a1:=Q3 hbox 1 rfl;have t2:=Q3 hg1 2 rfl;have t3:=Q3 hg1 3 rfl;clear hw1 hb1 hg1 hw hbox hres;dsimp only;go_wp2_with fail;go_loopg [20] 14 (fun gk v20 wr=> SgRel V w1 s.text gk v20 wr)
  case atStart=> exact ⟨0,rfl,rfl,by omega,fun m hm=> by omega,rfl⟩
  case round=>
   obtain ⟨j,rfl,hgk,hj,hno,rfl⟩:=hrel;have HR:=h2_ hgk hno;clear hgk hno;by_cases hlt:j < 14
   ·have hlt2:(j:Int) < 14:=(by omega);have hs:=fun w=> HH.e w j hlt;have HJ:=hd_ hlt;clear hlt;obtain ⟨y,hy⟩:∃ y,Ax.signs.getD j []=y:=⟨_,rfl⟩
    rw[hy] at hs;have he:=Q3A y s.text;have he2:=QC y s.text;have hw7:IntKind.i64.wrap (7+(j:Int))=7+(j:Int):=(by rw[IntKind.wrap_i64];omega);have HY:=hd_ hy;clear hy;by_cases hyt:y=s.text
    ·rw[eM_ hyt] at he he2;have hfi:=Q5R HJ.o HR.B (HY.o.trans hyt);obtain ⟨es,hmade,hex⟩:∃ es,Ax.made f t (7+(j:Int)) s.pos (i:Int)=some es∧e= .mk (7+(j:Int)) [] [] 0 false es s.pos:=by
      rcases HH.d with ⟨h1,_⟩ | ⟨i2,es,h1,h2,h3⟩
      ·rw[hfi] at h1;cases h1
      ·rw[hfi] at h1;injection h1 with h1;subst h1;exact ⟨es,h2,h3⟩
     have HM:=h2_ hmade hex;clear hfi hmade hex hyt;go_wp2_with fail;refine (Xy (HH.a.below H1.a) (HH.b.past H1.a) HM.a).mono ?_;rintro e2 w9 ⟨v9,rfl,hv9,hb9⟩;have hres9:=(hb9.block _ (Q4 H1.c)).trans H1.c;have H9:=h3_ hv9 hres9 (H1.a.trans (hb9.mono H1.a.size));clear hv9 hres9 hb9;dsimp only;go_wp2_with (refine QN rfl _ _ rfl rfl H9.b rfl rfl H9.a (Q4 H1.c) (show w.heap.size≤w.heap.size+1 by omega) H9.C ?_;rintro W cs hg hs2 hv hb;have HT:=h4_ hg hs2 hv hb;clear hg hs2 hv hb);refine eG_ (XJ rfl rfl HT.a HT.b) rfl ?_;exact ⟨_,rfl,by rw[HM.B];exact HT.c,HT.D⟩
    ·rw[eK_ hyt] at he he2;have HN:=hd_ hyt;clear hyt;go_wp2_with fail;go_roundg (14 - (j+1))
     case measure=> have:=HR.a;have:=HJ.o;omega
     case rel=>
      refine ⟨j+1,by go_num,rfl,by have:=HJ.o;omega,fun m hm=> ?_,rfl⟩;rcases eS_ m j with h1 | h1
      ·exact HR.B m h1
      ·obtain rfl:m=j:=(by omega);rw[HY.o];exact HN.o
   ·obtain rfl:j=14:=(by omega);have hfi:=Q6O HR.B;have hex:e=Ex.none:=by
     rcases HH.d with ⟨_,h1⟩ | ⟨i2,es,h1,_⟩
     ·exact h1
     ·rw[hfi] at h1;cases h1
    have HX:=hd_ hex;clear hfi hex;go_wp2_with (refine Qf rfl _ _ _ rfl 30 (w.heap.size+1) #[.int .i64 0,.string ⟨#[]⟩,.string ⟨#[]⟩,.bool false,.slice none 0 0,.bool false,.slice none 0 0,.int .i64 0] #[.int .i64 0,.string ⟨#[]⟩,.string ⟨#[]⟩,.bool false,.slice none 0 0,.bool false,.slice none 0 0,.int .i64 0] rfl H1.c rfl rfl QY (by simp[Value.oneCell']) ?_);refine eG_ (XJ rfl rfl (Qb H1.c) rfl) rfl ?_;exact ⟨_,rfl,⟨[.int .i64 0,.string ⟨#[]⟩,.string ⟨#[]⟩,.bool false,.slice none 0 0,.bool false,.slice none 0 0,.int .i64 0],rfl,by rw[HX.o];exact ZE (ZF _)⟩,Qc H1.a (by omega) _⟩
end Go.Proofs.YtiecccakcenobaaGreatDoor
