/- TermReads: for eve -/
import Derived.Test.YtiecccakcenobaaGreatDoorTrdM11
set_option linter.all false
set_option maxRecDepth 100000
set_option maxHeartbeats 64000000
namespace Go.Proofs.YtiecccakcenobaaGreatDoor
open Go.Proofs.Tryz
open Go.RowKit
variable {e:Ex} {z:Int} {W l:List UInt8} {B g i j:Nat} {v:Value}
theorem UG {p:UInt8→Bool} (hji:j≤i) (hi:i < l.length) (hp:p l[i]=true) (h:W=(l.drop j).take (i - j)++(l.drop i).takeWhile p):W=(l.drop j).take (i+1 - j)++(l.drop (i+1)).takeWhile p:=by
 have hlt:i - j < (l.drop j).length:=by rw[List.length_drop];omega
 have hg:(l.drop j)[i - j]'hlt=l[i]:=by
  rw[List.getElem_drop];congr 1;omega
 rw[show i+1 - j=(i - j)+1 by omega,List.take_succ_eq_append_getElem hlt,hg,eQ_,List.singleton_append];rw[List.drop_eq_getElem_cons hi,List.takeWhile_cons,if_pos hp] at h;exact h
theorem Q2G {p:UInt8→Bool} (hji:j≤i) (hi:i < l.length) (hp:p l[i]=false) (h:W=(l.drop j).take (i - j)++(l.drop i).takeWhile p):W=(l.drop j).take (i - j)∧W.length=i - j:=by
 rw[List.drop_eq_getElem_cons hi,List.takeWhile_cons,if_neg (by simp[hp]),List.append_nil] at h;exact ⟨h,by rw[h,eN_,List.length_drop];omega⟩
theorem Q4u {p:UInt8→Bool} (hj:j≤l.length) (h:W=(l.drop j).take (l.length - j)++(l.drop l.length).takeWhile p):W=(l.drop j).take (l.length - j)∧W.length=l.length - j:=by
 rw[List.drop_length,List.takeWhile_nil,List.append_nil] at h;exact ⟨h,by rw[h,eN_,List.length_drop];omega⟩
theorem Lx.sgn_le (h:0 < l.length):Lx.sgn l≤2∧Lx.sgn l≤l.length:=by
 unfold Lx.sgn;split
 ·rename_i hc;have:=Lx.twos_len _ (by simpa using hc);rw[eN_] at this;omega
 ·split
  ·omega
  ·split <;> omega
def RTokSays (l:List UInt8) (j:Nat) (e:Ending):Prop:=
 e= .returned (.tuple #[.int .i64 (if (Lx.token (l.drop j)).2.2=0 then (Lx.token (l.drop j)).1 else 0:Nat),.int .i64 (if (Lx.token (l.drop j)).2.2=0 then j+(Lx.token (l.drop j)).2.1.length else 0:Nat),.int .i64 ((Lx.token (l.drop j)).2.2:Nat)])
theorem QR {k n e:Nat} (h:(if (Lx.token (l.drop j)).2.2=0 then (Lx.token (l.drop j)).1 else 0)=k∧(if (Lx.token (l.drop j)).2.2=0 then j+(Lx.token (l.drop j)).2.1.length else 0)=n∧(Lx.token (l.drop j)).2.2=e):RTokSays l j (.returned (.tuple #[.int .i64 k,.int .i64 n,.int .i64 e])):=by
 obtain ⟨h1,h2,h3⟩:=h;unfold RTokSays;rw[h1,h2,h3]
theorem Q14 (l:List UInt8) (hl:l.length≤1073741824) (j:Nat) (hj:j < l.length) (w:World):
  Calls prog 173 #[.string ⟨l.toArray⟩,.int .i64 j] w fun e w'=> RTokSays l j e∧Below w.heap.size w w':=by
 have hl':(l.length:Int)≤1073741824:=by omega
 have hj':(j:Int) < (l.length:Int):=by omega
 have hsz:j < (⟨l.toArray⟩:ByteArray).size:=by simpa [ByteArray.size] using hj
 have hget:l[j]? =some l[j]:=eA_ hj;have HDJ:=hd_ (List.drop_eq_getElem_cons hj:l.drop j=l[j]::l.drop (j+1));have HT:Hid (Lx.token (l.drop j)=if Lx.letter l[j] then Lx.word (l.drop j) else if Lx.digit l[j] then Lx.number (l.drop j) else match Lx.signList.find? (fun x=> x.isPrefixOf (l.drop j)) with | some x=> (4,x,0) | none=> (0, [],20)):=hd_ (by rw[HDJ.o];rfl);have hcl:=fun w=> XE l[j] w;have hcd:=fun w=> Y2 l[j] w;cases hlet:Lx.letter l[j]
 ·rw[hlet] at hcl;cases hdig:Lx.digit l[j]
  ·rw[hdig] at hcd;have HT2:Hid (Lx.token (l.drop j)=if Lx.sgn (l.drop j)=0 then (0, [],20) else (4,(l.drop j).take (Lx.sgn (l.drop j)),0)):=hd_ (by
    rw[HT.o,hlet,hdig,HDJ.o,Lx.Q77];simp only[Bool.false_eq_true,if_false];by_cases hz:Lx.sgn (l[j]::l.drop (j+1))=0
    ·simp only[if_pos hz]
    ·simp only[if_neg hz])
   have HL:=fun w=> hd_ (hcl w);have HG:=fun w=> hd_ (hcd w);have HSG:=fun w=> hd_ (Q2F l hl j hj w);have hle:Lx.sgn (l.drop j)≤2∧(Lx.sgn (l.drop j)≤(l.drop j).length):=Lx.sgn_le (by rw[List.length_drop];omega);obtain ⟨n,hn⟩:∃ n,Lx.sgn (l.drop j)=n:=⟨_,rfl⟩
   rw[hn] at HT2 HSG hle;have HLE:=hd_ hle;have hn0:(0:Int)≤(n:Int):=(by omega);have hn2:(n:Int)≤2:=(by omega);clear hlet hdig hcl hcd hle hn;by_cases hz:n=0
   ·subst hz;go_in;go_wp2_with (first
     | (go_at_call 207;refine (HL _).out.mono ?_;rintro e w1 ⟨rfl,rfl⟩)
     | (go_at_call 208;refine (HG _).out.mono ?_;rintro e w1 ⟨rfl,rfl⟩)
     | (go_at_call 210;refine (HSG _).out.mono ?_;rintro e w2 ⟨rfl,hb2⟩;have HB2:=hd_ hb2;clear hb2))
    go_ret3;exact ⟨QR (k:=0) (n:=0) (e:=20) (by rw[HT2.o];simp),HB2.o⟩
   ·have hz':((n:Int)==0)=false:=(by simp;omega);have HZ:=hd_ hz;clear hz;go_in;go_wp2_with (first
     | (go_at_call 207;refine (HL _).out.mono ?_;rintro e w1 ⟨rfl,rfl⟩)
     | (go_at_call 208;refine (HG _).out.mono ?_;rintro e w1 ⟨rfl,rfl⟩)
     | (go_at_call 210;refine (HSG _).out.mono ?_;rintro e w2 ⟨rfl,hb2⟩;have HB2:=hd_ hb2;clear hb2))
    go_ret3;exact ⟨QR (k:=4) (n:=j+n) (e:=0) (by rw[HT2.o,if_neg HZ.out];have:=HLE.B;simp;rw[List.length_drop] at this;omega),HB2.o⟩
  ·rw[hdig] at hcd;have HTW:Hid (Lx.token (l.drop j)=Lx.number (l.drop j)):=hd_ (by rw[HT.o,hlet,hdig];rfl);have HL0:=fun w=> hd_ (hcl w);have HG0:=fun w=> hd_ (hcd w);have HH:Hid ((l.drop j).head? =some l[j]):=hd_ (by rw[HDJ.o];rfl);clear hlet hdig hcl hcd;go_in;go_wp2_with (first
    | (go_at_call 207;refine (HL0 _).out.mono ?_;rintro e w1 ⟨rfl,rfl⟩)
    | (go_at_call 208;refine (HG0 _).out.mono ?_;rintro e w1 ⟨rfl,rfl⟩))
   skip
   go_loopg [7] (l.length - j) (fun k v7 wr=> ∃ i:Nat,k=l.length - i∧j≤i∧i≤l.length∧v7= .int .i64 i∧(l.drop j).takeWhile Lx.digit=(l.drop j).take (i - j)++(l.drop i).takeWhile Lx.digit∧wr=w)
   case atStart=> exact ⟨j,rfl,rl_ _,by omega,rfl,by simp,rfl⟩
   case round=>
    obtain ⟨i,hk,hji,hi,rfl,htw,rfl⟩:=hrel;have HK:=h3_ hk hji htw;have hji':(j:Int)≤(i:Int):=(by omega);have hil0:(i:Int)≤(l.length:Int):=(by omega);clear hk hji htw;by_cases hlt:i < l.length
    ·have hlt':(i:Int) < (l.length:Int):=(by omega);have hszi:i < (⟨l.toArray⟩:ByteArray).size:=(by simpa [ByteArray.size] using hlt);have hgi:l[i]? =some l[i]:=eA_ hlt;have hL:=fun w=> XE l[i] w;have hD:=fun w=> Y2 l[i] w;cases a2:Lx.digit l[i]
     ·rw[a2] at hD;have HIN:Hid (Lx.digit l[i]=false):=hd_ a2;have HL:=fun w=> hd_ (hL w);have HG:=fun w=> hd_ (hD w);clear hL hD a2;have hWW:=Q2G HK.b hlt HIN.o HK.C;obtain ⟨X,hX⟩:∃ X,(l.drop j).takeWhile Lx.digit=X:=⟨_,rfl⟩
      rw[hX] at hWW;have HX:=h2_ hX hWW;have hwl:(i:Int) - (j:Int)=(X.length:Int):=(by have:=hWW.2;have:=HK.b;omega);clear hX hWW;by_cases h60:60 < X.length
      ·have h60':60 < (i:Int) - (j:Int):=(by omega);clear hwl;go_wp2_with (first
        | (go_at_call 207;refine (HL _).out.mono ?_;rintro e w1 ⟨rfl,rfl⟩)
        | (go_at_call 208;refine (HG _).out.mono ?_;rintro e w1 ⟨rfl,rfl⟩))
       go_ret3;exact ⟨QR (k:=0) (n:=0) (e:=21) (by rw[HTW.o];unfold Lx.number;rw[HX.a,if_pos (Or.inl h60)];simp),eB_ _ _⟩
      ·have h60':(i:Int) - (j:Int)≤60:=(by omega);by_cases h1:1 < X.length
       ·have h1':1 < (i:Int) - (j:Int):=(by omega);by_cases h48:l[j]=48
        ·have h48':((((⟨l.toArray⟩:ByteArray)[j]'hsz).toNat:Int)==48)=true:=(by show ((l[j].toNat:Int)==48)=true;rw[h48];rfl);have H48:=hd_ h48;clear hwl h48;go_wp2_with (first
          | (go_at_call 207;refine (HL _).out.mono ?_;rintro e w1 ⟨rfl,rfl⟩)
          | (go_at_call 208;refine (HG _).out.mono ?_;rintro e w1 ⟨rfl,rfl⟩))
         go_ret3;exact ⟨QR (k:=0) (n:=0) (e:=21) (by rw[HTW.o];unfold Lx.number;rw[HX.a,HH.o,if_pos (Or.inr ⟨h1,by rw[H48.o]⟩)];simp),eB_ _ _⟩
        ·have h48':((((⟨l.toArray⟩:ByteArray)[j]'hsz).toNat:Int)==48)=false:=by
          show ((l[j].toNat:Int)==48)=false;have:l[j].toNat≠48:=fun e=> h48 (UInt8.toNat_inj.1 e);simp;omega
         have H48:=hd_ h48;clear hwl h48;go_wp2_with (first
          | (go_at_call 207;refine (HL _).out.mono ?_;rintro e w1 ⟨rfl,rfl⟩)
          | (go_at_call 208;refine (HG _).out.mono ?_;rintro e w1 ⟨rfl,rfl⟩))
         go_ret3;exact ⟨QR (k:=3) (n:=i) (e:=0) (by rw[HTW.o];unfold Lx.number;rw[HX.a,HH.o,if_neg (show ¬ (60 < X.length∨(1 < X.length∧some l[j]=some 48)) from fun h=> h.elim h60 (fun h=> H48.o (Option.some.inj h.2)))];have:=HX.C;have:=HK.b;simp;omega),eB_ _ _⟩
       ·have h1':(i:Int) - (j:Int)≤1:=(by omega);clear hwl;go_wp2_with (first
         | (go_at_call 207;refine (HL _).out.mono ?_;rintro e w1 ⟨rfl,rfl⟩)
         | (go_at_call 208;refine (HG _).out.mono ?_;rintro e w1 ⟨rfl,rfl⟩))
        go_ret3;exact ⟨QR (k:=3) (n:=i) (e:=0) (by rw[HTW.o];unfold Lx.number;rw[HX.a,if_neg (show ¬ (60 < X.length∨(1 < X.length∧(l.drop j).head? =some 48)) from fun h=> h.elim h60 (fun h=> h1 h.1))];have:=HX.C;have:=HK.b;simp;omega),eB_ _ _⟩
     ·rw[a2] at hD;have HIN:Hid (Lx.digit l[i]=true):=hd_ a2;have HL:=fun w=> hd_ (hL w);have HG:=fun w=> hd_ (hD w);clear hL hD a2;go_wp2_with (first
       | (go_at_call 207;refine (HL _).out.mono ?_;rintro e w1 ⟨rfl,rfl⟩)
       | (go_at_call 208;refine (HG _).out.mono ?_;rintro e w1 ⟨rfl,rfl⟩))
      go_roundg (l.length - (i+1))
      case measure=> have:=HK.a;omega
      case rel=> exact ⟨i+1,rfl,by have:=HK.b;omega,by omega,by go_num,UG HK.b hlt HIN.o HK.C,rfl⟩
    ·obtain rfl:i=l.length:=(by omega);have HL:=fun w=> hd_ (XE 0 w);have HG:=fun w=> hd_ (Y2 0 w);have hWW:=Q4u (by omega) HK.C;obtain ⟨X,hX⟩:∃ X,(l.drop j).takeWhile Lx.digit=X:=⟨_,rfl⟩
     rw[hX] at hWW;have HX:=h2_ hX hWW;have hwl:(l.length:Int) - (j:Int)=(X.length:Int):=(by have:=hWW.2;have:=HK.b;omega);clear hX hWW;by_cases h60:60 < X.length
     ·have h60':60 < (l.length:Int) - (j:Int):=(by omega);clear hwl;go_wp2_with (first
       | (go_at_call 207;refine (HL _).out.mono ?_;rintro e w1 ⟨rfl,rfl⟩)
       | (go_at_call 208;refine (HG _).out.mono ?_;rintro e w1 ⟨rfl,rfl⟩))
      go_ret3;exact ⟨QR (k:=0) (n:=0) (e:=21) (by rw[HTW.o];unfold Lx.number;rw[HX.a,if_pos (Or.inl h60)];simp),eB_ _ _⟩
     ·have h60':(l.length:Int) - (j:Int)≤60:=(by omega);by_cases h1:1 < X.length
      ·have h1':1 < (l.length:Int) - (j:Int):=(by omega);by_cases h48:l[j]=48
       ·have h48':((((⟨l.toArray⟩:ByteArray)[j]'hsz).toNat:Int)==48)=true:=(by show ((l[j].toNat:Int)==48)=true;rw[h48];rfl);have H48:=hd_ h48;clear hwl h48;go_wp2_with (first
         | (go_at_call 207;refine (HL _).out.mono ?_;rintro e w1 ⟨rfl,rfl⟩)
         | (go_at_call 208;refine (HG _).out.mono ?_;rintro e w1 ⟨rfl,rfl⟩))
        go_ret3;exact ⟨QR (k:=0) (n:=0) (e:=21) (by rw[HTW.o];unfold Lx.number;rw[HX.a,HH.o,if_pos (Or.inr ⟨h1,by rw[H48.o]⟩)];simp),eB_ _ _⟩
       ·have h48':((((⟨l.toArray⟩:ByteArray)[j]'hsz).toNat:Int)==48)=false:=by
         show ((l[j].toNat:Int)==48)=false;have:l[j].toNat≠48:=fun e=> h48 (UInt8.toNat_inj.1 e);simp;omega
        have H48:=hd_ h48;clear hwl h48;go_wp2_with (first
         | (go_at_call 207;refine (HL _).out.mono ?_;rintro e w1 ⟨rfl,rfl⟩)
         | (go_at_call 208;refine (HG _).out.mono ?_;rintro e w1 ⟨rfl,rfl⟩))
        go_ret3;exact ⟨QR (k:=3) (n:=l.length) (e:=0) (by rw[HTW.o];unfold Lx.number;rw[HX.a,HH.o,if_neg (show ¬ (60 < X.length∨(1 < X.length∧some l[j]=some 48)) from fun h=> h.elim h60 (fun h=> H48.o (Option.some.inj h.2)))];have:=HX.C;have:=HK.b;simp;omega),eB_ _ _⟩
      ·have h1':(l.length:Int) - (j:Int)≤1:=(by omega);clear hwl;go_wp2_with (first
        | (go_at_call 207;refine (HL _).out.mono ?_;rintro e w1 ⟨rfl,rfl⟩)
        | (go_at_call 208;refine (HG _).out.mono ?_;rintro e w1 ⟨rfl,rfl⟩))
       go_ret3;exact ⟨QR (k:=3) (n:=l.length) (e:=0) (by rw[HTW.o];unfold Lx.number;rw[HX.a,if_neg (show ¬ (60 < X.length∨(1 < X.length∧(l.drop j).head? =some 48)) from fun h=> h.elim h60 (fun h=> h1 h.1))];have:=HX.C;have:=HK.b;simp;omega),eB_ _ _⟩
 ·rw[hlet] at hcl;have HTW:Hid (Lx.token (l.drop j)=Lx.word (l.drop j)):=hd_ (by rw[HT.o,hlet];rfl);have HL0:=fun w=> hd_ (hcl w);clear hlet hcl hcd;go_in;go_wp2_with (go_at_call 207;refine (HL0 _).out.mono ?_;rintro e w1 ⟨rfl,rfl⟩)
  skip
  go_loopg [7] (l.length - j) (fun k v7 wr=> ∃ i:Nat,k=l.length - i∧j≤i∧i≤l.length∧v7= .int .i64 i∧(l.drop j).takeWhile Lx.inside=(l.drop j).take (i - j)++(l.drop i).takeWhile Lx.inside∧wr=w)
  case atStart=> exact ⟨j,rfl,rl_ _,by omega,rfl,by simp,rfl⟩
  case round=>
   obtain ⟨i,hk,hji,hi,rfl,htw,rfl⟩:=hrel;have HK:=h3_ hk hji htw;have hji':(j:Int)≤(i:Int):=(by omega);have hil0:(i:Int)≤(l.length:Int):=(by omega);clear hk hji htw;by_cases hlt:i < l.length
   ·have hlt':(i:Int) < (l.length:Int):=(by omega);have hszi:i < (⟨l.toArray⟩:ByteArray).size:=(by simpa [ByteArray.size] using hlt);have hgi:l[i]? =some l[i]:=eA_ hlt;have hL:=fun w=> XE l[i] w;have hD:=fun w=> Y2 l[i] w;cases a1:Lx.letter l[i]
    ·rw[a1] at hL;cases a2:Lx.digit l[i]
     ·rw[a2] at hD;by_cases a3:l[i]=95
      ·skip
       have HIN:Hid (Lx.inside l[i]=true):=hd_ (by unfold Lx.inside;rw[a3];rfl);have a3':((((⟨l.toArray⟩:ByteArray)[i]'hszi).toNat:Int)==95)=true:=(by show ((l[i].toNat:Int)==95)=true;rw[a3];rfl);clear a1 a2 a3;have HL:=fun w=> hd_ (hL w);have HG:=fun w=> hd_ (hD w);clear hL hD;go_wp2_with (first
        | (go_at_call 207;refine (HL _).out.mono ?_;rintro e w1 ⟨rfl,rfl⟩)
        | (go_at_call 208;refine (HG _).out.mono ?_;rintro e w1 ⟨rfl,rfl⟩))
       go_roundg (l.length - (i+1))
       case measure=> have:=HK.a;omega
       case rel=> exact ⟨i+1,rfl,by have:=HK.b;omega,by omega,by go_num,UG HK.b hlt HIN.o HK.C,rfl⟩
      ·skip
       have HIN:Hid (Lx.inside l[i]=false):=hd_ (by unfold Lx.inside;rw[a1,a2];simpa using a3);have a3':((((⟨l.toArray⟩:ByteArray)[i]'hszi).toNat:Int)==95)=false:=by
        show ((l[i].toNat:Int)==95)=false;have:l[i].toNat≠95:=fun e=> a3 (UInt8.toNat_inj.1 e);simp;omega
       clear a1 a2 a3;have HL:=fun w=> hd_ (hL w);have HG:=fun w=> hd_ (hD w);clear hL hD;have hWW:=Q2G HK.b hlt HIN.o HK.C;obtain ⟨X,hX⟩:∃ X,(l.drop j).takeWhile Lx.inside=X:=⟨_,rfl⟩
       rw[hX] at hWW;have hext:(⟨l.toArray⟩:ByteArray).extract j i=⟨X.toArray⟩:=(by rw[QC, ←hWW.1]);have HX:=h3_ hX hWW hext;have hwl:(i:Int) - (j:Int)=(X.length:Int):=(by have:=hWW.2;have:=HK.b;omega);have hw0:(0:Int)≤(X.length:Int):=(by omega);clear hX hWW hext;by_cases h40:40 < X.length
       ·have h40':40 < (i:Int) - (j:Int):=(by omega);clear hwl hw0;go_wp2_with (first
         | (go_at_call 207;refine (HL _).out.mono ?_;rintro e w1 ⟨rfl,rfl⟩)
         | (go_at_call 208;refine (HG _).out.mono ?_;rintro e w1 ⟨rfl,rfl⟩))
        go_ret3;exact ⟨QR (k:=0) (n:=0) (e:=20) (by rw[HTW.o];unfold Lx.word;rw[HX.a,if_pos h40];simp),eB_ _ _⟩
       ·have h40':(i:Int) - (j:Int)≤40:=(by omega);have HKC:=fun w=> hd_ (L9 X w);clear hwl hw0;cases hky:Lx.isKey X
        ·have HKY:=hd_ hky;rw[hky] at HKC;clear hky;go_wp2_with (first
          | (go_at_call 207;refine (HL _).out.mono ?_;rintro e w1 ⟨rfl,rfl⟩)
          | (go_at_call 208;refine (HG _).out.mono ?_;rintro e w1 ⟨rfl,rfl⟩))
         rw[HX.C];refine (HKC _).out.mono ?_;rintro e w2 ⟨rfl,hb2⟩;have HB2:=hd_ hb2;clear hb2;dsimp only;go_wp2_with fail;go_ret3;exact ⟨QR (k:=1) (n:=i) (e:=0) (by rw[HTW.o];unfold Lx.word;rw[HX.a,if_neg h40,if_neg (show ¬ Lx.isKey X=true by rw[HKY.o];simp)];have:=HX.b.2;have:=HK.b;simp;omega),HB2.o⟩
        ·have HKY:=hd_ hky;rw[hky] at HKC;clear hky;go_wp2_with (first
          | (go_at_call 207;refine (HL _).out.mono ?_;rintro e w1 ⟨rfl,rfl⟩)
          | (go_at_call 208;refine (HG _).out.mono ?_;rintro e w1 ⟨rfl,rfl⟩))
         rw[HX.C];refine (HKC _).out.mono ?_;rintro e w2 ⟨rfl,hb2⟩;have HB2:=hd_ hb2;clear hb2;dsimp only;go_wp2_with fail;go_ret3;exact ⟨QR (k:=2) (n:=i) (e:=0) (by rw[HTW.o];unfold Lx.word;rw[HX.a,if_neg h40,if_pos HKY.o];have:=HX.b.2;have:=HK.b;simp;omega),HB2.o⟩
     ·rw[a2] at hD;have HIN:Hid (Lx.inside l[i]=true):=hd_ (by unfold Lx.inside;rw[a2];simp);clear a1 a2;have HL:=fun w=> hd_ (hL w);have HG:=fun w=> hd_ (hD w);clear hL hD;go_wp2_with (first
       | (go_at_call 207;refine (HL _).out.mono ?_;rintro e w1 ⟨rfl,rfl⟩)
       | (go_at_call 208;refine (HG _).out.mono ?_;rintro e w1 ⟨rfl,rfl⟩))
      go_roundg (l.length - (i+1))
      case measure=> have:=HK.a;omega
      case rel=> exact ⟨i+1,rfl,by have:=HK.b;omega,by omega,by go_num,UG HK.b hlt HIN.o HK.C,rfl⟩
    ·rw[a1] at hL;have HIN:Hid (Lx.inside l[i]=true):=hd_ (by unfold Lx.inside;rw[a1];rfl);clear a1;have HL:=fun w=> hd_ (hL w);have HG:=fun w=> hd_ (hD w);clear hL hD;go_wp2_with (first
      | (go_at_call 207;refine (HL _).out.mono ?_;rintro e w1 ⟨rfl,rfl⟩)
      | (go_at_call 208;refine (HG _).out.mono ?_;rintro e w1 ⟨rfl,rfl⟩))
     go_roundg (l.length - (i+1))
     case measure=> have:=HK.a;omega
     case rel=> exact ⟨i+1,rfl,by have:=HK.b;omega,by omega,by go_num,UG HK.b hlt HIN.o HK.C,rfl⟩
   ·obtain rfl:i=l.length:=(by omega);have HL:=fun w=> hd_ (XE 0 w);have HG:=fun w=> hd_ (Y2 0 w);have hWW:=Q4u (by omega) HK.C;obtain ⟨X,hX⟩:∃ X,(l.drop j).takeWhile Lx.inside=X:=⟨_,rfl⟩
    rw[hX] at hWW;have hext:(⟨l.toArray⟩:ByteArray).extract j l.length=⟨X.toArray⟩:=(by rw[QC, ←hWW.1]);have HX:=h3_ hX hWW hext;have hwl:(l.length:Int) - (j:Int)=(X.length:Int):=(by have:=hWW.2;have:=HK.b;omega);have hw0:(0:Int)≤(X.length:Int):=(by omega);clear hX hWW hext;by_cases h40:40 < X.length
    ·have h40':40 < (l.length:Int) - (j:Int):=(by omega);clear hwl hw0;go_wp2_with (first
      | (go_at_call 207;refine (HL _).out.mono ?_;rintro e w1 ⟨rfl,rfl⟩)
      | (go_at_call 208;refine (HG _).out.mono ?_;rintro e w1 ⟨rfl,rfl⟩))
     go_ret3;exact ⟨QR (k:=0) (n:=0) (e:=20) (by rw[HTW.o];unfold Lx.word;rw[HX.a,if_pos h40];simp),eB_ _ _⟩
    ·have h40':(l.length:Int) - (j:Int)≤40:=(by omega);have HKC:=fun w=> hd_ (L9 X w);clear hwl hw0;cases hky:Lx.isKey X
     ·have HKY:=hd_ hky;rw[hky] at HKC;clear hky;go_wp2_with (first
       | (go_at_call 207;refine (HL _).out.mono ?_;rintro e w1 ⟨rfl,rfl⟩)
       | (go_at_call 208;refine (HG _).out.mono ?_;rintro e w1 ⟨rfl,rfl⟩))
      rw[HX.C];refine (HKC _).out.mono ?_;rintro e w2 ⟨rfl,hb2⟩;have HB2:=hd_ hb2;clear hb2;dsimp only;go_wp2_with fail;go_ret3;exact ⟨QR (k:=1) (n:=l.length) (e:=0) (by rw[HTW.o];unfold Lx.word;rw[HX.a,if_neg h40,if_neg (show ¬ Lx.isKey X=true by rw[HKY.o];simp)];have:=HX.b.2;have:=HK.b;simp;omega),HB2.o⟩
     ·have HKY:=hd_ hky;rw[hky] at HKC;clear hky;go_wp2_with (first
       | (go_at_call 207;refine (HL _).out.mono ?_;rintro e w1 ⟨rfl,rfl⟩)
       | (go_at_call 208;refine (HG _).out.mono ?_;rintro e w1 ⟨rfl,rfl⟩))
      rw[HX.C];refine (HKC _).out.mono ?_;rintro e w2 ⟨rfl,hb2⟩;have HB2:=hd_ hb2;clear hb2;dsimp only;go_wp2_with fail;go_ret3;exact ⟨QR (k:=2) (n:=l.length) (e:=0) (by rw[HTW.o];unfold Lx.word;rw[HX.a,if_neg h40,if_pos HKY.o];have:=HX.b.2;have:=HK.b;simp;omega),HB2.o⟩
theorem Q5B:(prog.info? 209).map (fun i=> (i.zero,i.size,i.bytes))=some (some (.agg #[.int .i64 0,.string ⟨#[]⟩,.string ⟨#[]⟩,.int .i64 0]),4,48):=by kernel_rfl
theorem Q4v (w:World) (a b c d:Value) {r:Nat} (hr:r=w.heap.size):RdS (w.alloc (.cells #[a,b,c,d] 209)) (fun k=> k=w.heap.size) 4 (.slice (some ⟨r,0,none⟩) 1 1) 1 [a,b,c,d]:=by
 subst hr;refine ⟨rfl,_,_,rfl,rl_ _,Or.inr ⟨_,_,rfl,Or.inr rfl,?_⟩⟩;intro j v hj;rw[Nat.zero_add];exact Yg (eD_ w _) j (by simpa using hj)
def RLexSays (l:List UInt8) (w:World) (e:Ending) (w':World):Prop:=
 ∃ v,e= .returned (.tuple #[v,.int .i64 (Lx.lex l).2.1,.int .i64 (Lx.lex l).2.2])∧w'.ownsRow w.heap.size 209 4 v (Lx.lex l).1.length (toksCells (Lx.lex l).1)∧Below w.heap.size w w'
def RLexRel (l:List UInt8) (w:World) (k:Nat) (v5 v6:Value) (wr:World):Prop:=
 ∃ (j:Nat) (acc:List Lx.Tok) (a:Option Addr) (c:Nat),v6= .int .i64 j∧k=l.length - j∧j≤l.length∧acc.length≤j∧v5= .slice a acc.length c∧
  wr.ownsRow w.heap.size 209 4 (.slice a acc.length c) acc.length (toksCells acc)∧Below w.heap.size w wr∧Lx.lexGo ((l.drop j).length+1) (l.drop j) j acc=Lx.lexGo (l.length+1) l 0 []
theorem Q43 (l:List UInt8) (hl:l.length≤1073741824) (w:World):Calls prog 130 #[.string ⟨l.toArray⟩] w (RLexSays l w):=by
 by_cases hbig:65536 < l.length
 ·have hbig':65536 < (l.length:Int):=by omega
  have HE:=hd_ (show Lx.lex l=([],11,0) from by unfold Lx.lex;rw[if_pos hbig]);clear hbig;go_in;go_wp2_with fail;go_ret3;exact ⟨.slice none 0 0,by rw[HE.o];rfl,by rw[HE.o];exact World.ownsRow_nil _ _ _ _,eB_ _ _⟩
 ·have hbig':(l.length:Int)≤65536:=by omega
  have HE:=hd_ (show Lx.lex l=Lx.lexGo (l.length+1) l 0 [] from by unfold Lx.lex;rw[if_neg hbig]);clear hbig;go_in;go_wp2_with fail;go_loopg [5,6] l.length (fun k v5 v6 wr=> RLexRel l w k v5 v6 wr)
  case atStart=> exact ⟨0, [],none,0,rfl,rfl,eV_ _,rl_ _,rfl,World.ownsRow_nil _ _ _ _,eB_ _ _,rfl⟩
  case round=>
   obtain ⟨j,acc,a,c,rfl,hk,hj,hacc,rfl,hown,hb,hlex⟩:=hrel;have hbl:=Lx.ZP (l.drop j);have hlead:=Q2C l hl j hj wr;have hbt:=Lx.JX (l.drop j);obtain ⟨ld,hld⟩:∃ x,Lx.between (l.drop j)=x:=⟨_,rfl⟩
   rw[hld] at hbl hbt;have hrl:=Lx.Q7Y (l.drop j);have hfl:l.length - (Lx.rst (l.drop j)).length=j+ld.length:=by
    have h2:(Lx.rst (l.drop j)).length=(Lx.rest ((l.drop j).length+1) (l.drop j)).length:=rfl;have hlen:(l.drop j).length=l.length - j:=List.length_drop;omega
   rw[hfl] at hlead;obtain ⟨f,hf⟩:∃ f,j+ld.length=f:=⟨_,rfl⟩
   rw[hf] at hlead hfl;have hfle:f≤l.length:=(by have hlen:(l.drop j).length=l.length - j:=List.length_drop;omega);have hjf:j≤f:=(by omega);have hjf':(j:Int)≤(f:Int):=(by omega);have hfle':(f:Int)≤(l.length:Int):=(by omega);have hdd:(l.drop j).drop ld.length=l.drop f:=(by rw[List.drop_drop,hf]);have hX1:(⟨l.toArray⟩:ByteArray).extract j f=⟨ld.toArray⟩:=by
    rw[QC,show f - j=ld.length by omega];rw[hbt.2]
   have hbad:= @Lx.J8 (l.drop j).length j (l.drop j) acc;have hend:= @Lx.J9 (l.drop j).length j (l.drop j) acc;have hon:= @Lx.JY (l.drop j).length j (l.drop j) acc;rw[hld,hdd,hf] at hbad hend hon;have HLD:=hd_ hlead;have HX1:=hd_ hX1;have HH:=h4_ hk hown hb hlex;have HAC:Hid (acc.length≤65536):=hd_ (by omega);have HJ:=h2_ hacc hf;obtain ⟨i0,hii,hz0,hz1,hz2⟩:=Qs Q5B;have Hi:=hd_ hii;have Hz0:=hd_ hz0;have Hz1:=hd_ hz1;have Hz2:=hd_ hz2;clear hbl hlead hbt hld hrl hfl hdd hk hown hb hlex hX1 hacc hf hii hz0 hz1 hz2;by_cases hfe:f=l.length
   ·subst hfe;have hfe':((l.length:Int)==(l.length:Int))=true:=(by simp);have hnil:l.drop l.length= []:=List.drop_length;rw[hnil] at hend;have HE2:=hd_ (hend rfl rfl);clear hbad hend hon hnil;go_wp2_with fail;refine HLD.o.mono ?_;rintro e w1 ⟨rfl,rfl⟩;dsimp only;go_wp2_with (at_builtin;refine QD rfl _ _ 206 rfl w.heap.size 209 i0 (.agg #[.int .i64 0,.string ⟨#[]⟩,.string ⟨#[]⟩,.int .i64 0]) 4 48 underlying206 Hi.o Hz0.o Hz1.o Hz2.o rfl (by decide) _ acc.length (toksCells acc) rfl (HH.b.alloc _) rfl (Q4v _ _ _ _ _ rfl) (by simp[Value.oneCell']) (by have:=HAC.o;unfold maxLen;omega) (by have:=HAC.o;omega) (eE_ HH.c.size (Nat.le_of_lt (by rw[←Q5];omega))) ?_);intro a2 c2 w2 ho hg _;have hTC:toksCells acc++ [.int .i64 5,.string ((⟨l.toArray⟩:ByteArray).extract j l.length),.string ⟨#[]⟩,.int .i64 (l.length:Int)]=toksCells (acc++ [⟨5,ld, [],l.length⟩]):=by
     rw[HX1.o,YH];rfl
    rw[hTC] at ho;have hb3:=(HH.c.alloc HH.c.size _).grown hg (by rw[←Q5];have:=HH.c.size;omega) (fun k hk=> (HH.b.lt k hk).1);have H3:=h2_ ho hb3;clear ho hg hTC hb3;go_wp2_with fail;go_ret3;have e1:Lx.lex l=(acc++ [⟨5,ld, [],l.length⟩],0,0):=(by rw[HE.o, ←HH.D];exact HE2.o);refine ⟨.slice a2 (acc.length+1) c2,by rw[e1];rfl,?_,H3.B⟩;rw[e1,eC_];exact H3.a
   ·have hfe':((f:Int)==(l.length:Int))=false:=(by simp;omega);have hflt:f < l.length:=(by omega);have hflt':(f:Int) < (l.length:Int):=(by omega);have htk:=fun w=> Q14 l hl f hflt w;unfold RTokSays at htk;have htt:=Lx.Y5 (l.drop f);have hne:l.drop f≠ []:=by
     intro e;have:=congrArg List.length e;rw[List.length_drop] at this;simp at this;omega
    obtain ⟨⟨kd,tx,er⟩,hT⟩:∃ q,Lx.token (l.drop f)=q:=⟨_,rfl⟩
    rw[hT] at htk htt hbad hend hon;dsimp only at htk htt hbad hend hon;by_cases he:er=0
    ·subst he;obtain ⟨hpre,hk5,hkn⟩:=htt rfl;have hkd:kd≠5:=fun e=> hne (hk5 e);have htx:=hpre.length_le;rw[List.length_drop] at htx;have htl:=hkn hkd;have hX2:(⟨l.toArray⟩:ByteArray).extract f (f+tx.length)=⟨tx.toArray⟩:=by
      rw[QC,show f+tx.length - f=tx.length by omega,List.prefix_iff_eq_take.1 hpre];simp
     have HX2:=hd_ hX2;have hon2:=hon rfl hkd;rw[List.drop_drop] at hon2;have HON:=h3_ hon2 htx htl;have hft':(f:Int)+(tx.length:Int)≤(l.length:Int):=(by omega);have ht0:(0:Int)≤(tx.length:Int):=(by omega);simp only[if_true] at htk;have HTK:=fun w=> hd_ (htk w);clear hbad hend hon htk htt hpre hk5 hkn hkd htx htl hX2 hT hne hon2;obtain ⟨E,hE⟩:∃ E,f+tx.length=E:=⟨_,rfl⟩
     rw[hE] at HTK HX2;have hfE:(f:Int)≤(E:Int):=(by omega);have hEl:(E:Int)≤(l.length:Int):=(by omega);have HEE:=hd_ hE;clear hE hft' ht0;go_wp2_with fail;refine HLD.o.mono ?_;rintro e w1 ⟨rfl,rfl⟩;dsimp only;go_wp2_with fail;refine (HTK _).out.mono ?_;rintro e w2 ⟨rfl,hb2⟩;have HOW:=h2_ (Qj HH.b hb2) (HH.c.trans (hb2.mono HH.c.size));clear hb2;dsimp only;go_wp2_with fail;go_region_law (refine GH rfl (.tmp 41) (.tmp 53) 206 rfl w.heap.size 209 i0 (.agg #[.int .i64 0,.string ⟨#[]⟩,.string ⟨#[]⟩,.int .i64 0]) 4 48 underlying206 Hi.o Hz0.o Hz1.o Hz2.o rfl (by decide) _ acc.length (toksCells acc) (by simp[Act.eval]) (HOW.a.drew.alloc _) (by simp[Act.eval]) (Q4v _ _ _ _ _ rfl) (by simp[Value.oneCell']) (by have:=HAC.o;unfold maxLen;omega) (by have:=HAC.o;omega) (by have h1:=HOW.B.size;show w.heap.size≤(w2.alloc _).heap.size;rw[←Q5];omega) ?_;intro a3 c3 w3 ho hg _;have H3:=h2_ ho hg;clear ho hg)
     all_goals
      have hTC:toksCells acc++ [.int .i64 (kd:Int),.string ((⟨l.toArray⟩:ByteArray).extract j f),.string ((⟨l.toArray⟩:ByteArray).extract f E),.int .i64 (f:Int)]=toksCells (acc++ [⟨kd,ld,tx,f⟩]):=by
       rw[HX1.o,HX2.o,YH];rfl
      have hown:=H3.a;rw[hTC] at hown;have hb3:=((HOW.B.alloc HOW.B.size _).drew).grown H3.B (by have h1:=HOW.B.size;show w.heap.size≤(w2.alloc _).heap.size;rw[←Q5];omega) (fun k hk=> (HOW.a.lt k hk).1);have H4:=h2_ hown hb3;clear hTC hown hb3;go_wp2_with fail;go_roundg (l.length - E)
      case measure=>
       have h1:=HH.a;have h2:=HON.B;have h3:=HEE.o;have h4:=HJ.B;omega
      case rel=>
       have h2:=HON.B;have h3:=HEE.o;have h4:=HJ.o;refine ⟨E,acc++ [⟨kd,ld,tx,f⟩],a3,c3,by go_num,rfl,by omega,by simp;omega,by simp,?_,H4.B,?_⟩
       ·rw[eC_];exact H4.a
       ·rw[←HH.D,HON.a,h3];exact Lx.JE _ _ _ _ _ (Nat.lt_succ_self _) (by simp;omega)
    ·have he':((er:Int) !=0)=true:=(by simp[he]);have HE2:=h2_ (hbad he) he;simp only[if_neg he] at htk;have HTK:=fun w=> hd_ (htk w);clear hbad hend hon htk htt hT hne he;go_wp2_with fail;refine HLD.o.mono ?_;rintro e w1 ⟨rfl,rfl⟩;dsimp only;go_wp2_with fail;refine (HTK _).out.mono ?_;rintro e w2 ⟨rfl,hb2⟩;have HB2:=hd_ hb2;clear hb2;dsimp only;go_wp2_with fail;go_ret3;have e1:Lx.lex l=([],er,f):=(by rw[HE.o, ←HH.D];exact HE2.a);refine ⟨.slice none 0 0,by rw[e1];rfl,?_,HH.c.trans (HB2.o.mono HH.c.size)⟩;rw[e1];exact World.ownsRow_nil _ _ _ _
theorem La (l:List UInt8) (hl:l.length≤1073741824) (w:World):Calls prog 89 #[.string ⟨l.toArray⟩] w fun r w'=> r= .returned (.bool (Ex.plain l))∧Below w.heap.size w w':=by
 have HL:=hd_ (Q43 l hl w);obtain ⟨⟨tk,e,p⟩,hx⟩:∃ r,Lx.lex l=r:=⟨_,rfl⟩
 have hp:Ex.plain l=plO l tk e:=by
  unfold Ex.plain plO;rw[hx];rfl
 unfold RLexSays at HL;rw[hx] at HL;have HP:=hd_ hp;clear hp hx hl;go_in;go_wp2_with fail;refine eH_ HL.o ?_;rintro r w1 ⟨v,rfl,hown,hb⟩;obtain ⟨a,c,rfl⟩:=Qh hown;have HB:=hd_ hb;have HW:=hd_ hown;dsimp only;by_cases he:e=0
 ·subst he;by_cases h2:tk.length=2
  ·obtain ⟨k0,k1,rfl⟩:∃ k0 k1,tk= [k0,k1]:=by
    match tk,h2 with
    | [k0,k1],_=> exact ⟨k0,k1,rfl⟩
   have hrd:=RdS.own HW.o;rw[Zr] at hrd;obtain ⟨b,off,c2,e1,hb2,hr⟩:=RdS.tok (l:= [k0,k1].map toTk) hrd (i:=0) rfl;injection e1 with e1 _ _;subst e1;have f0:=hr 0 _ rfl;have f2:=hr 2 _ rfl;have lt0:=Q7 f0;have he:=ZB k0.text l;have he2:=QK k0.text l;have hpl:plO l [k0,k1] 0=(decide (k0.kind=1) && decide (k0.text=l)):=by
    unfold plO;rw[←he2];by_cases hk:k0.kind=1
    ·simp[hk]
    ·simp[hk]
   have hq:=HP.o.trans hpl;simp only[Nat.zero_mul,Nat.add_zero,toTk] at f0 f2;obtain ⟨d,hd⟩:∃ d,decide (k0.text=l)=d:=⟨_,rfl⟩
   rw[hd] at he he2 hq;clear hown hb hrd hr hb2 hpl hd h2;by_cases hk:k0.kind=1
   ·have hk2:(k0.kind:Int)=1:=(by omega);rw[hk2] at f0;rw[eM_ hk] at hq;have HQ:=hd_ hq;clear hk hk2 hq;go_wp2_with fail;go_ret;exact ⟨by rw[HQ.o];simp,(by first | exact HB.o.alloc HB.o.size _ | exact HB.o)⟩
   ·have hk2:(k0.kind:Int)≠1:=(by omega);rw[eK_ hk] at hq;have HQ:=hd_ hq;clear hk hq;go_wp2_with fail;go_ret;exact ⟨by rw[HQ.o];simp,(by first | exact HB.o.alloc HB.o.size _ | exact HB.o)⟩
  ·have h3:(tk.length:Int)≠2:=(by omega);have hpl:plO l tk 0=false:=(by unfold plO;simp[h2]);have HQ:=hd_ (HP.o.trans hpl);clear hown hb hpl;go_wp2_with fail;go_ret;exact ⟨by rw[HQ.o];simp,(by first | exact HB.o.alloc HB.o.size _ | exact HB.o)⟩
 ·have hpl:plO l tk e=false:=by unfold plO;simp[he]
  have HQ:=hd_ (HP.o.trans hpl);clear hown hb hpl;have he':(e:Int)≠0:=by omega
  go_wp2_with fail;go_ret;exact ⟨by rw[HQ.o];simp,(by first | exact HB.o.alloc HB.o.size _ | exact HB.o)⟩
theorem Q15 (n m:Nat):((n:Int)==(m:Int))=(n==m):=by
 by_cases h:n=m
 ·subst h;simp
 ·rw[beq_false_of_ne h,beq_false_of_ne (fun e=> h (by omega))]
theorem Q16 (w:World) {op:Int} (h:op≤20) (n:Nat):Calls prog 46 #[.int .i64 op,.int .i64 n] w fun r w'=> r= .returned (.bool (Ex.count op n))∧w'=w:=by
 obtain ⟨b,hb⟩:∃ b,Ex.count op n=b:=⟨_,rfl⟩
 rw[hb];unfold Ex.count at hb;by_cases h4:op≤4
 ·rw[if_pos h4] at hb;have HB:=hd_ (show ((n:Int)==0)=b from by rw[←hb];exact Q15 n 0);clear hb;go_in;go_wp2_with fail;go_ret;exact ⟨by rw[HB.o];rfl,rfl⟩
 ·rw[if_neg h4] at hb;by_cases h6:op≤6
  ·rw[if_pos h6] at hb;have HB:=hd_ (show ((n:Int)==1)=b from by rw[←hb];exact Q15 n 1);clear hb;go_in;go_wp2_with fail;go_ret;exact ⟨by rw[HB.o];rfl,rfl⟩
  ·rw[if_neg h6,if_pos (Or.inl h)] at hb;have HB:=hd_ (show ((n:Int)==2)=b from by rw[←hb];exact Q15 n 2);clear hb;go_in;go_wp2_with fail;go_ret;exact ⟨by rw[HB.o];rfl,rfl⟩
theorem cells7 {w:World} {T:TypeId} {c0 c1 c2 c3 c4 c5 c6:Value} (h:w.heap[g]? =some (.cells #[c0,c1,c2,c3,c4,c5,c6] T (0,0))):
  w.cell? ⟨g,0,none⟩=some c0∧w.cell? ⟨g,1,none⟩=some c1∧w.cell? ⟨g,2,none⟩=some c2∧w.cell? ⟨g,3,none⟩=some c3∧w.cell? ⟨g,4,none⟩=some c4∧w.cell? ⟨g,5,none⟩=some c5∧w.cell? ⟨g,6,none⟩=some c6:=
 ⟨Q3 h 0 rfl,Q3 h 1 rfl,Q3 h 2 rfl,Q3 h 3 rfl,Q3 h 4 rfl,Q3 h 5 rfl,Q3 h 6 rfl⟩
theorem Q17 {w:World} {op pos:Int} {name mod tx:List UInt8} {yes:Bool} {kv:Value} (hn:name.length≤1073741824) (h20:op≤20):
  Calls prog 45 #[.agg #[.int .i64 op,.string ⟨name.toArray⟩,.string ⟨mod.toArray⟩,.string ⟨tx.toArray⟩,.bool yes,kv,.int .i64 pos]] w fun r w'=> r= .returned (.bool (if op=3 then Ex.plain name && mod.isEmpty else name.isEmpty && mod.isEmpty))∧Below w.heap.size w w':=by
 have HP:=hd_ (fun W=> La name hn W);have hx:=Qp (w:=w) #[.int .i64 op,.string ⟨name.toArray⟩,.string ⟨mod.toArray⟩,.string ⟨tx.toArray⟩,.bool yes,kv,.int .i64 pos] 33;have HB:=h2_ hx.2 hx.1;have hs1:=GT name;have hs2:=GT mod;have hm:name.isEmpty=true∨name.isEmpty=false:=by cases name.isEmpty <;> simp
 clear hx hn;by_cases h3:op=3
 ·subst h3;rw[if_pos rfl];obtain ⟨pl,hpl⟩:∃ b,Ex.plain name=b:=⟨_,rfl⟩
  rw[hpl] at HP ⊢;clear hpl hm;go_in;go_wp2_with fail;refine eH_ (HP.o _) ?_;rintro r w2 ⟨rfl,hb2⟩;have h0:=Qf HB.B hb2;have a2:=Q3 h0 2 rfl;have H2:=hd_ (HB.a.trans (hb2.mono HB.a.size));clear hb2 h0;dsimp only;cases pl with
  | false=>
   go_wp2_with fail;go_ret;exact ⟨by simp,H2.o⟩
  | true=>
   go_wp2_with fail;go_ret;exact ⟨by simp,H2.o⟩
 ·rw[if_neg h3];clear HP;have b3:(op==3)=false:=beq_false_of_ne h3;have b22:(op==22)=false:=beq_false_of_ne (by omega);have b24:(op==24)=false:=beq_false_of_ne (by omega);rcases hm with hm | hm
  ·go_in;go_wp2_with fail;go_ret;exact ⟨by simp[hm],HB.a⟩
  ·go_in;go_wp2_with fail;go_ret;exact ⟨by simp[hm],HB.a⟩
theorem Q8f {op pos:Int} {name mod:List UInt8} {yes:Bool} {kids:List Ex} {nm ct:Bool} (h20:op≤20) (h1:1≤op) (hnm:(if op=3 then Ex.plain name && mod.isEmpty else name.isEmpty && mod.isEmpty)=nm) (hct:Ex.count op kids.length=ct):
  Ex.right (.mk op name mod z yes kids pos)=(nm && ct && (if op=1 then decide (0≤z) && decide ((Zp.text z).length≤60) && !yes else decide (z=0) && (decide (op=2) || !yes)) && kids.all Ex.right):=by
 rw[Ex.YL,Z8,eM_ h1,eM_ h20,Ex.kids,ZC, ←hnm, ←hct];have e1:(op=3∨op=22)=(op=3):=by apply propext;omega
 have e2:(op=24)=False:=by apply propext;exact ⟨fun h=> by omega,fun h=> h.elim⟩
 simp only[e1,e2,if_false,Bool.true_and]
 ac_rfl
theorem Q2H (op z:Int) (yes:Bool):((op=1∧0≤z∧(Zp.text z).length≤60∧yes=false)∨(op=2∧z=0)∨(op≠1∧op≠2∧z=0∧yes=false))∨((op=1∧z < 0)∨(op=1∧0≤z∧60 < (Zp.text z).length)∨(op=1∧0≤z∧(Zp.text z).length≤60∧yes=true)∨(op≠1∧z≠0)∨(op≠1∧op≠2∧z=0∧yes=true)):=by
 cases yes <;> simp only[and_true,reduceCtorEq,and_false] <;> omega
theorem Q18 (hs:Ex.Sm e):∀ {w:World} {P:Nat→Prop} {cs:List Value},RdX w P e cs→(∀ k,P k→k < w.heap.size)→Calls prog 10 #[.agg cs.toArray,.bool true] w fun r w'=> r= .returned (.bool (Ex.right e))∧Below w.heap.size w w':=by
 induction hs with
 | @mk op pos z name mod yes kids hn hm hz hk hkk ih=>
  intro w P cs h hP;obtain ⟨a,c,rfl⟩:∃ a c,cs= [.int .i64 op,.string ⟨name.toArray⟩,.string ⟨mod.toArray⟩,.string ⟨(Zp.text z).toArray⟩,.bool yes,.slice a kids.length c,.int .i64 pos]:=by
   cases h with
   | mk css hl hc hv hk'=>
    obtain ⟨a,c,rfl⟩:=hv.form;exact ⟨a,c,rfl⟩
  obtain ⟨tx,htx⟩:∃ t,Zp.text z=t:=⟨_,rfl⟩
  have hx:=Qp (w:=w) #[.int .i64 op,.string ⟨name.toArray⟩,.string ⟨mod.toArray⟩,.string ⟨(Zp.text z).toArray⟩,.bool yes,.slice a kids.length c,.int .i64 pos] 33;rw[htx] at h hx ⊢;obtain ⟨V,hV⟩:∃ V,w.alloc (.cells #[.int .i64 op,.string ⟨name.toArray⟩,.string ⟨mod.toArray⟩,.string ⟨tx.toArray⟩,.bool yes,.slice a kids.length c,.int .i64 pos] 33)=V:=⟨_,rfl⟩
  have HVV:=hd_ hV;rw[hV] at hx;have HM:Hid (∀ W,Below V.heap.size V W→W.heap[w.heap.size]? =some (.cells #[.int .i64 op,.string ⟨name.toArray⟩,.string ⟨mod.toArray⟩,.string ⟨tx.toArray⟩,.bool yes,.slice a kids.length c,.int .i64 pos] 33 (0,0))∧Below w.heap.size w W∧RdX W P (.mk op name mod z yes kids pos) #[.int .i64 op,.string ⟨name.toArray⟩,.string ⟨mod.toArray⟩,.string ⟨tx.toArray⟩,.bool yes,.slice a kids.length c,.int .i64 pos].toList∧(∀ k,P k→k < W.heap.size)):=fun W hb=> by
   have h1:=hx.2.trans (hb.mono hx.2.size);exact ⟨Qf hx.1 hb,h1,h.past hP h1,fun k hk=> eI_ (hP k hk) h1.size⟩
  have HK:Hid (∀ W,Below V.heap.size V W→∀ (i:Nat) (k:Ex),kids[i]? =some k→∃ bk off ck cs',a=some ⟨bk,off,none⟩∧c=ck∧W.rangeAt bk (off+i*7) cs'∧RdX W P k cs'):=fun W hb i k hi=> by
   obtain ⟨bk,off,ck,cs',q1,q2,q3,q4,q5⟩:=RdX.kid (HM W hb).2.2.1 (i:=i) (k:=k) hi;injection q1 with q1;injection q1 with q1 _ q6;exact ⟨bk,off,ck,cs',q1,q6,q3,q5⟩
  have HC:Hid (∀ (i:Nat) (k:Ex),kids[i]? =some k→∀ {w:World} {P:Nat→Prop} {cs:List Value},RdX w P k cs→(∀ k,P k→k < w.heap.size)→Calls prog 10 #[.agg cs.toArray,.bool true] w fun r w'=> r= .returned (.bool (Ex.right k))∧Below w.heap.size w w'):=fun i k hi w P cs h hP=> ih k (eP_ hi) h hP;obtain ⟨a0,a1,a2,a3,a4,a5,a6⟩:=cells7 hx.1;have HN:=hd_ (show name.length≤1073741824 from by omega);have hkl:(kids.length:Int)≤1000000:=by omega
  have HB0:=hd_ (HM V (eB_ _ _)).2.1;have HT:=hd_ htx;clear h hP hx hV ih hkk hn hm hz hk htx;by_cases h1:op < 1
  ·have HE:=hd_ (show Ex.right (.mk op name mod z yes kids pos)=false from by rw[Ex.YL,Z8,eK_ (by omega)];simp);go_in;go_wp2_with fail;go_ret;exact ⟨by rw[HE.o];rfl,by rw[HVV.o];exact HB0.o⟩
  by_cases h24:24 < op
  ·have HE:=hd_ (show Ex.right (.mk op name mod z yes kids pos)=false from by rw[Ex.YL,Z8,eK_ (show ¬ op≤20 by omega)];simp);go_in;go_wp2_with fail;go_ret;exact ⟨by rw[HE.o];rfl,by rw[HVV.o];exact HB0.o⟩
  by_cases h20:20 < op
  ·have HE:=hd_ (show Ex.right (.mk op name mod z yes kids pos)=false from by rw[Ex.YL,Z8,eK_ (show ¬ op≤20 by omega)];simp);go_in;go_wp2_with fail;go_ret;exact ⟨by rw[HE.o];rfl,by rw[HVV.o];exact HB0.o⟩
  obtain ⟨nm,hnm⟩:∃ b,(if op=3 then Ex.plain name && mod.isEmpty else name.isEmpty && mod.isEmpty)=b:=⟨_,rfl⟩
  obtain ⟨ct,hct⟩:∃ b,Ex.count op kids.length=b:=⟨_,rfl⟩
  have HR:=hd_ (Q8f (z:=z) (yes:=yes) (pos:=pos) (by omega) (by omega) hnm hct);have HNM:=hd_ hnm;have HCT:=hd_ hct;have H20:=hd_ (show op≤20 by omega);clear hnm hct;go_in;go_wp2_with fail;rw[HVV.o];have hnc:=Q17 (w:=V) (pos:=pos) (mod:=mod) (tx:=tx) (yes:=yes) (kv:= .slice a kids.length c) HN.o H20.o;rw[HNM.o] at hnc;refine eH_ hnc ?_;rintro r w2 ⟨rfl,hb2⟩;clear hnc;obtain ⟨c0,c1,c2,c3,c4,c5,c6⟩:=cells7 (HM.o _ hb2).1;have H2:=hd_ hb2;clear hb2 a0 a1 a2 a3 a4 a5 a6;dsimp only;cases nm with
  | false=>
   go_wp2_with fail;go_ret;exact ⟨by rw[HR.o];simp,(HM.o _ H2.o).2.1⟩
  | true=>
  go_wp2_with fail;have hcc:=Q16 w2 H20.o kids.length;rw[HCT.o] at hcc;refine eH_ hcc ?_;rintro r w3 ⟨rfl,rfl⟩;clear hcc;dsimp only;cases ct with
  | false=>
   go_wp2_with fail;go_ret;exact ⟨by rw[HR.o];simp,(HM.o _ H2.o).2.1⟩
  | true=>
  have hw:=Q2H op z yes;obtain ⟨t0,tr,ht0⟩:=Q5x z;have htm:=Q3Y z;have htz:=Q5w z;have hne:∀ x y:List UInt8,(x=y)→((⟨x.toArray⟩:ByteArray).toList==(⟨y.toArray⟩:ByteArray).toList)=true:=fun x y e=> by rw[ZB];simp[e]
  rw[HT.o] at ht0 htm htz hw;have HZ:=h3_ ht0 htm htz;clear ht0 htm htz hne;rcases hw with (⟨q1,q2,q3,q4⟩ | ⟨q1,q2⟩ | ⟨q1,q2,q3,q4⟩) | (⟨q1,q2⟩ | ⟨q1,q2,q3⟩ | ⟨q1,q2,q3,q4⟩ | ⟨q1,q2⟩ | ⟨q1,q2,q3,q4⟩)
  ·have HQ:=hd_ (show Ex.right (.mk op name mod z yes kids pos)=kids.all Ex.right from by rw[HR.o,HT.o];subst q1 q4;simp[q2,q3]);subst q4;subst q1;obtain ⟨S2,hS2⟩:∃ S:ByteArray,(⟨tx.toArray⟩:ByteArray)=S:=⟨_,rfl⟩
   have hs2:S2.size=tx.length:=(by rw[←hS2];simp[ByteArray.size]);have hsz:0 < S2.size:=(by rw[hs2,HZ.out.1];simp);have hix:S2[0]'hsz=t0:=(by subst hS2;obtain rfl:=HZ.out.1;rfl);have hcb:(((S2[0]'hsz).toNat:Int)==45)=false:=(by rw[hix];exact beq_false_of_ne fun e=> by have:=HZ.out.2.1.1 ⟨tr,by rw[HZ.out.1,show t0=45 from UInt8.toNat_inj.1 (by show t0.toNat=45;omega)]⟩;omega);rw[hS2] at c3;clear hS2 hix;have h60:¬ (60:Int) < (S2.size:Int):=(by omega);clear q2 q3;go_wp2_with fail;go_loopg [5] kids.length (fun gk v5 wr=> ∃ j:Nat,v5= .int .i64 (j:Int)∧gk=kids.length - j∧j≤kids.length∧(kids.take j).all Ex.right=true∧Below V.heap.size V wr)
   case atStart=> exact ⟨0,rfl,rfl,eV_ _,rfl,H2.o⟩
   case round=>
    obtain ⟨j,rfl,hgk,hj,hal,hbw⟩:=hrel;obtain ⟨d0,d1,d2,d3,d4,d5,d6⟩:=cells7 (HM.o _ hbw).1;have HRR:=h3_ hgk hal hbw;clear hgk hal hbw;by_cases hlt:j < kids.length
    ·have hlt':(j:Int) < (kids.length:Int):=(by omega);obtain ⟨k,hk⟩:∃ k,kids[j]? =some k:=⟨_,eA_ hlt⟩
     obtain ⟨bk,off,ck,cs',q1',q2',hr,hre⟩:=HK.o wr HRR.C j k hk;subst q1' q2';obtain ⟨ak,ckk,rfl⟩:=hre.form;have HG:=hd_ hr;have HC1:=hd_ (HC.o j k hk hre (HM.o _ HRR.C).2.2.2);have HKK:=hd_ hk;clear hr hre hk;go_wp2_with (refine wpList_load_mid rfl 33 _ rfl bk (off+j*7) rfl _ _ HG.o underlying33 rfl rfl ?_);refine eH_ HC1.o ?_;rintro r w4 ⟨rfl,hb4⟩;have H4:=hd_ (HRR.C.trans (hb4.mono HRR.C.size));clear hb4 d0 d1 d2 d3 d4 d5 d6;obtain ⟨br,hbr⟩:∃ b,Ex.right k=b:=⟨_,rfl⟩
     have HBR:=hd_ hbr;rw[hbr];clear hbr;dsimp only;cases br with
     | false=>
      go_wp2_with fail;go_ret;refine ⟨?_,(HM.o _ H4.o).2.1⟩;rw[HQ.o,show kids.all Ex.right=false from List.all_eq_false.2 ⟨k,eP_ HKK.o,by rw[HBR.o];decide⟩];rfl
     | true=>
      go_wp2_with fail;go_roundg (kids.length - (j+1))
      case measure=> have:=HRR.a;omega
      case rel=>
       refine ⟨j+1,by go_num,rfl,by omega,?_,H4.o⟩;rw[List.take_add_one,HKK.o];simp[HRR.b,HBR.o]
    ·obtain rfl:kids.length=j:=(by omega);go_wp2_with fail;go_ret;refine ⟨?_,(HM.o _ HRR.C).2.1⟩;have h9:=HRR.b;rw[List.take_length] at h9;rw[HQ.o,h9];rfl
  ·have HQ:=hd_ (show Ex.right (.mk op name mod z yes kids pos)=kids.all Ex.right from by rw[HR.o,HT.o];subst q1;simp[q2]);obtain rfl:tx= [48]:=HZ.out.2.2.2 q2;subst q1;clear q2;go_wp2_with fail;go_loopg [5] kids.length (fun gk v5 wr=> ∃ j:Nat,v5= .int .i64 (j:Int)∧gk=kids.length - j∧j≤kids.length∧(kids.take j).all Ex.right=true∧Below V.heap.size V wr)
   case atStart=> exact ⟨0,rfl,rfl,eV_ _,rfl,H2.o⟩
   case round=>
    obtain ⟨j,rfl,hgk,hj,hal,hbw⟩:=hrel;obtain ⟨d0,d1,d2,d3,d4,d5,d6⟩:=cells7 (HM.o _ hbw).1;have HRR:=h3_ hgk hal hbw;clear hgk hal hbw;by_cases hlt:j < kids.length
    ·have hlt':(j:Int) < (kids.length:Int):=(by omega);obtain ⟨k,hk⟩:∃ k,kids[j]? =some k:=⟨_,eA_ hlt⟩
     obtain ⟨bk,off,ck,cs',q1',q2',hr,hre⟩:=HK.o wr HRR.C j k hk;subst q1' q2';obtain ⟨ak,ckk,rfl⟩:=hre.form;have HG:=hd_ hr;have HC1:=hd_ (HC.o j k hk hre (HM.o _ HRR.C).2.2.2);have HKK:=hd_ hk;clear hr hre hk;go_wp2_with (refine wpList_load_mid rfl 33 _ rfl bk (off+j*7) rfl _ _ HG.o underlying33 rfl rfl ?_);refine eH_ HC1.o ?_;rintro r w4 ⟨rfl,hb4⟩;have H4:=hd_ (HRR.C.trans (hb4.mono HRR.C.size));clear hb4 d0 d1 d2 d3 d4 d5 d6;obtain ⟨br,hbr⟩:∃ b,Ex.right k=b:=⟨_,rfl⟩
     have HBR:=hd_ hbr;rw[hbr];clear hbr;dsimp only;cases br with
     | false=>
      go_wp2_with fail;go_ret;refine ⟨?_,(HM.o _ H4.o).2.1⟩;rw[HQ.o,show kids.all Ex.right=false from List.all_eq_false.2 ⟨k,eP_ HKK.o,by rw[HBR.o];decide⟩];rfl
     | true=>
      go_wp2_with fail;go_roundg (kids.length - (j+1))
      case measure=> have:=HRR.a;omega
      case rel=>
       refine ⟨j+1,by go_num,rfl,by omega,?_,H4.o⟩;rw[List.take_add_one,HKK.o];simp[HRR.b,HBR.o]
    ·obtain rfl:kids.length=j:=(by omega);go_wp2_with fail;go_ret;refine ⟨?_,(HM.o _ HRR.C).2.1⟩;have h9:=HRR.b;rw[List.take_length] at h9;rw[HQ.o,h9];rfl
  ·have HQ:=hd_ (show Ex.right (.mk op name mod z yes kids pos)=kids.all Ex.right from by rw[HR.o,HT.o];subst q4;simp[q1,q2,q3]);obtain rfl:tx= [48]:=HZ.out.2.2.2 q3;subst q4;clear q3;have b1:(op==1)=false:=beq_false_of_ne q1;have b2:(op==2)=false:=beq_false_of_ne q2;go_wp2_with fail;go_loopg [5] kids.length (fun gk v5 wr=> ∃ j:Nat,v5= .int .i64 (j:Int)∧gk=kids.length - j∧j≤kids.length∧(kids.take j).all Ex.right=true∧Below V.heap.size V wr)
   case atStart=> exact ⟨0,rfl,rfl,eV_ _,rfl,H2.o⟩
   case round=>
    obtain ⟨j,rfl,hgk,hj,hal,hbw⟩:=hrel;obtain ⟨d0,d1,d2,d3,d4,d5,d6⟩:=cells7 (HM.o _ hbw).1;have HRR:=h3_ hgk hal hbw;clear hgk hal hbw;by_cases hlt:j < kids.length
    ·have hlt':(j:Int) < (kids.length:Int):=(by omega);obtain ⟨k,hk⟩:∃ k,kids[j]? =some k:=⟨_,eA_ hlt⟩
     obtain ⟨bk,off,ck,cs',q1',q2',hr,hre⟩:=HK.o wr HRR.C j k hk;subst q1' q2';obtain ⟨ak,ckk,rfl⟩:=hre.form;have HG:=hd_ hr;have HC1:=hd_ (HC.o j k hk hre (HM.o _ HRR.C).2.2.2);have HKK:=hd_ hk;clear hr hre hk;go_wp2_with (refine wpList_load_mid rfl 33 _ rfl bk (off+j*7) rfl _ _ HG.o underlying33 rfl rfl ?_);refine eH_ HC1.o ?_;rintro r w4 ⟨rfl,hb4⟩;have H4:=hd_ (HRR.C.trans (hb4.mono HRR.C.size));clear hb4 d0 d1 d2 d3 d4 d5 d6;obtain ⟨br,hbr⟩:∃ b,Ex.right k=b:=⟨_,rfl⟩
     have HBR:=hd_ hbr;rw[hbr];clear hbr;dsimp only;cases br with
     | false=>
      go_wp2_with fail;go_ret;refine ⟨?_,(HM.o _ H4.o).2.1⟩;rw[HQ.o,show kids.all Ex.right=false from List.all_eq_false.2 ⟨k,eP_ HKK.o,by rw[HBR.o];decide⟩];rfl
     | true=>
      go_wp2_with fail;go_roundg (kids.length - (j+1))
      case measure=> have:=HRR.a;omega
      case rel=>
       refine ⟨j+1,by go_num,rfl,by omega,?_,H4.o⟩;rw[List.take_add_one,HKK.o];simp[HRR.b,HBR.o]
    ·obtain rfl:kids.length=j:=(by omega);go_wp2_with fail;go_ret;refine ⟨?_,(HM.o _ HRR.C).2.1⟩;have h9:=HRR.b;rw[List.take_length] at h9;rw[HQ.o,h9];rfl
  ·have HQ:=hd_ (show Ex.right (.mk op name mod z yes kids pos)=false from by rw[HR.o,HT.o];subst q1;simp[show ¬ 0≤z by omega]);subst q1;obtain ⟨S2,hS2⟩:∃ S:ByteArray,(⟨tx.toArray⟩:ByteArray)=S:=⟨_,rfl⟩
   have hs2:S2.size=tx.length:=(by rw[←hS2];simp[ByteArray.size]);have hsz:0 < S2.size:=(by rw[hs2,HZ.out.1];simp);have hix:S2[0]'hsz=t0:=(by subst hS2;obtain rfl:=HZ.out.1;rfl);have hcb:(((S2[0]'hsz).toNat:Int)==45)=true:=(by rw[hix];obtain ⟨r,hr⟩:=HZ.out.2.1.2 q2;rw[HZ.out.1] at hr;injection hr with hr;rw[hr];rfl);rw[hS2] at c3;clear hS2 hix;go_wp2_with fail;go_ret;exact ⟨by rw[HQ.o];rfl,(HM.o _ H2.o).2.1⟩
  ·have HQ:=hd_ (show Ex.right (.mk op name mod z yes kids pos)=false from by rw[HR.o,HT.o];subst q1;simp[show ¬ tx.length≤60 by omega]);subst q1;obtain ⟨S2,hS2⟩:∃ S:ByteArray,(⟨tx.toArray⟩:ByteArray)=S:=⟨_,rfl⟩
   have hs2:S2.size=tx.length:=(by rw[←hS2];simp[ByteArray.size]);have hsz:0 < S2.size:=(by rw[hs2,HZ.out.1];simp);have hix:S2[0]'hsz=t0:=(by subst hS2;obtain rfl:=HZ.out.1;rfl);have hcb:(((S2[0]'hsz).toNat:Int)==45)=false:=(by rw[hix];exact beq_false_of_ne fun e=> by have:=HZ.out.2.1.1 ⟨tr,by rw[HZ.out.1,show t0=45 from UInt8.toNat_inj.1 (by show t0.toNat=45;omega)]⟩;omega);rw[hS2] at c3;clear hS2 hix;have h60:(60:Int) < (S2.size:Int):=(by omega);go_wp2_with fail;go_ret;exact ⟨by rw[HQ.o];rfl,(HM.o _ H2.o).2.1⟩
  ·have HQ:=hd_ (show Ex.right (.mk op name mod z yes kids pos)=false from by rw[HR.o,HT.o];subst q1 q4;simp);subst q4;subst q1;obtain ⟨S2,hS2⟩:∃ S:ByteArray,(⟨tx.toArray⟩:ByteArray)=S:=⟨_,rfl⟩
   have hs2:S2.size=tx.length:=(by rw[←hS2];simp[ByteArray.size]);have hsz:0 < S2.size:=(by rw[hs2,HZ.out.1];simp);have hix:S2[0]'hsz=t0:=(by subst hS2;obtain rfl:=HZ.out.1;rfl);have hcb:(((S2[0]'hsz).toNat:Int)==45)=false:=(by rw[hix];exact beq_false_of_ne fun e=> by have:=HZ.out.2.1.1 ⟨tr,by rw[HZ.out.1,show t0=45 from UInt8.toNat_inj.1 (by show t0.toNat=45;omega)]⟩;omega);rw[hS2] at c3;clear hS2 hix;have h60:¬ (60:Int) < (S2.size:Int):=(by omega);go_wp2_with fail;go_ret;exact ⟨by rw[HQ.o];rfl,(HM.o _ H2.o).2.1⟩
  ·have HQ:=hd_ (show Ex.right (.mk op name mod z yes kids pos)=false from by rw[HR.o,HT.o];simp[q1,q2]);have hsx:¬ tx= [48]:=fun e=> q2 (HZ.out.2.2.1 e);have b1:(op==1)=false:=beq_false_of_ne q1;go_wp2_with fail;go_ret;exact ⟨by rw[HQ.o];rfl,(HM.o _ H2.o).2.1⟩
  ·have HQ:=hd_ (show Ex.right (.mk op name mod z yes kids pos)=false from by rw[HR.o,HT.o];subst q4;simp[q1,q2]);obtain rfl:tx= [48]:=HZ.out.2.2.2 q3;subst q4;clear q3;have b1:(op==1)=false:=beq_false_of_ne q1;have b2:(op==2)=false:=beq_false_of_ne q2;go_wp2_with fail;go_ret;exact ⟨by rw[HQ.o];rfl,(HM.o _ H2.o).2.1⟩
def DL (w:World) (B:Nat) (v:Value) (ts:List Tp.T):Prop:=
 ∃ css:List (List Value),css.length=ts.length∧(∀ c∈css,c.length=4)∧w.ownsRow B 50 4 v ts.length css.flatten∧∀ (i:Nat) (t:Tp.T) (c:List Value),ts[i]? =some t→css[i]? =some c→Tz w (.agg c.toArray) t
theorem DL.nil (w:World) (B:Nat):DL w B (.slice none 0 0) []:=⟨[],rfl,fun c hc=> (by cases hc),World.ownsRow_nil _ _ _ _,fun i t c h=> by simp at h⟩
theorem DL.get {w:World} {a:Option Addr} {n c:Nat} {ts:List Tp.T} (h:DL w B (.slice a n c) ts) {i:Nat} {t:Tp.T} (hi:ts[i]? =some t):
  ∃ b,a=some ⟨b,0,none⟩∧∃ an cn af cf s ad cd,w.cell? ⟨b,i*4,none⟩=some (.slice an t.l.length cn)∧w.cell? ⟨b,i*4+1,none⟩=some (.slice af t.l.length cf)∧w.cell? ⟨b,i*4+2,none⟩=some (.int .i64 s)∧w.cell? ⟨b,i*4+3,none⟩=some (.slice ad (dg t.rest).length cd)∧Tz w (.agg #[.slice an t.l.length cn,.slice af t.l.length cf,.int .i64 s,.slice ad (dg t.rest).length cd]) t:=by
 obtain ⟨css,h1,h2,h3,h4⟩:=h;have hlt:=(List.getElem?_eq_some_iff.1 hi).1;have hci:css[i]? =some (css[i]'(by omega)):=eA_ (by omega);have ht:=h4 i t _ hi hci;obtain ⟨_,⟨e1,e2⟩ | ⟨g,cap,cur,e1,hg1,hg,_,_,hsz,htk⟩⟩:=h3
 ·omega
 ·injection e1 with e1 _ _;have hr:w.rangeAt g 0 css.flatten:=by
   intro j v hj;rw[Nat.zero_add,Ye hg];rw[←htk,List.getElem?_take] at hj;split at hj
   ·simpa using hj
   ·cases hj
  have hp:=Y1 css h2 hr hci;rw[Nat.zero_add] at hp;obtain ⟨an,cn,af,cf,s,ad,cd,e,htm⟩:=Y8 ht;have e2:css[i]'(by omega)= [.slice an t.l.length cn,.slice af t.l.length cf,.int .i64 s,.slice ad (dg t.rest).length cd]:=by
   injection e with e;simpa using congrArg Array.toList e
  rw[e2] at hp;exact ⟨g,e1,an,cn,af,cf,s,ad,cd,hp 0 _ rfl,hp 1 _ rfl,hp 2 _ rfl,hp 3 _ rfl,htm⟩
theorem Q80:(prog.info? 50).map (fun i=> (i.zero,i.size,i.bytes))=some (some (.agg #[.slice none 0 0,.slice none 0 0,.int .i64 0,.slice none 0 0]),4,80):=by kernel_rfl
theorem Q79 (w:World) (x y z u:Value):RdS (w.alloc (.cells #[x,y,z,u] 50)) (fun k=> k=w.heap.size) 4 (.slice (some ⟨w.heap.size,0,none⟩) 1 1) 1 [x,y,z,u]:=by
 refine ⟨rfl,_,_,rfl,rl_ _,Or.inr ⟨_,_,rfl,Or.inr rfl,?_⟩⟩;intro j v hj;rw[Nat.zero_add];exact Q3 (Yp _ _ _ rfl) j (by simpa using hj)
theorem DL.push {w w':World} {v':Value} {ts:List Tp.T} {t:Tp.T} {x y z u:Value} {css:List (List Value)} (h1:css.length=ts.length) (h2:∀ c∈css,c.length=4) (h4:∀ (i:Nat) (t:Tp.T) (c:List Value),ts[i]? =some t→css[i]? =some c→Tz w (.agg c.toArray) t)
  (ht:Tz w (.agg #[x,y,z,u]) t) (hf:FrT [50] w w') (ho:w'.ownsRow B 50 4 v' (ts.length+1) (css.flatten++ [x,y,z,u])):DL w' B v' (ts++ [t]):=by
 refine ⟨css++ [[x,y,z,u]],by simp[h1],fun c hc=> ?_,?_,fun i q c hi hc=> ?_⟩
 ·rcases List.mem_append.1 hc with hc | hc
  ·exact h2 c hc
  ·rw[List.mem_singleton.1 hc];rfl
 ·rw[eC_,List.flatten_append];simpa using ho
 ·have keep:∀ v u,Tz w v u→Tz w' v u:=fun v u h=> h.frt hf (by decide) (by decide) (by decide);by_cases hlt:i < ts.length
  ·rw[eT_ hlt] at hi;rw[eT_ (by omega)] at hc;exact keep _ _ (h4 i q c hi hc)
  ·have hb:=(List.getElem?_eq_some_iff.1 hi).1;rw[eC_,List.length_singleton] at hb;obtain rfl:i=ts.length:=(by omega);rw[eO_ (rl_ _)] at hi;rw[eO_ (by omega)] at hc;simp[h1] at hi hc;subst hi hc;exact keep _ _ ht
theorem X4 {ops:Array Oper} {rest:List Oper} {o:Oper} {a:Act} {Q:Exit→Act→World→Prop} {w1:World} (hgd:o.guard=none) (x v:Operand) (ho:o.op= .store 50 x v)
  {g:Nat} {zs:Array Value} (hx:a.eval x= .pointer (some ⟨g,0,none⟩)) (hg:w1.heap[g]? =some (.cells zs 50 (0,0))) (hz:zs.size=4) {val:Value} {t:Tp.T} (hv:a.eval v=val) (hn:Tz w1 val t)
  {B:Nat} {w0:World} (hB:B≤g) (hb:Below B w0 w1)
  (h:∀ W cs,W.heap[g]? =some (.cells cs 50 (0,0))→cs.size=4→Tz W (.agg cs) t→Below B w0 W→wpList prog ops Q rest (a.put o.dst undef) W):
  wpList prog ops Q (o::rest) a w1:=by
 obtain ⟨an,cn,af,cf,ad,cd,rfl,hn⟩:=hn.form;refine Qa hgd _ x v ho _ g zs _ hx hg hv (by rw[hz];rfl) Xa (by simp[Value.oneCell']) ?_;exact h _ _ (Qb hg) rfl (hn.frt (Qq hg) (by decide) (by decide) (by decide)) (Qc hb hB _)
theorem Y3 {fn:Func} {cs:Array Value} {w:World} {tmps:Array Value} {p u:Tmp} (h:fn.results= #[.cell p 50,.tmp u]) (hp:tmps.getD p undef= .pointer (some ⟨g,0,none⟩)) (hg:w.heap[g]? =some (.cells cs 50 (0,0))) (hs:cs.size=4) {x:Value} (hx:tmps.getD u undef=x):
  (results fn tmps).run prog w= .ok (.tuple #[.agg cs,x]) w:=
 QT h _ _ g _ _ _ _ hp hg underlying50 rfl (by rw[hs];exact Xa) hx
def DfOut (o:Option Tp.T) (w:World) (r:Ending) (w':World):Prop:=∃ v,r= .returned (.tuple #[v,.bool o.isSome])∧Tz w' v (o.getD Tp.zero)∧Below w.heap.size w w'
theorem Jn (w:World):Tz w (.agg #[.slice none 0 0,.slice none 0 0,.int .i64 0,.slice none 0 0]) Tp.zero:=Q70 (Zn.zero w)
namespace Zp
theorem Q2I {d:Nat} (h:d < 10):((48+d).toUInt8).toNat=48+d:=by
 show (48+d) % 256=48+d;omega
theorem ZF (n:Nat):(dec n).all isDig=true:=by
 unfold dec;split
 ·rfl
 ·rw[List.all_eq_true];intro c hc;obtain ⟨d,hd,rfl⟩:=List.mem_map.1 hc;have h1:d < 10:=Qz (B:=10) (by decide) n d (List.mem_reverse.1 hd);unfold isDig;rw[Q2I h1];simp;omega
theorem GU (n:Nat):num (dec n)=n:=by
 rw[Zc _ (ZF n)];unfold dec;split
 ·rename_i h;rw[h];rfl
 ·simp only[←List.map_reverse,List.reverse_reverse,List.map_map];have:(digs 10 n).map ((fun c:UInt8=> c.toNat - 48) ∘ fun d=> (48+d).toUInt8)=digs 10 n:=by
   conv=> rhs;rw[←List.map_id (digs 10 n)]
   refine List.map_congr_left fun d hd=> ?_;have h1:d < 10:=Qz (B:=10) (by decide) n d hd;show ((48+d).toUInt8).toNat - 48=d;rw[Q2I h1];omega
  rw[this,Qx (by decide)]
theorem Q0c {n:Nat} (h:(dec n).head? =some 48):(dec n).length=1:=by
 by_cases hn:n=0
 ·subst hn;rfl
 ·obtain ⟨c,r,hcr,_⟩:=Za n;rw[hcr] at h;have hc:c=48:=by simpa using h
  subst hc;have hlen:(digs 10 n).length=r.length+1:=by
   have:=congrArg List.length hcr;unfold dec at this;rw[if_neg hn,List.length_map,List.length_reverse,eL_] at this;exact this
  have h1:=ZK (B:=10) (by decide) r.length n (by omega);have hd:=ZF n;rw[hcr] at hd;have h2:num (48::r)=n:=by rw[←hcr];exact GU n
  have h3:num (48::r)=num r:=rfl;have h4:r.all isDig=true:=by
   rw[List.all_cons,Bool.and_eq_true] at hd;exact hd.2
  have h5:=ZJ (B:=10) (by decide) (U4 h4);rw[←Zc r h4,List.length_map,List.length_reverse] at h5;omega
theorem Q2J (hl:(dec z.natAbs).length≤60):(parse (text z)).1=z:=by
 obtain ⟨c,r,hcr,h1,h2⟩:=Za z.natAbs;have hm:minusOf (dec z.natAbs)=false:=by
  rw[hcr];unfold minusOf;simp;intro e;rw[e] at h1;exact absurd h1 (by decide)
 by_cases h0:z < 0
 ·have ht:text z=45::dec z.natAbs:=by unfold text;rw[if_pos h0]
  rw[ht];have hm2:minusOf (45::dec z.natAbs)=true:=rfl;have hr:restOf (45::dec z.natAbs)=dec z.natAbs:=by unfold restOf;rw[if_pos hm2];rfl
  unfold parse;rw[hr,if_neg (by omega),if_neg ?_,if_pos hm2]
  ·show -(num (dec z.natAbs):Int)=z;rw[GU];omega
  ·rw[not_or,not_or];refine ⟨by rw[hcr];simp,by rw[ZF];simp,?_⟩;rintro ⟨e,-⟩;have hlen:=Q0c e;have hz:dec z.natAbs= [48]:=by
    rw[hcr] at e hlen ⊢;have hc:c=48:=(by simpa using e);have hrn:r= []:=(by simpa using hlen);rw[hc,hrn]
   have hn:=GU z.natAbs;rw[hz] at hn;have:num [48]=0:=rfl;omega
 ·have ht:text z=dec z.natAbs:=by unfold text;rw[if_neg h0]
  rw[ht];have hr:restOf (dec z.natAbs)=dec z.natAbs:=by unfold restOf;rw[if_neg (by rw[hm];simp)]
  unfold parse;rw[hr,if_neg (by omega),if_neg ?_,if_neg (by rw[hm];simp)]
  ·show (num (dec z.natAbs):Int)=z;rw[GU];omega
  ·rw[not_or,not_or];refine ⟨by rw[hcr];simp,by rw[ZF];simp,?_⟩;rintro ⟨e,h | h⟩
   ·rw[Q0c e] at h;omega
   ·rw[hm] at h;cases h
theorem Q44 (h0:0≤z) (hl:(text z).length≤60):(parse (text z)).1=z:=by
 refine Q2J ?_;unfold text at hl;rw[if_neg (by omega)] at hl;exact hl
end Zp
def DfRel (V:World) (kids:List Ex) (k:Nat) (v4 v5:Value) (wr:World):Prop:=
 ∃ (j:Nat) (ts:List Tp.T) (a:Option Addr) (c:Nat),v5= .int .i64 j∧v4= .slice a ts.length c∧k=kids.length - j∧j≤kids.length∧Ex.ofs (kids.take j)=some ts∧DL wr V.heap.size (.slice a ts.length c) ts∧Below V.heap.size V wr
theorem Q5C (hs:Ex.Sm e):∀ {w:World} {P:Nat→Prop} {cs:List Value},Ex.right e=true→Ex.wl e≤100000→RdX w P e cs→(∀ k,P k→k < w.heap.size)→Calls prog 12 #[.agg cs.toArray] w (DfOut (Ex.of e) w):=by
 induction hs with
 | @mk op pos z name mod yes kids hn hm hz hk hkk ih=>
  intro w P cs hr hwl h hP;obtain ⟨a,c,rfl⟩:∃ a c,cs= [.int .i64 op,.string ⟨name.toArray⟩,.string ⟨mod.toArray⟩,.string ⟨(Zp.text z).toArray⟩,.bool yes,.slice a kids.length c,.int .i64 pos]:=by
   cases h with
   | mk css hl hc hv hk'=>
    obtain ⟨a,c,rfl⟩:=hv.form;exact ⟨a,c,rfl⟩
  obtain ⟨h1,h20,h60,hkn,hkr⟩:=Yn hr;have h0z:op=1→0≤z:=fun e=> by
   subst e;have:=hr;rw[Ex.YL,Z8] at this;simp only[Bool.and_eq_true,if_true,decide_eq_true_eq] at this;omega
  rw[Ex.wl] at hwl;obtain ⟨tx,htx⟩:∃ t,Zp.text z=t:=⟨_,rfl⟩
  have hbx:=box2 w #[.int .i64 op,.string ⟨name.toArray⟩,.string ⟨mod.toArray⟩,.string ⟨(Zp.text z).toArray⟩,.bool yes,.slice a kids.length c,.int .i64 pos] 33 #[.slice none 0 0,.slice none 0 0,.int .i64 0,.slice none 0 0] 50;have htl:op=1→tx.length≤60:=fun e=> by rw[←htx];exact h60 e
  have hpt:op=1→(Zp.parse tx).1=z:=fun e=> by rw[←htx];exact Zp.Q44 (h0z e) (h60 e)
  have hpt2:op=1→(Zp.parse tx)=(z,(Zp.parse tx).2):=fun e=> Prod.ext (hpt e) rfl;rw[htx] at hbx h ⊢;have htl2:=Gl hz;rw[htx] at htl2;obtain ⟨V,hV⟩:∃ V,(w.alloc (.cells #[.int .i64 op,.string ⟨name.toArray⟩,.string ⟨mod.toArray⟩,.string ⟨tx.toArray⟩,.bool yes,.slice a kids.length c,.int .i64 pos] 33)).alloc (.cells #[.slice none 0 0,.slice none 0 0,.int .i64 0,.slice none 0 0] 50)=V:=⟨_,rfl⟩
  have HVV:=hd_ hV;rw[hV] at hbx;have HM:Hid (∀ W,Below V.heap.size V W→W.heap[w.heap.size]? =some (.cells #[.int .i64 op,.string ⟨name.toArray⟩,.string ⟨mod.toArray⟩,.string ⟨tx.toArray⟩,.bool yes,.slice a kids.length c,.int .i64 pos] 33 (0,0))∧W.heap[w.heap.size+1]? =some (.cells #[.slice none 0 0,.slice none 0 0,.int .i64 0,.slice none 0 0] 50 (0,0))∧Below w.heap.size w W∧RdX W P (.mk op name mod z yes kids pos) [.int .i64 op,.string ⟨name.toArray⟩,.string ⟨mod.toArray⟩,.string ⟨tx.toArray⟩,.bool yes,.slice a kids.length c,.int .i64 pos]∧∀ k,P k→k < W.heap.size):=fun W hb=> by
   have h1:=hbx.2.2.trans (hb.mono hbx.2.2.size);exact ⟨Qf hbx.1 hb,Qf hbx.2.1 hb,h1,h.past hP h1,fun k hk=> eI_ (hP k hk) h1.size⟩
  have HK:Hid (∀ W,Below V.heap.size V W→∀ (i:Nat) (k:Ex),kids[i]? =some k→∃ bk off ck cs',a=some ⟨bk,off,none⟩∧c=ck∧W.rangeAt bk (off+i*7) cs'∧RdX W P k cs'):=fun W hb i k hi=> by
   obtain ⟨bk,off,ck,cs',q1,q2,q3,q4,q5⟩:=RdX.kid (HM W hb).2.2.2.1 (i:=i) (k:=k) hi;injection q1 with q1;injection q1 with q1 _ q6;exact ⟨bk,off,ck,cs',q1,q6,q3,q5⟩
  have HC:Hid (∀ (i:Nat) (k:Ex),kids[i]? =some k→(∀ {w:World} {P:Nat→Prop} {cs:List Value},RdX w P k cs→(∀ k,P k→k < w.heap.size)→Calls prog 12 #[.agg cs.toArray] w (DfOut (Ex.of k) w))∧(∀ {t:Tp.T},Ex.of k=some t→Sm (Ex.wl k) t∧Tp.Ok t.l)∧10+Ex.wl k≤Ex.wls kids):=fun i k hi=> by
   have hmem:=eP_ hi;have hw:=ZD hmem;exact ⟨fun {w P cs} h hP=> ih k hmem (hkr k hmem) (by omega) h hP,fun {t} ht=> L0 (hkk k hmem) (hkr k hmem) ht,hw⟩
  have hof:Ex.of (.mk op name mod z yes kids pos)=match Ex.ofs kids with | none=> none | some ks=> Ex.ofK (.mk op name mod z yes kids pos) ks:=by rw[Ex.of];rfl
  have HN:Hid (Zp.text z=tx∧Ex.wls kids≤100000∧(kids.length:Int)=knum op∧op≤20∧1≤op∧tx.length≤1073741824∧(op=1→Zp.parse tx=(z,(Zp.parse tx).2))∧True):=⟨htx,by omega,hkn,h20,h1,by omega,hpt2,trivial⟩
  have HOF:=hd_ hof;have hkl:(kids.length:Int)≤1000000:=by omega
  obtain ⟨a0,a1,a2,a3,a4,a5,a6⟩:=cells7 hbx.1;clear hr hwl h hP hbx hV ih hkk hkr hof hn hm hz hk h60 hkn h1 h20 htx htl htl2 hpt hpt2 h0z;go_in;go_wp2_with fail;rw[HVV.o];go_loopg [4,5] kids.length (fun k v4 v5 wr=> DfRel V kids k v4 v5 wr)
  case atStart=> exact ⟨0, [],none,0,rfl,rfl,rfl,eV_ _,by rw[List.take_zero,Ex.ofs],DL.nil _ _,eB_ _ _⟩
  case round=>
   obtain ⟨j,ts,a4,c4,rfl,rfl,hk,hj,hof,htl,hbw⟩:=hrel;have HR:=h4_ hk hof htl hbw;clear hk hof htl;obtain ⟨a0,a1,a2,a3,a4',a5,a6⟩:=cells7 (HM.o _ hbw).1;clear hbw;by_cases hlt:j < kids.length
   ·have hlt':(j:Int) < (kids.length:Int):=(by omega);obtain ⟨k,hk⟩:∃ k,kids[j]? =some k:=⟨_,eA_ hlt⟩
    obtain ⟨bk,off,ck,cs',q1,q2,hr,hre⟩:=HK.o wr HR.D j k hk;subst q1 q2;obtain ⟨ak,ckk,rfl⟩:=hre.form;have HG:=hd_ hr;have HKK:=hd_ hk;have HC1:=hd_ ((HC.o j k hk).1 hre (HM.o _ HR.D).2.2.2.2);obtain ⟨o,ho⟩:∃ o,Ex.of k=o:=⟨_,rfl⟩
    rw[ho] at HC1;have HO:=hd_ ho;clear hr hre hk ho;go_wp2_with (refine wpList_load_mid rfl 33 _ rfl bk (off+j*7) rfl _ _ HG.o underlying33 rfl rfl ?_);refine eH_ HC1.o ?_;rintro r w2 ⟨v2,rfl,ht2,hb2⟩;have hb2':Below V.heap.size V w2:=HR.D.trans (hb2.mono HR.D.size);cases o with
    | none=>
     simp only[Option.isSome_none,Option.getD_none] at ht2 ⊢;obtain ⟨an2,cn2,af2,cf2,s2,ad2,cd2,rfl,ht2⟩:=Y8 ht2;have hof2:Ex.ofs kids=none:=Ex.Q2v HR.b HKK.o HO.o;have hx3:=Qp (w:=w2) #[.slice an2 Tp.zero.l.length cn2,.slice af2 Tp.zero.l.length cf2,.int .i64 s2,.slice ad2 (dg Tp.zero.rest).length cd2] 50;have H2:=h2_ hof2 (hb2'.trans (hx3.2.mono hb2'.size));clear ht2 hb2 hb2' hof2 hx3;go_wp2_with (first
      | (refine Q9 rfl 50 _ _ rfl 50 #[.slice none 0 0,.slice none 0 0,.int .i64 0,.slice none 0 0] #[.slice an2 Tp.zero.l.length cn2,.slice af2 Tp.zero.l.length cf2,.int .i64 s2,.slice ad2 (dg Tp.zero.rest).length cd2] rfl rfl rfl Xa (by simp[Value.oneCell']) ?_)
      | (refine X4 rfl _ _ rfl rfl (HM.o _ H2.B).2.1 rfl rfl (Jn _) (show w.heap.size≤w.heap.size+1 by omega) (HM.o _ H2.B).2.2.1 ?_;rintro W cs hg hs hn hb;have HT:=h4_ hg hs hn hb;clear hg hs hn hb))
     have HE:=hd_ (HOF.o.trans (by rw[H2.a]));refine eG_ (Y3 rfl rfl HT.a HT.b rfl) rfl ?_;refine ⟨.agg cs,?_,?_,HT.D⟩
     ·rw[HE.o];rfl
     ·rw[HE.o];exact HT.c
    | some t=>
     simp only[Option.isSome_some,Option.getD_some] at ht2 ⊢;obtain ⟨an2,cn2,af2,cf2,s2,ad2,cd2,rfl,ht2⟩:=Y8 ht2;have hx3:=Qp (w:=w2) #[.slice an2 t.l.length cn2,.slice af2 t.l.length cf2,.int .i64 s2,.slice ad2 (dg t.rest).length cd2] 50;obtain ⟨W3,hW3⟩:∃ W,w2.alloc (.cells #[.slice an2 t.l.length cn2,.slice af2 t.l.length cf2,.int .i64 s2,.slice ad2 (dg t.rest).length cd2] 50)=W:=⟨_,rfl⟩
     have hx4:=Qp (w:=W3) #[.slice an2 t.l.length cn2,.slice af2 t.l.length cf2,.int .i64 s2,.slice ad2 (dg t.rest).length cd2] 50;obtain ⟨W4,hW4⟩:∃ W,W3.alloc (.cells #[.slice an2 t.l.length cn2,.slice af2 t.l.length cf2,.int .i64 s2,.slice ad2 (dg t.rest).length cd2] 50)=W:=⟨_,rfl⟩
     have hrd:=Q79 W3 (.slice an2 t.l.length cn2) (.slice af2 t.l.length cf2) (.int .i64 s2) (.slice ad2 (dg t.rest).length cd2);have hsz:w2.heap.size+1=W3.heap.size:=(by rw[←hW3];exact Q5 _ _);rw[hW3] at hx3;rw[hW4] at hx4 hrd;have hb4:Below wr.heap.size wr W4:=hb2.trans (hx3.2.mono hb2.size |>.trans (hx4.2.mono (eE_ hb2.size hx3.2.size)));obtain ⟨css,g1,g2,g3,g4⟩:=HR.c;have hts:ts.length=j:=(by have:=(Ex.Yy HR.b).1;rw[eN_] at this;omega);have H4:=h7_ (Qj g3 hb4) hrd ((ht2.below hx3.2).below hx4.2) hb4 g1 g2 (fun i t c a b=> (g4 i t c a b).below hb4);have HW:=h4_ hW3 hW4 hsz hts;obtain ⟨i0,hi0,hz0,hz1,hz2⟩:=Qs Q80;have HI:=h4_ hi0 hz0 hz1 hz2;clear ht2 hb2 hb2' hx3 hx4 hrd hsz hb4 g1 g2 g3 g4 hW3 hW4 hts hi0 hz0 hz1 hz2;go_wp2_with (first
      | (refine Q9 rfl 50 _ _ rfl 50 #[.slice none 0 0,.slice none 0 0,.int .i64 0,.slice none 0 0] #[.slice an2 t.l.length cn2,.slice af2 t.l.length cf2,.int .i64 s2,.slice ad2 (dg t.rest).length cd2] rfl rfl rfl Xa (by simp[Value.oneCell']) ?_)
      | (at_builtin;refine XB ?_))
     refine Stop.go ?_;rw[HW.a,HW.b];refine QD rfl _ _ 117 rfl V.heap.size 50 i0 (.agg #[.slice none 0 0,.slice none 0 0,.int .i64 0,.slice none 0 0]) 4 80 underlying117 HI.a HI.b HI.c HI.D rfl (by decide) _ ts.length css.flatten rfl H4.a (by rw[HW.c];rfl) H4.b (by simp[Value.oneCell']) (by have:=HW.D;unfold maxLen;omega) (by have:=HW.D;omega) (eE_ HR.D.size H4.d.size) ?_;intro a5 c5 w5 hown5 hg5 _;have h5:=DL.push H4.e H4.f H4.G H4.c (YC H4.a hg5 (by decide)) hown5;have hb5:=(HR.D.trans (H4.d.mono HR.D.size)).trans (XN H4.a hg5 (eE_ HR.D.size H4.d.size));have H5:=h2_ h5 hb5;clear h5 hb5 hown5 hg5;go_wp2_with fail;go_roundg (kids.length - (j+1))
     case measure=> have:=HR.a;omega
     case rel=>
      refine ⟨j+1,ts++ [t],a5,c5,by go_num,?_,rfl,by omega,Ex.Q2u HR.b HKK.o HO.o,?_,H5.B⟩
      ·rw[eC_];rfl
      ·rw[eC_];exact H5.a
   ·obtain rfl:j=kids.length:=(by omega);have hof:=HR.b;rw[List.take_length] at hof;have hE:Ex.of (.mk op name mod z yes kids pos)=Ex.ofK (.mk op name mod z yes kids pos) ts:=(by rw[HOF.o,hof]);rw[Q0Z] at hE;have hlen:=(Ex.Yy hof).1;have hget:∀ (i:Nat) (t:Tp.T),ts[i]? =some t→Sm 100000 t∧Tp.Ok t.l:=fun i t hi=> by
     obtain ⟨k,q1,q2⟩:=(Ex.Yy hof).2 i t hi;have q3:=(HC.o i k q1).2.1 q2;exact ⟨q3.1.mono (by have:=(HC.o i k q1).2.2;have:=HN.b;omega),q3.2⟩
    have HG:=h3_ hget hlen hof;have hm:=HM.o wr HR.D;obtain ⟨a0,a1,a2,a3,a4',a5,a6⟩:=cells7 hm.1;have hlt2:(ts.length:Int)≤1000000:=(by omega);clear hlt hj hof hlen hget hm;by_cases q1:op=1
    ·subst q1;have HE:=hd_ hE;clear hE;go_wp2_with fail;refine eH_ (Q0C tx HN.f _) ?_;rintro r w2 ⟨⟨v2,rfl,hz2⟩,hb2⟩;rw[HN.g (by first | rfl | trivial)] at hz2 ⊢;obtain ⟨az,cz,rfl,_⟩:=hz2.form;obtain ⟨sz,hsz⟩:∃ s,sgn z=s:=⟨_,rfl⟩
     rw[hsz] at hz2 ⊢;have hx2:=Qp (w:=w2) #[.int .i64 sz,.slice az (dg z).length cz] 48;obtain ⟨W2,hW2⟩:∃ W,w2.alloc (.cells #[.int .i64 sz,.slice az (dg z).length cz] 48)=W:=⟨_,rfl⟩
     rw[hW2] at hx2;have HW2:=hd_ hW2;have H2:=h2_ (Q70 (hz2.below hx2.2)) ((HR.D.trans (hb2.mono HR.D.size)).trans (hx2.2.mono (eE_ HR.D.size hb2.size)));have z0:=Q3 hx2.1 0 rfl;have z1:=Q3 hx2.1 1 rfl;clear hb2 hz2 hsz hx2 hW2;dsimp only;go_wp2_with (first | (refine Q9 rfl 48 _ _ rfl 48 #[.int .i64 0,.slice none 0 0] #[.int .i64 sz,.slice az (dg z).length cz] rfl rfl rfl (by kernel_rfl) (by simp[Value.oneCell']) ?_;rw[HW2.o]) | (refine X4 rfl _ _ rfl rfl (HM.o _ H2.B).2.1 rfl rfl H2.a (show w.heap.size≤w.heap.size+1 by omega) (HM.o _ H2.B).2.2.1 ?_;rintro W cs hg hs hn hb;have HT:=h4_ hg hs hn hb;clear hg hs hn hb));refine eG_ (Y3 rfl rfl HT.a HT.b rfl) rfl ?_;refine ⟨.agg cs,?_,?_,HT.D⟩
     ·rw[HE.o];rfl
     ·rw[HE.o];exact HT.c
    by_cases q3:op=3
    ·subst q3;have HE:=hd_ hE;clear hE;go_wp2_with fail;refine eH_ (Gx _ _) ?_;rintro r w2 ⟨v2,rfl,ht2,hb2⟩;have H2:=h2_ ht2 (HR.D.trans (hb2.mono HR.D.size));clear ht2 hb2;dsimp only;go_wp2_with (refine X4 rfl _ _ rfl rfl (HM.o _ H2.B).2.1 rfl rfl H2.a (show w.heap.size≤w.heap.size+1 by omega) (HM.o _ H2.B).2.2.1 ?_;rintro W cs hg hs hn hb;have HT:=h4_ hg hs hn hb;clear hg hs hn hb);refine eG_ (Y3 rfl rfl HT.a HT.b rfl) rfl ?_;refine ⟨.agg cs,?_,?_,HT.D⟩
     ·rw[HE.o];rfl
     ·rw[HE.o];exact HT.c
    by_cases q4:op=4
    ·subst q4;have HE:=hd_ hE;clear hE;go_wp2_with fail;refine eH_ (Gx _ [114,101,115]) ?_;rintro r w2 ⟨v2,rfl,ht2,hb2⟩;have H2:=h2_ ht2 (HR.D.trans (hb2.mono HR.D.size));clear ht2 hb2;dsimp only;go_wp2_with (refine X4 rfl _ _ rfl rfl (HM.o _ H2.B).2.1 rfl rfl H2.a (show w.heap.size≤w.heap.size+1 by omega) (HM.o _ H2.B).2.2.1 ?_;rintro W cs hg hs hn hb;have HT:=h4_ hg hs hn hb;clear hg hs hn hb);refine eG_ (Y3 rfl rfl HT.a HT.b rfl) rfl ?_;refine ⟨.agg cs,?_,?_,HT.D⟩
     ·rw[HE.o];rfl
     ·rw[HE.o];exact HT.c
    by_cases q5:op=5
    ·subst q5;have hk1:ts.length=1:=by
       have q1:=HN.c;have q2:=HG.b;have q3:knum 5=1:=(by decide);omega
     obtain ⟨t0,ht0⟩:∃ t,ts[0]? =some t:=⟨_,eA_ (by omega)⟩
     obtain ⟨b0,e0,an0,cn0,af0,cf0,s0,ad0,cd0,f0,f1,f2,f3,htm0⟩:=HR.c.get ht0;subst e0;simp only[Nat.zero_mul,Nat.zero_add] at f0 f1 f2 f3;have g0:ts.getD 0 Tp.zero=t0:=(by rw[List.getD_eq_getElem?_getD,ht0];rfl);have hE2:Ex.of (.mk 5 name mod z yes kids pos)=some (Tp.add Tp.zero t0 (-1)):=hE.trans (by rw[g0];rfl);have mkS:∀ W:World,Below wr.heap.size wr W→Below wr.heap.size wr W∧W.cell? ⟨b0,0,none⟩=some (.slice an0 t0.l.length cn0)∧W.cell? ⟨b0,1,none⟩=some (.slice af0 t0.l.length cf0)∧W.cell? ⟨b0,2,none⟩=some (.int .i64 s0)∧W.cell? ⟨b0,3,none⟩=some (.slice ad0 (dg t0.rest).length cd0):=fun W hb=> ⟨hb,(hb.cell (Q7 f0)).trans f0,(hb.cell (Q7 f1)).trans f1,(hb.cell (Q7 f2)).trans f2,(hb.cell (Q7 f3)).trans f3⟩;have HS:=hd_ mkS;have HE:=hd_ hE2;have HA:=h3_ htm0 (HG.a 0 t0 ht0) trivial;have hi0:(0:Int) < (ts.length:Int):=(by omega);have hi1:0 < ts.length:=(by omega);clear mkS hE2 hE g0 f0 f1 f2 f3 ht0 htm0 hk1;go_wp2_with fail;refine QI (S:=fun w'=> Below wr.heap.size wr w'∧w'.cell? ⟨b0,0,none⟩=some (.slice an0 t0.l.length cn0)∧w'.cell? ⟨b0,1,none⟩=some (.slice af0 t0.l.length cf0)∧w'.cell? ⟨b0,2,none⟩=some (.int .i64 s0)∧w'.cell? ⟨b0,3,none⟩=some (.slice ad0 (dg t0.rest).length cd0)) (by simp) (by simp) (by kernel_rfl) (by kernel_rfl) (by kernel_rfl) (HS.o _ ((eB_ _ _).drew)) (fun hHeld=> ?_);simp only[lA_];refine tk_ 0 rfl ?_;(try simp only[Act.put,gP_]);refine tk_ 1 rfl ?_;(try simp only[Act.put,gP_]);refine tk_ 2 rfl ?_;(try simp only[Act.put,gP_]);refine tk_ 3 rfl ?_;(try simp only[Act.put,gP_]);refine rd_ 4 rfl (fun KK hKK=> ?_);simp only[gA_];go_simp;refine eH_ (YY (-1) (by decide) (by decide) _) ?_;rintro r w7 ⟨v7,rfl,hn7,hb7⟩;have hw7:Below wr.heap.size wr w7:=(eB_ _ _).drew.trans hb7;clear hb7;dsimp only;refine hKK.out _ _ (HS.o _ hw7) (fun hHeld=> ?_);clear hKK KK;(try simp only[Act.put,sA_]);refine rd_ 5 rfl (fun KK hKK=> ?_);simp only[gA_];go_simp;refine eH_ (XZ (Jn _) (HA.a.below hw7) hn7 Tp.Ok.nil HA.b.2.rise (Sm.zero.mono (by decide)) HA.b.1 (show Bd 100000 (-1) from Bd.mono (k:=1) (by unfold Bd;decide) (by decide)) (by decide)) ?_;rintro r w9 ⟨v9,rfl,ht9,hb9⟩;replace hb9:Below wr.heap.size wr w9:=hw7.trans (hb9.mono hw7.size);have H2:=h2_ ht9 (HR.D.trans (hb9.mono HR.D.size));dsimp only;refine hKK.out _ _ (HS.o _ hb9) (fun hHeld=> ?_);clear hKK KK;(try simp only[Act.put,sA_]);refine wpAnyH_done (by kernel_rfl) ?_ _;unfold PeelQ;dsimp only;refine XD _ _ rfl rfl (HM.o _ H2.B).2.1 rfl rfl H2.a (show w.heap.size≤w.heap.size+1 by omega) (HM.o _ H2.B).2.2.1 ?_;rintro W cs - hg hs hn hb;have HT:=h4_ hg hs hn hb;clear hg hs hn hb;go_simp;go_wp2_with fail;refine eG_ (Y3 rfl rfl HT.a HT.b rfl) rfl ?_;refine ⟨.agg cs,?_,?_,HT.D⟩
     ·rw[HE.o];rfl
     ·rw[HE.o];exact HT.c
    by_cases q7:op=7
    ·subst q7;have hk1:ts.length=2:=by
       have q1:=HN.c;have q2:=HG.b;have q3:knum 7=2:=(by decide);omega
     obtain ⟨t0,ht0⟩:∃ t,ts[0]? =some t:=⟨_,eA_ (by omega)⟩
     obtain ⟨b0,e0,an0,cn0,af0,cf0,s0,ad0,cd0,f0,f1,f2,f3,htm0⟩:=HR.c.get ht0;subst e0;simp only[Nat.zero_mul,Nat.zero_add] at f0 f1 f2 f3;have g0:ts.getD 0 Tp.zero=t0:=(by rw[List.getD_eq_getElem?_getD,ht0];rfl);obtain ⟨t1,ht1⟩:∃ t,ts[1]? =some t:=⟨_,eA_ (by omega)⟩
     obtain ⟨b1,e1,an1,cn1,af1,cf1,s1,ad1,cd1,f4,f5,f6,f7,htm1⟩:=HR.c.get ht1;injection e1 with e1;injection e1 with e1 _ _;subst e1;simp only[Nat.one_mul,Nat.reduceAdd] at f4 f5 f6 f7;have g1:ts.getD 1 Tp.zero=t1:=(by rw[List.getD_eq_getElem?_getD,ht1];rfl);have hE2:Ex.of (.mk 7 name mod z yes kids pos)=some (Tp.add t0 t1 (1)):=hE.trans (by rw[g0,g1];rfl);have mkS:∀ W:World,Below wr.heap.size wr W→Below wr.heap.size wr W∧W.cell? ⟨b0,0,none⟩=some (.slice an0 t0.l.length cn0)∧W.cell? ⟨b0,1,none⟩=some (.slice af0 t0.l.length cf0)∧W.cell? ⟨b0,2,none⟩=some (.int .i64 s0)∧W.cell? ⟨b0,3,none⟩=some (.slice ad0 (dg t0.rest).length cd0)∧W.cell? ⟨b0,4,none⟩=some (.slice an1 t1.l.length cn1)∧W.cell? ⟨b0,5,none⟩=some (.slice af1 t1.l.length cf1)∧W.cell? ⟨b0,6,none⟩=some (.int .i64 s1)∧W.cell? ⟨b0,7,none⟩=some (.slice ad1 (dg t1.rest).length cd1):=fun W hb=> ⟨hb,(hb.cell (Q7 f0)).trans f0,(hb.cell (Q7 f1)).trans f1,(hb.cell (Q7 f2)).trans f2,(hb.cell (Q7 f3)).trans f3,(hb.cell (Q7 f4)).trans f4,(hb.cell (Q7 f5)).trans f5,(hb.cell (Q7 f6)).trans f6,(hb.cell (Q7 f7)).trans f7⟩;have HS:=hd_ mkS;have HE:=hd_ hE2;have HA:=h4_ htm0 (HG.a 0 t0 ht0) htm1 (HG.a 1 t1 ht1);have hi0:(0:Int) < (ts.length:Int):=(by omega);have hi1:0 < ts.length:=(by omega);have hi2:(1:Int) < (ts.length:Int):=(by omega);have hi3:1 < ts.length:=(by omega);clear mkS hE2 hE g0 f0 f1 f2 f3 ht0 htm0 hk1 g1 f4 f5 f6 f7 ht1 htm1;go_wp2_with fail;refine QI (S:=fun w'=> Below wr.heap.size wr w'∧w'.cell? ⟨b0,0,none⟩=some (.slice an0 t0.l.length cn0)∧w'.cell? ⟨b0,1,none⟩=some (.slice af0 t0.l.length cf0)∧w'.cell? ⟨b0,2,none⟩=some (.int .i64 s0)∧w'.cell? ⟨b0,3,none⟩=some (.slice ad0 (dg t0.rest).length cd0)∧w'.cell? ⟨b0,4,none⟩=some (.slice an1 t1.l.length cn1)∧w'.cell? ⟨b0,5,none⟩=some (.slice af1 t1.l.length cf1)∧w'.cell? ⟨b0,6,none⟩=some (.int .i64 s1)∧w'.cell? ⟨b0,7,none⟩=some (.slice ad1 (dg t1.rest).length cd1)) (by simp) (by simp) (by kernel_rfl) (by kernel_rfl) (by kernel_rfl) (HS.o _ ((eB_ _ _).drew)) (fun hHeld=> ?_);simp only[lA_];refine tk_ 0 rfl ?_;(try simp only[Act.put,gP_]);refine tk_ 1 rfl ?_;(try simp only[Act.put,gP_]);refine tk_ 2 rfl ?_;(try simp only[Act.put,gP_]);refine tk_ 3 rfl ?_;(try simp only[Act.put,gP_]);refine tk_ 4 rfl ?_;(try simp only[Act.put,gP_]);refine tk_ 5 rfl ?_;(try simp only[Act.put,gP_]);refine rd_ 6 rfl (fun KK hKK=> ?_);simp only[gA_];go_simp;refine eH_ (YY (1) (by decide) (by decide) _) ?_;rintro r w7 ⟨v7,rfl,hn7,hb7⟩;have hw7:Below wr.heap.size wr w7:=(eB_ _ _).drew.trans hb7;clear hb7;dsimp only;refine hKK.out _ _ (HS.o _ hw7) (fun hHeld=> ?_);clear hKK KK;(try simp only[Act.put,sA_]);refine rd_ 7 rfl (fun KK hKK=> ?_);simp only[gA_];go_simp;refine eH_ (XZ (HA.a.below hw7) (HA.c.below hw7) hn7 HA.b.2 HA.E.rise HA.b.1 HA.d (show Bd 100000 (1) from Bd.mono (k:=1) (by unfold Bd;decide) (by decide)) (by decide)) ?_;rintro r w9 ⟨v9,rfl,ht9,hb9⟩;replace hb9:Below wr.heap.size wr w9:=hw7.trans (hb9.mono hw7.size);have H2:=h2_ ht9 (HR.D.trans (hb9.mono HR.D.size));dsimp only;refine hKK.out _ _ (HS.o _ hb9) (fun hHeld=> ?_);clear hKK KK;(try simp only[Act.put,sA_]);refine wpAnyH_done (by kernel_rfl) ?_ _;unfold PeelQ;dsimp only;refine XD _ _ rfl rfl (HM.o _ H2.B).2.1 rfl rfl H2.a (show w.heap.size≤w.heap.size+1 by omega) (HM.o _ H2.B).2.2.1 ?_;rintro W cs - hg hs hn hb;have HT:=h4_ hg hs hn hb;clear hg hs hn hb;go_simp;go_wp2_with fail;refine eG_ (Y3 rfl rfl HT.a HT.b rfl) rfl ?_;refine ⟨.agg cs,?_,?_,HT.D⟩
     ·rw[HE.o];rfl
     ·rw[HE.o];exact HT.c
    by_cases q8:op=8
    ·subst q8;have hk1:ts.length=2:=by
       have q1:=HN.c;have q2:=HG.b;have q3:knum 8=2:=(by decide);omega
     obtain ⟨t0,ht0⟩:∃ t,ts[0]? =some t:=⟨_,eA_ (by omega)⟩
     obtain ⟨b0,e0,an0,cn0,af0,cf0,s0,ad0,cd0,f0,f1,f2,f3,htm0⟩:=HR.c.get ht0;subst e0;simp only[Nat.zero_mul,Nat.zero_add] at f0 f1 f2 f3;have g0:ts.getD 0 Tp.zero=t0:=(by rw[List.getD_eq_getElem?_getD,ht0];rfl);obtain ⟨t1,ht1⟩:∃ t,ts[1]? =some t:=⟨_,eA_ (by omega)⟩
     obtain ⟨b1,e1,an1,cn1,af1,cf1,s1,ad1,cd1,f4,f5,f6,f7,htm1⟩:=HR.c.get ht1;injection e1 with e1;injection e1 with e1 _ _;subst e1;simp only[Nat.one_mul,Nat.reduceAdd] at f4 f5 f6 f7;have g1:ts.getD 1 Tp.zero=t1:=(by rw[List.getD_eq_getElem?_getD,ht1];rfl);have hE2:Ex.of (.mk 8 name mod z yes kids pos)=some (Tp.add t0 t1 (-1)):=hE.trans (by rw[g0,g1];rfl);have mkS:∀ W:World,Below wr.heap.size wr W→Below wr.heap.size wr W∧W.cell? ⟨b0,0,none⟩=some (.slice an0 t0.l.length cn0)∧W.cell? ⟨b0,1,none⟩=some (.slice af0 t0.l.length cf0)∧W.cell? ⟨b0,2,none⟩=some (.int .i64 s0)∧W.cell? ⟨b0,3,none⟩=some (.slice ad0 (dg t0.rest).length cd0)∧W.cell? ⟨b0,4,none⟩=some (.slice an1 t1.l.length cn1)∧W.cell? ⟨b0,5,none⟩=some (.slice af1 t1.l.length cf1)∧W.cell? ⟨b0,6,none⟩=some (.int .i64 s1)∧W.cell? ⟨b0,7,none⟩=some (.slice ad1 (dg t1.rest).length cd1):=fun W hb=> ⟨hb,(hb.cell (Q7 f0)).trans f0,(hb.cell (Q7 f1)).trans f1,(hb.cell (Q7 f2)).trans f2,(hb.cell (Q7 f3)).trans f3,(hb.cell (Q7 f4)).trans f4,(hb.cell (Q7 f5)).trans f5,(hb.cell (Q7 f6)).trans f6,(hb.cell (Q7 f7)).trans f7⟩;have HS:=hd_ mkS;have HE:=hd_ hE2;have HA:=h4_ htm0 (HG.a 0 t0 ht0) htm1 (HG.a 1 t1 ht1);have hi0:(0:Int) < (ts.length:Int):=(by omega);have hi1:0 < ts.length:=(by omega);have hi2:(1:Int) < (ts.length:Int):=(by omega);have hi3:1 < ts.length:=(by omega);clear mkS hE2 hE g0 f0 f1 f2 f3 ht0 htm0 hk1 g1 f4 f5 f6 f7 ht1 htm1;go_wp2_with fail;refine QI (S:=fun w'=> Below wr.heap.size wr w'∧w'.cell? ⟨b0,0,none⟩=some (.slice an0 t0.l.length cn0)∧w'.cell? ⟨b0,1,none⟩=some (.slice af0 t0.l.length cf0)∧w'.cell? ⟨b0,2,none⟩=some (.int .i64 s0)∧w'.cell? ⟨b0,3,none⟩=some (.slice ad0 (dg t0.rest).length cd0)∧w'.cell? ⟨b0,4,none⟩=some (.slice an1 t1.l.length cn1)∧w'.cell? ⟨b0,5,none⟩=some (.slice af1 t1.l.length cf1)∧w'.cell? ⟨b0,6,none⟩=some (.int .i64 s1)∧w'.cell? ⟨b0,7,none⟩=some (.slice ad1 (dg t1.rest).length cd1)) (by simp) (by simp) (by kernel_rfl) (by kernel_rfl) (by kernel_rfl) (HS.o _ ((eB_ _ _).drew)) (fun hHeld=> ?_);simp only[lA_];refine tk_ 0 rfl ?_;(try simp only[Act.put,gP_]);refine tk_ 1 rfl ?_;(try simp only[Act.put,gP_]);refine tk_ 2 rfl ?_;(try simp only[Act.put,gP_]);refine tk_ 3 rfl ?_;(try simp only[Act.put,gP_]);refine tk_ 4 rfl ?_;(try simp only[Act.put,gP_]);refine tk_ 5 rfl ?_;(try simp only[Act.put,gP_]);refine rd_ 6 rfl (fun KK hKK=> ?_);simp only[gA_];go_simp;refine eH_ (YY (-1) (by decide) (by decide) _) ?_;rintro r w7 ⟨v7,rfl,hn7,hb7⟩;have hw7:Below wr.heap.size wr w7:=(eB_ _ _).drew.trans hb7;clear hb7;dsimp only;refine hKK.out _ _ (HS.o _ hw7) (fun hHeld=> ?_);clear hKK KK;(try simp only[Act.put,sA_]);refine rd_ 7 rfl (fun KK hKK=> ?_);simp only[gA_];go_simp;refine eH_ (XZ (HA.a.below hw7) (HA.c.below hw7) hn7 HA.b.2 HA.E.rise HA.b.1 HA.d (show Bd 100000 (-1) from Bd.mono (k:=1) (by unfold Bd;decide) (by decide)) (by decide)) ?_;rintro r w9 ⟨v9,rfl,ht9,hb9⟩;replace hb9:Below wr.heap.size wr w9:=hw7.trans (hb9.mono hw7.size);have H2:=h2_ ht9 (HR.D.trans (hb9.mono HR.D.size));dsimp only;refine hKK.out _ _ (HS.o _ hb9) (fun hHeld=> ?_);clear hKK KK;(try simp only[Act.put,sA_]);refine wpAnyH_done (by kernel_rfl) ?_ _;unfold PeelQ;dsimp only;refine XD _ _ rfl rfl (HM.o _ H2.B).2.1 rfl rfl H2.a (show w.heap.size≤w.heap.size+1 by omega) (HM.o _ H2.B).2.2.1 ?_;rintro W cs - hg hs hn hb;have HT:=h4_ hg hs hn hb;clear hg hs hn hb;go_simp;go_wp2_with fail;refine eG_ (Y3 rfl rfl HT.a HT.b rfl) rfl ?_;refine ⟨.agg cs,?_,?_,HT.D⟩
     ·rw[HE.o];rfl
     ·rw[HE.o];exact HT.c
    by_cases q9:op=9
    ·subst q9;have hk1:ts.length=2:=by
       have q1:=HN.c;have q2:=HG.b;have q3:knum 9=2:=(by decide);omega
     obtain ⟨t0,ht0⟩:∃ t,ts[0]? =some t:=⟨_,eA_ (by omega)⟩
     obtain ⟨b0,e0,an0,cn0,af0,cf0,s0,ad0,cd0,f0,f1,f2,f3,htm0⟩:=HR.c.get ht0;subst e0;simp only[Nat.zero_mul,Nat.zero_add] at f0 f1 f2 f3;have g0:ts.getD 0 Tp.zero=t0:=(by rw[List.getD_eq_getElem?_getD,ht0];rfl);obtain ⟨t1,ht1⟩:∃ t,ts[1]? =some t:=⟨_,eA_ (by omega)⟩
     obtain ⟨b1,e1,an1,cn1,af1,cf1,s1,ad1,cd1,f4,f5,f6,f7,htm1⟩:=HR.c.get ht1;injection e1 with e1;injection e1 with e1 _ _;subst e1;simp only[Nat.one_mul,Nat.reduceAdd] at f4 f5 f6 f7;have g1:ts.getD 1 Tp.zero=t1:=(by rw[List.getD_eq_getElem?_getD,ht1];rfl);have hE2:Ex.of (.mk 9 name mod z yes kids pos)=Ex.prod t0 t1:=hE.trans (by rw[g0,g1];rfl);have mkS:∀ W:World,Below wr.heap.size wr W→Below wr.heap.size wr W∧W.cell? ⟨b0,0,none⟩=some (.slice an0 t0.l.length cn0)∧W.cell? ⟨b0,1,none⟩=some (.slice af0 t0.l.length cf0)∧W.cell? ⟨b0,2,none⟩=some (.int .i64 s0)∧W.cell? ⟨b0,3,none⟩=some (.slice ad0 (dg t0.rest).length cd0)∧W.cell? ⟨b0,4,none⟩=some (.slice an1 t1.l.length cn1)∧W.cell? ⟨b0,5,none⟩=some (.slice af1 t1.l.length cf1)∧W.cell? ⟨b0,6,none⟩=some (.int .i64 s1)∧W.cell? ⟨b0,7,none⟩=some (.slice ad1 (dg t1.rest).length cd1):=fun W hb=> ⟨hb,(hb.cell (Q7 f0)).trans f0,(hb.cell (Q7 f1)).trans f1,(hb.cell (Q7 f2)).trans f2,(hb.cell (Q7 f3)).trans f3,(hb.cell (Q7 f4)).trans f4,(hb.cell (Q7 f5)).trans f5,(hb.cell (Q7 f6)).trans f6,(hb.cell (Q7 f7)).trans f7⟩;have HS:=hd_ mkS;have HE:=hd_ hE2;have HA:=h4_ htm0 (HG.a 0 t0 ht0) htm1 (HG.a 1 t1 ht1);have hi0:(0:Int) < (ts.length:Int):=(by omega);have hi1:0 < ts.length:=(by omega);have hi2:(1:Int) < (ts.length:Int):=(by omega);have hi3:1 < ts.length:=(by omega);clear mkS g0 f1 f2 f3 ht0 htm0 hk1 g1 f5 f6 f7 ht1 htm1;by_cases hl0:t0.l= []
     ·have hl2:t0.l.length=0:=(by rw[hl0];rfl);have HE:=hd_ (hE2.trans (if_pos hl0));have hl3:(t0.l.length:Int)=0:=(by omega);clear hl0 hE2 hE;go_wp2_with fail;refine QI (S:=fun w'=> Below wr.heap.size wr w'∧w'.cell? ⟨b0,0,none⟩=some (.slice an0 t0.l.length cn0)∧w'.cell? ⟨b0,1,none⟩=some (.slice af0 t0.l.length cf0)∧w'.cell? ⟨b0,2,none⟩=some (.int .i64 s0)∧w'.cell? ⟨b0,3,none⟩=some (.slice ad0 (dg t0.rest).length cd0)∧w'.cell? ⟨b0,4,none⟩=some (.slice an1 t1.l.length cn1)∧w'.cell? ⟨b0,5,none⟩=some (.slice af1 t1.l.length cf1)∧w'.cell? ⟨b0,6,none⟩=some (.int .i64 s1)∧w'.cell? ⟨b0,7,none⟩=some (.slice ad1 (dg t1.rest).length cd1)) (by simp) (by simp) (by kernel_rfl) (by kernel_rfl) (by kernel_rfl) (HS.o _ ((eB_ _ _).drew)) (fun hHeld=> ?_);simp only[lA_];refine tk_ 0 rfl ?_;(try simp only[Act.put,gP_]);refine tk_ 1 rfl ?_;(try simp only[Act.put,gP_]);refine tk_ 2 rfl ?_;(try simp only[Act.put,gP_]);refine tk_ 3 rfl ?_;(try simp only[Act.put,gP_]);refine tk_ 4 rfl ?_;(try simp only[Act.put,gP_]);refine tk_ 5 rfl ?_;(try simp only[Act.put,gP_]);refine tk_ 6 rfl ?_;(try simp only[Act.put,gP_]);refine tk_ 7 rfl ?_;(try simp only[Act.put,gP_]);refine rd_ 8 rfl (fun KK hKK=> ?_);simp only[gA_];go_simp;have hw7:=(eB_ wr.heap.size wr).drew;refine eH_ (XZ (Jn _) (HA.c.below hw7) (Tz.zn (HA.a.below hw7)) Tp.Ok.nil HA.E.rise (Sm.zero.mono (by decide)) HA.d HA.b.1.rest (by decide)) ?_;rintro r w9 ⟨v9,rfl,ht9,hb9⟩;replace hb9:Below wr.heap.size wr w9:=hw7.trans (hb9.mono hw7.size);have H2:=h2_ ht9 (HR.D.trans (hb9.mono HR.D.size));dsimp only;refine hKK.out _ _ (HS.o _ hb9) (fun hHeld=> ?_);clear hKK KK;(try simp only[Act.put,sA_]);refine wpAnyH_done (by kernel_rfl) ?_ _;unfold PeelQ;dsimp only;refine XD _ _ rfl rfl (HM.o _ H2.B).2.1 rfl rfl H2.a (show w.heap.size≤w.heap.size+1 by omega) (HM.o _ H2.B).2.2.1 ?_;rintro W cs - hg hs hn hb;have HT:=h4_ hg hs hn hb;clear hg hs hn hb;go_simp;go_wp2_with fail;refine eG_ (Y3 rfl rfl HT.a HT.b rfl) rfl ?_;refine ⟨.agg cs,?_,?_,HT.D⟩
      ·rw[HE.o];rfl
      ·rw[HE.o];exact HT.c
     ·have hl2:t0.l.length≠0:=fun e=> hl0 (List.length_eq_zero_iff.1 e);have hl3:(t0.l.length:Int)≠0:=(by omega);by_cases hl1:t1.l= []
      ·have hl4:t1.l.length=0:=(by rw[hl1];rfl);have HE:=hd_ (hE2.trans ((if_neg hl0).trans (if_pos hl1)));have hl5:(t1.l.length:Int)=0:=(by omega);clear hl0 hl1 hE2 hE;go_wp2_with fail;refine QI (S:=fun w'=> Below wr.heap.size wr w'∧w'.cell? ⟨b0,0,none⟩=some (.slice an0 t0.l.length cn0)∧w'.cell? ⟨b0,1,none⟩=some (.slice af0 t0.l.length cf0)∧w'.cell? ⟨b0,2,none⟩=some (.int .i64 s0)∧w'.cell? ⟨b0,3,none⟩=some (.slice ad0 (dg t0.rest).length cd0)∧w'.cell? ⟨b0,4,none⟩=some (.slice an1 t1.l.length cn1)∧w'.cell? ⟨b0,5,none⟩=some (.slice af1 t1.l.length cf1)∧w'.cell? ⟨b0,6,none⟩=some (.int .i64 s1)∧w'.cell? ⟨b0,7,none⟩=some (.slice ad1 (dg t1.rest).length cd1)) (by simp) (by simp) (by kernel_rfl) (by kernel_rfl) (by kernel_rfl) (HS.o _ ((eB_ _ _).drew)) (fun hHeld=> ?_);simp only[lA_];refine tk_ 0 rfl ?_;(try simp only[Act.put,gP_]);refine tk_ 1 rfl ?_;(try simp only[Act.put,gP_]);refine tk_ 2 rfl ?_;(try simp only[Act.put,gP_]);refine tk_ 3 rfl ?_;(try simp only[Act.put,gP_]);refine tk_ 4 rfl ?_;(try simp only[Act.put,gP_]);refine tk_ 5 rfl ?_;(try simp only[Act.put,gP_]);refine tk_ 6 rfl ?_;(try simp only[Act.put,gP_]);refine tk_ 7 rfl ?_;(try simp only[Act.put,gP_]);refine rd_ 8 rfl (fun KK hKK=> ?_);simp only[gA_];go_simp;have hw7:=(eB_ wr.heap.size wr).drew;refine eH_ (XZ (Jn _) (HA.a.below hw7) (Tz.zn (HA.c.below hw7)) Tp.Ok.nil HA.b.2.rise (Sm.zero.mono (by decide)) HA.b.1 HA.d.rest (by decide)) ?_;rintro r w9 ⟨v9,rfl,ht9,hb9⟩;replace hb9:Below wr.heap.size wr w9:=hw7.trans (hb9.mono hw7.size);have H2:=h2_ ht9 (HR.D.trans (hb9.mono HR.D.size));dsimp only;refine hKK.out _ _ (HS.o _ hb9) (fun hHeld=> ?_);clear hKK KK;(try simp only[Act.put,sA_]);refine wpAnyH_done (by kernel_rfl) ?_ _;unfold PeelQ;dsimp only;refine XD _ _ rfl rfl (HM.o _ H2.B).2.1 rfl rfl H2.a (show w.heap.size≤w.heap.size+1 by omega) (HM.o _ H2.B).2.2.1 ?_;rintro W cs - hg hs hn hb;have HT:=h4_ hg hs hn hb;clear hg hs hn hb;go_simp;go_wp2_with fail;refine eG_ (Y3 rfl rfl HT.a HT.b rfl) rfl ?_;refine ⟨.agg cs,?_,?_,HT.D⟩
       ·rw[HE.o];rfl
       ·rw[HE.o];exact HT.c
      ·have hl4:t1.l.length≠0:=fun e=> hl1 (List.length_eq_zero_iff.1 e);have hl5:(t1.l.length:Int)≠0:=(by omega);have HE:=hd_ (hE2.trans ((if_neg hl0).trans (if_neg hl1)));clear hl0 hl1 hE2 hE;go_wp2_with (refine X4 rfl _ _ rfl rfl (HM.o _ HR.D).2.1 rfl rfl (Jn _) (show w.heap.size≤w.heap.size+1 by omega) (HM.o _ HR.D).2.2.1 ?_;rintro W cs hg hs hn hb;have HT:=h4_ hg hs hn hb;clear hg hs hn hb);refine eG_ (Y3 rfl rfl HT.a HT.b rfl) rfl ?_;refine ⟨.agg cs,?_,?_,HT.D⟩
       ·rw[HE.o];rfl
       ·rw[HE.o];exact HT.c
    have hE2:Ex.of (.mk op name mod z yes kids pos)=none:=hE.trans (by rw[if_neg q1,if_neg q3,if_neg q4,if_neg q5,if_neg q7,if_neg q8,if_neg q9]);have HE:=hd_ hE2;clear hE hE2;go_wp2_with (refine X4 rfl _ _ rfl rfl (HM.o _ HR.D).2.1 rfl rfl (Jn _) (show w.heap.size≤w.heap.size+1 by omega) (HM.o _ HR.D).2.2.1 ?_;rintro W cs hg hs hn hb;have HT:=h4_ hg hs hn hb;clear hg hs hn hb);refine eG_ (Y3 rfl rfl HT.a HT.b rfl) rfl ?_;refine ⟨.agg cs,?_,?_,HT.D⟩
    ·rw[HE.o];rfl
    ·rw[HE.o];exact HT.c
theorem UH {op pos:Int} {name:List UInt8} {yes:Bool} (hn:name.length≤1000000) (hz:Bd 1000000 z):Ex.Sm (.mk op name [] z yes [] pos):= .mk hn (by simp) hz (by simp) fun k hk=> by cases hk
theorem Q19 {op pos:Int} {a b:Ex} (ha:Ex.Sm a) (hb:Ex.Sm b):Ex.Sm (.mk op [] [] 0 false [a,b] pos):= .mk (by simp) (by simp) (Bd.zero _) (by simp) fun k hk=> by
 rcases List.mem_cons.1 hk with rfl | hk
 ·exact ha
 ·rw[List.mem_singleton.1 hk];exact hb
theorem Q8g:Bd 1000000 2:=Bd.mono (k:=1) (by unfold Bd;decide) (by decide)
theorem Q7a:Bd 1000000 3:=Bd.mono (k:=1) (by unfold Bd;decide) (by decide)
theorem Q81:Ex.Sm ancE:=Q19 (Q19 (Q19 (UH (by simp) Q8g) (Q19 (UH (by simp) (Bd.zero _)) (UH (by simp) Q7a))) (UH (by simp) (Bd.zero _))) (UH (by simp) (Bd.zero _))
def ancT:Tp.T:=⟨[([120],1),([121],1)],-6⟩
theorem Q5D:Ex.code ancE=0:=by unfold Ex.code;rw[L7,Q4r];rfl
theorem Q5E:Ex.term ancE=ancT:=by unfold Ex.term;rw[L7,Q4r];rfl
theorem Q82:Sm 1000 ancT:=⟨fun p hp=> by
 have:p.2=1:=by
  rcases List.mem_cons.1 hp with rfl | hp
  ·rfl
  ·rw[List.mem_singleton.1 hp]
 rw[this];exact Bd.mono (k:=1) (by unfold Bd;decide) (by decide),Bd.mono (k:=1) (by unfold Bd;decide) (by decide),by decide⟩
theorem Q45 (l:List UInt8) (dp:Int):ReadSmall l (Ps.read Ps.form l dp).1:=Q3P DV l dp
theorem Lq (w:World):Calls prog 7 #[] w fun e w'=> e= .returned (.bool true)∧Below w.heap.size w w':=by
 have hc1:=Jy ancF (by decide) 9 w;have hs1:=Q45 ancF 9;have f1:=Q3U;have f2:=Q3V;have f3:=Q5u;have f4:=Q3W;have f5:=Q3X;have f6:=Q7Q;obtain ⟨⟨T,fe,fp⟩,hr⟩:∃ r,Ps.read Ps.form ancF 9=r:=⟨_,rfl⟩
 rw[hr] at hc1 hs1 f1 f2 f3 f4 f5 f6;simp only[Prod.mk.injEq] at f1;obtain ⟨rfl,rfl⟩:=f1;dsimp only at hs1 f2 f3 f4 f5 f6;have HC1:=hd_ hc1;have HF:=h6_ hs1 f4 f3 f2 (fun x hx=> by simpa using List.all_eq_true.1 f5 x hx:∀ x∈T.nodes,x.kind≠7) f6;clear hc1 hs1 f2 f3 f4 f5 f6 hr;go_in;go_wp2_with fail;rw[show (⟨#[50,42,40,120,45,51,41,43,121,45,120]⟩:ByteArray)=⟨ancF.toArray⟩ from rfl];refine HC1.o.mono ?_;rintro e w1 ⟨vt,vn,rfl,hT,hb⟩;obtain ⟨a1,c1,rfl⟩:∃ a c,vt= .slice a T.toks.length c:=hT.1.form;obtain ⟨a2,c2,rfl⟩:∃ a c,vn= .slice a T.nodes.length c:=by
  obtain ⟨kvs,_,h2,_⟩:=hT.2;exact h2.form
 have h1:=Q6V w1 (.slice a1 T.toks.length c1) (.slice a2 T.nodes.length c2) (.int .i64 0) (.int .i64 0);obtain ⟨V1,hV1⟩:∃ V,(w1.alloc (.cells #[.slice a1 T.toks.length c1,.slice a2 T.nodes.length c2] 90)).alloc (.cells #[.int .i64 0,.int .i64 0] 92)=V:=⟨_,rfl⟩
 have HV1:=hd_ hV1;rw[hV1] at h1;have HT:=h2_ (hT.keep (Keeps.of h1.b fun k hk=> hk.2)) (fun k (hk:w.heap.size≤k∧k < w1.heap.size)=> eI_ hk.2 h1.b.size);have H1:=h2_ h1 (hb.trans (h1.b.mono hb.size));have t0:=Q3 h1.t 0 rfl;have t1:=Q3 h1.t 1 rfl;clear hT hb h1 hV1;dsimp only;go_wp2_with fail;rw[HV1.o];refine eH_ (GL HT.a HT.B (l:=ancF) (by decide) HF.a HF.b HF.c HF.d HF.e HF.F) ?_;rintro e w2 ⟨v2,rfl,⟨cs,rfl,hre⟩,hb2⟩;obtain ⟨sv,kv,rfl,hsv,ak,ck,rfl⟩:=hre.cells;obtain ⟨ax,cx,rfl⟩:=RdS.form hsv;have H2:=h3_ (H1.a.past hb2) (H1.B.trans (hb2.mono H1.B.size)) hre;clear t0 t1 hb2 hre hsv;dsimp only;have hx3:=Qp (w:=w2) #[.int .i64 ancE.op,.string ⟨ancE.name.toArray⟩,.string ⟨ancE.mod.toArray⟩,.bool (decide (ancE.num < 0)),.slice ax (wd ancE.num).length cx,.bool ancE.yes,.slice ak ancE.kids.length ck,.int .i64 ancE.pos] 30;obtain ⟨V3,hV3⟩:∃ V,w2.alloc (.cells #[.int .i64 ancE.op,.string ⟨ancE.name.toArray⟩,.string ⟨ancE.mod.toArray⟩,.bool (decide (ancE.num < 0)),.slice ax (wd ancE.num).length cx,.bool ancE.yes,.slice ak ancE.kids.length ck,.int .i64 ancE.pos] 30)=V:=⟨_,rfl⟩
 rw[hV3] at hx3;have HV3:=hd_ hV3;have hP3:∀ k,New V1 w2 k→k < V3.heap.size:=fun k hk=> eI_ hk.2 hx3.2.size;have H3:=h5_ hx3.1 (H2.a.past hx3.2) (H2.b.trans (hx3.2.mono H2.b.size)) (H2.C.past (fun k hk=> hk.2) hx3.2) hP3;clear hx3 hV3 hP3;go_wp2_with (refine Q9 rfl 30 _ _ rfl 30 #[.int .i64 0,.string ⟨#[]⟩,.string ⟨#[]⟩,.bool false,.slice none 0 0,.bool false,.slice none 0 0,.int .i64 0] #[.int .i64 ancE.op,.string ⟨ancE.name.toArray⟩,.string ⟨ancE.mod.toArray⟩,.bool (decide (ancE.num < 0)),.slice ax (wd ancE.num).length cx,.bool ancE.yes,.slice ak ancE.kids.length ck,.int .i64 ancE.pos] rfl rfl rfl Qr (by simp[Value.oneCell']) ?_);rw[HV3.o];have hto:=UC Q81 Q7R H3.d H3.E;unfold TOut at hto;rw[Q5D,Q5E] at hto;refine eH_ hto ?_;clear hto;rintro e w4 ⟨v4,rfl,ht4,hb4⟩;obtain ⟨b4,x4,c4,o4,rfl,ht4⟩:=QM ht4;have hx5:=Qp (w:=w4) #[.bool b4,.slice x4 (wd ancT.rest).length c4,.pointer o4] 38;obtain ⟨V5,hV5⟩:∃ V,w4.alloc (.cells #[.bool b4,.slice x4 (wd ancT.rest).length c4,.pointer o4] 38)=V:=⟨_,rfl⟩
 rw[hV5] at hx5;have HV5:=hd_ hV5;have h5:=(H3.b.past hb4).past hx5.2;have k0:=Q3 h5.f 0 rfl;have t0:=Q3 hx5.1 0 rfl;have t1:=Q3 hx5.1 1 rfl;have t2:=Q3 hx5.1 2 rfl;have hw5:Below w.heap.size w V5:=(H3.c.trans (hb4.mono H3.c.size)).trans (hx5.2.mono (eE_ H3.c.size hb4.size));have hts:=Yb (ht4.below hx5.2) Q82 (by decide) (by rw[show Tp.text ancT=ancX from Q0a];decide);rw[show Tp.text ancT=ancX from Q0a] at hts;have H5:=h2_ hts hw5;rw[←hV5] at k0;clear hts hw5 h5 hx5 ht4 hb4 hV5 t0 t1 t2;dsimp only;go_wp2_with (refine Q9 rfl 38 _ _ rfl 38 #[.bool false,.slice none 0 0,.pointer none] #[.bool b4,.slice x4 (wd ancT.rest).length c4,.pointer o4] rfl rfl rfl XM (by simp[Value.oneCell']) ?_);rw[HV5.o];refine eH_ H5.a ?_;rintro e w6 ⟨rfl,hb6⟩;have H6:=hd_ (H5.B.trans (hb6.mono H5.B.size));clear hb6;dsimp only;go_wp2_with fail;go_ret;exact ⟨by simp[ancX],H6.o⟩
theorem Q0d (w:World) (A:Array Value) (TA:TypeId) (B:Array Value) (TB:TypeId):∃ V,(w.alloc (.cells A TA)).alloc (.cells B TB)=V∧V.heap[w.heap.size]? =some (.cells A TA (0,0))∧V.heap[w.heap.size+1]? =some (.cells B TB (0,0))∧Below w.heap.size w V:=⟨_,rfl,box2 w A TA B TB⟩
theorem Q1a {w:World} {P:Nat→Prop} {cls:List Cl} (h:RdS w P 6 v cls.length (cls.flatMap clCells)) (hP:∀ k,P k→k < w.heap.size):
  Calls prog 3 #[v] w fun r w'=> r= .returned (.bool true)∧Below w.heap.size w w':=by
 have HH:Hid (∀ W,Below w.heap.size w W→Calls prog 8 #[v] W (MBoth W)):=fun W hb=> Q2B (h.keep (Keeps.of hb hP)) (fun k hk=> eI_ (hP k hk) hb.size);clear h hP;go_in;go_wp2_with fail;refine eH_ (Lq w) ?_;rintro r w1 ⟨rfl,hb1⟩;have HA:=hd_ hb1;clear hb1;dsimp only;go_wp2_with fail;refine eH_ (HH.o w1 HA.o) ?_;rintro r w2 ⟨cs,cx,ok,rfl,hb2,hok⟩;have hw2:Below w.heap.size w w2:=HA.o.trans (hb2.mono HA.o.size);have HB2:=h2_ hb2 hw2;clear hb2 hw2;dsimp only;rcases hok with ⟨rfl,rfl,rfl⟩ | ⟨rfl,e,he,hx,hs,hwl⟩
 ·obtain ⟨V,hV,q1,q2,q3⟩:=Q0d w2 #[.int .i64 0,.string ⟨#[]⟩,.string ⟨#[]⟩,.bool false,.slice none 0 0,.bool false,.slice none 0 0,.int .i64 0] 30 #[.int .i64 0,.string ⟨#[]⟩,.string ⟨#[]⟩,.string ⟨#[]⟩,.bool false,.slice none 0 0,.int .i64 0] 33;have HV:=hd_ hV;have HQ:=hd_ (HB2.B.trans (q3.mono HB2.B.size));clear hV q1 q2 q3;go_wp2_with (first | (refine Qa rfl 30 _ _ rfl 30 _ #[.int .i64 0,.string ⟨#[]⟩,.string ⟨#[]⟩,.bool false,.slice none 0 0,.bool false,.slice none 0 0,.int .i64 0] #[.int .i64 0,.string ⟨#[]⟩,.string ⟨#[]⟩,.bool false,.slice none 0 0,.bool false,.slice none 0 0,.int .i64 0] rfl (eD_ _ _) rfl rfl Qr (by simp[Value.oneCell']) ?_) | (refine Qa rfl 33 _ _ rfl 33 _ #[.int .i64 0,.string ⟨#[]⟩,.string ⟨#[]⟩,.string ⟨#[]⟩,.bool false,.slice none 0 0,.int .i64 0] #[.int .i64 0,.string ⟨#[]⟩,.string ⟨#[]⟩,.string ⟨#[]⟩,.bool false,.slice none 0 0,.int .i64 0] rfl (eD_ _ _) rfl rfl Xr (by simp[Value.oneCell']) ?_) | (refine Q9 rfl 30 _ _ rfl 30 #[.int .i64 0,.string ⟨#[]⟩,.string ⟨#[]⟩,.bool false,.slice none 0 0,.bool false,.slice none 0 0,.int .i64 0] #[.int .i64 0,.string ⟨#[]⟩,.string ⟨#[]⟩,.bool false,.slice none 0 0,.bool false,.slice none 0 0,.int .i64 0] rfl rfl rfl Qr (by simp[Value.oneCell']) ?_));go_ret;rw[HV.o];exact ⟨rfl,HQ.o⟩
 ·obtain ⟨aw,cw,ak,ck,rfl⟩:=he.form;obtain ⟨ax,cx',rfl⟩:=hx.form;obtain ⟨nb,hnb⟩:∃ b,decide (Ex.num e < 0)=b:=⟨_,rfl⟩
  rw[hnb] at he ⊢;clear hnb;obtain ⟨V,hV,q1,q2,q3⟩:=Q0d w2 #[.int .i64 e.op,.string ⟨e.name.toArray⟩,.string ⟨e.mod.toArray⟩,.bool nb,.slice aw (wd e.num).length cw,.bool e.yes,.slice ak e.kids.length ck,.int .i64 e.pos] 30 #[.int .i64 e.op,.string ⟨e.name.toArray⟩,.string ⟨e.mod.toArray⟩,.string ⟨(Zp.text e.num).toArray⟩,.bool e.yes,.slice ax e.kids.length cx',.int .i64 e.pos] 33;have HV:=hd_ hV;have HM:Hid (∀ W,Below V.heap.size V W→W.heap[w2.heap.size+1]? =some (.cells #[.int .i64 e.op,.string ⟨e.name.toArray⟩,.string ⟨e.mod.toArray⟩,.string ⟨(Zp.text e.num).toArray⟩,.bool e.yes,.slice ax e.kids.length cx',.int .i64 e.pos] 33 (0,0))∧Below w.heap.size w W∧RdE W (New w1 w2) e (#[.int .i64 e.op,.string ⟨e.name.toArray⟩,.string ⟨e.mod.toArray⟩,.bool nb,.slice aw (wd e.num).length cw,.bool e.yes,.slice ak e.kids.length ck,.int .i64 e.pos]).toList∧RdX W (New w1 w2) e (#[.int .i64 e.op,.string ⟨e.name.toArray⟩,.string ⟨e.mod.toArray⟩,.string ⟨(Zp.text e.num).toArray⟩,.bool e.yes,.slice ax e.kids.length cx',.int .i64 e.pos]).toList∧(∀ k,New w1 w2 k→k < W.heap.size)):=fun W hb=> by
   have h1:=q3.trans (hb.mono q3.size);exact ⟨Qf q2 hb,HB2.B.trans (h1.mono HB2.B.size),he.past (fun k hk=> hk.2) h1,hx.past (fun k hk=> hk.2) h1,fun k hk=> eI_ hk.2 h1.size⟩
  obtain ⟨a0,a1,a2,a3,a4,a5,a6,a7⟩:=cells8 q1;have HS:=h2_ hs hwl;clear he hx hs hwl q1 q2 q3 hV;go_wp2_with (first | (refine Qa rfl 30 _ _ rfl 30 _ #[.int .i64 0,.string ⟨#[]⟩,.string ⟨#[]⟩,.bool false,.slice none 0 0,.bool false,.slice none 0 0,.int .i64 0] #[.int .i64 e.op,.string ⟨e.name.toArray⟩,.string ⟨e.mod.toArray⟩,.bool nb,.slice aw (wd e.num).length cw,.bool e.yes,.slice ak e.kids.length ck,.int .i64 e.pos] rfl (eD_ _ _) rfl rfl Qr (by simp[Value.oneCell']) ?_) | (refine Qa rfl 33 _ _ rfl 33 _ #[.int .i64 0,.string ⟨#[]⟩,.string ⟨#[]⟩,.string ⟨#[]⟩,.bool false,.slice none 0 0,.int .i64 0] #[.int .i64 e.op,.string ⟨e.name.toArray⟩,.string ⟨e.mod.toArray⟩,.string ⟨(Zp.text e.num).toArray⟩,.bool e.yes,.slice ax e.kids.length cx',.int .i64 e.pos] rfl (eD_ _ _) rfl rfl Xr (by simp[Value.oneCell']) ?_) | (refine Q9 rfl 30 _ _ rfl 30 #[.int .i64 0,.string ⟨#[]⟩,.string ⟨#[]⟩,.bool false,.slice none 0 0,.bool false,.slice none 0 0,.int .i64 0] #[.int .i64 e.op,.string ⟨e.name.toArray⟩,.string ⟨e.mod.toArray⟩,.bool nb,.slice aw (wd e.num).length cw,.bool e.yes,.slice ak e.kids.length ck,.int .i64 e.pos] rfl rfl rfl Qr (by simp[Value.oneCell']) ?_));rw[HV.o];have hVV:=eB_ V.heap.size V;refine eH_ (UC HS.a (by have:=HS.B;omega) (HM.o V hVV).2.2.1 (HM.o V hVV).2.2.2.2) ?_;rintro r w3 ⟨vt,rfl,ht,hb3⟩;obtain ⟨t,htt⟩:∃ t,Ex.term e=t:=⟨_,rfl⟩
  obtain ⟨cd0,hcd⟩:∃ t,Ex.code e=t:=⟨_,rfl⟩
  rw[htt] at ht;rw[hcd];obtain ⟨b1,x1,c1,o1,rfl,ht⟩:=QM ht;have hx3:=Qp (w:=w3) #[.bool b1,.slice x1 (wd t.rest).length c1,.pointer o1] 38;obtain ⟨W3,hW3⟩:∃ W,w3.alloc (.cells #[.bool b1,.slice x1 (wd t.rest).length c1,.pointer o1] 38)=W:=⟨_,rfl⟩
  rw[hW3] at hx3;have hb33:Below V.heap.size V W3:=hb3.trans (hx3.2.mono hb3.size);have HT:=h6_ htt hcd (ht.below hx3.2) hb33 hx3.1 hW3;obtain ⟨d0,d1,d2,d3,d4,d5,d6⟩:=cells7 (HM.o _ hb33).1;clear htt hcd ht hx3 hW3 hb3 hb33 a0 a1 a2 a3 a4 a5 a6 a7 hVV;dsimp only;go_wp2_with (refine Q9 rfl 38 _ _ rfl 38 #[.bool false,.slice none 0 0,.pointer none] #[.bool b1,.slice x1 (wd t.rest).length c1,.pointer o1] rfl rfl rfl XM (by simp[Value.oneCell']) ?_;rw[HT.F]);refine eH_ (Q18 HS.a (HM.o _ HT.d).2.2.2.1 (HM.o _ HT.d).2.2.2.2) ?_;rintro r w4 ⟨rfl,hb4⟩;have h04:Below V.heap.size V w4:=HT.d.trans (hb4.mono HT.d.size);have t4:=Qf HT.e hb4;have H4:=h3_ h04 t4 (HT.c.below hb4);clear hb4 h04 t4 d0 d1 d2 d3 d4 d5 d6;obtain ⟨br,hbr⟩:∃ b,Ex.right e=b:=⟨_,rfl⟩
  rw[hbr];have HBR:=hd_ hbr;clear hbr;dsimp only;cases br with
  | false=>
   obtain rfl:cd0=10:=(by rw[←HT.b];unfold Ex.code;rw[HBR.o];rfl);have htz:t=Tp.zero:=(by rw[←HT.a];unfold Ex.term;rw[HBR.o];rfl);subst htz;have u0:=Q3 H4.b 0 rfl;have u1:=Q3 H4.b 1 rfl;have u2:=Q3 H4.b 2 rfl;go_wp2_with fail;refine eH_ (Yb H4.C (Sm.zero) (by decide) (by decide)) ?_;rintro r w6 ⟨rfl,hb6⟩;have H6:=hd_ (H4.a.trans (hb6.mono H4.a.size));clear hb6 u0 u1 u2;dsimp only;rw[show Tp.text Tp.zero= [48] from by decide+kernel];go_wp2_with fail;go_ret;exact ⟨by simp,(HM.o _ H6.o).2.1⟩
  | true=>
  obtain ⟨d0,d1,d2,d3,d4,d5,d6⟩:=cells7 (HM.o _ H4.a).1;go_wp2_with fail;refine eH_ (Q5C HS.a HBR.o (by have:=HS.B;omega) (HM.o _ H4.a).2.2.2.1 (HM.o _ H4.a).2.2.2.2) ?_;rintro r w5 ⟨vd,rfl,hd,hb5⟩;obtain ⟨o,ho⟩:∃ o,Ex.of e=o:=⟨_,rfl⟩
  rw[ho] at hd ⊢;cases o with
  | none=>
   obtain rfl:cd0=35:=(by rw[←HT.b];unfold Ex.code;rw[HBR.o,ho];rfl);have htz:t=Tp.zero:=(by rw[←HT.a];unfold Ex.term;rw[HBR.o,ho];rfl);subst htz;simp only[Option.isSome_none,Option.getD_none] at hd ⊢;obtain ⟨an,cn,af,cf,s6,ad,cd,rfl,hd⟩:=Y8 hd;have hx5:=Qp (w:=w5) #[.slice an Tp.zero.l.length cn,.slice af Tp.zero.l.length cf,.int .i64 s6,.slice ad (dg Tp.zero.rest).length cd] 50;obtain ⟨W5,hW5⟩:∃ W,w5.alloc (.cells #[.slice an Tp.zero.l.length cn,.slice af Tp.zero.l.length cf,.int .i64 s6,.slice ad (dg Tp.zero.rest).length cd] 50)=W:=⟨_,rfl⟩
   rw[hW5] at hx5;have hb45:Below w4.heap.size w4 W5:=hb5.trans (hx5.2.mono hb5.size);have t5:=Qf H4.b hb45;have hc4:=H4.C.below hb45;have hc5:Below V.heap.size V W5:=H4.a.trans (hb45.mono H4.a.size);have HW5:=hd_ hW5;clear H4;have H4:=h3_ hc5 t5 hc4;have u0:=Q3 H4.b 0 rfl;have u1:=Q3 H4.b 1 rfl;have u2:=Q3 H4.b 2 rfl;clear ho hd hb5 hx5 hb45 t5 hc4 hc5 hW5 d0 d1 d2 d3 d4 d5 d6
   (try dsimp only);go_wp2_with (refine Q9 rfl 50 _ _ rfl 50 #[.slice none 0 0,.slice none 0 0,.int .i64 0,.slice none 0 0] #[.slice an Tp.zero.l.length cn,.slice af Tp.zero.l.length cf,.int .i64 s6,.slice ad (dg Tp.zero.rest).length cd] rfl rfl rfl Xa (by simp[Value.oneCell']) ?_;rw[HW5.o]);refine eH_ (Yb H4.C (Sm.zero) (by decide) (by decide)) ?_;rintro r w6 ⟨rfl,hb6⟩;have H6:=hd_ (H4.a.trans (hb6.mono H4.a.size));clear hb6 u0 u1 u2;dsimp only;rw[show Tp.text Tp.zero= [48] from by decide+kernel];go_wp2_with fail;go_ret;exact ⟨by simp,(HM.o _ H6.o).2.1⟩
  | some t'=>
   obtain rfl:cd0=0:=(by rw[←HT.b];unfold Ex.code;rw[HBR.o,ho];rfl);have htz:t'=t:=(by rw[←HT.a];unfold Ex.term;rw[HBR.o,ho];rfl);subst htz;simp only[Option.isSome_some,Option.getD_some] at hd ⊢;have HX:=hd_ (Q7T HS.a HS.B HBR.o ho);obtain ⟨an,cn,af,cf,s6,ad,cd,rfl,hd⟩:=Y8 hd;have hx5:=Qp (w:=w5) #[.slice an t'.l.length cn,.slice af t'.l.length cf,.int .i64 s6,.slice ad (dg t'.rest).length cd] 50;obtain ⟨W5,hW5⟩:∃ W,w5.alloc (.cells #[.slice an t'.l.length cn,.slice af t'.l.length cf,.int .i64 s6,.slice ad (dg t'.rest).length cd] 50)=W:=⟨_,rfl⟩
   rw[hW5] at hx5;have hb45:Below w4.heap.size w4 W5:=hb5.trans (hx5.2.mono hb5.size);have t5:=Qf H4.b hb45;have hc5:Below V.heap.size V W5:=H4.a.trans (hb45.mono H4.a.size);have H5:=h3_ hc5 (H4.C.below hb45) (hd.below hx5.2);have HW5:=hd_ hW5;have u0:=Q3 t5 0 rfl;have u1:=Q3 t5 1 rfl;have u2:=Q3 t5 2 rfl;have y0:=Q3 hx5.1 0 rfl;have y1:=Q3 hx5.1 1 rfl;have y2:=Q3 hx5.1 2 rfl;have y3:=Q3 hx5.1 3 rfl;have mkS:∀ W:World,Below W5.heap.size W5 W→Below W5.heap.size W5 W∧W.cell? ⟨w3.heap.size,0,none⟩=some (.bool b1)∧W.cell? ⟨w3.heap.size,1,none⟩=some (.slice x1 (wd t'.rest).length c1)∧W.cell? ⟨w3.heap.size,2,none⟩=some (.pointer o1)∧W.cell? ⟨w5.heap.size,0,none⟩=some (.slice an t'.l.length cn)∧W.cell? ⟨w5.heap.size,1,none⟩=some (.slice af t'.l.length cf)∧W.cell? ⟨w5.heap.size,2,none⟩=some (.int .i64 s6)∧W.cell? ⟨w5.heap.size,3,none⟩=some (.slice ad (dg t'.rest).length cd):=fun W hb=> ⟨hb,(hb.cell (Q7 u0)).trans u0,(hb.cell (Q7 u1)).trans u1,(hb.cell (Q7 u2)).trans u2,(hb.cell (Q7 y0)).trans y0,(hb.cell (Q7 y1)).trans y1,(hb.cell (Q7 y2)).trans y2,(hb.cell (Q7 y3)).trans y3⟩;have HSS:=hd_ mkS;clear ho hd hb5 hx5 hb45 t5 hc5 hW5 d0 d1 d2 d3 d4 d5 d6 mkS u0 u1 u2 y0 y1 y2 y3
   (try dsimp only);go_wp2_with (refine Q9 rfl 50 _ _ rfl 50 #[.slice none 0 0,.slice none 0 0,.int .i64 0,.slice none 0 0] #[.slice an t'.l.length cn,.slice af t'.l.length cf,.int .i64 s6,.slice ad (dg t'.rest).length cd] rfl rfl rfl Xa (by simp[Value.oneCell']) ?_;rw[HW5.o]);go_region_held3 (fun w'=> Below W5.heap.size W5 w'∧w'.cell? ⟨w3.heap.size,0,none⟩=some (.bool b1)∧w'.cell? ⟨w3.heap.size,1,none⟩=some (.slice x1 (wd t'.rest).length c1)∧w'.cell? ⟨w3.heap.size,2,none⟩=some (.pointer o1)∧w'.cell? ⟨w5.heap.size,0,none⟩=some (.slice an t'.l.length cn)∧w'.cell? ⟨w5.heap.size,1,none⟩=some (.slice af t'.l.length cf)∧w'.cell? ⟨w5.heap.size,2,none⟩=some (.int .i64 s6)∧w'.cell? ⟨w5.heap.size,3,none⟩=some (.slice ad (dg t'.rest).length cd)) (first | exact HSS.o _ ((eB_ _ _).drew) | exact HSS.o _ hb7 | exact HSS.o _ hb6) ((first
    | (go_at_call 11;refine eH_ (Yb (H5.b.below (Ql (by assumption))) HX.a (by decide) HX.D) ?_;rintro r w6 ⟨rfl,hc6⟩;have hb6:Below W5.heap.size W5 w6:=(Ql (by assumption)).trans (hc6.mono (Ql (by assumption)).size);clear hc6)
    | (go_at_call 13;refine eH_ (Q0K (H5.C.below (Ql (by assumption))) HX.a (by decide) HX.D) ?_;rintro r w7 ⟨rfl,hc7⟩;have hb7:Below W5.heap.size W5 w7:=(Ql (by assumption)).trans (hc7.mono (Ql (by assumption)).size);clear hc7)))
   go_wp2_with fail;go_ret;exact ⟨by simp,(HM.o _ (H5.a.trans (hb7.mono H5.a.size))).2.1⟩
open Go.ChangeShapes Go.WideShapes Go.ChangeAt Go.RowKit Go.Deep Go.Joins
section
variable {H:Type} {enc:TypeId × Value→H} {w:World} {held:Bool}
theorem cellsCell:prog.cellsOf 98=6:=by kernel_rfl
theorem Lr {fuel:Nat} {y:DataW H × List MemPlace} (h:DataW.trod enc prog w 0 (fun _=> true) held fuel 4 [v]=some y):∃ b:Bool,v= .bool b:=by
 obtain ⟨b,hc,_⟩:=DataW.trod_bool underlying4 h;simp only[List.cons.injEq,and_true] at hc;exact ⟨b,hc⟩
theorem Q2K {t:TypeId} (ht:prog.underlying t=some (.slice 98)) {fuel:Nat} {v:Value} {y:DataW H × List MemPlace} (h:DataW.trod enc prog w 0 (fun _=> true) held fuel t [v]=some y) (hsp:∀ a n c,v= .slice (some a) n c→a.spot=none):
  ∃ l:List Cl,RdS w (fun k=> k < w.heap.size) 6 v l.length (l.flatMap clCells):=by
 refine Q5t (xc:=clCells) (fun _=> rfl) rfl ht underlying98 (by kernel_rfl) cellsCell ?_ h hsp (by decide);rintro g ⟨n,hn⟩;obtain ⟨v0,y0,c0,t0⟩:=hn 0 _ rfl;obtain ⟨v1,y1,c1,t1⟩:=hn 1 _ rfl;obtain ⟨v2,y2,c2,t2⟩:=hn 2 _ rfl;obtain ⟨v3,y3,c3,t3⟩:=hn 3 _ rfl;obtain ⟨v4,y4,c4,t4⟩:=hn 4 _ rfl;obtain ⟨v5,y5,c5,t5⟩:=hn 5 _ rfl;obtain ⟨k0,rfl⟩:=UB t0;obtain ⟨k1,rfl⟩:=UB t1;obtain ⟨k2,rfl⟩:=Ys t2;obtain ⟨k3,rfl⟩:=Ys t3;obtain ⟨k4,rfl⟩:=Ys t4;obtain ⟨k5,rfl⟩:=Lr t5;refine ⟨⟨k0,k1,k2,k3,k4,k5⟩,fun j u hj=> ?_⟩
 match j,hj with
 | 0,hj=> simp only[clCells,eZ_,Option.some.injEq] at hj;subst hj;exact c0
 | 1,hj=> simp only[clCells,List.getElem?_cons_succ,eZ_,Option.some.injEq] at hj;subst hj;exact c1
 | 2,hj=> simp only[clCells,List.getElem?_cons_succ,eZ_,Option.some.injEq] at hj;subst hj;exact c2
 | 3,hj=> simp only[clCells,List.getElem?_cons_succ,eZ_,Option.some.injEq] at hj;subst hj;exact c3
 | 4,hj=> simp only[clCells,List.getElem?_cons_succ,eZ_,Option.some.injEq] at hj;subst hj;exact c4
 | 5,hj=> simp only[clCells,List.getElem?_cons_succ,eZ_,Option.some.injEq] at hj;subst hj;exact c5
 | j+6,hj=> simp[clCells] at hj
theorem Q46 {r:Reach} {b0:Nat} {d:DataW H} {p:List MemPlace} (hv:Value.okWide prog w r b0 23 v) (h:DataW.Trod enc prog w 0 (fun _=> true) held 23 v d p):
  ∃ l:List Cl,RdS w (fun k=> k < w.heap.size) 6 v l.length (l.flatMap clCells):=by
 obtain ⟨fuel,hf⟩:=h;have hc:Cell.okWide prog w r b0 23 v:=by
  unfold Value.okWide at hv;rw[underlying23] at hv;exact hv
 have h1:∃ a n c,v= .slice a n c:=by
  have hc2:=hc;unfold Cell.okWide at hc2;rw[underlying23] at hc2;simp only[Cell.ok,underlying23] at hc2;cases v with
  | slice a n c=> exact ⟨a,n,c,rfl⟩
  | _=> exact hc2.elim
 obtain ⟨a,n,c,rfl⟩:=h1;exact Q2K underlying23 hf fun a' n' c' e=> by
  injection e with e1 e2 e3;subst e1;exact Q2x underlying23 hc
end
open Go.ChangeShapes Go.WideShapes Go.ChangeAt Go.RowKit Go.Deep
theorem ZI {H:Type} {enc:TypeId × Value→H} {P:Program} {w:World} {base:Nat} {spare:Nat→Bool} {held:Bool} {args:Array Value} {ds:List (DataW H)} {ps:List MemPlace} (h:DataW.TrodAll enc P w base spare held (#[23]:Array TypeId).toList args.toList ds ps):
  ∃ v0 d0 p0,DataW.Trod enc P w base spare held 23 v0 d0 p0∧args= #[v0]∧ds= [d0]:=by
 obtain ⟨v0,ls0,d0,es0,p0,q0,e0,f0,_,h0,h⟩:=trodAll_cons h;obtain ⟨e,f,_⟩:=trodAll_nil h;refine ⟨v0,d0,p0,h0,?_,?_⟩
 ·apply Array.toList_inj.1;rw[e0,e]
 ·rw[f0,f]
theorem Lb {H:Type} {enc:TypeId × Value→H} (W:World) (args:Array Value) (ds:List (DataW H)):
  LawWalk enc prog 3 Tryz.f3 W args ds:=by
 intro base hval p hA hlt;have hA':DataW.TrodAll enc prog W 0 (fun _=> true) true Tryz.f3.params.toList args.toList ds p:=hA;rw[Tryz.params3] at hA' hval;obtain ⟨v0,d0,p0,h0,hargs,hds⟩:=ZI hA';have g0:=hval 0 23 v0 rfl (by rw[hargs];rfl);obtain ⟨ps0,hp0⟩:=Q46 g0 h0;rw[hargs];exact Q1a hp0 (fun k hk=> hk)
theorem UI (os:Os) (started:os.Started) (H:Type) (enc:TypeId × Value→H):
  ReturnsInHanded {} Tryz.checked os 3 .any (fun w args=> (Rows.termReadsSpec.pre enc prog Tryz.f3 Rows.termReadsRow.domain false w args∧laidMetH prog theLaid w)∧sizedMet enc prog Tryz.f3 (OpenSpec.ofChange Rows.termReadsSpec) false w args)
   (Rows.termReadsSpec.post enc prog Tryz.f3 false true false false):=by
 refine returnsInHanded_of_change_and (C:=Tryz.checked) (X:=fun w _=> laidMetH prog theLaid w) (fun _ _ _ hh h=> h.of_heap hh) own started (by kernel_rfl) Tryz.func3
  (ChangeSpec.witness_shaped (enc:=enc) (C:=Tryz.checked) (os:=os) (X:=fun w _=> laidMetH prog theLaid w) false (World.laidAll prog os theLaid) #[.slice none 0 0] 8 (World.laidAll_os _ _ _)
   (World.shaped_of_ZipB (by kernel_rfl) (by kernel_rfl)) (by kernel_rfl) (by kernel_rfl) (by kernel_rfl) (by rw[Q3T];exact Q72 os _)) ?_
 intro W base args ds gs before hval hW _ _ _ _;have hA:=hW;obtain ⟨p,q,hA,_⟩:=hA;have hA':DataW.TrodAll enc prog W 0 (fun _=> true) true Tryz.f3.params.toList args.toList ds p:=hA;rw[Tryz.params3] at hA';obtain ⟨v0,d0,p0,h0,hargs,hds⟩:=ZI hA';subst hds;exact Q11 (s:=Rows.termReadsSpec) laidOut (by kernel_rfl) rfl underlying4 rfl ⟨rfl,rfl,rfl⟩ hval hW (Lb W _ _)
theorem Lc:Rows.TermReadsSaid:=
 OpenClaim.holds_of_wide 3 Tryz.f3 rfl rfl rfl rfl rfl rfl rfl ⟨rfl,rfl,rfl,rfl,rfl⟩ rfl rfl rfl rfl rfl (by kernel_rfl) Tryz.func3 (by kernel_rfl)
  (of_decide_eq_true (by kernel_rfl)) (by unfold Func.isWrapper;first | (rw[if_pos (by decide+kernel)];kernel_rfl) | (rw[if_neg (by decide+kernel)];exact ⟨rfl,rfl⟩))
  (fun os started H enc _=> UI os started H enc)
theorem term_reads:Rows.TermReadsCardSaid:=
 Claim7.holds_tied_plain_at .later [] [.data,.data,.data,.data,.pinned] true (true, "1767b20c967919e07a4a4d1553bb054857694d9f9e3c2f504ec77a018f485c03") false Lc (fun _ h=> by cases h) (by kernel_rfl) (fun _ h=> by cases h) termReads_row_tie rfl ⟨rfl,rfl⟩ (by kernel_rfl) rfl
  (fun f fn hf hfn=> by
   obtain rfl:f=3:=Option.some.inj ((show prog.funcNamed "touchstone/touchstonelaw13.TermReads" =some 3 by kernel_rfl).symm.trans hf) |>.symm;obtain rfl:fn=Tryz.f3:=(Option.some.inj (Tryz.func3.symm.trans hfn)).symm;exact ⟨by kernel_rfl,fun j t ht=> by
    rw[Tryz.params3] at ht;have hm:t∈ [23]:=(by simpa using Array.mem_of_getElem? ht);have hall:([23].all fun u=> !prog.wantsStandIn u)=true:=(by kernel_rfl);exact (show prog.wantsStandIn t=false by simpa using List.all_eq_true.1 hall t hm)⟩)
  (by kernel_rfl)
end Go.Proofs.YtiecccakcenobaaGreatDoor
