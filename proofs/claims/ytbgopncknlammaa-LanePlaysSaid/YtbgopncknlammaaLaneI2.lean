/- What the lanes' functions do, said of lanes as lists. -/
import Derived.Test.YtbgopncknlammaaLaneP
import Derived.Test.YtbgopncknlammaaApp
import Derived.Test.YtbgopncknlammaaLaneI
import Derived.Deep.LoopGhost
namespace Go.Proofs.Ytbgopncknlammaa.LI
open Go.Conc Go.RowKit

/-- What Offer answers, and what the lanes are then. -/
def offQ (cap : Nat) (U S : List Value) (sh : Bool) (x : Value) (u : Bool) : Int × List Value × List Value :=
  if sh then (16, U, S) else
  if u then (if U.length < cap then (0, U ++ [x], S) else (15, U, S))
  else (if S.length < cap then (0, U, S ++ [x]) else (15, U, S))

def OffPost (b cu cs cap : Nat) (U S : List Value) (st : Nat) (sh : Bool) (x : Value) (u : Bool) (w : World) (e : Ending) (w' : World) : Prop :=
  e = .returned (.int .i64 (offQ cap U S sh x u).1) ∧ Lane w' b cu cs cap (offQ cap U S sh x u).2.1 (offQ cap U S sh x u).2.2 st sh ∧ Fr b cu cs w w'

theorem offer_calls {b cu cs cap : Nat} {U S : List Value} {st : Nat} {sh : Bool} {w : World} (h : Lane w b cu cs cap U S st sh) (x : Value) (u : Bool) :
    Calls Try.prog 8 #[.pointer (some ⟨b, 0, none⟩), x, .bool u] w (OffPost b cu cs cap U S st sh x u w) := by
  cases sh with
  | true =>
    refine (offer_shut b x u w h.c3).mono ?_
    rintro e w' ⟨rfl, rfl⟩
    exact ⟨rfl, h, Fr.refl _ _ _ _⟩
  | false =>
    obtain ⟨su, ru, hu⟩ := h.hu
    obtain ⟨ss, rs, hs⟩ := h.hs
    cases u with
    | true =>
      by_cases hr : U.length < cap
      · refine (offer_room b cu cs cap su ru x true U w h.c3 h.c0 h.c1 hu hr).mono ?_
        rintro e w' ⟨rfl, rfl⟩
        refine ⟨by simp [offQ, hr], ?_, (Fr.refl _ _ _ _).setU _ _ _ _ _ _⟩
        simpa [offQ, hr] using h.setU (U ++ [x]) (su + 1) ru
      · refine (offer_full b cu cs cap su ru x true U w h.c3 h.c0 h.c1 hu (by omega)).mono ?_
        rintro e w' ⟨rfl, rfl⟩
        exact ⟨by simp [offQ, hr], by simpa [offQ, hr] using h, Fr.refl _ _ _ _⟩
    | false =>
      by_cases hr : S.length < cap
      · refine (offer_room b cu cs cap ss rs x false S w h.c3 h.c0 h.c1 hs hr).mono ?_
        rintro e w' ⟨rfl, rfl⟩
        refine ⟨by simp [offQ, hr], ?_, (Fr.refl _ _ _ _).setS _ _ _ _ _ _⟩
        simpa [offQ, hr] using h.setS (S ++ [x]) (ss + 1) rs
      · refine (offer_full b cu cs cap ss rs x false S w h.c3 h.c0 h.c1 hs (by omega)).mono ?_
        rintro e w' ⟨rfl, rfl⟩
        exact ⟨by simp [offQ, hr], by simpa [offQ, hr] using h, Fr.refl _ _ _ _⟩

def TakePost (b cu cs cap : Nat) (U S : List Value) (st : Nat) (sh : Bool) (w : World) (e : Ending) (w' : World) : Prop :=
  e = .returned (.tuple #[(takeQ U S st).1.getD (.int .i64 0), .bool (takeQ U S st).1.isSome]) ∧
    Lane w' b cu cs cap (takeQ U S st).2.1 (takeQ U S st).2.2.1 (takeQ U S st).2.2.2 sh ∧ Fr b cu cs w w'

theorem nw_lane {b cu cs cap : Nat} {U S : List Value} {st : Nat} {sh : Bool} {w : World} (h : Lane w b cu cs cap U S st sh) : Lane (nw cu cs w) b cu cs cap U S st sh := (h.alloc _).drew
theorem nw_fr (b cu cs : Nat) (w : World) : Fr b cu cs w (nw cu cs w) := ((Fr.refl _ _ _ _).alloc _).drew

theorem take_calls {b cu cs cap : Nat} {U S : List Value} {st : Nat} {sh : Bool} {w : World} (h : Lane w b cu cs cap U S st sh) :
    Calls Try.prog 14 #[.pointer (some ⟨b, 0, none⟩)] w (TakePost b cu cs cap U S st sh w) := by
  obtain ⟨su, ru, hu⟩ := h.hu
  obtain ⟨ss, rs, hs⟩ := h.hs
  cases S with
  | nil =>
    cases U with
    | nil =>
      refine (take_e b cu cs cap su ru ss rs st w h.c0 h.c1 h.c2 (h.free 2) h.bu h.bs hu hs).mono ?_
      rintro e w' ⟨rfl, rfl⟩
      exact ⟨rfl, (nw_lane h).setSt 0 (by omega), (nw_fr _ _ _ _).setCell _ _⟩
    | cons x U =>
      refine (take_d b cu cs cap su ru ss rs x U st w h.c0 h.c1 h.c2 (h.free 2) h.bu h.bs hu hs).mono ?_
      rintro e w' ⟨rfl, rfl⟩
      exact ⟨rfl, ((nw_lane h).setU U su (ru + 1)).setSt 0 (by omega), ((nw_fr _ _ _ _).setU _ _ _ _ _ _).setCell _ _⟩
  | cons y S =>
    by_cases h4 : 4 ≤ st
    · refine (take_a b cs cap ss rs y S st (by omega) w h.c1 h.c2 (h.free 2) h.bs hs).mono ?_
      rintro e w' ⟨rfl, rfl⟩
      have e1 : takeQ U (y :: S) st = (some y, U, S, 0) := by simp [takeQ, h4]
      refine ⟨by rw [e1]; rfl, ?_, ((((Fr.refl _ _ _ _).setCell _ _).alloc _).setS _ _ _ _ _ _)⟩
      rw [e1]
      exact (((h.setSt 0 (by omega)).alloc _).setS S ss (rs + 1))
    · cases U with
      | nil =>
        refine (take_c b cu cs cap su ru ss rs y S st (by omega) w h.c0 h.c1 h.c2 (h.free 2) h.bu h.bs hu hs).mono ?_
        rintro e w' ⟨rfl, rfl⟩
        have e1 : takeQ [] (y :: S) st = (some y, [], S, 0) := by simp [takeQ, h4]
        refine ⟨by rw [e1]; rfl, ?_, ((nw_fr _ _ _ _).setS _ _ _ _ _ _).setCell _ _⟩
        rw [e1]
        exact ((nw_lane h).setS S ss (rs + 1)).setSt 0 (by omega)
      | cons x U =>
        refine (take_b b cu cs cap su ru ss rs x y U S st (by omega) (by omega) w h.c0 h.c1 h.c2 (h.free 2) h.bu h.bs hu hs).mono ?_
        rintro e w' ⟨rfl, rfl⟩
        have e1 : takeQ (x :: U) (y :: S) st = (some x, U, y :: S, st + 1) := by simp [takeQ, h4]
        refine ⟨by rw [e1]; rfl, ?_, ((nw_fr _ _ _ _).setU _ _ _ _ _ _).setCell _ _⟩
        rw [e1]
        exact ((nw_lane h).setU U su (ru + 1)).setSt (st + 1) (by omega)

/-- Where something comes. -/
theorem take_some {b cu cs cap : Nat} {U S U' S' : List Value} {st st' : Nat} {sh : Bool} {w : World} {x : Value} (h : Lane w b cu cs cap U S st sh) (ht : takeQ U S st = (some x, U', S', st')) :
    Calls Try.prog 14 #[.pointer (some ⟨b, 0, none⟩)] w fun e w' => e = .returned (.tuple #[x, .bool true]) ∧ Lane w' b cu cs cap U' S' st' sh ∧ Fr b cu cs w w' :=
  (take_calls h).mono fun e w' ⟨h1, h2, h3⟩ => by rw [ht] at h1 h2; exact ⟨h1, h2, h3⟩
theorem take_none {b cu cs cap : Nat} {U S U' S' : List Value} {st st' : Nat} {sh : Bool} {w : World} (h : Lane w b cu cs cap U S st sh) (ht : takeQ U S st = (none, U', S', st')) :
    Calls Try.prog 14 #[.pointer (some ⟨b, 0, none⟩)] w fun e w' => e = .returned (.tuple #[(.int .i64 0), .bool false]) ∧ Lane w' b cu cs cap U' S' st' sh ∧ Fr b cu cs w w' :=
  (take_calls h).mono fun e w' ⟨h1, h2, h3⟩ => by rw [ht] at h1 h2; exact ⟨h1, h2, h3⟩
/-- What lies in such lanes. -/
def El (x : Value) : Prop := ∃ n, x = (.int .i64 n)

theorem info_el : (Try.prog.info? 3).map (fun i => (i.zero, i.size, i.bytes)) = some (some (.int .i64 0), 1, 8) := by kernel_rfl

theorem ownsRow_fr {b cu cs : Nat} {w w' : World} {base e size n : Nat} {v : Value} {xs : List Value} (h : w.ownsRow base e size v n xs) (hf : Fr b cu cs w w')
    (h1 : b < base) (h2 : cu < base) (h3 : cs < base) : w'.ownsRow base e size v n xs := by
  obtain ⟨g0, g⟩ := h
  refine ⟨g0, ?_⟩
  rcases g with g | ⟨g, cap, cur, hv, hg, hh, r⟩
  · exact Or.inl g
  · exact Or.inr ⟨g, cap, cur, hv, hg, by rw [hf.block g (lt_of_heap hh) (by omega) (by omega) (by omega)]; exact hh, r⟩

theorem le_of {a b : Nat} (h : a + b ≤ 4096) : a ≤ 1073741824 := by omega

def DrRel (b cu cs cap : Nat) (sh : Bool) (w : World) (all : List Value) (k : Nat) (out : Value) (wr : World) : Prop :=
  ∃ U S st done, Lane wr b cu cs cap U S st sh ∧ Fr b cu cs w wr ∧ k = U.length + S.length + 1 ∧ wr.ownsRow w.heap.size 3 1 out done.length done ∧
    done ++ drainQ (U.length + S.length + 1) U S st = all ∧ done.length + (U.length + S.length) ≤ 4096 ∧ (∀ x ∈ U, El x) ∧ (∀ x ∈ S, El x)

def DrPost (b cu cs cap : Nat) (sh : Bool) (w : World) (all : List Value) (e : Ending) (w' : World) : Prop :=
  ∃ v, e = .returned v ∧ w'.ownsRow w.heap.size 3 1 v all.length all ∧ Lane w' b cu cs cap [] [] 0 sh ∧ Fr b cu cs w w'

set_option maxHeartbeats 1000000 in
theorem drain_calls {b cu cs cap : Nat} {U S : List Value} {st : Nat} {sh : Bool} {w : World} (h : Lane w b cu cs cap U S st sh) (hl : U.length + S.length ≤ 4096)
    (hU : ∀ x ∈ U, El x) (hS : ∀ x ∈ S, El x) :
    Calls Try.prog 9 #[.pointer (some ⟨b, 0, none⟩)] w (DrPost b cu cs cap sh w (drainQ (U.length + S.length + 1) U S st)) := by
  have hrel0 : DrRel b cu cs cap sh w (drainQ (U.length + S.length + 1) U S st) (U.length + S.length + 1) (.slice none 0 0) w :=
    ⟨U, S, st, [], h, Fr.refl _ _ _ _, rfl, World.ownsRow_nil _ _ _ _, rfl, by simpa using hl, hU, hS⟩
  generalize drainQ (U.length + S.length + 1) U S st = all at hrel0 ⊢
  generalize U.length + S.length + 1 = n0 at hrel0
  have Hr0 := Lib.hid hrel0
  have Hlt := Lib.hid h.lts
  clear hrel0 h hl hU hS
  obtain ⟨i0, hi, hz0, hz1, hz2⟩ := info_parts info_el
  have Hi := Lib.hid hi
  have Hz0 := Lib.hid hz0
  have Hz1 := Lib.hid hz1
  have Hz2 := Lib.hid hz2
  clear hi hz0 hz1 hz2
  go_enter Try.func9, Try.ntmps9
  go_wp2_with fail
  go_loopg [3] n0 (fun k out wr => DrRel b cu cs cap sh w all k out wr)
  case atStart => exact Hr0.out
  case round =>
    obtain ⟨U1, S1, st1, done, hl1, hf1, hk, hown, hall, hlen, hU1, hS1⟩ := hrel
    have HA := Lib.hid (And.intro hk (And.intro hall (And.intro hlen (And.intro hU1 hS1))))
    have Hf1 := Lib.hid hf1
    have Hown := Lib.hid hown
    clear hk hall hlen hU1 hS1 hf1 hown
    rcases ht : takeQ U1 S1 st1 with ⟨_ | x, U2, S2, st2⟩
    · have Ht := Lib.hid ht
      clear ht
      go_wp2_with (go_at_call 14; refine (take_none hl1 Ht.out).mono ?_; rintro e w1 ⟨rfl, hl2, hf2⟩; have Hf2 := Lib.hid hf2; clear hf2)
      go_ret
      obtain ⟨hk, hall, hlen, hU1, hS1⟩ := HA.out
      obtain ⟨rfl, rfl, rfl, rfl, rfl⟩ := takeQ_none Ht.out
      have hd : all = done := by rw [← hall, drainQ_none Ht.out, List.append_nil]
      obtain ⟨b1, b2, b3⟩ := Hlt.out
      refine ⟨u3, rfl, ?_, hl2, Hf1.out.trans Hf2.out⟩
      rw [hd]
      exact ownsRow_fr Hown.out Hf2.out b1 b2 b3
    · have Ht := Lib.hid ht
      clear ht
      have hb := Hf1.out.size
      have Hbase := Lib.hid hb
      clear hb
      have h1x : El x := by
        obtain ⟨hk, hall, hlen, hU1, hS1⟩ := HA.out
        rcases (takeQ_mem Ht.out).2.2 x rfl with hm | hm
        · exact hU1 x hm
        · exact hS1 x hm
      obtain ⟨n, rfl⟩ := h1x
      go_wp2_with (first
        | (go_at_call 14; refine (take_some hl1 Ht.out).mono ?_; rintro e w1 ⟨rfl, hl2, hf2⟩; have Hf2 := Lib.hid hf2; clear hf2)
        | (at_builtin; refine wpList_append_one rfl _ _ 29 rfl w.heap.size 3 3 i0 (.int .i64 0) 1 8 Try.underlying29 Hi.out Hz0.out Hz1.out Hz2.out rfl (by decide) _ done.length done rfl (ownsRow_fr Hown.out Hf2.out Hlt.out.1 Hlt.out.2.1 Hlt.out.2.2) 1 [(.int .i64 n)] rfl rfl (by simp [Value.oneCell']) (le_of HA.out.2.2.1) (by decide) (Nat.le_trans Hbase.out Hf2.out.size) ?_))
      intro v2 w2 hown2 hg2
      have HO := Lib.hid hown2
      have HG := Lib.hid hg2
      clear hown2 hg2
      go_wp2
      go_roundg (U2.length + S2.length + 1)
      case measure =>
        have h1 := takeQ_len Ht.out
        have h2 := HA.out.1
        omega
      case rel =>
        obtain ⟨hk, hall, hlen, hU1, hS1⟩ := HA.out
        have h1 := takeQ_len Ht.out
        obtain ⟨m1, m2, _⟩ := takeQ_mem Ht.out
        obtain ⟨b1, b2, b3⟩ := Hlt.out
        have hrow : ∀ k, u3.ownBlock = some k → w.heap.size ≤ k := fun k e => (World.ownsRow.lt Hown.out k e).1
        refine ⟨U2, S2, st2, done ++ [(.int .i64 n)], ?_, ?_, rfl, ?_, ?_, ?_, fun z hz => hU1 z (m1 z hz), fun z hz => hS1 z (m2 z hz)⟩
        · exact (hl2.alloc _).grown HG.out (fun e => by have := hrow _ e; omega) (fun e => by have := hrow _ e; omega) (fun e => by have := hrow _ e; omega)
        · exact ((Hf1.out.trans Hf2.out).alloc _).grown HG.out hrow
        · simpa using HO.out
        · rw [← hall, drainQ_some Ht.out, h1]; simp
        · simp; omega
end Go.Proofs.Ytbgopncknlammaa.LI
