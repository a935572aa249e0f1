/-
  A switch that the call has made: what Forward does to it.
-/
import Derived.Test.YtidgmoeimgjggaaBrW
import Derived.Test.YtidgmoeimgjggaaOpenS
namespace Go.Proofs.Ytidgmoeimgjggaa.Br
open Go.RowKit Go.Proofs.YtidgmoeimgjggaaW.PrintWords Go.Proofs.Ytidgmoeimgjggaa.Xm Go.Proofs.Ytidgmoeimgjggaa.Learn Go.Proofs.Ytidgmoeimgjggaa.Ints

def Sw (w0 w : World) (tg g bb pb po pc bc : Nat) (P : List Port) (B : List Bool) (age room last : Int) (L : List Ent) : Prop :=
  IsBr w tg g bb pb po pc bc P B ∧ IsTable w tg tg age room last L ∧ Below w0.heap.size w0 w ∧ w0.heap.size ≤ tg
theorem Sw.only {w0 w w' : World} {tg g bb pb po pc bc : Nat} {P : List Port} {B : List Bool} {age room last last' : Int} {L M : List Ent} (s : Sw w0 w tg g bb pb po pc bc P B age room last L) (o : Only (· = tg) w w') (ht : IsTable w' tg tg age room last' M) :
    Sw w0 w' tg g bb pb po pc bc P B age room last' M := by
  obtain ⟨h1, h2, h3, h4⟩ := s
  have hb : Below tg w w' := o.below (Nat.le_of_lt h2.lt) (fun k hk e => by omega)
  exact ⟨h1.upto hb, ht, h3.trans (hb.mono h4), h4⟩
theorem Sw.below {w0 w w' : World} {tg g bb pb po pc bc : Nat} {P : List Port} {B : List Bool} {age room last : Int} {L : List Ent} (s : Sw w0 w tg g bb pb po pc bc P B age room last L) (b : Below w.heap.size w w') :
    Sw w0 w' tg g bb pb po pc bc P B age room last L := by
  obtain ⟨h1, h2, h3, h4⟩ := s
  exact ⟨h1.upto (b.mono (Nat.le_of_lt h2.lt)), h2.below b, h3.trans (b.mono h3.size), h4⟩
theorem RPorts.below {w w' : World} {v : Value} {P : List Port} (h : RPorts w v P) (b : Below w.heap.size w w') : RPorts w' v P := by
  obtain ⟨A, c, rfl, h1, h2, h3⟩ := h
  refine ⟨A, c, rfl, h1, h2, fun hp => ?_⟩
  obtain ⟨bk, off, rfl, k1, k2⟩ := h3 hp
  refine ⟨bk, off, rfl, Nat.lt_of_lt_of_le k1 b.size, fun i p hi => ?_⟩
  obtain ⟨a, c', e1, e2, e3⟩ := k2 i p hi
  exact ⟨a, c', pw_cell_below b e1, pw_cell_below b e2, e3.below b (Nat.le_refl _)⟩

def SwDeny (w0 w w' : World) (tg g bb pb po pc bc : Nat) (P : List Port) (B : List Bool) (age room now : Int) (M : List Ent) (e : Ending) : Prop :=
  e = .returned (.tuple #[.slice none 0 0, .int .i64 14]) ∧ Sw w0 w' tg g bb pb po pc bc P B age room now M ∧ Only (· = tg) w w'
def SwSent (w0 w w' : World) (tg g bb pb po pc bc : Nat) (P : List Port) (B : List Bool) (age room now : Int) (M : List Ent) (outs : List Nat) (e : Ending) : Prop :=
  ∃ A c, e = .returned (.tuple #[.slice A outs.length c, .int .i64 0]) ∧ QRow w' w.heap.size 3 1 (.slice A outs.length c) outs.length (natv outs) ∧ Sw w0 w' tg g bb pb po pc bc P B age room now M ∧ Only (· = tg) w w'
/-- What 'In' answers at a port. -/
def InAns (p : Port) (f : Fr) (r : Int × Int) : Prop :=
  ∀ (W : World) (A : Option Addr) (c : Nat), RowOf W A p.allow → p.allow.length ≤ c → Calls Try.prog 33 #[.agg #[.int .i64 p.access, .slice A p.allow.length c], f.val] W fun e w' => e = .returned (.tuple #[.int .i64 r.1, .int .i64 r.2]) ∧ Below W.heap.size W w'
theorem in_ans (p : Port) (f : Fr) : ∃ r, InAns p f r := tagIn_any p f
theorem outs_ans (P : List Port) (n : Int) (f : Fr) : ∃ mem, Outs P n f mem := by
  classical
  refine ⟨fun i => match P[i]? with | some p => (tagOut_any p n f).choose | none => false, fun i p hp => ?_⟩
  simp only [hp]
  exact (tagOut_any p n f).choose_spec

section
variable {w0 w : World} {tg g bb pb po pc bc : Nat} {P : List Port} {B : List Bool} {age room last : Int} {L : List Ent}
theorem sw_deny (s : Sw w0 w tg g bb pb po pc bc P B age room last L) (port : Nat) (p : Port) (hp : P[port]? = some p) (f : Fr) (now : Int) (hx : f.chk = 0) (hs : Seen now L) (hn0 : 0 ≤ now) (hn1 : now ≤ 1000000000) (hl : last ≤ now) (hL : (L.length : Int) ≤ room) (hroom : 1 ≤ room ∧ room ≤ 256)
    (r : Int × Int) (hin : InAns p f r) (bl : Bool) (hbl : B[port]? = some bl) (hden : r.2 ≠ 0 ∨ bl = true) :
    Calls Try.prog 30 #[.pointer (some ⟨g, 0, none⟩), .int .i64 port, f.val, .int .i64 now] w fun e w' => SwDeny w0 w w' tg g bb pb po pc bc P B age room now (L.filter (freshB now age)) e := by
  refine (fwd_deny tg g bb pb po pc bc P B w s.1 port p hp f now hx age room last L s.2.1 hs hn0 hn1 hl hL hroom r hin bl hbl hden).mono ?_
  rintro e w' ⟨rfl, ht, ho⟩
  exact ⟨rfl, s.only ho ht, ho⟩
theorem sw_ok (s : Sw w0 w tg g bb pb po pc bc P B age room last L) (port : Nat) (p : Port) (hp : P[port]? = some p) (f : Fr) (now : Int) (hx : f.chk = 0) (hs : Seen now L) (hn0 : 0 ≤ now) (hn1 : now ≤ 1000000000) (hl : last ≤ now) (hL : (L.length : Int) ≤ room) (hroom : 1 ≤ room ∧ room ≤ 256)
    (r : Int × Int) (hin : InAns p f r) (bl : Bool) (hbl : B[port]? = some bl) (hden : r.2 = 0 ∧ bl = false) (hne : f.dst ≠ f.src) (mem : Nat → Bool) (hout : Outs P r.1 f mem) :
    Calls Try.prog 30 #[.pointer (some ⟨g, 0, none⟩), .int .i64 port, f.val, .int .i64 now] w fun e w' => SwSent w0 w w' tg g bb pb po pc bc P B age room now (seeL (L.filter (freshB now age)) f.src port now room)
      (outsL port B (findP (L.filter (freshB now age)) f.dst).2 (findP (L.filter (freshB now age)) f.dst).1 mem P.length) e := by
  refine (fwd_ok tg g bb pb po pc bc P B w s.1 port p hp f now hx age room last L s.2.1 hs hn0 hn1 hl hL hroom r hin bl hbl hden hne mem hout).mono ?_
  rintro e w' ⟨A, c, rfl, hq, ht, ho⟩
  exact ⟨A, c, rfl, hq, s.only ho ht, ho⟩
end
/-- Whatever 'Forward' answers. -/
theorem sw_any {w0 w : World} {tg g bb pb po pc bc : Nat} {P : List Port} {B : List Bool} {age room last : Int} {L : List Ent} (s : Sw w0 w tg g bb pb po pc bc P B age room last L) (port : Nat) (hpl : port < P.length) (f : Fr) (now : Int) (hx : f.chk = 0) (hs : Seen now L) (hn0 : 0 ≤ now) (hn1 : now ≤ 1000000000) (hl : last ≤ now) (hL : (L.length : Int) ≤ room) (hroom : 1 ≤ room ∧ room ≤ 256) (hne : f.dst ≠ f.src) :
    Calls Try.prog 30 #[.pointer (some ⟨g, 0, none⟩), .int .i64 port, f.val, .int .i64 now] w fun e w' => ∃ (u : Value) (x : Int) (M : List Ent), (M = L.filter (freshB now age) ∨ M = seeL (L.filter (freshB now age)) f.src port now room) ∧ e = .returned (.tuple #[u, .int .i64 x]) ∧ Sw w0 w' tg g bb pb po pc bc P B age room now M ∧ Only (· = tg) w w' := by
  obtain ⟨p, hp⟩ : ∃ p, P[port]? = some p := ⟨P[port], List.getElem?_eq_getElem _⟩
  obtain ⟨bl, hbl⟩ : ∃ bl, B[port]? = some bl := ⟨B[port]'(by have := s.1.len; omega), List.getElem?_eq_getElem _⟩
  obtain ⟨r, hr⟩ := in_ans p f
  obtain ⟨mem, hm⟩ := outs_ans P r.1 f
  by_cases hd : r.2 = 0 ∧ bl = false
  · refine (sw_ok s port p hp f now hx hs hn0 hn1 hl hL hroom r hr bl hbl hd hne mem hm).mono ?_
    rintro e w' ⟨A, c, rfl, -, h1, h2⟩
    exact ⟨_, _, _, .inr rfl, rfl, h1, h2⟩
  · have hd' : r.2 ≠ 0 ∨ bl = true := by
      by_cases h : r.2 = 0
      · right
        cases bl with
        | true => rfl
        | false => exact absurd ⟨h, rfl⟩ hd
      · exact .inl h
    refine (sw_deny s port p hp f now hx hs hn0 hn1 hl hL hroom r hr bl hbl hd').mono ?_
    rintro e w' ⟨rfl, h1, h2⟩
    exact ⟨_, _, _, .inl rfl, rfl, h1, h2⟩
theorem chk_zero {f : Fr} (h0 : 0 ≤ f.dst) (h1 : f.dst < 281474976710656) (h2 : 0 ≤ f.src) (h3 : f.src < 1099511627776) (h4 : f.tag = 0) (h5 : f.type = 0) (h6 : f.body = ⟨#[]⟩) : f.chk = 0 := by
  unfold Fr.chk chk
  have hg : grpB f.src = false := link_small f.src h2 h3
  rw [hg, h4, h5, h6, if_neg (by simp; omega), if_neg (by omega), if_neg (by decide)]
theorem outs_one {port : Nat} {B : List Bool} {a : Nat} {mem : Nat → Bool} : ∀ k, outsL port B true (a : Int) mem k = if a < k ∧ goes port B true (a : Int) mem a = true then [a] else [] := by
  intro k
  induction k with
  | zero => simp [outsL]
  | succ k ih =>
    by_cases hg : goes port B true (a : Int) mem k = true
    · have hka : k = a := by
        by_cases e : k = a
        · exact e
        · exfalso
          have : ((k : Int) != (a : Int)) = true := by simp; omega
          simp [goes, this] at hg
      subst hka
      rw [outsL_yes hg, ih, if_neg (by omega), if_pos ⟨by omega, hg⟩]
      rfl
    · have hg' : goes port B true (a : Int) mem k = false := by simpa using hg
      rw [outsL_no hg', ih]
      by_cases h : a < k ∧ goes port B true (a : Int) mem a = true
      · rw [if_pos h, if_pos ⟨by omega, h.2⟩]
      · rw [if_neg h, if_neg ?_]
        rintro ⟨h1, h2⟩
        by_cases e : a = k
        · subst e; exact hg h2
        · exact h ⟨by omega, h2⟩
end Go.Proofs.Ytidgmoeimgjggaa.Br
