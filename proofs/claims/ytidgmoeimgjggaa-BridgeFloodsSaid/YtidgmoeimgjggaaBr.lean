/-
  What the functions of package bridge do: contracts.
-/
import Derived.Test.YtidgmoeimgjggaaBrP
import Derived.Test.YtidgmoeimgjggaaMoves
import Derived.StillTail
import Derived.StillTailTactics
import Derived.Deep.RegionHeld3
import Derived.Deep.RegionHeldLaw
import Derived.Deep.AppendLies
namespace Go.Proofs.Ytidgmoeimgjggaa.Br
open Go.RowKit Go.Proofs.YtidgmoeimgjggaaW.PrintWords Go.Proofs.Ytidgmoeimgjggaa.Xm Go.Proofs.Ytidgmoeimgjggaa.Learn

/-- A row of ints that lies below T and not in bb. -/
def RowIn (w : World) (T bb : Nat) (A : Option Addr) (l : List Int) : Prop :=
  l.length ≤ 9223372036854775807 ∧ (0 < l.length → ∃ b off, A = some ⟨b, off, none⟩ ∧ b < w.heap.size ∧ b < T ∧ b ≠ bb ∧ ∀ j x, l[j]? = some x → w.cell? ⟨b, off + j, none⟩ = some (.int .i64 x))
theorem RowIn.row {w : World} {T bb : Nat} {A : Option Addr} {l : List Int} (h : RowIn w T bb A l) : RowOf w A l :=
  ⟨h.1, fun hp => by obtain ⟨b, off, rfl, h1, _, _, h2⟩ := h.2 hp; exact ⟨b, off, rfl, h1, h2⟩⟩
def PortAt (w : World) (T bb pb o : Nat) (p : Port) : Prop :=
  ∃ A c, w.cell? ⟨pb, o, none⟩ = some (.int .i64 p.access) ∧ w.cell? ⟨pb, o + 1, none⟩ = some (.slice A p.allow.length c) ∧ p.allow.length ≤ c ∧ RowIn w T bb A p.allow
/-- A switch whose table lies at tg, behind all else that is its own. -/
structure IsBr (w : World) (tg g bb pb po pc bc : Nat) (P : List Port) (B : List Bool) : Prop where
  hdr : Blk w g #[.slice (some ⟨pb, po, none⟩) P.length pc, .slice (some ⟨bb, 0, none⟩) P.length bc, .pointer (some ⟨tg, 0, none⟩)] 80
  blk : Blk w bb (B.map Value.bool).toArray 4
  ports : ∀ i p, P[i]? = some p → PortAt w tg bb pb (po + i * 2) p
  len : B.length = P.length
  n1 : 1 ≤ P.length
  n8 : P.length ≤ 8
  pc8 : P.length ≤ pc
  bc8 : P.length ≤ bc
  gT : g < tg
  bT : bb < tg
  pT : pb < tg
  gb : g ≠ bb
  gp : g ≠ pb
  bp : pb ≠ bb
theorem RowIn.upto {w w' : World} {T bb : Nat} {A : Option Addr} {l : List Int} (h : RowIn w T bb A l) (hb : Below T w w') (hs : w.heap.size ≤ w'.heap.size) : RowIn w' T bb A l :=
  ⟨h.1, fun hp => by
    obtain ⟨b, off, rfl, h1, h2, h3, h4⟩ := h.2 hp
    exact ⟨b, off, rfl, Nat.lt_of_lt_of_le h1 hs, h2, h3, fun j x hx => (World.cell?_of_block (hb.block b h2)).trans (h4 j x hx)⟩⟩
theorem PortAt.upto {w w' : World} {T bb pb o : Nat} {p : Port} (h : PortAt w T bb pb o p) (hp : pb < T) (hb : Below T w w') : PortAt w' T bb pb o p := by
  obtain ⟨A, c, h1, h2, h3, h4⟩ := h
  exact ⟨A, c, (World.cell?_of_block (hb.block pb hp)).trans h1, (World.cell?_of_block (hb.block pb hp)).trans h2, h3, h4.upto hb hb.size⟩
theorem IsBr.upto {w w' : World} {tg g bb pb po pc bc : Nat} {P : List Port} {B : List Bool} (h : IsBr w tg g bb pb po pc bc P B) (hb : Below tg w w') : IsBr w' tg g bb pb po pc bc P B :=
  { h with hdr := (hb.block g h.gT).trans h.hdr, blk := (hb.block bb h.bT).trans h.blk, ports := fun i p hp => (h.ports i p hp).upto h.pT hb }
theorem IsBr.lt {w : World} {tg g bb pb po pc bc : Nat} {P : List Port} {B : List Bool} (h : IsBr w tg g bb pb po pc bc P B) : g < w.heap.size := h.hdr.lt

section
variable {w : World} {tg g bb pb po pc bc : Nat} {P : List Port} {B : List Bool}
theorem IsBr.c0 (h : IsBr w tg g bb pb po pc bc P B) : w.cell? ⟨g, 0, none⟩ = some (.slice (some ⟨pb, po, none⟩) P.length pc) := (h.hdr.cell 0).trans rfl
theorem IsBr.c1 (h : IsBr w tg g bb pb po pc bc P B) : w.cell? ⟨g, 1, none⟩ = some (.slice (some ⟨bb, 0, none⟩) P.length bc) := (h.hdr.cell 1).trans rfl
theorem IsBr.c2 (h : IsBr w tg g bb pb po pc bc P B) : w.cell? ⟨g, 2, none⟩ = some (.pointer (some ⟨tg, 0, none⟩)) := (h.hdr.cell 2).trans rfl
theorem IsBr.bl (h : IsBr w tg g bb pb po pc bc P B) {i : Nat} {b : Bool} (hb : B[i]? = some b) : w.cell? ⟨bb, i, none⟩ = some (.bool b) := by
  rw [h.blk.cell i]
  simp [hb]
end

theorem tb_base {w w' : World} {tg g : Nat} {age room now : Int} {M : List Ent} (h : IsTable w' w.heap.size g age room now M) (hs : tg ≤ w.heap.size) : IsTable w' tg g age room now M := h.lower hs

theorem table_heap {W w : World} {base g : Nat} {age room last : Int} {L : List Ent} (hW : W.heap = w.heap) (h : IsTable w base g age room last L) : IsTable W base g age room last L := by
  obtain ⟨lv, h1, h2⟩ := h
  exact ⟨lv, by unfold Blk; rw [hW]; exact h1, q_move h2 (fun k _ => by rw [hW])⟩

/-- The switch has refused a frame. -/
def Denied (w w' : World) (tg : Nat) (age room now : Int) (M : List Ent) (e : Ending) : Prop :=
  e = .returned (.tuple #[.slice none 0 0, .int .i64 14]) ∧ IsTable w' tg tg age room now M ∧ Only (· = tg) w w'

set_option maxHeartbeats 1600000 in
set_option maxRecDepth 100000 in
theorem fwd_bad (tg g bb pb po pc bc : Nat) (P : List Port) (B : List Bool) (w : World) (h : IsBr w tg g bb pb po pc bc P B) (port : Nat) (hp : port < P.length) (f : Fr) (now x : Int) (hx : f.chk = x) (hc : x ≠ 0) :
    Calls Try.prog 30 #[.pointer (some ⟨g, 0, none⟩), .int .i64 port, f.val, .int .i64 now] w fun e w' => e = .returned (.tuple #[.slice none 0 0, .int .i64 x]) ∧ Below w.heap.size w w' := by
  have c0 := h.c0
  have hgl := h.lt
  have hchk := fun W => frCheck_any f W
  rw [hx] at hchk
  have HCHK := Lib.hid hchk
  have hne : ((x : Int) != 0) = true := by simpa using hc
  have hn8 := h.n8
  clear hchk h hx
  obtain ⟨d, s, t, y, b⟩ := f
  unfold Fr.val at HCHK
  unfold Fr.val
  simp only at HCHK
  go_enter Try.func30, Try.ntmps30
  go_wp2_with fail
  refine (HCHK.out _).mono ?_
  rintro e w1 ⟨rfl, hb1⟩
  have HB1 := Lib.hid ((below_alloc (Below.refl w.heap.size w) (.cells #[.int .i64 d, .int .i64 s, .int .i64 t, .int .i64 y, .string b] 55)).trans (hb1.mono (by simp)))
  clear hb1
  go_wp2_with fail
  go_ret2
  exact ⟨rfl, HB1.out⟩

theorem blk_below {w wr : World} {g : Nat} {cs : Array Value} {t : TypeId} (h : Blk w g cs t) (b : Below w.heap.size w wr) : Blk wr g cs t := (b.block g (Blk.lt h)).trans h
set_option maxHeartbeats 1600000 in
set_option maxRecDepth 100000 in
theorem fwd_deny (tg g bb pb po pc bc : Nat) (P : List Port) (B : List Bool) (w : World) (h : IsBr w tg g bb pb po pc bc P B) (port : Nat) (p : Port) (hp : P[port]? = some p) (f : Fr) (now : Int) (hx : f.chk = 0)
    (age room last : Int) (L : List Ent) (ht : IsTable w tg tg age room last L) (hs : Seen now L) (hn0 : 0 ≤ now) (hn1 : now ≤ 1000000000) (hl : last ≤ now) (hL : (L.length : Int) ≤ room) (hroom : 1 ≤ room ∧ room ≤ 256)
    (r : Int × Int) (hin : ∀ (W : World) (A : Option Addr) (c : Nat), RowOf W A p.allow → p.allow.length ≤ c → Calls Try.prog 33 #[.agg #[.int .i64 p.access, .slice A p.allow.length c], f.val] W fun e w' => e = .returned (.tuple #[.int .i64 r.1, .int .i64 r.2]) ∧ Below W.heap.size W w')
    (bl : Bool) (hbl : B[port]? = some bl) (hden : r.2 ≠ 0 ∨ bl = true) :
    Calls Try.prog 30 #[.pointer (some ⟨g, 0, none⟩), .int .i64 port, f.val, .int .i64 now] w fun e w' => Denied w w' tg age room now (L.filter (freshB now age)) e := by
  have hpl : port < P.length := (List.getElem?_eq_some_iff.1 hp).1
  have hn8 := h.n8
  have c0 := h.c0
  have hgl := h.lt
  have htg : tg < w.heap.size := ht.lt
  have hfb : tg ≠ w.heap.size := by omega
  have hgt : g ≠ tg := by have := h.gT; omega
  have hchk := fun W => frCheck_any f W
  rw [hx] at hchk
  have HCHK := Lib.hid hchk
  have HIN := Lib.hid hin
  have HH := Lib.hid h
  have HT := Lib.hid ht
  have HS := Lib.hid hs
  have HP := Lib.hid hp
  have HBL := Lib.hid hbl
  have HL := Lib.hid hL
  have HR := Lib.hid hroom
  clear hchk h hx hin ht hs hp hbl hL hroom
  obtain ⟨fd, fs, fg, fy, fb⟩ := f
  unfold Fr.val at HCHK HIN
  unfold Fr.val
  simp only at HCHK HIN
  go_enter Try.func30, Try.ntmps30
  go_wp2_with fail
  refine (HCHK.out _).mono ?_
  rintro e w1 ⟨rfl, hb1⟩
  have HB1 := Lib.hid ((below_alloc (Below.refl w.heap.size w) (.cells #[.int .i64 fd, .int .i64 fs, .int .i64 fg, .int .i64 fy, .string fb] 55)).trans (hb1.mono (by simp)))
  have HF1 := Lib.hid (blk_below (Blk.new w #[.int .i64 fd, .int .i64 fs, .int .i64 fg, .int .i64 fy, .string fb] 55) hb1)
  have HH1 := Lib.hid (HH.out.upto (HB1.out.mono (by omega)))
  have HT1 := Lib.hid (HT.out.below HB1.out)
  clear hb1 c0
  have c2 := HH1.out.c2
  have d0 : w1.cell? ⟨w.heap.size, 0, none⟩ = some (.int .i64 fd) := (Blk.cell HF1.out 0).trans rfl
  go_wp2_with fail
  have hfi := find_any tg tg age room last now fd L w1.drew (table_heap rfl HT1.out) HS.out hn0 hn1 hl (by have := HL.out; have := HR.out; omega)
  obtain ⟨M, hM⟩ : ∃ M, M = L.filter (freshB now age) := ⟨_, rfl⟩
  rw [← hM] at hfi
  unfold Learn.Found at hfi
  obtain ⟨⟨qa, qk⟩, hq⟩ : ∃ q, q = findP M fd := ⟨_, rfl⟩
  rw [← hq] at hfi
  have HFI := Lib.hid hfi
  have HM := Lib.hid hM
  have HQ := Lib.hid hq
  clear hfi hM hq
  refine wp_region_noPanic ?_
  go_region_held_law (fun w' => w'.cell? ⟨g, 2, none⟩ = some (.pointer (some ⟨tg, 0, none⟩)) ∧ w'.cell? ⟨w.heap.size, 0, none⟩ = some (.int .i64 fd))
    (first
      | go_keep
      | (go_split_ands; exact ⟨ho2.cell (by assumption) hgt, ho2.cell (by assumption) (Ne.symm hfb)⟩))
    (first | (go_at_call 26; refine HFI.out.mono ?_; rintro e w2 ⟨rfl, ht2, ho2⟩))
  refine NoPanic.normal ?_
  have hb2 : Below tg w1 w2 := (below_drew (Below.refl tg w1)).trans (ho2.below (by have := HB1.out.size; simp; omega) (fun k hk e => by omega))
  have HH2 := Lib.hid (HH1.out.upto hb2)
  have HF2 := Lib.hid (ho2.blk (g := w.heap.size) (HF1.out) (Ne.symm hfb))
  have hs2 : w.heap.size < w2.heap.size := by have := ho2.size; have := HF1.out.lt; simp at *; omega
  have hO2 : Only (· = tg) w w2 := (Only.of_below HB1.out).trans ((Only.drew (Only.refl _ _)).trans ho2)
  have HO2 := Lib.hid hO2
  have HT2 := Lib.hid (ht2.lower (base' := tg) (by have := HB1.out.size; simp; omega))
  clear c2 d0 hb2 ht2 ho2 hO2
  obtain ⟨A, c, pc0, pc1, hac, hrow⟩ := HH2.out.ports port p HP.out
  have c0 := HH2.out.c0
  have c1 := HH2.out.c1
  have b1 := HH2.out.bl HBL.out
  have d0 : w2.cell? ⟨w.heap.size, 0, none⟩ = some (.int .i64 fd) := (Blk.cell HF2.out 0).trans rfl
  have d1 : w2.cell? ⟨w.heap.size, 1, none⟩ = some (.int .i64 fs) := (Blk.cell HF2.out 1).trans rfl
  have d2 : w2.cell? ⟨w.heap.size, 2, none⟩ = some (.int .i64 fg) := (Blk.cell HF2.out 2).trans rfl
  have d3 : w2.cell? ⟨w.heap.size, 3, none⟩ = some (.int .i64 fy) := (Blk.cell HF2.out 3).trans rfl
  have d4 : w2.cell? ⟨w.heap.size, 4, none⟩ = some (.string fb) := (Blk.cell HF2.out 4).trans rfl
  have hin2 := HIN.out w2.drew A c (hrow.row.below (below_drew (Below.refl _ _))) hac
  obtain ⟨r1, r2⟩ := r
  simp only at hin2 hden
  have HIN2 := Lib.hid hin2
  clear hin2 hrow
  have hk0 : (0 : Int) ≤ (port : Int) := by omega
  have hk1 : (port : Int) < (P.length : Int) := by omega
  go_wp2_with fail
  refine wp_region_noPanic ?_
  go_region_held_law (fun w' => w'.cell? ⟨g, 0, none⟩ = some (.slice (some ⟨pb, po, none⟩) P.length pc) ∧ w'.cell? ⟨pb, po + port * 2, none⟩ = some (.int .i64 p.access) ∧ w'.cell? ⟨pb, po + port * 2 + 1, none⟩ = some (.slice A p.allow.length c) ∧
      w'.cell? ⟨w.heap.size, 0, none⟩ = some (.int .i64 fd) ∧ w'.cell? ⟨w.heap.size, 1, none⟩ = some (.int .i64 fs) ∧ w'.cell? ⟨w.heap.size, 2, none⟩ = some (.int .i64 fg) ∧ w'.cell? ⟨w.heap.size, 3, none⟩ = some (.int .i64 fy) ∧ w'.cell? ⟨w.heap.size, 4, none⟩ = some (.string fb))
    (first
      | go_keep
      | (go_split_ands; exact ⟨pw_cell_below hb3 (by assumption), pw_cell_below hb3 (by assumption), pw_cell_below hb3 (by assumption), pw_cell_below hb3 (by assumption), pw_cell_below hb3 (by assumption), pw_cell_below hb3 (by assumption), pw_cell_below hb3 (by assumption), pw_cell_below hb3 (by assumption)⟩))
    (first | (go_at_call 33; refine HIN2.out.mono ?_; rintro e w3 ⟨rfl, hb3⟩))
  refine NoPanic.normal ?_
  have hb3' : Below w2.heap.size w2 w3 := (below_drew (Below.refl w2.heap.size w2)).trans hb3
  have HO3 := Lib.hid (HO2.out.step (Only.of_below (S := fun _ => False) hb3') (fun _ _ h => h.elim))
  have HT3 := Lib.hid (HT2.out.below hb3')
  have HH3 := Lib.hid (HH2.out.upto (hb3'.mono (by omega)))
  have HF3 := Lib.hid (blk_below HF2.out hb3')
  have hs3 : w.heap.size < w3.heap.size := by have := hb3'.size; omega
  clear hb3 hb3' c0 c1 b1 d0 d1 d2 d3 d4 pc0 pc1
  have c1 := HH3.out.c1
  have b1 := HH3.out.bl HBL.out
  by_cases hr : r2 = 0
  · subst hr
    obtain rfl : bl = true := hden.resolve_left (by simp)
    go_wp2_with fail
    go_ret2
    exact ⟨rfl, by rw [← HM.out]; exact HT3.out, HO3.out⟩
  · have hrb : (r2 != 0) = true := by simpa using hr
    go_wp2_with fail
    go_ret2
    exact ⟨rfl, by rw [← HM.out]; exact HT3.out, HO3.out⟩

/-- The ports, below k, through which a frame leaves. -/
def goes (port : Nat) (B : List Bool) (qk : Bool) (qa : Int) (mem : Nat → Bool) (j : Nat) : Bool := j != port && !(B.getD j false) && !(qk && ((j : Int) != qa)) && mem j
def outsL (port : Nat) (B : List Bool) (qk : Bool) (qa : Int) (mem : Nat → Bool) (k : Nat) : List Nat := (List.range k).filter (goes port B qk qa mem)
def natv (L : List Nat) : List Value := L.map fun (j : Nat) => Value.int .i64 (j : Int)
theorem natv_len (L : List Nat) : (natv L).length = L.length := by simp [natv]
theorem outsL_yes {port : Nat} {B : List Bool} {qk : Bool} {qa : Int} {mem : Nat → Bool} {k : Nat} (h : goes port B qk qa mem k = true) : outsL port B qk qa mem (k + 1) = outsL port B qk qa mem k ++ [k] := by
  unfold outsL
  rw [List.range_succ, List.filter_append]
  simp [h]
theorem outsL_no {port : Nat} {B : List Bool} {qk : Bool} {qa : Int} {mem : Nat → Bool} {k : Nat} (h : goes port B qk qa mem k = false) : outsL port B qk qa mem (k + 1) = outsL port B qk qa mem k := by
  unfold outsL
  rw [List.range_succ, List.filter_append]
  simp [h]
theorem outsL_le (port : Nat) (B : List Bool) (qk : Bool) (qa : Int) (mem : Nat → Bool) (k : Nat) : (outsL port B qk qa mem k).length ≤ k := Nat.le_trans (List.length_filter_le _ _) (by simp)
theorem chk_src {f : Fr} (h : f.chk = 0) : 0 ≤ f.src ∧ f.src ≤ 281474976710655 ∧ grpB f.src = false := by
  unfold Fr.chk chk at h
  split at h
  · simp at h
  · rename_i h1
    refine ⟨by omega, by omega, ?_⟩
    cases hg : grpB f.src with
    | false => rfl
    | true => exact absurd (.inr (.inr (.inr (.inr hg)))) h1
theorem fresh_twice (now age : Int) (L : List Ent) : (L.filter (freshB now age)).filter (freshB now age) = L.filter (freshB now age) := by rw [List.filter_filter]; simp
/-- A frame has left. -/
def Sent (w w' : World) (tg : Nat) (age room now : Int) (M : List Ent) (outs : List Nat) (e : Ending) : Prop :=
  ∃ A c, e = .returned (.tuple #[.slice A outs.length c, .int .i64 0]) ∧ QRow w' w.heap.size 3 1 (.slice A outs.length c) outs.length (natv outs) ∧ IsTable w' tg tg age room now M ∧ Only (· = tg) w w'
def OutsRel (w4 : World) (port : Nat) (B : List Bool) (qk : Bool) (qa : Int) (mem : Nat → Bool) (n : Nat) (out i : Value) (wr : World) : Prop :=
  ∃ k : Nat, k ≤ n ∧ i = .int .i64 k ∧ Below w4.heap.size w4 wr ∧ QRow wr w4.heap.size 3 1 out (outsL port B qk qa mem k).length (natv (outsL port B qk qa mem k))
/-- What 'Out' answers at each port. -/
def Outs (P : List Port) (n : Int) (f : Fr) (mem : Nat → Bool) : Prop :=
  ∀ i p, P[i]? = some p → ∃ (g : Fr) (x : Int), ∀ (W : World) (A : Option Addr) (c : Nat), RowOf W A p.allow → p.allow.length ≤ c →
    Calls Try.prog 35 #[.agg #[.int .i64 p.access, .slice A p.allow.length c], .int .i64 n, f.val] W fun e w' => e = .returned (.tuple #[g.val, .bool (mem i), .int .i64 x]) ∧ Below W.heap.size W w'
end Go.Proofs.Ytidgmoeimgjggaa.Br
