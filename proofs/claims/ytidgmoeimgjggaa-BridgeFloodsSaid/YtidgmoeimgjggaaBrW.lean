/-
  bridge.Bridge.Block; slices.Equal over equal lists; bridgeWorks.
-/
import Derived.Test.YtidgmoeimgjggaaBrF
import Derived.Test.YtidgmoeimgjggaaBrN
namespace Go.Proofs.Ytidgmoeimgjggaa.Br
open Go.RowKit Go.Proofs.YtidgmoeimgjggaaW.PrintWords Go.Proofs.YtidgmoeimgjggaaW.PrintLast Go.Proofs.YtidgmoeimgjggaaW.PrintMore Go.Proofs.Ytidgmoeimgjggaa.Xm Go.Proofs.Ytidgmoeimgjggaa.Learn Go.Proofs.Ytidgmoeimgjggaa.Ints Go.Proofs.Ytidgmoeimgjggaa.PBridgeFloods

/-! ### the switch and its table -/
def IsSw (w : World) (tg g bb pb po pc bc : Nat) (P : List Port) (B : List Bool) (age room last : Int) (L : List Ent) : Prop :=
  IsBr w tg g bb pb po pc bc P B ∧ IsTable w tg tg age room last L

section
variable {w : World} {tg g bb pb po pc bc : Nat} {P : List Port} {B : List Bool}
theorem IsBr.block (h : IsBr w tg g bb pb po pc bc P B) (i : Nat) (b : Bool) : IsBr (w.setCell ⟨bb, i, none⟩ (.bool b)) tg g bb pb po pc bc P (B.set i b) := by
  have hc : ∀ (q o : Nat) (u : Value), q ≠ bb → w.cell? ⟨q, o, none⟩ = some u → (w.setCell ⟨bb, i, none⟩ (.bool b)).cell? ⟨q, o, none⟩ = some u :=
    fun q o u hq hu => (World.cell?_of_block (Below.heap_setCell w ⟨bb, i, none⟩ _ q hq)).trans hu
  refine { h with hdr := Blk.far h.hdr (p := ⟨bb, i, none⟩) h.gb _, blk := ?_, ports := ?_, len := by rw [List.length_set]; exact h.len }
  · have := Blk.set h.blk i (.bool b)
    rw [show ((B.set i b).map Value.bool).toArray = (B.map Value.bool).toArray.setIfInBounds i (.bool b) by simp [List.map_set]]
    exact this
  · intro j p hp
    obtain ⟨A, c, h1, h2, h3, h4, h5⟩ := h.ports j p hp
    refine ⟨A, c, hc _ _ _ h.bp h1, hc _ _ _ h.bp h2, h3, h4, fun hp0 => ?_⟩
    obtain ⟨b2, o2, rfl, k1, k2, k3, k4⟩ := h5 hp0
    exact ⟨b2, o2, rfl, by simpa [World.setCell] using k1, k2, k3, fun j x hx => hc _ _ _ k3 (k4 j x hx)⟩
end

def BlockOut (w w' : World) (tg g bb pb po pc bc : Nat) (P : List Port) (B : List Bool) (age room last : Int) (e : Ending) : Prop :=
  e = .returned (.int .i64 0) ∧ IsSw w' tg g bb pb po pc bc P B age room last [] ∧ Only (fun k => k = tg ∨ k = bb) w w'
set_option maxHeartbeats 800000 in
theorem block_any (tg g bb pb po pc bc : Nat) (P : List Port) (B : List Bool) (age room last : Int) (w : World) (h : IsSw w tg g bb pb po pc bc P B age room last []) (i : Nat) (hi : i < P.length) :
    Calls Try.prog 32 #[.pointer (some ⟨g, 0, none⟩), .int .i64 (i : Int), .bool true] w fun e w' => BlockOut w w' tg g bb pb po pc bc P (B.set i true) age room last e := by
  obtain ⟨hb, ht⟩ := h
  obtain ⟨x, hx⟩ : ∃ x, B[i]? = some x := ⟨B[i]'(by have := hb.len; omega), List.getElem?_eq_getElem _⟩
  have c0 := hb.c0
  have c1 := hb.c1
  have b1 := hb.bl hx
  have fb := hb.blk.frozen i
  have hk0 : (0 : Int) ≤ (i : Int) := by omega
  have hk1 : (i : Int) < (P.length : Int) := by omega
  have hn8 := hb.n8
  have hgt := hb.gT
  have hbt := hb.bT
  have htl := ht.lt
  have hbs := hb.blk.lt
  have hgs := hb.hdr.lt
  have hbl := hb.block i true
  have htb := ht.only (S := (· = bb)) (w' := w.setCell ⟨bb, i, none⟩ (.bool true)) ((Only.refl _ _).set1 i _) (by omega) (fun k hk e => by omega)
  have HBL := Lib.hid hbl
  have HTB := Lib.hid htb
  have c2 : (w.setCell ⟨bb, i, none⟩ (.bool true)).cell? ⟨g, 2, none⟩ = some (.pointer (some ⟨tg, 0, none⟩)) := hbl.c2
  clear hb ht hbl htb hx
  go_enter Try.func32, Try.ntmps32
  go_wp2_with fail
  refine (drop_any tg tg age room last (i : Int) [] _ HTB.out (by simp)).mono ?_
  rintro e w2 ⟨rfl, ht2, ho2⟩
  have hO : Only (fun k => k = tg ∨ k = bb) w w2 := ((Only.refl (fun k => k = tg ∨ k = bb) w).setCell (p := ⟨bb, i, none⟩) (fun _ => .inr rfl) (.bool true)).trans (ho2.mono (fun k _ h => .inl h))
  have hB : Below tg (w.setCell ⟨bb, i, none⟩ (.bool true)) w2 := ho2.below (by simp [World.setCell]; omega) (fun k hk e => by omega)
  have HF := Lib.hid (show IsSw w2 tg g bb pb po pc bc P (B.set i true) age room last [] from ⟨HBL.out.upto hB, ht2.lower (by simp [World.setCell]; omega)⟩)
  have HO := Lib.hid hO
  clear hO hB ht2 ho2
  go_wp2_with fail
  go_ret
  exact ⟨rfl, HF.out, HO.out⟩

theorem equal_some (L : List Int) (hl : L.length ≤ 1000000) : ∃ k, slices_Equal_int_int.f k L L = some true := by
  have h : ∀ (d i k : Nat), L.length - i ≤ d → i ≤ L.length → d < k → slices_Equal_int_int.l0 k L L (L.length : Int) (i : Int) = some true := by
    intro d
    induction d with
    | zero =>
      intro i k h1 h2 h3
      obtain ⟨k, rfl⟩ : ∃ m, k = m + 1 := ⟨k - 1, by omega⟩
      simp only [slices_Equal_int_int.l0]
      rw [if_neg (by omega)]
    | succ d ih =>
      intro i k h1 h2 h3
      obtain ⟨k, rfl⟩ : ∃ m, k = m + 1 := ⟨k - 1, by omega⟩
      simp only [slices_Equal_int_int.l0]
      by_cases hi : i < L.length
      · have hs : wrap64 ((i : Int) + 1) = ((i + 1 : Nat) : Int) := by unfold wrap64; omega
        rw [if_pos (by omega), if_pos (by omega), if_pos (by omega), if_pos (by omega), if_pos trivial, hs]
        exact ih (i + 1) k (by omega) (by omega) (by omega)
      · rw [if_neg (by omega)]
  refine ⟨L.length + 1, ?_⟩
  unfold slices_Equal_int_int.f
  rw [if_pos rfl]
  exact h L.length 0 _ (by omega) (by omega) (by omega)
theorem RowOf.of_q {w : World} {base : Nat} {A : Option Addr} {c n : Nat} {L : List Int} (h : QRow w base 3 1 (.slice A n c) n (nums .i64 L)) : RowOf w A L ∧ n = L.length ∧ L.length ≤ c := by
  have hn : n = L.length := by have := h.1; rw [nums_length] at this; omega
  subst hn
  obtain ⟨_, c', he, hc⟩ := q_slice h
  injection he with _ _ he
  have hll : L.length ≤ 9223372036854775807 := by
    rcases h.2 with ⟨h0, _⟩ | ⟨_, _, cap, _, he2, _, _, hnc, hcm, _⟩
    · omega
    · unfold maxLen at hcm; omega
  refine ⟨⟨hll, fun hp => ?_⟩, rfl, by omega⟩
  obtain ⟨b2, o2, cp2, he2, hb2, hl2, _, _, hc2, _, _⟩ := q_form h hp
  injection he2 with he2 _ _
  refine ⟨b2, o2, he2, hl2, fun j x hx => ?_⟩
  have hj := (List.getElem?_eq_some_iff.1 hx).1
  rw [hc2 j (by omega)]
  simp [nums, hx]
theorem natv_nums (L : List Nat) : natv L = nums .i64 (L.map fun (j : Nat) => (j : Int)) := by simp [natv, nums]
theorem equal_any (L : List Int) (hl : L.length ≤ 1000000) (w : World) (A1 A2 : Option Addr) (c1 c2 : Nat) (h1 : RowOf w A1 L) (h2 : RowOf w A2 L) (hc1 : L.length ≤ c1) (hc2 : L.length ≤ c2) :
    Calls Try.prog 31 #[.slice A1 L.length c1, .slice A2 L.length c2] w fun e w' => e = .returned (.bool true) ∧ Below w.heap.size w w' := by
  obtain ⟨k, hk⟩ := equal_some L hl
  refine (slices_Equal_int_int.calls k A1 c1 L A2 c2 L true w h1.kd hc1 h2.kd hc2 hk).mono ?_
  rintro e w' ⟨rfl, ⟨n, rfl⟩⟩
  exact ⟨rfl, pw_below_drewN (Below.refl _ _) n⟩

/-- A port of network 1, without tagged ones. -/
def p1 : Port := ⟨1, []⟩
def f21 : Fr := ⟨2, 1, 0, 0, ⟨#[]⟩⟩
theorem f21_chk : f21.chk = 0 := by decide +kernel
theorem p1_in (W : World) (A : Option Addr) (c : Nat) (h : RowOf W A p1.allow) (hc : p1.allow.length ≤ c) :
    Calls Try.prog 33 #[.agg #[.int .i64 p1.access, .slice A p1.allow.length c], f21.val] W fun e w' => e = .returned (.tuple #[.int .i64 1, .int .i64 0]) ∧ Below W.heap.size W w' :=
  tag_In.calls 301 1 A c [] 2 1 0 0 ⟨#[]⟩ 1 0 W h.kd hc (by decide +kernel)
theorem p1_outs : Outs [p1, p1, p1] 1 f21 (fun _ => true) := by
  intro i p hp
  have hp1 : p = p1 := by
    have := List.mem_of_getElem? hp
    simpa using this
  subst hp1
  exact ⟨⟨2, 1, 0, 0, ⟨#[]⟩⟩, 0, fun W A c h hc => tag_Out.calls 300 1 A c [] 1 2 1 0 0 ⟨#[]⟩ 2 1 0 0 ⟨#[]⟩ true 0 W h.kd hc (by kernel_rfl)⟩

set_option maxHeartbeats 1600000 in
theorem bridgeWorks_any (w : World) :
    Calls Try.prog 28 #[] w fun e w' => e = .returned (.bool true) ∧ Below w.heap.size w w' := by
  go_enter Try.func28, Try.ntmps28
  go_wp2_with fail
  have hrp : RPorts (w.alloc (.cells #[.int .i64 1, .slice none 0 0, .int .i64 1, .slice none 0 0, .int .i64 1, .slice none 0 0] 63)) (.slice (some ⟨w.heap.size, 0, none⟩) 3 3) [p1, p1, p1] := by
    refine ⟨_, 3, rfl, Nat.le_refl _, by decide, fun _ => ⟨w.heap.size, 0, rfl, by simp, ?_⟩⟩
    intro i p hp
    have hi : i < 3 := (List.getElem?_eq_some_iff.1 hp).1
    have hp1 : p = p1 := by
      have := List.mem_of_getElem? hp
      simpa using this
    subst hp1
    rcases (show i = 0 ∨ i = 1 ∨ i = 2 by omega) with rfl | rfl | rfl <;> exact ⟨none, 0, cell_new _ _ rfl _ _ _ _ rfl, cell_new _ _ rfl _ _ _ _ rfl, rints_nil _⟩
  refine (bnew_any _ [p1, p1, p1] 9 9 _ hrp (by omega) (by omega) (by omega) (by omega)).mono ?_
  have hw0 := below_alloc (Below.refl w.heap.size w) (.cells #[.int .i64 1, .slice none 0 0, .int .i64 1, .slice none 0 0, .int .i64 1, .slice none 0 0] 63)
  have HW0 := Lib.hid hw0
  clear hw0 hrp
  generalize w.alloc (.cells #[.int .i64 1, .slice none 0 0, .int .i64 1, .slice none 0 0, .int .i64 1, .slice none 0 0] 63) = w0 at *
  rintro e w1 (⟨x, hx, -, -, hbad⟩ | ⟨tg, g, bb, pb, po, pc, bc, rfl, hbr, htb, hb1, htg, -⟩)
  · exfalso
    rcases hbad with h | h | ⟨p, hp, x, hx, hf⟩
    · simp at h
    · simp at h
    · have hp1 : p = p1 := by simpa using hp
      subst hp1
      have : PBridgeFloods.tag_Check.f 300 p1.access p1.allow = some 0 := by kernel_rfl
      rw [this] at hf
      injection hf with hf
      exact hx hf.symm
  · have HBR := Lib.hid hbr
    have HTB := Lib.hid htb
    have HB1 := Lib.hid (HW0.out.trans (hb1.mono HW0.out.size))
    have hs0 := HW0.out.size
    clear hbr htb hb1
    go_wp2_with fail
    have hfw := fwd_ok tg g bb pb po pc bc [p1, p1, p1] (List.replicate 3 false) w1 HBR.out 0 p1 rfl f21 0 f21_chk 9 9 0 [] HTB.out (fun x hx => by simp at hx) (by omega) (by omega) (by omega) (by simp) ⟨by omega, by omega⟩ (1, 0) p1_in false rfl ⟨rfl, rfl⟩ (by decide) (fun _ => true) p1_outs
    refine hfw.mono ?_
    rintro e w2 ⟨A, c, rfl, hq, -, ho⟩
    have houts : outsL 0 (List.replicate 3 false) (findP (List.filter (freshB 0 9) []) f21.dst).2 (findP (List.filter (freshB 0 9) []) f21.dst).1 (fun _ => true) [p1, p1, p1].length = [1, 2] := by decide
    rw [houts] at hq
    rw [houts]
    obtain ⟨hra, -, hlc⟩ := RowOf.of_q (L := [1, 2]) (n := 2) hq
    have HRA := Lib.hid hra
    have HB2 := Lib.hid (HB1.out.trans ((ho.below (B := tg) (Nat.le_of_lt HTB.out.lt) (fun k hk e => by omega)).mono (by omega)))
    have hlc2 : 2 ≤ c := hlc
    clear hra hq ho hfw houts hlc
    go_wp2_with fail
    have hr2 : RowOf (w2.alloc (.cells #[.int .i64 1, .int .i64 2] 3)) (some ⟨w2.heap.size, 0, none⟩) [1, 2] := by
      refine ⟨by simp, fun _ => ⟨w2.heap.size, 0, rfl, by simp, fun j x hx => ?_⟩⟩
      rw [Nat.zero_add]
      refine cell_new _ _ rfl _ _ _ _ ?_
      have hj : j < 2 := (List.getElem?_eq_some_iff.1 hx).1
      rcases (show j = 0 ∨ j = 1 by omega) with rfl | rfl <;> (simp at hx; subst hx; rfl)
    refine (equal_any [1, 2] (by simp) _ A (some ⟨w2.heap.size, 0, none⟩) c 2 (HRA.out.below (below_alloc (Below.refl _ _) _)) hr2 hlc2 (by simp)).mono ?_
    rintro e w3 ⟨rfl, hb3⟩
    have HB3 := Lib.hid ((below_alloc HB2.out (.cells #[.int .i64 1, .int .i64 2] 3)).trans (hb3.mono (by have := HB2.out.size; simp; omega)))
    clear hb3 hr2
    go_wp2_with fail
    go_ret
    exact ⟨rfl, HB3.out⟩
end Go.Proofs.Ytidgmoeimgjggaa.Br
