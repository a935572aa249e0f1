/-
  BridgeFloods: the walk.
-/
import Derived.Test.YtidgmoeimgjggaaBrForgets
namespace Go.Proofs.Ytidgmoeimgjggaa.Br
open Go.RowKit Go.Proofs.YtidgmoeimgjggaaW.PrintWords Go.Proofs.Ytidgmoeimgjggaa.Xm Go.Proofs.Ytidgmoeimgjggaa.Learn Go.Proofs.Ytidgmoeimgjggaa.Ints Go.Proofs.Ytidgmoeimgjggaa.Credit Go.Proofs.Ytidgmoeimgjggaa.Xo

/-- The marks below k. -/
def marks (BL : List Bool) (n k : Nat) : List Bool := (List.range n).map fun i => decide (i < k) && BL.getD i false
theorem marks_len (BL : List Bool) (n k : Nat) : (marks BL n k).length = n := by simp [marks]
theorem marks_get {BL : List Bool} {n k i : Nat} (h : i < n) : (marks BL n k)[i]? = some (decide (i < k) && BL.getD i false) := by
  unfold marks
  rw [List.getElem?_map, List.getElem?_range h]
  rfl
theorem marks_zero (BL : List Bool) (n : Nat) : marks BL n 0 = List.replicate n false := by
  apply List.ext_getElem?
  intro i
  by_cases h : i < n
  · rw [marks_get h]; simp [h]
  · rw [List.getElem?_eq_none (by rw [marks_len]; omega), List.getElem?_eq_none (by simp; omega)]
theorem marks_yes {BL : List Bool} {n k : Nat} (_h : k < n) (hb : BL.getD k false = true) : marks BL n (k + 1) = (marks BL n k).set k true := by
  apply List.ext_getElem?
  intro i
  by_cases h : i < n
  · rw [marks_get h, List.getElem?_set]
    by_cases e : k = i
    · subst e
      have : k < (marks BL n k).length := by rw [marks_len]; exact h
      rw [if_pos rfl, if_pos this, hb]
      simp
    · rw [if_neg e, marks_get h]
      have : (decide (i < k + 1)) = decide (i < k) := by
        have : (i < k + 1) ↔ (i < k) := by omega
        simp [this]
      rw [this]
  · rw [List.getElem?_eq_none (by rw [marks_len]; omega), List.getElem?_eq_none (by rw [List.length_set, marks_len]; omega)]
theorem marks_no {BL : List Bool} {n k : Nat} (hb : BL.getD k false = false) : marks BL n (k + 1) = marks BL n k := by
  unfold marks
  apply List.map_congr_left
  intro i _
  by_cases e : i = k
  · subst e; rw [hb]; simp
  · have : (i < k + 1) ↔ (i < k) := by omega
    simp [this]
theorem marks_all {BL : List Bool} {n i : Nat} (h : i < n) : (marks BL n n).getD i false = BL.getD i false := by
  rw [List.getD, marks_get h]
  simp [h]

/-- The loop that blocks ports. -/
def BlkRel (w0 : World) (tg g bb pb po pc bc : Nat) (P : List Port) (BL : List Bool) (lo fb : Nat) (fc : Array Value) (i : Value) (wr : World) : Prop :=
  ∃ k : Nat, k ≤ P.length ∧ i = .int .i64 k ∧ Sw w0 wr tg g bb pb po pc bc P (marks BL P.length k) 100 8 0 [] ∧ Blk wr fb fc 55 ∧ Lo lo wr pb po P

theorem Sw.blocked {w0 w w' : World} {tg g bb pb po pc bc : Nat} {P : List Port} {B B' : List Bool} {age room last : Int} {L : List Ent} (s : Sw w0 w tg g bb pb po pc bc P B age room last L) (hbb : w0.heap.size ≤ bb) (o : Only (fun k => k = tg ∨ k = bb) w w') (h : IsSw w' tg g bb pb po pc bc P B' age room last L) :
    Sw w0 w' tg g bb pb po pc bc P B' age room last L := by
  obtain ⟨_, h2, h3, h4⟩ := s
  have hb : Below w0.heap.size w w' := o.below h3.size (fun k hk e => by omega)
  exact ⟨h.1, h.2, h3.trans hb, h4⟩

/-- What the law itself gathers. -/
def wantB (port : Nat) (BL : List Bool) (mem : Nat → Bool) (j : Nat) : Bool := j != port && mem j && !(BL.getD j false)
theorem want_goes {port n : Nat} {BL : List Bool} {mem : Nat → Bool} : (List.range n).filter (wantB port BL mem) = outsL port (marks BL n n) false 0 mem n := by
  unfold outsL
  apply List.filter_congr
  intro j hj
  have hj' : j < n := by simpa using hj
  unfold wantB goes
  rw [marks_all hj']
  cases (j != port) <;> cases (mem j) <;> cases (BL.getD j false) <;> rfl

/-- A store into a block that lies below the switch. -/
theorem Sw.store {w0 w : World} {tg g bb pb po pc bc q lo : Nat} {P : List Port} {B : List Bool} {age room last : Int} {L : List Ent} (s : Sw w0 w tg g bb pb po pc bc P B age room last L) (hq : q < lo) (h0 : w0.heap.size ≤ q) (hg : lo ≤ g) (hb : lo ≤ bb) (hp : lo ≤ pb) (hL : Lo lo w pb po P) (i : Nat) (x : Value) :
    Sw w0 (w.setCell ⟨q, i, none⟩ x) tg g bb pb po pc bc P B age room last L := by
  obtain ⟨h1, h2, h3, h4⟩ := s
  have hc : ∀ (k o : Nat) (u : Value), k ≠ q → w.cell? ⟨k, o, none⟩ = some u → (w.setCell ⟨q, i, none⟩ x).cell? ⟨k, o, none⟩ = some u :=
    fun k o u hk hu => (World.cell?_of_block (Below.heap_setCell w ⟨q, i, none⟩ _ k hk)).trans hu
  refine ⟨{ h1 with hdr := Blk.far h1.hdr (p := ⟨q, i, none⟩) (by show g ≠ q; omega) _, blk := Blk.far h1.blk (p := ⟨q, i, none⟩) (by show bb ≠ q; omega) _, ports := ?_ }, h2.only (S := (· = q)) ((Only.refl _ _).set1 i _) (by have := h1.gT; omega) (fun k hk e => by have := h1.gT; omega), h3.setCell (p := ⟨q, i, none⟩) h0 _, h4⟩
  intro j p hj
  obtain ⟨A, c, k1, k2, k3, k4, k5⟩ := h1.ports j p hj
  refine ⟨A, c, hc _ _ _ (by omega) k1, hc _ _ _ (by omega) k2, k3, k4, fun hp0 => ?_⟩
  obtain ⟨b2, o2, rfl, m1, m2, m3, m4⟩ := k5 hp0
  have := hL j p _ c hj k2 hp0 b2 o2 rfl
  exact ⟨b2, o2, rfl, by simpa [World.setCell] using m1, m2, m3, fun y z hz => hc _ _ _ (by omega) (m4 y z hz)⟩
theorem Lo.keep {lo : Nat} {w w' : World} {pb po : Nat} {P : List Port} (h : Lo lo w pb po P) (hb : w'.heap[pb]? = w.heap[pb]?) : Lo lo w' pb po P := by
  intro i p A c hp hc
  rw [World.cell?_of_block hb] at hc
  exact h i p A c hp hc
theorem not_group {f : Fr} (h : f.chk = 0) (hd : f.dst = 281474976710655) : f.dst ≠ f.src := by
  intro e
  have := (chk_src h).2.2
  rw [← e, hd] at this
  exact absurd this (by decide)

def WantRel (w4 : World) (port : Nat) (BL : List Bool) (mem : Nat → Bool) (n : Nat) (out i : Value) (wr : World) : Prop :=
  ∃ k : Nat, k ≤ n ∧ i = .int .i64 k ∧ Below w4.heap.size w4 wr ∧ QRow wr w4.heap.size 3 1 out ((List.range k).filter (wantB port BL mem)).length (natv ((List.range k).filter (wantB port BL mem)))
theorem want_yes {port : Nat} {BL : List Bool} {mem : Nat → Bool} {k : Nat} (h : wantB port BL mem k = true) : (List.range (k + 1)).filter (wantB port BL mem) = (List.range k).filter (wantB port BL mem) ++ [k] := by
  rw [List.range_succ, List.filter_append]
  simp [h]
theorem want_no {port : Nat} {BL : List Bool} {mem : Nat → Bool} {k : Nat} (h : wantB port BL mem k = false) : (List.range (k + 1)).filter (wantB port BL mem) = (List.range k).filter (wantB port BL mem) := by
  rw [List.range_succ, List.filter_append]
  simp [h]

set_option maxHeartbeats 3200000 in
set_option maxRecDepth 100000 in
theorem bridgeFloods_walk (w : World) (v u : Value) (P : List Port) (BL : List Bool) (hv : RPorts w v P) (hu : RBools w u BL) (a : Int) (f : Fr) :
    Calls Try.prog 10 #[v, u, .int .i64 a, f.val] w fun e w' => e = .returned (.bool true) ∧ Below w.heap.size w w' := by
  have hv' := hv
  obtain ⟨A, cp, rfl, -, -, hA⟩ := hv'
  obtain ⟨U, cu, rfl, hul, hum, hucell⟩ := hu
  have HV := Lib.hid hv
  have HA := Lib.hid hA
  have HU := Lib.hid hucell
  clear hv hA hucell
  obtain ⟨fd, fs, ft, fy, fb⟩ := f
  unfold Fr.val
  go_enter Try.func10, Try.ntmps10
  go_wp2_with fail
  have hb0 := below_alloc (Below.refl w.heap.size w) (.cells #[.int .i64 fd, .int .i64 fs, .int .i64 ft, .int .i64 fy, .string fb] 55)
  have HB0 := Lib.hid hb0
  have HF0 := Lib.hid (Blk.new w #[.int .i64 fd, .int .i64 fs, .int .i64 ft, .int .i64 fy, .string fb] 55)
  have hs0 : (w.alloc (.cells #[.int .i64 fd, .int .i64 fs, .int .i64 ft, .int .i64 fy, .string fb] 55)).heap.size = w.heap.size + 1 := by simp
  clear hb0
  generalize w.alloc (.cells #[.int .i64 fd, .int .i64 fs, .int .i64 ft, .int .i64 fy, .string fb] 55) = w0 at *
  refine (bridgeWorks_any _).mono ?_
  rintro e w1 ⟨rfl, hb1⟩
  have HB1 := Lib.hid (HB0.out.trans (hb1.mono HB0.out.size))
  have HF1 := Lib.hid (blk_below HF0.out hb1)
  have hs1 : w.heap.size < w1.heap.size := by have := hb1.size; omega
  have HV1 := Lib.hid (RPorts.below HV.out HB1.out)
  clear hb1 hs0
  go_wp2_with fail
  refine (bnew_any _ P 100 8 _ HV1.out (by omega) (by omega) (by omega) (by omega)).mono ?_
  rintro e w2 (⟨x, hx, rfl, hb2, -⟩ | ⟨tg, g, bb, pb, po, pc, bc, rfl, hbr, htb, hb2, htg, hbb, hgg, hpp, hlo⟩)
  · have hxb : (x != 0) = true := by simpa using hx
    have HB2 := Lib.hid (HB1.out.trans (hb2.mono HB1.out.size))
    clear hb2 hx
    go_wp2_with fail
    go_ret
    exact ⟨rfl, HB2.out⟩
  · have hn1 := hbr.n1
    have hn8 := hbr.n8
    have hsw : Sw w w2 tg g bb pb po pc bc P (marks BL P.length 0) 100 8 0 [] := ⟨by rw [marks_zero]; exact hbr, htb, HB1.out.trans (hb2.mono HB1.out.size), by omega⟩
    have HS2 := Lib.hid hsw
    have HF2 := Lib.hid (blk_below HF1.out hb2)
    have HLO := Lib.hid hlo
    have hbt := hbr.bT
    have hpt := hbr.pT
    have hbpne := hbr.bp
    clear hbr htb hb2 hsw hlo
    obtain ⟨pn, hpn, hpl⟩ := wi_nat a P.length hn1
    have hc1 := fun W => within_any a (P.length : Int) W (by omega) (by omega)
    rw [hpn] at hc1
    have HC1 := Lib.hid hc1
    clear hc1 hpn
    go_wp2_with fail
    refine (HC1.out _).mono ?_
    rintro e w' ⟨rfl, rfl⟩
    go_wp2_with fail
    go_loopw [11, 37] (fun _ i wr => BlkRel w tg g bb pb po pc bc P BL w1.heap.size w.heap.size #[.int .i64 fd, .int .i64 fs, .int .i64 ft, .int .i64 fy, .string fb] i wr) (fun _ i _ => P.length - (intOf i).toNat)
    case atStart => exact ⟨0, Nat.zero_le _, rfl, HS2.out, HF2.out, HLO.out⟩
    case round =>
      obtain ⟨k, hk, rfl, hsk, hfk, hlk⟩ := hrel
      have HLK := Lib.hid hlk
      have HSK := Lib.hid hsk
      have HFK := Lib.hid hfk
      clear hsk hfk hlk
      by_cases hlt : k < P.length
      · have hdk : decide ((k : Int) < (P.length : Int)) = true := by simp; omega
        have hend : ∀ W, Sw w W tg g bb pb po pc bc P (marks BL P.length (k + 1)) 100 8 0 [] → Blk W w.heap.size #[.int .i64 fd, .int .i64 fs, .int .i64 ft, .int .i64 fy, .string fb] 55 → Lo w1.heap.size W pb po P → BlkRel w tg g bb pb po pc bc P BL w1.heap.size w.heap.size #[.int .i64 fd, .int .i64 fs, .int .i64 ft, .int .i64 fy, .string fb] (.int .i64 ((k + 1 : Nat) : Int)) W := fun W h1 h2 h3 => ⟨k + 1, hlt, rfl, h1, h2, h3⟩
        have HEND := Lib.hid hend
        clear hend
        by_cases hkb : k < BL.length
        · have hdb : decide ((k : Int) < (BL.length : Int)) = true := by simp; omega
          obtain ⟨bk, hbk⟩ : ∃ bk, BL[k]? = some bk := ⟨BL[k], List.getElem?_eq_getElem _⟩
          obtain ⟨ub, uo, rfl, hub, hucl⟩ := HU.out (by omega)
          have cu0 : wr.cell? ⟨ub, uo + k, none⟩ = some (.bool bk) := pw_cell_below HSK.out.2.2.1 (hucl k bk hbk)
          have hgd : BL.getD k false = bk := by simp [List.getD, hbk]
          have HGD := Lib.hid hgd
          have hk0 : (0 : Int) ≤ (k : Int) := by omega
          have hk1 : (k : Int) < (BL.length : Int) := by omega
          clear hucl hbk hgd
          cases bk with
          | false =>
            have HNO := Lib.hid (marks_no (n := P.length) HGD.out)
            go_wp2_with fail
            exact ⟨HEND.out _ (by rw [HNO.out]; exact HSK.out) HFK.out HLK.out, by simp [intOf]; omega⟩
          | true =>
            have HYES := Lib.hid (marks_yes hlt HGD.out)
            have HBK := Lib.hid (block_any tg g bb pb po pc bc P (marks BL P.length k) 100 8 0 wr ⟨HSK.out.1, HSK.out.2.1⟩ k hlt)
            go_wp2_with fail
            refine HBK.out.mono ?_
            rintro e w5 ⟨rfl, hs5, ho5⟩
            have HS5 := Lib.hid (HSK.out.blocked (by omega) ho5 hs5)
            have HF5 := Lib.hid (ho5.blk HFK.out (by omega))
            have HL5 := Lib.hid (HLK.out.keep (ho5.block pb (by have := HSK.out.2.1.lt; omega) (by omega)))
            clear hs5 ho5
            go_wp2_with fail
            exact ⟨HEND.out _ (by rw [HYES.out]; exact HS5.out) HF5.out HL5.out, by simp [intOf]; omega⟩
        · have hdb : decide ((k : Int) < (BL.length : Int)) = false := by simp; omega
          have hgd : BL.getD k false = false := by simp [List.getD, List.getElem?_eq_none (show BL.length ≤ k by omega)]
          have HNO := Lib.hid (marks_no (n := P.length) hgd)
          clear hgd
          go_wp2_with fail
          exact ⟨HEND.out _ (by rw [HNO.out]; exact HSK.out) HFK.out HLK.out, by simp [intOf]; omega⟩
      · obtain rfl : k = P.length := by omega
        have hdk : decide ((P.length : Int) < (P.length : Int)) = false := by simp
        have c0 : wr.cell? ⟨w.heap.size, 0, none⟩ = some (.int .i64 fd) := (HFK.out.cell 0).trans rfl
        have f0 := HFK.out.frozen 0
        have hfset := HFK.out.set 0 (.int .i64 281474976710655)
        have hset := HSK.out.store (q := w.heap.size) hs1 (Nat.le_refl _) hgg hbb hpp HLK.out 0 (.int .i64 281474976710655)
        have HS6 := Lib.hid hset
        have HF6 := Lib.hid (show Blk (wr.setCell ⟨w.heap.size, 0, none⟩ (.int .i64 281474976710655)) w.heap.size #[.int .i64 281474976710655, .int .i64 fs, .int .i64 ft, .int .i64 fy, .string fb] 55 from hfset)
        clear hset hfset
        go_upto_region 14 with (fail)
        clear c0 f0
        generalize wr.setCell ⟨w.heap.size, 0, none⟩ (.int .i64 281474976710655) = w6 at *
        have d0 : w6.cell? ⟨w.heap.size, 0, none⟩ = some (.int .i64 281474976710655) := (Blk.cell HF6.out 0).trans rfl
        have d1 : w6.cell? ⟨w.heap.size, 1, none⟩ = some (.int .i64 fs) := (Blk.cell HF6.out 1).trans rfl
        have d2 : w6.cell? ⟨w.heap.size, 2, none⟩ = some (.int .i64 ft) := (Blk.cell HF6.out 2).trans rfl
        have d3 : w6.cell? ⟨w.heap.size, 3, none⟩ = some (.int .i64 fy) := (Blk.cell HF6.out 3).trans rfl
        have d4 : w6.cell? ⟨w.heap.size, 4, none⟩ = some (.string fb) := (Blk.cell HF6.out 4).trans rfl
        obtain ⟨p0, hp0⟩ : ∃ p, P[pn]? = some p := ⟨P[pn], List.getElem?_eq_getElem _⟩
        obtain ⟨ab, ao, hAe, hab, hacl⟩ := HA.out (by omega)
        subst hAe
        obtain ⟨aA, ac, ha0, ha1, har⟩ := hacl pn p0 hp0
        obtain ⟨r, hr⟩ := in_ans p0 ⟨281474976710655, fs, ft, fy, fb⟩
        obtain ⟨ck, hck⟩ : ∃ ck, ck = (⟨281474976710655, fs, ft, fy, fb⟩ : Fr).chk := ⟨_, rfl⟩
        have hk0 : (0 : Int) ≤ (pn : Int) := by omega
        have hk1 : (pn : Int) < (P.length : Int) := by omega
        have hchk := fun W => frCheck_any ⟨281474976710655, fs, ft, fy, fb⟩ W
        rw [← hck] at hchk
        have hbm : (marks BL P.length P.length)[pn]? = some (BL.getD pn false) := by rw [marks_get hpl]; simp [hpl]
        have HCK := Lib.hid hck
        have HCHK := Lib.hid hchk
        have HR := Lib.hid hr
        have HP0 := Lib.hid hp0
        have HA0 := Lib.hid ha0
        have HA1 := Lib.hid ha1
        have HAR := Lib.hid har
        have HACL := Lib.hid hacl
        have HBM := Lib.hid hbm
        clear hck hchk hr hp0 ha0 ha1 har hacl hbm
        by_cases hc0 : ck = 0
        · subst hc0
          have hx6 : (⟨281474976710655, fs, ft, fy, fb⟩ : Fr).chk = 0 := HCK.out.symm
          by_cases hok : r.2 = 0 ∧ BL.getD pn false = false
          · obtain ⟨hr2, hbl⟩ := hok
            obtain ⟨mem, hmem⟩ := outs_ans P r.1 ⟨281474976710655, fs, ft, fy, fb⟩
            have hfw := sw_ok HS6.out pn p0 HP0.out ⟨281474976710655, fs, ft, fy, fb⟩ 0 hx6 (fun x hx => by simp at hx) (by omega) (by omega) (by omega) (by simp) ⟨by omega, by omega⟩ r HR.out _ HBM.out ⟨hr2, hbl⟩ (not_group hx6 rfl) mem hmem
            have hfp : findP (List.filter (freshB 0 100) []) (⟨281474976710655, fs, ft, fy, fb⟩ : Fr).dst = (0, false) := by simp [findP]
            rw [hfp] at hfw
            simp only at hfw
            rw [← want_goes] at hfw
            obtain ⟨O, hO⟩ : ∃ O, O = (List.range P.length).filter (wantB pn BL mem) := ⟨_, rfl⟩
            rw [← hO] at hfw
            have hOl : O.length ≤ 8 := by rw [hO]; exact Nat.le_trans (List.length_filter_le _ _) (by simpa using hn8)
            have HFW := Lib.hid hfw
            have HOE := Lib.hid hO
            have HMEM := Lib.hid hmem
            have HBL := Lib.hid hbl
            have HR2 := Lib.hid hr2
            clear hfw hfp hO hmem hbl hx6 hr2
            go_wp2_with fail
            refine HFW.out.mono ?_
            rintro e w7 ⟨A7, c7, rfl, hq7, hs7, ho7⟩
            have HB7 := Lib.hid hs7.2.2.1
            have HF7 := Lib.hid (ho7.blk HF6.out (by omega))
            rw [natv_nums] at hq7
            obtain ⟨hra, -, hlc7⟩ := RowOf.of_q (n := O.length) hq7
            rw [List.length_map] at hlc7
            have HRA := Lib.hid hra
            clear hq7 hs7 ho7 hra d0 d1 d2 d3 d4
            obtain ⟨r1, r2⟩ := r
            obtain rfl : r2 = 0 := HR2.out
            have a0 : w7.cell? ⟨ab, ao + pn * 2, none⟩ = some (.int .i64 p0.access) := pw_cell_below HB7.out HA0.out
            have a1 : w7.cell? ⟨ab, ao + pn * 2 + 1, none⟩ = some (.slice aA p0.allow.length ac) := pw_cell_below HB7.out HA1.out
            have d0 : w7.cell? ⟨w.heap.size, 0, none⟩ = some (.int .i64 281474976710655) := (Blk.cell HF7.out 0).trans rfl
            have d1 : w7.cell? ⟨w.heap.size, 1, none⟩ = some (.int .i64 fs) := (Blk.cell HF7.out 1).trans rfl
            have d2 : w7.cell? ⟨w.heap.size, 2, none⟩ = some (.int .i64 ft) := (Blk.cell HF7.out 2).trans rfl
            have d3 : w7.cell? ⟨w.heap.size, 3, none⟩ = some (.int .i64 fy) := (Blk.cell HF7.out 3).trans rfl
            have d4 : w7.cell? ⟨w.heap.size, 4, none⟩ = some (.string fb) := (Blk.cell HF7.out 4).trans rfl
            have hin := HR.out w7.drew aA ac ((RInts.row (HAR.out.below HB7.out (Nat.le_refl _))).below (below_drew (Below.refl _ _))) (RInts.len_le HAR.out)
            have HIN := Lib.hid hin
            clear hin
            go_wp2_with fail
            refine wp_region_noPanic ?_
            go_region_held_law (fun W => W.cell? ⟨ab, ao + pn * 2, none⟩ = some (.int .i64 p0.access) ∧ W.cell? ⟨ab, ao + pn * 2 + 1, none⟩ = some (.slice aA p0.allow.length ac) ∧
                W.cell? ⟨w.heap.size, 0, none⟩ = some (.int .i64 281474976710655) ∧ W.cell? ⟨w.heap.size, 1, none⟩ = some (.int .i64 fs) ∧ W.cell? ⟨w.heap.size, 2, none⟩ = some (.int .i64 ft) ∧ W.cell? ⟨w.heap.size, 3, none⟩ = some (.int .i64 fy) ∧ W.cell? ⟨w.heap.size, 4, none⟩ = some (.string fb))
              (first
                | go_keep
                | (go_split_ands; exact ⟨pw_cell_below hb8 (by assumption), pw_cell_below hb8 (by assumption), pw_cell_below hb8 (by assumption), pw_cell_below hb8 (by assumption), pw_cell_below hb8 (by assumption), pw_cell_below hb8 (by assumption), pw_cell_below hb8 (by assumption)⟩))
              (first | (go_at_call 33; refine HIN.out.mono ?_; rintro e w8 ⟨rfl, hb8⟩))
            refine NoPanic.normal ?_
            have hb8' : Below w7.heap.size w7 w8 := (below_drew (Below.refl w7.heap.size w7)).trans hb8
            have HB8 := Lib.hid (HB7.out.trans (hb8'.mono HB7.out.size))
            have HF8 := Lib.hid (blk_below HF7.out hb8')
            have HL8 := Lib.hid hb8'
            clear hb8 hb8' a0 a1 d0 d1 d2 d3 d4
            have d0 : w8.cell? ⟨w.heap.size, 0, none⟩ = some (.int .i64 281474976710655) := (Blk.cell HF8.out 0).trans rfl
            have d1 : w8.cell? ⟨w.heap.size, 1, none⟩ = some (.int .i64 fs) := (Blk.cell HF8.out 1).trans rfl
            have d2 : w8.cell? ⟨w.heap.size, 2, none⟩ = some (.int .i64 ft) := (Blk.cell HF8.out 2).trans rfl
            have d3 : w8.cell? ⟨w.heap.size, 3, none⟩ = some (.int .i64 fy) := (Blk.cell HF8.out 3).trans rfl
            have d4 : w8.cell? ⟨w.heap.size, 4, none⟩ = some (.string fb) := (Blk.cell HF8.out 4).trans rfl
            go_wp2_with fail
            refine (HCHK.out _).mono ?_
            rintro e w9 ⟨rfl, hb9⟩
            have HB9 := Lib.hid (HB8.out.trans (hb9.mono HB8.out.size))
            have HF9 := Lib.hid (blk_below HF8.out hb9)
            have HL9 := Lib.hid (HL8.out.trans (hb9.mono HL8.out.size))
            clear hb9 d0 d1 d2 d3 d4
            go_upto_region 18 with (fail)
            go_cut [99] from 16 to 153 (fun s w' => s = .bool false ∧ w' = w9)
            case first =>
              by_cases hpb : pn < BL.length
              · have hdb : decide ((pn : Int) < (BL.length : Int)) = true := by simp; omega
                have hpb1 : (pn : Int) < (BL.length : Int) := by omega
                obtain ⟨ub, uo, rfl, hub, hucl⟩ := HU.out (by omega)
                have hbp : BL[pn]? = some false := by
                  have := HBL.out
                  rw [List.getD, List.getElem?_eq_getElem hpb] at this
                  rw [List.getElem?_eq_getElem hpb]
                  simpa using this
                have cu0 : w9.cell? ⟨ub, uo + pn, none⟩ = some (.bool false) := pw_cell_below HB9.out (hucl pn false hbp)
                clear hucl hbp
                go_wp2_with fail
                go_meet
                exact ⟨rfl, rfl⟩
              · have hdb : decide ((pn : Int) < (BL.length : Int)) = false := by simp; omega
                go_wp2_with fail
                go_meet
                exact ⟨rfl, rfl⟩
            case rest =>
              obtain ⟨rfl, hwc⟩ := hcut
              have hwc' := hwc.symm
              subst hwc'
              go_wp2_with fail
              go_loopw [15, 109] (fun out i wr => WantRel w9 pn BL mem P.length out i wr) (fun _ i _ => P.length - (intOf i).toNat)
              case atStart => exact ⟨0, Nat.zero_le _, rfl, Below.refl _ _, by simpa [natv] using q_nil _ _ _ _⟩
              case round =>
                obtain ⟨k, hk, rfl, hbel, hrow⟩ := hrel
                have HBW := Lib.hid hbel
                have HRW := Lib.hid hrow
                have HFW2 := Lib.hid (blk_below HF9.out hbel)
                have HBWW := Lib.hid (HB9.out.trans (hbel.mono HB9.out.size))
                have hle : ((List.range k).filter (wantB pn BL mem)).length ≤ k := Nat.le_trans (List.length_filter_le _ _) (by simp)
                have hsw : w9.heap.size ≤ wr.heap.size := hbel.size
                clear hbel hrow
                by_cases hlt : k < P.length
                · have hdk : decide ((k : Int) < (P.length : Int)) = true := by simp; omega
                  have hk0' : (0 : Int) ≤ (k : Int) := by omega
                  have hk1' : (k : Int) < (P.length : Int) := by omega
                  obtain ⟨p2, hp2⟩ : ∃ p2, P[k]? = some p2 := ⟨P[k], List.getElem?_eq_getElem _⟩
                  obtain ⟨A2, c2, ha0, ha1, har⟩ := HACL.out k p2 hp2
                  obtain ⟨⟨o1, o2, o3, o4, o5⟩, ox, hog⟩ := HMEM.out k p2 hp2
                  unfold Fr.val at hog
                  simp only at hog
                  obtain ⟨mk, hmk⟩ : ∃ mk, mk = mem k := ⟨_, rfl⟩
                  rw [← hmk] at hog
                  have hrw := (RInts.row har).below HBWW.out
                  have a0 : wr.cell? ⟨ab, ao + k * 2, none⟩ = some (.int .i64 p2.access) := pw_cell_below HBWW.out ha0
                  have a1 : wr.cell? ⟨ab, ao + k * 2 + 1, none⟩ = some (.slice A2 p2.allow.length c2) := pw_cell_below HBWW.out ha1
                  have d0 : wr.cell? ⟨w.heap.size, 0, none⟩ = some (.int .i64 281474976710655) := (Blk.cell HFW2.out 0).trans rfl
                  have d1 : wr.cell? ⟨w.heap.size, 1, none⟩ = some (.int .i64 fs) := (Blk.cell HFW2.out 1).trans rfl
                  have d2 : wr.cell? ⟨w.heap.size, 2, none⟩ = some (.int .i64 ft) := (Blk.cell HFW2.out 2).trans rfl
                  have d3 : wr.cell? ⟨w.heap.size, 3, none⟩ = some (.int .i64 fy) := (Blk.cell HFW2.out 3).trans rfl
                  have d4 : wr.cell? ⟨w.heap.size, 4, none⟩ = some (.string fb) := (Blk.cell HFW2.out 4).trans rfl
                  have HOGW := Lib.hid (fun W (hW : Below wr.heap.size wr W) => hog W A2 c2 (hrw.below hW) (RInts.len_le har))
                  have hkeep : ∀ W, Below wr.heap.size wr W → (W.cell? ⟨ab, ao + k * 2, none⟩ = some (.int .i64 p2.access) ∧ W.cell? ⟨ab, ao + k * 2 + 1, none⟩ = some (.slice A2 p2.allow.length c2) ∧
                        W.cell? ⟨w.heap.size, 0, none⟩ = some (.int .i64 281474976710655) ∧ W.cell? ⟨w.heap.size, 1, none⟩ = some (.int .i64 fs) ∧ W.cell? ⟨w.heap.size, 2, none⟩ = some (.int .i64 ft) ∧ W.cell? ⟨w.heap.size, 3, none⟩ = some (.int .i64 fy) ∧ W.cell? ⟨w.heap.size, 4, none⟩ = some (.string fb)) :=
                    fun W hW => ⟨pw_cell_below hW a0, pw_cell_below hW a1, pw_cell_below hW d0, pw_cell_below hW d1, pw_cell_below hW d2, pw_cell_below hW d3, pw_cell_below hW d4⟩
                  have HK := Lib.hid hkeep
                  have HMK := Lib.hid hmk
                  clear hkeep hog hmk hrw har ha0 ha1 hp2
                  go_upto_region 24 with (fail)
                  go_cut [18, 109] from 109 to 146 (fun s i w' => s = .bool mk ∧ i = .int .i64 (k : Int) ∧ Below wr.heap.size wr w')
                  case first =>
                    refine wp_region_noPanic ?_
                    go_region_held_law (fun W => W.cell? ⟨ab, ao + k * 2, none⟩ = some (.int .i64 p2.access) ∧ W.cell? ⟨ab, ao + k * 2 + 1, none⟩ = some (.slice A2 p2.allow.length c2) ∧
                        W.cell? ⟨w.heap.size, 0, none⟩ = some (.int .i64 281474976710655) ∧ W.cell? ⟨w.heap.size, 1, none⟩ = some (.int .i64 fs) ∧ W.cell? ⟨w.heap.size, 2, none⟩ = some (.int .i64 ft) ∧ W.cell? ⟨w.heap.size, 3, none⟩ = some (.int .i64 fy) ∧ W.cell? ⟨w.heap.size, 4, none⟩ = some (.string fb))
                      (first | (refine HK.out _ ?_; repeat (first | with_reducible assumption | exact Below.refl _ _ | with_reducible refine below_drew ?_ | with_reducible refine below_alloc ?_ _ | with_reducible refine Below.setCell ?_ ?_ _ | exact Nat.le_refl _ | exact hs5)))
                      (first
                        | (go_at_call 35; refine (HOGW.out wr.drew (below_drew (Below.refl _ _))).mono ?_; rintro e w5 ⟨rfl, hb5'⟩
                           have hb5 : Below wr.heap.size wr w5 := (below_drew (Below.refl wr.heap.size wr)).trans hb5'
                           have hs5 : wr.heap.size ≤ w5.heap.size := hb5.size
                           clear hb5')
                        | (go_at_call 35; refine (HOGW.out _ (below_drew (below_alloc (Below.refl _ _) _))).mono ?_; rintro e w5 ⟨rfl, hb5'⟩
                           have hbn := blk_below (Blk.drew (Blk.new wr #[.int .i64 0, .int .i64 0, .int .i64 0, .int .i64 0, .string ⟨#[]⟩] 55)) hb5'
                           have n0 := hbn.frozen 0
                           have n1 := hbn.frozen 1
                           have n2 := hbn.frozen 2
                           have n3 := hbn.frozen 3
                           have n4 := hbn.frozen 4
                           have m0 : w5.cell? ⟨wr.heap.size, 0, none⟩ = some (.int .i64 0) := (hbn.cell 0).trans rfl
                           have m1 : w5.cell? ⟨wr.heap.size, 1, none⟩ = some (.int .i64 0) := (hbn.cell 1).trans rfl
                           have m2 : w5.cell? ⟨wr.heap.size, 2, none⟩ = some (.int .i64 0) := (hbn.cell 2).trans rfl
                           have m3 : w5.cell? ⟨wr.heap.size, 3, none⟩ = some (.int .i64 0) := (hbn.cell 3).trans rfl
                           have m4 : w5.cell? ⟨wr.heap.size, 4, none⟩ = some (.string ⟨#[]⟩) := (hbn.cell 4).trans rfl
                           have hb5 : Below wr.heap.size wr w5 := (below_drew (below_alloc (Below.refl wr.heap.size wr) (.cells #[.int .i64 0, .int .i64 0, .int .i64 0, .int .i64 0, .string ⟨#[]⟩] 55))).trans (hb5'.mono (by simp))
                           have hs5 : wr.heap.size ≤ w5.heap.size := hb5.size
                           clear hbn hb5'))
                    all_goals
                      refine NoPanic.normal ?_
                      go_wp2_with fail
                      go_meet
                      refine ⟨rfl, rfl, ?_⟩
                      repeat (first | with_reducible assumption | exact Below.refl _ _ | with_reducible refine below_drew ?_ | with_reducible refine below_alloc ?_ _ | with_reducible refine Below.setCell ?_ ?_ _ | exact Nat.le_refl _ | exact hs5)
                  case rest =>
                    obtain ⟨rfl, rfl, hb6⟩ := hcut
                    have HBZ := Lib.hid (HBW.out.trans (hb6.mono hsw))
                    have HRZ := Lib.hid (pw_q_below HRW.out hb6)
                    have HWZ := Lib.hid (HBWW.out.trans (hb6.mono HBWW.out.size))
                    have hsz := Nat.le_trans hsw hb6.size
                    obtain ⟨wk, hwk⟩ : ∃ wk, wk = wantB pn BL mem k := ⟨_, rfl⟩
                    have HWK := Lib.hid hwk
                    clear hb6 hwk d0 d1 d2 d3 d4 a0 a1
                    go_upto_region 25 with (fail)
                    go_cut [141, 109] from 109 to 146 (fun s i w' => s = .bool wk ∧ i = .int .i64 (k : Int) ∧ w' = wc)
                    case first =>
                      by_cases hkp : k = pn
                      · have he : ((k : Int) != (pn : Int)) = false := by simp; omega
                        obtain rfl : wk = false := by rw [HWK.out]; simp [wantB, hkp]
                        have HKP := Lib.hid hkp
                        clear hkp
                        go_wp2_with fail
                        go_meet
                        exact ⟨rfl, rfl, rfl⟩
                      · have he : ((k : Int) != (pn : Int)) = true := by simp; omega
                        cases mk with
                        | false =>
                          obtain rfl : wk = false := by rw [HWK.out, wantB, ← HMK.out]; simp
                          go_wp2_with fail
                          go_meet
                          exact ⟨rfl, rfl, rfl⟩
                        | true =>
                          by_cases hkb : k < BL.length
                          · have hdb : decide ((k : Int) < (BL.length : Int)) = true := by simp; omega
                            have hk2' : (k : Int) < (BL.length : Int) := by omega
                            obtain ⟨bk, hbk⟩ : ∃ bk, BL[k]? = some bk := ⟨BL[k], List.getElem?_eq_getElem _⟩
                            obtain ⟨ub, uo, rfl, hub, hucl⟩ := HU.out (by omega)
                            have cu0 : wc.cell? ⟨ub, uo + k, none⟩ = some (.bool bk) := pw_cell_below HWZ.out (hucl k bk hbk)
                            have hgd : BL.getD k false = bk := by simp [List.getD, hbk]
                            obtain rfl : wk = !bk := by rw [HWK.out, wantB, ← HMK.out, hgd]; simp [hkp]
                            clear hucl hbk hgd
                            cases bk <;>
                              (go_wp2_with fail
                               go_meet
                               exact ⟨rfl, rfl, rfl⟩)
                          · have hdb : decide ((k : Int) < (BL.length : Int)) = false := by simp; omega
                            have hgd : BL.getD k false = false := by simp [List.getD, List.getElem?_eq_none (show BL.length ≤ k by omega)]
                            obtain rfl : wk = true := by rw [HWK.out, wantB, ← HMK.out, hgd]; simp [hkp]
                            clear hgd
                            go_wp2_with fail
                            go_meet
                            exact ⟨rfl, rfl, rfl⟩
                    case rest =>
                      obtain ⟨rfl, rfl, rfl⟩ := hcut
                      cases wk with
                      | false =>
                        have HNO := Lib.hid (want_no HWK.out.symm)
                        go_wp2_with fail
                        exact ⟨⟨k + 1, hlt, by go_num, HBZ.out, by rw [HNO.out]; exact HRZ.out⟩, by simp [intOf]; omega⟩
                      | true =>
                        have HYS := Lib.hid (want_yes HWK.out.symm)
                        go_wp2_with (at_builtin; refine wpList_append_q wc w9.heap.size rfl (.tmp 142) (.tmp 144) 31 3 (.int .i64 0) 1 8 rfl Try.underlying31 info_int rfl (by decide) _ ((List.range k).filter (wantB pn BL mem)).length (natv ((List.range k).filter (wantB pn BL mem))) rfl ?hq 1 [.int .i64 (k : Int)] ?hx rfl ?h1 (by decide) ?h63 ?hby ?hba ?next)
                        case hq => exact HRZ.out
                        case hx => rfl
                        case h1 => intro u hu; simp at hu; rw [hu]; rfl
                        case h63 => unfold maxLen; omega
                        case hby => omega
                        case hba => exact hsz
                        case next =>
                          intro v2 w6 hq6 hg6 _
                          have hb6 : Below w9.heap.size w9 w6 := HBZ.out.grown hg6 hsz (fun q hq => (q_typed HRZ.out q hq).1)
                          have HB6 := Lib.hid hb6
                          have HQ6 := Lib.hid hq6
                          clear hq6 hg6 hb6
                          go_wp2_with fail
                          refine ⟨⟨k + 1, hlt, by go_num, HB6.out, ?_⟩, by simp [intOf]; omega⟩
                          rw [HYS.out, List.length_append]
                          simpa [natv] using HQ6.out
                · obtain rfl : k = P.length := by omega
                  have hdk : decide ((P.length : Int) < (P.length : Int)) = false := by simp
                  obtain ⟨A9, c9, rfl, -⟩ := q_slice HRW.out
                  have hqw := HRW.out
                  rw [← HOE.out] at hqw
                  rw [← HOE.out]
                  rw [natv_nums] at hqw
                  obtain ⟨hr9, -, hl9⟩ := RowOf.of_q (n := O.length) hqw
                  rw [List.length_map] at hl9
                  have hr7 := HRA.out.below (HL9.out.trans (HBW.out.mono HL9.out.size))
                  have heq := equal_any (O.map fun (j : Nat) => (j : Int)) (by simp; omega) wr A7 A9 c7 c9 hr7 hr9 (by simpa using hlc7) (by simpa using hl9)
                  rw [List.length_map] at heq
                  have HEQ := Lib.hid heq
                  clear hqw hr9 hl9 hr7 heq
                  go_wp2_with fail
                  refine HEQ.out.mono ?_
                  rintro e w6 ⟨rfl, hb6⟩
                  have HB6 := Lib.hid (HBWW.out.trans (hb6.mono HBWW.out.size))
                  clear hb6
                  go_wp2_with fail
                  go_ret
                  exact ⟨rfl, HB6.out⟩
          · have hden : r.2 ≠ 0 ∨ BL.getD pn false = true := by
              by_cases h : r.2 = 0
              · right
                cases hb : BL.getD pn false with
                | true => rfl
                | false => exact absurd ⟨h, hb⟩ hok
              · exact .inl h
            have hfw := Lib.hid (sw_deny HS6.out pn p0 HP0.out ⟨281474976710655, fs, ft, fy, fb⟩ 0 hx6 (fun x hx => by simp at hx) (by omega) (by omega) (by omega) (by simp) ⟨by omega, by omega⟩ r HR.out _ HBM.out hden)
            have HDEN := Lib.hid hden
            clear hok hden hx6
            go_wp2_with fail
            refine hfw.out.mono ?_
            rintro e w7 ⟨rfl, hs7, ho7⟩
            have HB7 := Lib.hid hs7.2.2.1
            have HF7 := Lib.hid (ho7.blk HF6.out (by omega))
            clear hs7 ho7 d0 d1 d2 d3 d4
            obtain ⟨r1, r2⟩ := r
            have a0 : w7.cell? ⟨ab, ao + pn * 2, none⟩ = some (.int .i64 p0.access) := pw_cell_below HB7.out HA0.out
            have a1 : w7.cell? ⟨ab, ao + pn * 2 + 1, none⟩ = some (.slice aA p0.allow.length ac) := pw_cell_below HB7.out HA1.out
            have d0 : w7.cell? ⟨w.heap.size, 0, none⟩ = some (.int .i64 281474976710655) := (Blk.cell HF7.out 0).trans rfl
            have d1 : w7.cell? ⟨w.heap.size, 1, none⟩ = some (.int .i64 fs) := (Blk.cell HF7.out 1).trans rfl
            have d2 : w7.cell? ⟨w.heap.size, 2, none⟩ = some (.int .i64 ft) := (Blk.cell HF7.out 2).trans rfl
            have d3 : w7.cell? ⟨w.heap.size, 3, none⟩ = some (.int .i64 fy) := (Blk.cell HF7.out 3).trans rfl
            have d4 : w7.cell? ⟨w.heap.size, 4, none⟩ = some (.string fb) := (Blk.cell HF7.out 4).trans rfl
            have hin := HR.out w7.drew aA ac ((RInts.row (HAR.out.below HB7.out (Nat.le_refl _))).below (below_drew (Below.refl _ _))) (RInts.len_le HAR.out)
            have HIN := Lib.hid hin
            clear hin
            go_wp2_with fail
            refine wp_region_noPanic ?_
            go_region_held_law (fun W => W.cell? ⟨ab, ao + pn * 2, none⟩ = some (.int .i64 p0.access) ∧ W.cell? ⟨ab, ao + pn * 2 + 1, none⟩ = some (.slice aA p0.allow.length ac) ∧
                W.cell? ⟨w.heap.size, 0, none⟩ = some (.int .i64 281474976710655) ∧ W.cell? ⟨w.heap.size, 1, none⟩ = some (.int .i64 fs) ∧ W.cell? ⟨w.heap.size, 2, none⟩ = some (.int .i64 ft) ∧ W.cell? ⟨w.heap.size, 3, none⟩ = some (.int .i64 fy) ∧ W.cell? ⟨w.heap.size, 4, none⟩ = some (.string fb))
              (first
                | go_keep
                | (go_split_ands; exact ⟨pw_cell_below hb8 (by assumption), pw_cell_below hb8 (by assumption), pw_cell_below hb8 (by assumption), pw_cell_below hb8 (by assumption), pw_cell_below hb8 (by assumption), pw_cell_below hb8 (by assumption), pw_cell_below hb8 (by assumption)⟩))
              (first | (go_at_call 33; refine HIN.out.mono ?_; rintro e w8 ⟨rfl, hb8⟩))
            refine NoPanic.normal ?_
            have hb8' : Below w7.heap.size w7 w8 := (below_drew (Below.refl w7.heap.size w7)).trans hb8
            have HB8 := Lib.hid (HB7.out.trans (hb8'.mono HB7.out.size))
            have HF8 := Lib.hid (blk_below HF7.out hb8')
            have HL8 := Lib.hid hb8'
            clear hb8 hb8' a0 a1 d0 d1 d2 d3 d4
            have d0 : w8.cell? ⟨w.heap.size, 0, none⟩ = some (.int .i64 281474976710655) := (Blk.cell HF8.out 0).trans rfl
            have d1 : w8.cell? ⟨w.heap.size, 1, none⟩ = some (.int .i64 fs) := (Blk.cell HF8.out 1).trans rfl
            have d2 : w8.cell? ⟨w.heap.size, 2, none⟩ = some (.int .i64 ft) := (Blk.cell HF8.out 2).trans rfl
            have d3 : w8.cell? ⟨w.heap.size, 3, none⟩ = some (.int .i64 fy) := (Blk.cell HF8.out 3).trans rfl
            have d4 : w8.cell? ⟨w.heap.size, 4, none⟩ = some (.string fb) := (Blk.cell HF8.out 4).trans rfl
            go_wp2_with fail
            refine (HCHK.out _).mono ?_
            rintro e w9 ⟨rfl, hb9⟩
            have HB9 := Lib.hid (HB8.out.trans (hb9.mono HB8.out.size))
            have HF9 := Lib.hid (blk_below HF8.out hb9)
            have HL9 := Lib.hid (HL8.out.trans (hb9.mono HL8.out.size))
            clear hb9 d0 d1 d2 d3 d4
            by_cases hr2 : r2 = 0
            · subst hr2
              have hbt' : BL.getD pn false = true := HDEN.out.resolve_left (by simp)
              have hpb : pn < BL.length := by
                by_cases h : pn < BL.length
                · exact h
                · rw [List.getD, List.getElem?_eq_none (by omega)] at hbt'; simp at hbt'
              have hbp : BL[pn]? = some true := by
                rw [List.getD, List.getElem?_eq_getElem hpb] at hbt'
                rw [List.getElem?_eq_getElem hpb]
                simpa using hbt'
              have hdb : decide ((pn : Int) < (BL.length : Int)) = true := by simp; omega
              have hpb1 : (pn : Int) < (BL.length : Int) := by omega
              obtain ⟨ub, uo, rfl, hub, hucl⟩ := HU.out (by omega)
              have cu0 : w9.cell? ⟨ub, uo + pn, none⟩ = some (.bool true) := pw_cell_below HB9.out (hucl pn true hbp)
              clear hucl hbp hbt'
              go_wp2_with fail
              go_ret
              exact ⟨rfl, HB9.out⟩
            · have hrb : (r2 != 0) = true := by simpa using hr2
              go_wp2_with fail
              go_ret
              exact ⟨rfl, HB9.out⟩
        · have hcb : (ck != 0) = true := by simpa using hc0
          have hfw := Lib.hid (fwd_bad tg g bb pb po pc bc P _ w6 HS6.out.1 pn hpl ⟨281474976710655, fs, ft, fy, fb⟩ 0 ck HCK.out.symm hc0)
          go_wp2_with fail
          refine hfw.out.mono ?_
          rintro e w7 ⟨rfl, hb7⟩
          have HB7 := Lib.hid (HS6.out.2.2.1.trans (hb7.mono HS6.out.2.2.1.size))
          have HF7 := Lib.hid (blk_below HF6.out hb7)
          clear hb7 d0 d1 d2 d3 d4
          have a0 : w7.cell? ⟨ab, ao + pn * 2, none⟩ = some (.int .i64 p0.access) := pw_cell_below HB7.out HA0.out
          have a1 : w7.cell? ⟨ab, ao + pn * 2 + 1, none⟩ = some (.slice aA p0.allow.length ac) := pw_cell_below HB7.out HA1.out
          have d0 : w7.cell? ⟨w.heap.size, 0, none⟩ = some (.int .i64 281474976710655) := (Blk.cell HF7.out 0).trans rfl
          have d1 : w7.cell? ⟨w.heap.size, 1, none⟩ = some (.int .i64 fs) := (Blk.cell HF7.out 1).trans rfl
          have d2 : w7.cell? ⟨w.heap.size, 2, none⟩ = some (.int .i64 ft) := (Blk.cell HF7.out 2).trans rfl
          have d3 : w7.cell? ⟨w.heap.size, 3, none⟩ = some (.int .i64 fy) := (Blk.cell HF7.out 3).trans rfl
          have d4 : w7.cell? ⟨w.heap.size, 4, none⟩ = some (.string fb) := (Blk.cell HF7.out 4).trans rfl
          have hin := HR.out w7.drew aA ac ((RInts.row (HAR.out.below HB7.out (Nat.le_refl _))).below (below_drew (Below.refl _ _))) (RInts.len_le HAR.out)
          have HIN := Lib.hid hin
          clear hin
          go_wp2_with fail
          refine wp_region_noPanic ?_
          go_region_held_law (fun W => W.cell? ⟨ab, ao + pn * 2, none⟩ = some (.int .i64 p0.access) ∧ W.cell? ⟨ab, ao + pn * 2 + 1, none⟩ = some (.slice aA p0.allow.length ac) ∧
              W.cell? ⟨w.heap.size, 0, none⟩ = some (.int .i64 281474976710655) ∧ W.cell? ⟨w.heap.size, 1, none⟩ = some (.int .i64 fs) ∧ W.cell? ⟨w.heap.size, 2, none⟩ = some (.int .i64 ft) ∧ W.cell? ⟨w.heap.size, 3, none⟩ = some (.int .i64 fy) ∧ W.cell? ⟨w.heap.size, 4, none⟩ = some (.string fb))
            (first
              | go_keep
              | (go_split_ands; exact ⟨pw_cell_below hb8 (by assumption), pw_cell_below hb8 (by assumption), pw_cell_below hb8 (by assumption), pw_cell_below hb8 (by assumption), pw_cell_below hb8 (by assumption), pw_cell_below hb8 (by assumption), pw_cell_below hb8 (by assumption)⟩))
            (first | (go_at_call 33; refine HIN.out.mono ?_; rintro e w8 ⟨rfl, hb8⟩))
          refine NoPanic.normal ?_
          have hb8' : Below w7.heap.size w7 w8 := (below_drew (Below.refl w7.heap.size w7)).trans hb8
          have HB8 := Lib.hid (HB7.out.trans (hb8'.mono HB7.out.size))
          have HF8 := Lib.hid (blk_below HF7.out hb8')
          have HL8 := Lib.hid hb8'
          clear hb8 hb8' a0 a1 d0 d1 d2 d3 d4
          have d0 : w8.cell? ⟨w.heap.size, 0, none⟩ = some (.int .i64 281474976710655) := (Blk.cell HF8.out 0).trans rfl
          have d1 : w8.cell? ⟨w.heap.size, 1, none⟩ = some (.int .i64 fs) := (Blk.cell HF8.out 1).trans rfl
          have d2 : w8.cell? ⟨w.heap.size, 2, none⟩ = some (.int .i64 ft) := (Blk.cell HF8.out 2).trans rfl
          have d3 : w8.cell? ⟨w.heap.size, 3, none⟩ = some (.int .i64 fy) := (Blk.cell HF8.out 3).trans rfl
          have d4 : w8.cell? ⟨w.heap.size, 4, none⟩ = some (.string fb) := (Blk.cell HF8.out 4).trans rfl
          go_wp2_with fail
          refine (HCHK.out _).mono ?_
          rintro e w9 ⟨rfl, hb9⟩
          have HB9 := Lib.hid (HB8.out.trans (hb9.mono HB8.out.size))
          have HF9 := Lib.hid (blk_below HF8.out hb9)
          have HL9 := Lib.hid (HL8.out.trans (hb9.mono HL8.out.size))
          clear hb9 d0 d1 d2 d3 d4
          have d0 : w9.cell? ⟨w.heap.size, 0, none⟩ = some (.int .i64 281474976710655) := (Blk.cell HF9.out 0).trans rfl
          have d1 : w9.cell? ⟨w.heap.size, 1, none⟩ = some (.int .i64 fs) := (Blk.cell HF9.out 1).trans rfl
          have d2 : w9.cell? ⟨w.heap.size, 2, none⟩ = some (.int .i64 ft) := (Blk.cell HF9.out 2).trans rfl
          have d3 : w9.cell? ⟨w.heap.size, 3, none⟩ = some (.int .i64 fy) := (Blk.cell HF9.out 3).trans rfl
          have d4 : w9.cell? ⟨w.heap.size, 4, none⟩ = some (.string fb) := (Blk.cell HF9.out 4).trans rfl
          go_wp2_with fail
          refine (HCHK.out _).mono ?_
          rintro e w10 ⟨rfl, hb10⟩
          have HB10 := Lib.hid (HB9.out.trans (hb10.mono HB9.out.size))
          clear hb10 d0 d1 d2 d3 d4
          go_wp2_with fail
          go_ret
          exact ⟨rfl, HB10.out⟩

theorem bridgeFloods_row (w : World) (v : Value) (h : IsPorts w v) (u : Value) (hu : IsBools w u) (a : Int) (_ : (Lit.int .i64 a).wf = true) (f : Value) (hf : IsFrame f) :
    Calls Try.prog 10 #[v, u, .int .i64 a, f] w fun e w' => e = .returned (.bool true) ∧ Below w.heap.size w w' := by
  obtain ⟨P, hP⟩ := h
  obtain ⟨BL, hB⟩ := hu
  obtain ⟨fr, rfl⟩ := hf
  exact bridgeFloods_walk w v u P BL hP hB a fr
end Go.Proofs.Ytidgmoeimgjggaa.Br
