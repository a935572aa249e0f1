/-
  step: its contract.
-/
import Derived.Test.YtcpekijgjnnfoaaSpQ
import Derived.Test.YtcpekijgjnnfoaaSpT3
import Derived.Test.YtcpekijgjnnfoaaSpR
namespace Go.Proofs.Ytcpekijgjnnfoaa.Sp
open Go.RowKit Go.Proofs.YtcpekijgjnnfoaaW.PrintWords Go.Proofs.Ytcpekijgjnnfoaa.Xm

theorem info_vec : (Try.prog.info? 60).map (fun i => (i.zero, i.size, i.bytes)) = some (some (.agg #[.int .i64 0, .int .i64 0, .int .i64 0, .int .i64 0]), 4, 32) := by kernel_rfl
theorem make_bels (n : Nat) (hn : n ≤ 1000) : ∀ W : World, (Instr.makeSlice 53 (.int .i64 (n : Int)) (.int .i64 (n : Int))).run Try.prog W = .ok (.slice (some ⟨W.heap.size, 0, none⟩) n n) (W.alloc (.cells (List.replicate (n * 3) (Value.int .i64 0)).toArray 58)) := by
  intro W
  obtain ⟨i, hi, hz0, hz1, hz2⟩ := info_parts info_bel
  have h := run_make (P := Try.prog) W 53 58 i _ Try.underlying53 hi hz0 .i64 .i64 (n : Int) (n : Int) (by omega) (Int.le_refl _) (by rw [hz2]; omega) (by omega)
  simp only [Int.toNat_natCast, hz1] at h
  rw [h]
  have e : madeCells (Value.agg #[Value.int .i64 0, Value.int .i64 0, Value.int .i64 0]).cells (n * 3) = (List.replicate (n * 3) (Value.int .i64 0)).toArray := by
    apply Array.ext'
    exact made_flat 3 n (by omega)
  rw [e]
theorem make_vecs (n : Nat) (hn : n ≤ 1000) : ∀ W : World, (Instr.makeSlice 75 (.int .i64 (n : Int)) (.int .i64 (n : Int))).run Try.prog W = .ok (.slice (some ⟨W.heap.size, 0, none⟩) n n) (W.alloc (.cells (List.replicate (n * 4) (Value.int .i64 0)).toArray 60)) := by
  intro W
  obtain ⟨i, hi, hz0, hz1, hz2⟩ := info_parts info_vec
  have h := run_make (P := Try.prog) W 75 60 i _ Try.underlying75 hi hz0 .i64 .i64 (n : Int) (n : Int) (by omega) (Int.le_refl _) (by rw [hz2]; omega) (by omega)
  simp only [Int.toNat_natCast, hz1] at h
  rw [h]
  have e : madeCells (Value.agg #[Value.int .i64 0, Value.int .i64 0, Value.int .i64 0, Value.int .i64 0]).cells (n * 4) = (List.replicate (n * 4) (Value.int .i64 0)).toArray := by
    apply Array.ext'
    exact made_flat 4 n (by omega)
  rw [e]
/-- The first loop of step. -/
def initB (ids : List Int) : Nat → List Bel
  | 0 => List.replicate ids.length ⟨0, 0, 0⟩
  | k + 1 => (initB ids k).set k ⟨key ids k, 0, -1⟩
def initV (ids : List Int) : Nat → List Vec
  | 0 => List.replicate ids.length ⟨0, 0, 0, 0⟩
  | k + 1 => (initV ids k).set k ⟨key ids k, 0, key ids k, -1⟩
theorem initB_len (ids : List Int) : ∀ k, (initB ids k).length = ids.length
  | 0 => by simp [initB]
  | k + 1 => by rw [initB, List.length_set, initB_len ids k]
theorem initV_len (ids : List Int) : ∀ k, (initV ids k).length = ids.length
  | 0 => by simp [initV]
  | k + 1 => by rw [initV, List.length_set, initV_len ids k]
theorem initB_get (ids : List Int) : ∀ k v, v < k → k ≤ ids.length → (initB ids k)[v]? = some ⟨key ids v, 0, -1⟩
  | 0, _, h, _ => absurd h (by omega)
  | k + 1, v, h, hk => by
    rw [initB, List.getElem?_set]
    by_cases e : k = v
    · subst e
      rw [if_pos rfl, if_pos (by rw [initB_len]; omega)]
    · rw [if_neg e]; exact initB_get ids k v (by omega) (by omega)
theorem initV_get (ids : List Int) : ∀ k v, v < k → k ≤ ids.length → (initV ids k)[v]? = some ⟨key ids v, 0, key ids v, -1⟩
  | 0, _, h, _ => absurd h (by omega)
  | k + 1, v, h, hk => by
    rw [initV, List.getElem?_set]
    by_cases e : k = v
    · subst e
      rw [if_pos rfl, if_pos (by rw [initV_len]; omega)]
    · rw [if_neg e]; exact initV_get ids k v (by omega) (by omega)
theorem initB_all (ids : List Int) : initB ids ids.length = startN ids := by
  apply List.ext_getElem?
  intro v
  by_cases h : v < ids.length
  · rw [initB_get ids _ v h (Nat.le_refl _)]
    simp [startN, key, List.getD_eq_getElem?_getD, h]
  · rw [List.getElem?_eq_none (by rw [initB_len]; omega), List.getElem?_eq_none (by rw [startN_len]; omega)]
theorem initV_all (ids : List Int) : initV ids ids.length = ownV ids := by
  apply List.ext_getElem?
  intro v
  by_cases h : v < ids.length
  · rw [initV_get ids _ v h (Nat.le_refl _)]
    simp [ownV, key, List.getD_eq_getElem?_getD, h]
  · rw [List.getElem?_eq_none (by rw [initV_len]; omega), List.getElem?_eq_none (by simp [ownV]; omega)]
def StepOut (w w' : World) (S : List Bel) (e : Ending) : Prop := ∃ A c, e = .returned (.slice A S.length c) ∧ RowC w' A (bels S) ∧ Below w.heap.size w w'
def StepRel1 (w1 : World) (ids : List Int) (g1 g2 : Nat) (i : Value) (wr : World) : Prop :=
  ∃ k : Nat, k ≤ ids.length ∧ i = .int .i64 k ∧ Row wr g1 0 58 (bels (initB ids k)) ∧ Row wr g2 0 60 (vecs (initV ids k)) ∧ Below w1.heap.size w1 wr
def StepRel2 (w1 : World) (ids : List Int) (N : List Bel) (E : List End) (g1 g2 : Nat) (i : Value) (wr : World) : Prop :=
  ∃ k : Nat, k ≤ E.length ∧ i = .int .i64 k ∧ Row wr g1 0 58 (bels (stepS ids N (E.take k)).1) ∧ Row wr g2 0 60 (vecs (stepS ids N (E.take k)).2) ∧ Below w1.heap.size w1 wr

set_option maxHeartbeats 6400000 in
set_option maxRecDepth 100000 in
theorem step_any (Ai Al An Ae : Option Addr) (m ci cl cn ce : Nat) (ids : List Int) (N : List Bel) (E : List End) (w : World) (hi : RowC w Ai (ints ids)) (hN : RowC w An (bels N)) (hE : RowC w Ae (endsV E)) (hlen : N.length = ids.length) (hn : InNet ids.length E) (hel : E.length ≤ 1000) (hil : ids.length ≤ 1000)
    (hcN : ∀ b ∈ N, 0 ≤ b.cost ∧ b.cost ≤ 1000000) (hcE : ∀ x ∈ E, 1 ≤ x.cost ∧ x.cost ≤ 1000) :
    Calls Try.prog 29 #[.agg #[.slice Ai ids.length ci, .slice Al m cl], .slice Ae E.length ce, .slice An N.length cn] w fun e w' => StepOut w w' (stepN ids E N) e := by
  have HI := Lib.hid hi
  have HN := Lib.hid hN
  have HE := Lib.hid hE
  have HLEN := Lib.hid hlen
  have HNET := Lib.hid hn
  have HCN := Lib.hid hcN
  have HCE := Lib.hid hcE
  have hb0 := below_alloc (Below.refl w.heap.size w) (.cells #[.slice Ai ids.length ci, .slice Al m cl] 25)
  have hbn0 := Blk.new w #[.slice Ai ids.length ci, .slice Al m cl] 25
  have HB0 := Lib.hid hb0
  have HBN0 := Lib.hid hbn0
  have hnl : N.length ≤ ids.length := by omega
  have hnl2 : ids.length ≤ N.length := by omega
  have hmk1 := make_bels N.length (by omega)
  have hmk2 := make_vecs N.length (by omega)
  have hz1 : (w.alloc (.cells #[.slice Ai ids.length ci, .slice Al m cl] 25)).heap.size = w.heap.size + 1 := by simp
  have hz2 := hz1
  clear hi hN hE hlen hn hb0 hbn0 hcN hcE
  have hr1 : Row (((w.alloc (.cells #[.slice Ai ids.length ci, .slice Al m cl] 25)).alloc (.cells (Array.replicate (N.length * 3) (Value.int .i64 0)) 58)).alloc (.cells (Array.replicate (N.length * 4) (Value.int .i64 0)) 60)) (w.heap.size + 1) 0 58 (bels (initB ids 0)) := by
    have h := (Row.of_blk (Blk.new (w.alloc (.cells #[.slice Ai ids.length ci, .slice Al m cl] 25)) (Array.replicate (N.length * 3) (Value.int .i64 0)) 58)).alloc (.cells (Array.replicate (N.length * 4) (Value.int .i64 0)) 60)
    rw [hz1] at h
    refine h.to ?_
    rw [initB, bels, flat_zero encB 3 _ rfl, ← HLEN.out]
    simp
  have hr2 : Row (((w.alloc (.cells #[.slice Ai ids.length ci, .slice Al m cl] 25)).alloc (.cells (Array.replicate (N.length * 3) (Value.int .i64 0)) 58)).alloc (.cells (Array.replicate (N.length * 4) (Value.int .i64 0)) 60)) (w.heap.size + 1 + 1) 0 60 (vecs (initV ids 0)) := by
    have h := (Row.of_blk (Blk.new ((w.alloc (.cells #[.slice Ai ids.length ci, .slice Al m cl] 25)).alloc (.cells (Array.replicate (N.length * 3) (Value.int .i64 0)) 58)) (Array.replicate (N.length * 4) (Value.int .i64 0)) 60))
    rw [show ((w.alloc (.cells #[.slice Ai ids.length ci, .slice Al m cl] 25)).alloc (.cells (Array.replicate (N.length * 3) (Value.int .i64 0)) 58)).heap.size = w.heap.size + 1 + 1 by simp] at h
    refine h.to ?_
    rw [initV, vecs, flat_zero encV 4 _ rfl, ← HLEN.out]
    simp
  have HR1 := Lib.hid hr1
  have HR2 := Lib.hid hr2
  have HZ1 := Lib.hid hz1
  have hb1 := below_alloc (below_alloc (Below.refl _ (w.alloc (.cells #[.slice Ai ids.length ci, .slice Al m cl] 25))) (.cells (Array.replicate (N.length * 3) (Value.int .i64 0)) 58)) (.cells (Array.replicate (N.length * 4) (Value.int .i64 0)) 60)
  have HB1 := Lib.hid hb1
  clear hr1 hr2 hz1 hz2 hb1
  go_enter Try.func29, Try.ntmps29
  go_wp2_with fail
  clear hmk1 hmk2
  generalize ((w.alloc (.cells #[.slice Ai ids.length ci, .slice Al m cl] 25)).alloc (.cells (Array.replicate (N.length * 3) (Value.int .i64 0)) 58)).alloc (.cells (Array.replicate (N.length * 4) (Value.int .i64 0)) 60) = w3 at *
  generalize w.alloc (.cells #[.slice Ai ids.length ci, .slice Al m cl] 25) = w1 at *
  go_loopw [9, 10, 23] (fun _ _ i wr => StepRel1 w1 ids (w.heap.size + 1) (w.heap.size + 1 + 1) i wr) (fun _ _ i _ => ids.length - (intOf i).toNat)
  case atStart => exact ⟨0, Nat.zero_le _, rfl, HR1.out, HR2.out, HB1.out⟩
  case round =>
    obtain ⟨k, hk, rfl, hr1, hr2, hb⟩ := hrel
    have HR3 := Lib.hid hr1
    have HR4 := Lib.hid hr2
    have HB2 := Lib.hid hb
    have HBW := Lib.hid (HB0.out.trans (hb.mono HB0.out.size))
    clear hr1 hr2 hb
    by_cases hlt : k < ids.length
    · have hd : decide ((k : Int) < (ids.length : Int)) = true := by simp; omega
      obtain ⟨b, off, rfl, hbl, hc⟩ := HI.out (by rw [ints_len]; omega)
      obtain ⟨x, hx⟩ : ∃ x, ids[k]? = some x := ⟨ids[k], List.getElem?_eq_getElem _⟩
      have cx : wr.cell? ⟨b, off + k, none⟩ = some (.int .i64 x) := pw_cell_below HBW.out (hc k _ (ints_get hx))
      have hkey : key ids k = x := by simp [key, List.getD_eq_getElem?_getD, hx]
      have i0 : (0 : Int) ≤ (k : Int) := by omega
      have i1 : (k : Int) < (N.length : Int) := by omega
      have hbl1 : k < (initB ids k).length := by rw [initB_len]; exact hlt
      have hvl1 : k < (initV ids k).length := by rw [initV_len]; exact hlt
      have lb : (bels (initB ids k)).length = ids.length * 3 := by rw [bels_len, initB_len]
      have lv : (vecs (initV ids k)).length = ids.length * 4 := by rw [vecs_len, initV_len]
      have getb : ∀ o, o < ids.length * 3 → ∃ u, wr.cell? ⟨w.heap.size + 1, o, none⟩ = some u := fun o ho => by
        have h := HR3.out.cell (List.getElem?_eq_getElem (show o < (bels (initB ids k)).length by omega))
        rw [Nat.zero_add] at h
        exact ⟨_, h⟩
      have getv : ∀ o, o < ids.length * 4 → ∃ u, wr.cell? ⟨w.heap.size + 1 + 1, o, none⟩ = some u := fun o ho => by
        have h := HR4.out.cell (List.getElem?_eq_getElem (show o < (vecs (initV ids k)).length by omega))
        rw [Nat.zero_add] at h
        exact ⟨_, h⟩
      obtain ⟨p0, hp0⟩ := getb (k * 3) (by omega)
      obtain ⟨p1, hp1⟩ := getb (k * 3 + 1) (by omega)
      obtain ⟨p2, hp2⟩ := getb (k * 3 + 2) (by omega)
      obtain ⟨q0, hq0⟩ := getv (k * 4) (by omega)
      obtain ⟨q1, hq1⟩ := getv (k * 4 + 1) (by omega)
      obtain ⟨q2, hq2⟩ := getv (k * 4 + 2) (by omega)
      obtain ⟨q3, hq3⟩ := getv (k * 4 + 3) (by omega)
      have f0 := HR3.out.frozen (k * 3)
      have f1 := HR3.out.frozen (k * 3 + 1)
      have f2 := HR3.out.frozen (k * 3 + 2)
      have v0 := HR4.out.frozen (k * 4)
      have v1 := HR4.out.frozen (k * 4 + 1)
      have v2 := HR4.out.frozen (k * 4 + 2)
      have v3 := HR4.out.frozen (k * 4 + 3)
      have HKEY := Lib.hid hkey
      clear hc hx hkey hbl1 hvl1 lb lv getb getv
      go_wp2_with fail
      have hg : w1.heap.size ≤ w.heap.size + 1 := Nat.le_of_eq HZ1.out
      refine ⟨⟨k + 1, hlt, by go_num, ?_, ?_, ?_⟩, by simp [intOf]; omega⟩
      · have h := row_bel0 HR3.out k ⟨x, 0, -1⟩ (by rw [initB_len]; exact hlt)
        refine (h.far4 (by simp) _ _ _ _).to ?_
        show _ = bels ((initB ids k).set k ⟨key ids k, 0, -1⟩)
        rw [HKEY.out]
      · have h := HR4.out.far3 (g := w.heap.size + 1) (o1 := k * 3) (o2 := k * 3 + 1) (o3 := k * 3 + 2) (by simp) (.int .i64 x) (.int .i64 0) (.int .i64 (-1))
        refine (row_vec0 h k ⟨x, 0, x, -1⟩ (by rw [initV_len]; exact hlt)).to ?_
        show _ = vecs ((initV ids k).set k ⟨key ids k, 0, key ids k, -1⟩)
        rw [HKEY.out]
      · exact below4 (below3 HB2.out hg _ _ _) (Nat.le_succ_of_le hg) _ _ _ _
    · obtain rfl : k = ids.length := by omega
      have hd : decide ((ids.length : Int) < (ids.length : Int)) = false := by simp
      have hr5 := HR3.out
      have hr6 := HR4.out
      rw [initB_all] at hr5
      rw [initV_all] at hr6
      have HR5 := Lib.hid hr5
      have HR6 := Lib.hid hr6
      clear hr5 hr6 HR3 HR4
      go_wp2_with fail
      obtain ⟨w4, rfl⟩ : ∃ w4 : World, w4 = wr := ⟨_, rfl⟩
      go_loopw [42] (fun i wr => StepRel2 w1 ids N E (w.heap.size + 1) (w.heap.size + 1 + 1) i wr) (fun i _ => E.length - (intOf i).toNat)
      case atStart => exact ⟨0, Nat.zero_le _, rfl, HR5.out, HR6.out, HB2.out⟩
      case round =>
        obtain ⟨k, hk, rfl, hr1, hr2, hb⟩ := hrel
        obtain ⟨s1, s2, s3⟩ := stepS_get (ids := ids) N (E.take k) (fun y hy => HNET.out y (List.mem_of_mem_take hy))
        obtain ⟨st, hst⟩ : ∃ st, stepS ids N (E.take k) = st := ⟨_, rfl⟩
        rw [hst] at hr1 hr2 s1 s2
        have HST := Lib.hid hst
        have HR3 := Lib.hid hr1
        have HR4 := Lib.hid hr2
        have HB3 := Lib.hid hb
        have HBX := Lib.hid (HB0.out.trans (hb.mono HB0.out.size))
        have HS1 := Lib.hid s1
        have HS2 := Lib.hid s2
        clear hr1 hr2 hb hst s1 s2 s3 HR5 HR6
        by_cases hlt : k < E.length
        · have hd : decide ((k : Int) < (E.length : Int)) = true := by simp; omega
          obtain ⟨b, off, rfl, hbl, hc⟩ := HE.out (by rw [endsV_len]; omega)
          obtain ⟨x, hx⟩ : ∃ x, E[k]? = some x := ⟨E[k], List.getElem?_eq_getElem _⟩
          have hxm := List.mem_of_getElem? hx
          obtain ⟨n1, n2, n3, n4⟩ := HNET.out x hxm
          obtain ⟨c1, c2⟩ := HCE.out x hxm
          have htk : stepS ids N (E.take (k + 1)) = stepOne ids N st x := by
            rw [List.take_succ_eq_append_getElem hlt, ← HST.out]
            have := (List.getElem?_eq_some_iff.1 hx).2
            rw [this]
            simp [stepS]
          have cell : ∀ j u, (encE x)[j]? = some u → wr.cell? ⟨b, off + (k * 5 + j), none⟩ = some u := by
            intro j u hu
            have hj : j < 5 := by have := (List.getElem?_eq_some_iff.1 hu).1; simpa [encE] using this
            exact pw_cell_below HBX.out (hc (k * 5 + j) u ((endsV_get hx j hj).trans hu))
          obtain ⟨xb, xp, yb, yp, xc⟩ := x
          simp only at n1 n2 n3 n4 c1 c2
          obtain ⟨bi, rfl⟩ := Int.eq_ofNat_of_zero_le n1
          obtain ⟨pi, rfl⟩ := Int.eq_ofNat_of_zero_le n3
          have hbi : bi < ids.length := by omega
          have hpi : pi < ids.length := by omega
          have e0 : wr.cell? ⟨b, off + k * 5, none⟩ = some (.int .i64 (bi : Int)) := cell 0 _ rfl
          have e1 : wr.cell? ⟨b, off + k * 5 + 1, none⟩ = some (.int .i64 xp) := by rw [Nat.add_assoc]; exact cell 1 _ rfl
          have e2 : wr.cell? ⟨b, off + k * 5 + 2, none⟩ = some (.int .i64 (pi : Int)) := by rw [Nat.add_assoc]; exact cell 2 _ rfl
          have e3 : wr.cell? ⟨b, off + k * 5 + 3, none⟩ = some (.int .i64 yp) := by rw [Nat.add_assoc]; exact cell 3 _ rfl
          have e4 : wr.cell? ⟨b, off + k * 5 + 4, none⟩ = some (.int .i64 xc) := by rw [Nat.add_assoc]; exact cell 4 _ rfl
          have hbx := below_alloc (Below.refl wr.heap.size wr) (.cells #[.int .i64 (bi : Int), .int .i64 xp, .int .i64 (pi : Int), .int .i64 yp, .int .i64 xc] 56)
          have HEX := Lib.hid (Blk.new wr #[.int .i64 (bi : Int), .int .i64 xp, .int .i64 (pi : Int), .int .i64 yp, .int .i64 xc] 56)
          have HNX := Lib.hid (blk_below (blk_below HBN0.out HB3.out) hbx)
          have HR7 := Lib.hid (HR3.out.below hbx)
          have HR8 := Lib.hid (HR4.out.below hbx)
          have HBE := Lib.hid (HBX.out.trans (hbx.mono HBX.out.size))
          have HB4 := Lib.hid (HB3.out.trans (hbx.mono HB3.out.size))
          have hsx := HEX.out.lt
          have HGR := Lib.hid (show w.heap.size + 1 + 1 < wr.heap.size from HR4.out.lt)
          have HTK := Lib.hid htk
          have HX := Lib.hid hx
          have HXM := Lib.hid hxm
          clear hc hx hxm cell htk hbx n1 n2 n3 n4
          go_upto_region 12 with (fail)
          generalize wr.alloc (.cells #[.int .i64 (bi : Int), .int .i64 xp, .int .i64 (pi : Int), .int .i64 yp, .int .i64 xc] 56) = wx at *
          clear e0 e1 e2 e3 e4
          have d0 : wx.cell? ⟨w.heap.size, 0, none⟩ = some (.slice Ai ids.length ci) := (Blk.cell HNX.out 0).trans rfl
          have d1 : wx.cell? ⟨w.heap.size, 1, none⟩ = some (.slice Al m cl) := (Blk.cell HNX.out 1).trans rfl
          have e2 : wx.cell? ⟨wr.heap.size, 2, none⟩ = some (.int .i64 (pi : Int)) := (Blk.cell HEX.out 2).trans rfl
          have e3 : wx.cell? ⟨wr.heap.size, 3, none⟩ = some (.int .i64 yp) := (Blk.cell HEX.out 3).trans rfl
          have ha := announced_any Ai Al An m ci cl cn ids N pi yp wx (HI.out.below HBE.out) (HN.out.below HBE.out) hpi (by omega)
          have hhr : heard ids N ⟨(bi : Int), xp, (pi : Int), yp, xc⟩ = { vecOf ids N pi yp with cost := (vecOf ids N pi yp).cost + xc } := rfl
          have hvc : 0 ≤ (vecOf ids N pi yp).cost ∧ (vecOf ids N pi yp).cost ≤ 1000000 := by
            have h := HCN.out (N.getD pi ⟨0, 0, 0⟩) (by
              rw [List.getD_eq_getElem?_getD, List.getElem?_eq_getElem (show pi < N.length by omega)]
              exact List.getElem_mem _)
            exact h
          obtain ⟨v, hv⟩ : ∃ v, vecOf ids N pi yp = v := ⟨_, rfl⟩
          rw [hv] at ha hhr hvc
          obtain ⟨o0, o1, o2, o3⟩ := v
          simp only at hhr hvc
          obtain ⟨v1, v2⟩ := hvc
          unfold encV at ha
          have HA := Lib.hid ha
          have HHR := Lib.hid hhr
          clear hv hhr ha
          go_wp2_with fail
          refine HA.out.mono ?_
          rintro e w5 ⟨rfl, hb5⟩
          have HEX5 := Lib.hid (blk_below HEX.out hb5)
          have HR9 := Lib.hid (HR7.out.below hb5)
          have HR10 := Lib.hid (HR8.out.below hb5)
          have HB5 := Lib.hid (HB4.out.trans (hb5.mono HB4.out.size))
          have hz5 : wx.heap.size ≤ w5.heap.size := hb5.size
          clear hb5 d0 d1 e2 e3
          have e4 : w5.cell? ⟨wr.heap.size, 4, none⟩ = some (.int .i64 xc) := (Blk.cell HEX5.out 4).trans rfl
          have e4' : (w5.alloc (.cells #[.int .i64 o0, .int .i64 o1, .int .i64 o2, .int .i64 o3] 60)).cell? ⟨wr.heap.size, 4, none⟩ = some (.int .i64 xc) := pw_cell_below (below_alloc (Below.refl _ _) _) e4
          go_upto_region 14 with (fail)
          clear e4 e4'
          have hnew := Blk.new w5 #[.int .i64 o0, .int .i64 (o1 + xc), .int .i64 o2, .int .i64 o3] 60
          have hbz := below_alloc (Below.refl w5.heap.size w5) (.cells #[.int .i64 o0, .int .i64 (o1 + xc), .int .i64 o2, .int .i64 o3] 60)
          have HV := Lib.hid hnew
          have HEX6 := Lib.hid (blk_below HEX5.out hbz)
          have HR11 := Lib.hid (HR9.out.below hbz)
          have HR12 := Lib.hid (HR10.out.below hbz)
          have HB6 := Lib.hid (HB5.out.trans (hbz.mono HB5.out.size))
          have hzz : w5.heap.size < (w5.alloc (.cells #[.int .i64 o0, .int .i64 (o1 + xc), .int .i64 o2, .int .i64 o3] 60)).heap.size := hnew.lt
          clear hnew hbz
          generalize w5.alloc (.cells #[.int .i64 o0, .int .i64 (o1 + xc), .int .i64 o2, .int .i64 o3] 60) = wz at *
          clear HEX5 HR9 HR10 HB5 HEX HNX HR7 HR8 HBE HB4 HR3 HR4
          have g0 : wz.cell? ⟨w5.heap.size, 0, none⟩ = some (.int .i64 o0) := (Blk.cell HV.out 0).trans rfl
          have g1 : wz.cell? ⟨w5.heap.size, 1, none⟩ = some (.int .i64 (o1 + xc)) := (Blk.cell HV.out 1).trans rfl
          have g2 : wz.cell? ⟨w5.heap.size, 2, none⟩ = some (.int .i64 o2) := (Blk.cell HV.out 2).trans rfl
          have g3 : wz.cell? ⟨w5.heap.size, 3, none⟩ = some (.int .i64 o3) := (Blk.cell HV.out 3).trans rfl
          have x0 : wz.cell? ⟨wr.heap.size, 0, none⟩ = some (.int .i64 (bi : Int)) := (Blk.cell HEX6.out 0).trans rfl
          obtain ⟨bv, hbv⟩ : ∃ bv, st.2[bi]? = some bv := ⟨st.2[bi]'(by have := HS2.out; omega), List.getElem?_eq_getElem _⟩
          have hbg : st.2.getD bi ⟨0, 0, 0, 0⟩ = bv := by simp [List.getD_eq_getElem?_getD, hbv]
          have vcell : ∀ j u, j < 4 → (encV bv)[j]? = some u → wz.cell? ⟨w.heap.size + 1 + 1, bi * 4 + j, none⟩ = some u := by
            intro j u hj hu
            have h := HR12.out.cell ((vecs_get hbv j hj).trans hu)
            rw [Nat.zero_add] at h
            exact h
          have HBG := Lib.hid hbg
          obtain ⟨r0, r1, r2, r3⟩ := bv
          have y0 : wz.cell? ⟨w.heap.size + 1 + 1, bi * 4, none⟩ = some (.int .i64 r0) := vcell 0 _ (by omega) rfl
          have y1 : wz.cell? ⟨w.heap.size + 1 + 1, bi * 4 + 1, none⟩ = some (.int .i64 r1) := vcell 1 _ (by omega) rfl
          have y2 : wz.cell? ⟨w.heap.size + 1 + 1, bi * 4 + 2, none⟩ = some (.int .i64 r2) := vcell 2 _ (by omega) rfl
          have y3 : wz.cell? ⟨w.heap.size + 1 + 1, bi * 4 + 3, none⟩ = some (.int .i64 r3) := vcell 3 _ (by omega) rfl
          have i0 : (0 : Int) ≤ (bi : Int) := by omega
          have i1 : (bi : Int) < (N.length : Int) := by omega
          have hbt := fun W => better_any ⟨o0, o1 + xc, o2, o3⟩ ⟨r0, r1, r2, r3⟩ W
          unfold encV at hbt
          have HBT := Lib.hid hbt
          clear vcell hbv hbg hbt
          have hone : stepOne ids N st ⟨(bi : Int), xp, (pi : Int), yp, xc⟩ = if better ⟨o0, o1 + xc, o2, o3⟩ ⟨r0, r1, r2, r3⟩ then (st.1.set bi ⟨o0, o1 + xc, xp⟩, st.2.set bi ⟨o0, o1 + xc, o2, o3⟩) else st := by
            unfold stepOne
            rw [HHR.out]
            show (if better _ (st.2.getD (bi : Int).toNat ⟨0, 0, 0, 0⟩) = true then _ else _) = _
            rw [Int.toNat_natCast, HBG.out]
          have HONE := Lib.hid hone
          clear hone
          refine wp_region_still_tail 6 (by kernel_rfl) (by kernel_rfl) ?_
          simp only [List.take_succ_cons, List.take_zero, List.drop_succ_cons, List.drop_zero]
          repeat still_step
          refine wpStill_nil ?_
          change wpList _ _ _ _ _ wz.drew
          go_wp2_with fail
          refine (HBT.out _).mono ?_
          rintro e w6 ⟨rfl, hb6⟩
          have hb6' : Below wz.heap.size wz w6 := (below_drew (Below.refl wz.heap.size wz)).trans (hb6.mono (Nat.le_refl _))
          have HV7 := Lib.hid (blk_below HV.out hb6')
          have HEX7 := Lib.hid (blk_below HEX6.out hb6')
          have HR13 := Lib.hid (HR11.out.below hb6')
          have HR14 := Lib.hid (HR12.out.below hb6')
          have HB7 := Lib.hid (HB6.out.trans (hb6'.mono HB6.out.size))
          clear hb6 hb6' HV HEX6 HR11 HR12 HB6 g0 g1 g2 g3 x0 y0 y1 y2 y3
          have g0 : w6.cell? ⟨w5.heap.size, 0, none⟩ = some (.int .i64 o0) := (Blk.cell HV7.out 0).trans rfl
          have g1 : w6.cell? ⟨w5.heap.size, 1, none⟩ = some (.int .i64 (o1 + xc)) := (Blk.cell HV7.out 1).trans rfl
          have g2 : w6.cell? ⟨w5.heap.size, 2, none⟩ = some (.int .i64 o2) := (Blk.cell HV7.out 2).trans rfl
          have g3 : w6.cell? ⟨w5.heap.size, 3, none⟩ = some (.int .i64 o3) := (Blk.cell HV7.out 3).trans rfl
          have x0 : w6.cell? ⟨wr.heap.size, 0, none⟩ = some (.int .i64 (bi : Int)) := (Blk.cell HEX7.out 0).trans rfl
          have x1 : w6.cell? ⟨wr.heap.size, 1, none⟩ = some (.int .i64 xp) := (Blk.cell HEX7.out 1).trans rfl
          obtain ⟨bt, hbt⟩ : ∃ bt, better ⟨o0, o1 + xc, o2, o3⟩ ⟨r0, r1, r2, r3⟩ = bt := ⟨_, rfl⟩
          have hone := HONE.out
          rw [hbt] at hone
          rw [hbt]
          clear hbt HONE HBT
          cases bt with
          | true =>
            rw [if_pos rfl] at hone
            have HONE := Lib.hid hone
            clear hone
            have lv : (vecs st.2).length = ids.length * 4 := by rw [vecs_len, HS2.out]
            have getv : ∀ o, o < ids.length * 4 → ∃ u, w6.cell? ⟨w.heap.size + 1 + 1, o, none⟩ = some u := fun o ho => by
              have h := HR14.out.cell (List.getElem?_eq_getElem (show o < (vecs st.2).length by omega))
              rw [Nat.zero_add] at h
              exact ⟨_, h⟩
            obtain ⟨q0, hq0⟩ := getv (bi * 4) (by omega)
            obtain ⟨q1, hq1⟩ := getv (bi * 4 + 1) (by omega)
            obtain ⟨q2, hq2⟩ := getv (bi * 4 + 2) (by omega)
            obtain ⟨q3, hq3⟩ := getv (bi * 4 + 3) (by omega)
            have v0 := HR14.out.frozen (bi * 4)
            have v1 := HR14.out.frozen (bi * 4 + 1)
            have v2 := HR14.out.frozen (bi * 4 + 2)
            have v3 := HR14.out.frozen (bi * 4 + 3)
            clear lv getv
            go_upto_region 16 with (fail)
            have hgw : w1.heap.size ≤ w.heap.size + 1 := Nat.le_of_eq HZ1.out
            have hgr : w.heap.size + 1 + 1 < wr.heap.size := HGR.out
            have hgz : wr.heap.size < w5.heap.size := Nat.lt_of_lt_of_le hsx hz5
            obtain ⟨w7, hw7⟩ : ∃ w7, w7 = (((w6.setCell ⟨w.heap.size + 1 + 1, bi * 4, none⟩ (.int .i64 o0)).setCell ⟨w.heap.size + 1 + 1, bi * 4 + 1, none⟩ (.int .i64 (o1 + xc))).setCell ⟨w.heap.size + 1 + 1, bi * 4 + 2, none⟩ (.int .i64 o2)).setCell ⟨w.heap.size + 1 + 1, bi * 4 + 3, none⟩ (.int .i64 o3) := ⟨_, rfl⟩
            have HR15 := Lib.hid (show Row w7 (w.heap.size + 1) 0 58 (bels st.1) by rw [hw7]; exact HR13.out.far4 (by simp) _ _ _ _)
            have HR16 := Lib.hid (show Row w7 (w.heap.size + 1 + 1) 0 60 (vecs (st.2.set bi ⟨o0, o1 + xc, o2, o3⟩)) by rw [hw7]; exact row_vec0 HR14.out bi ⟨o0, o1 + xc, o2, o3⟩ (by have := HS2.out; omega))
            have HV8 := Lib.hid (show Blk w7 w5.heap.size #[.int .i64 o0, .int .i64 (o1 + xc), .int .i64 o2, .int .i64 o3] 60 by
              rw [hw7]
              have hne : w5.heap.size ≠ w.heap.size + 1 + 1 := by omega
              exact (((HV7.out.far hne _).far hne _).far hne _).far hne _)
            have HEX8 := Lib.hid (show Blk w7 wr.heap.size #[.int .i64 (bi : Int), .int .i64 xp, .int .i64 (pi : Int), .int .i64 yp, .int .i64 xc] 56 by
              rw [hw7]
              have hne : wr.heap.size ≠ w.heap.size + 1 + 1 := by omega
              exact (((HEX7.out.far hne _).far hne _).far hne _).far hne _)
            have HB8 := Lib.hid (show Below w1.heap.size w1 w7 by rw [hw7]; exact below4 HB7.out (Nat.le_succ_of_le hgw) _ _ _ _)
            rw [← hw7]
            clear hw7 HR13 HR14 HV7 HEX7 HB7 g0 g1 g2 g3 x0 x1 q0 q1 q2 q3 hq0 hq1 hq2 hq3 v0 v1 v2 v3
            have g0 : w7.cell? ⟨w5.heap.size, 0, none⟩ = some (.int .i64 o0) := (Blk.cell HV8.out 0).trans rfl
            have g1 : w7.cell? ⟨w5.heap.size, 1, none⟩ = some (.int .i64 (o1 + xc)) := (Blk.cell HV8.out 1).trans rfl
            have x0 : w7.cell? ⟨wr.heap.size, 0, none⟩ = some (.int .i64 (bi : Int)) := (Blk.cell HEX8.out 0).trans rfl
            have x1 : w7.cell? ⟨wr.heap.size, 1, none⟩ = some (.int .i64 xp) := (Blk.cell HEX8.out 1).trans rfl
            have lb : (bels st.1).length = ids.length * 3 := by rw [bels_len, HS1.out]
            have getb : ∀ o, o < ids.length * 3 → ∃ u, w7.cell? ⟨w.heap.size + 1, o, none⟩ = some u := fun o ho => by
              have h := HR15.out.cell (List.getElem?_eq_getElem (show o < (bels st.1).length by omega))
              rw [Nat.zero_add] at h
              exact ⟨_, h⟩
            obtain ⟨p0, hp0⟩ := getb (bi * 3) (by omega)
            obtain ⟨p1, hp1⟩ := getb (bi * 3 + 1) (by omega)
            obtain ⟨p2, hp2⟩ := getb (bi * 3 + 2) (by omega)
            have f0 := HR15.out.frozen (bi * 3)
            have f1 := HR15.out.frozen (bi * 3 + 1)
            have f2 := HR15.out.frozen (bi * 3 + 2)
            clear lb getb
            go_wp2_with fail
            refine ⟨⟨k + 1, hlt, by go_num, ?_, ?_, below3 HB8.out hgw _ _ _⟩, by simp [intOf]; omega⟩
            · rw [HTK.out, HONE.out]
              exact row_bel0 HR15.out bi ⟨o0, o1 + xc, xp⟩ (by have := HS1.out; omega)
            · rw [HTK.out, HONE.out]
              exact HR16.out.far3 (by simp) _ _ _
          | false =>
            rw [if_neg (by simp)] at hone
            have HONE := Lib.hid hone
            clear hone
            go_wp2_with fail
            refine ⟨⟨k + 1, hlt, by go_num, ?_, ?_, HB7.out⟩, by simp [intOf]; omega⟩
            · rw [HTK.out, HONE.out]; exact HR13.out
            · rw [HTK.out, HONE.out]; exact HR14.out
        · obtain rfl : k = E.length := by omega
          have hd : decide ((E.length : Int) < (E.length : Int)) = false := by simp
          have hr5 := HR3.out
          have hs := HST.out
          rw [List.take_length] at hs
          have hfin : StepOut w wr (stepN ids E N) (.returned (.slice (some ⟨w.heap.size + 1, 0, none⟩) N.length N.length)) := by
            have hl : (stepN ids E N).length = N.length := by rw [stepN_len HNET.out]; omega
            refine ⟨some ⟨w.heap.size + 1, 0, none⟩, N.length, by rw [hl], ?_, HBX.out⟩
            unfold stepN
            rw [hs]
            exact hr5.rowC
          have HF := Lib.hid hfin
          clear hr5 hs hfin
          go_wp2_with fail
          go_ret
          exact HF.out
end Go.Proofs.Ytcpekijgjnnfoaa.Sp
