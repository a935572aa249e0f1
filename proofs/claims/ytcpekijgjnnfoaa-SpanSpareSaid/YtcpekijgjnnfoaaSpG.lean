/-
  Check, second half: the links of a network whose identifiers are good.
-/
import Derived.Test.YtcpekijgjnnfoaaSpF
import Derived.Test.YtcpekijgjnnfoaaSpQ
namespace Go.Proofs.Ytcpekijgjnnfoaa.Sp
open Go.RowKit Go.Proofs.YtcpekijgjnnfoaaW.PrintWords Go.Proofs.Ytcpekijgjnnfoaa.Xm Go.Proofs.Ytcpekijgjnnfoaa.Ints

theorem make_ints (n : Nat) (hn : n ≤ 1000) : ∀ W : World, (Instr.makeSlice 22 (.int .i64 (n : Int)) (.int .i64 (n : Int))).run Try.prog W = .ok (.slice (some ⟨W.heap.size, 0, none⟩) n n) (W.alloc (.cells (Array.replicate n (Value.int .i64 0)) 3)) := by
  intro W
  have info : (Try.prog.info? 3).map (fun i => (i.zero, i.size, i.bytes)) = some (some (.int .i64 0), 1, 8) := by kernel_rfl
  have h := print_make_of 22 3 (.int .i64 0) 8 Try.underlying22 info rfl (by decide) n (by omega) W
  rw [h]
  have : madeCells #[Value.int .i64 0] n = (Array.replicate n (Value.int .i64 0)) := by
    apply Array.ext
    · simp [madeCells]
    · intro k h1 h2
      simp [madeCells, Nat.mod_one]
  rw [this]

def masksV (M : List Nat) : List Value := M.map fun (m : Nat) => Value.int .i64 (m : Int)
theorem masksV_get {M : List Nat} {v : Nat} (h : v < M.length) : (masksV M)[v]? = some (.int .i64 ((M.getD v 0 : Nat) : Int)) := by
  simp [masksV, List.getD_eq_getElem?_getD, h]
theorem masksV_set (M : List Nat) (v m : Nat) : (masksV M).set v (.int .i64 (m : Int)) = masksV (M.set v m) := by simp [masksV, List.map_set]
theorem ite_same {P Q : Prop} [Decidable P] [Decidable Q] (h : P ↔ Q) (a b : Int) : (if P then a else b) = if Q then a else b := by
  by_cases p : P
  · rw [if_pos p, if_pos (h.1 p)]
  · rw [if_neg p, if_neg (fun q => p (h.2 q))]
def LinksRel (w1 : World) (n : Nat) (L : List Link) (g : Nat) (i : Value) (wr : World) : Prop :=
  ∃ (k : Nat) (M : List Nat), k ≤ L.length ∧ i = .int .i64 k ∧ linksBad n L k = 0 ∧ Masks n (L.take k) M ∧ Row wr g 0 3 (masksV M) ∧ Below w1.heap.size w1 wr

set_option maxHeartbeats 6400000 in
set_option maxRecDepth 100000 in
theorem check_links (Ai Al : Option Addr) (m ci cl : Nat) (ids : List Int) (L : List Link) (w : World) (hi : RInts w (.slice Ai ids.length ci) ids) (hl : RowC w Al (linksV L)) (hm : L.length = m) (h16 : ¬ 16 < ids.length) (h48 : ¬ 48 < m) (hg : idsBad ids ids.length = 0) :
    Calls Try.prog 11 #[.agg #[.slice Ai ids.length ci, .slice Al m cl]] w fun e w' => e = .returned (.int .i64 (linksBad ids.length L L.length)) ∧ Below w.heap.size w w' := by
  have HI := Lib.hid hi
  have HL := Lib.hid hl
  have hb0 := below_alloc (Below.refl w.heap.size w) (.cells #[.slice Ai ids.length ci, .slice Al m cl] 25)
  have hn0 := Blk.new w #[.slice Ai ids.length ci, .slice Al m cl] 25
  have HB0 := Lib.hid hb0
  have HN0 := Lib.hid hn0
  have hd : decide ((16 : Int) < (ids.length : Int)) = false := by simp; omega
  have hd2 : decide ((48 : Int) < (m : Int)) = false := by simp; omega
  have HG := Lib.hid hg
  have hml : m ≤ L.length := by omega
  have hml2 : L.length ≤ m := by omega
  clear hi hl hm hb0 hn0 hg
  go_enter Try.func11, Try.ntmps11
  go_wp2_with fail
  generalize w.alloc (.cells #[.slice Ai ids.length ci, .slice Al m cl] 25) = w1 at *
  go_loopw [3, 4, 21] (fun _ _ i wr => (∃ k : Nat, k ≤ ids.length ∧ i = .int .i64 k) ∧ Below w1.heap.size w1 wr) (fun _ _ i _ => ids.length - (intOf i).toNat)
  case atStart => exact ⟨⟨0, Nat.zero_le _, rfl⟩, Below.refl _ _⟩
  case round =>
    obtain ⟨⟨k, hk, rfl⟩, hb1⟩ := hrel
    have HB1 := Lib.hid hb1
    have hs1 : w.heap.size ≤ w1.heap.size := HB0.out.size
    have HBR := Lib.hid (HB0.out.trans (hb1.mono hs1))
    have hn1 := blk_below HN0.out hb1
    have d0 : wr.cell? ⟨w.heap.size, 0, none⟩ = some (.slice Ai ids.length ci) := (Blk.cell hn1 0).trans rfl
    have d1 : wr.cell? ⟨w.heap.size, 1, none⟩ = some (.slice Al m cl) := (Blk.cell hn1 1).trans rfl
    have HN1 := Lib.hid hn1
    clear hb1 hn1
    by_cases hlt : k < ids.length
    · have hdk : decide ((k : Int) < (ids.length : Int)) = true := by simp; omega
      obtain ⟨A', ci', he, hc1, hc2, _, hcc⟩ := HI.out
      injection he with he1 he2 he3
      subst he1
      subst he3
      obtain ⟨b, off, rfl, hbl, hc⟩ := hcc (by omega)
      obtain ⟨x, hx⟩ : ∃ x, ids[k]? = some x := ⟨ids[k], List.getElem?_eq_getElem _⟩
      have hgd : ids.getD k 0 = x := by simp [List.getD, hx]
      have hcx : wr.cell? ⟨b, off + k, none⟩ = some (.int .i64 x) := pw_cell_below HBR.out (hc k x hx)
      have HCT := Lib.hid (contains_any (.slice (some ⟨b, off, none⟩) k ci) x (ids.take k) wr ((HI.out.below HBR.out (Nat.le_refl _)).take hk))
      have hgood := idsBad_zero HG.out k hlt
      unfold idBad at hgood
      rw [hgd] at hgood
      have hx01 : ¬ (x < 0 ∨ x > 65535) := fun h => by rw [if_pos h] at hgood; cases hgood
      rw [if_neg hx01] at hgood
      have hm : ¬ x ∈ ids.take k := fun h => by rw [if_pos h] at hgood; cases hgood
      have hdx : decide (x < 0) = false := by simp; omega
      have hdy : decide (x > 65535) = false := by simp; omega
      have hdy' : decide (65535 < x) = false := by simp; omega
      have hdm : decide (x ∈ ids.take k) = false := by simpa using hm
      clear hc hcc hx hgd hgood hm
      go_wp2_with (go_at_call 27; (refine (HCT.out).mono ?_); rintro e w5 ⟨rfl, rfl⟩)
      exact ⟨⟨⟨k + 1, by omega, rfl⟩, HB1.out⟩, by simp [intOf]; omega⟩
    · obtain rfl : k = ids.length := by omega
      have hdk : decide ((ids.length : Int) < (ids.length : Int)) = false := by simp
      have hmk := make_ints ids.length (by omega)
      have hlw : w.heap.size < wr.heap.size := Blk.lt HN1.out
      have HBA := Lib.hid (below_alloc (Below.refl wr.heap.size wr) (.cells (Array.replicate ids.length (Value.int .i64 0)) 3))
      have HNEW := Lib.hid (Blk.new wr (Array.replicate ids.length (Value.int .i64 0)) 3)
      have d1' : (wr.alloc (.cells (Array.replicate ids.length (Value.int .i64 0)) 3)).cell? ⟨w.heap.size, 1, none⟩ = some (.slice Al m cl) := pw_cell_below (below_alloc (Below.refl _ _) _) d1
      go_wp2_with fail
      clear hmk d1'
      obtain ⟨wx, hwx⟩ : ∃ wx, wx = wr.alloc (.cells (Array.replicate ids.length (Value.int .i64 0)) 3) := ⟨_, rfl⟩
      rw [← hwx]
      rw [← hwx] at HBA HNEW
      clear hwx
      have hrow0 : Row wx wr.heap.size 0 3 (masksV (List.replicate ids.length 0)) := (Row.of_blk HNEW.out).to (by simp [masksV])
      have HR0 := Lib.hid hrow0
      clear hrow0
      obtain ⟨w2, rfl⟩ : ∃ w2 : World, w2 = wr := ⟨_, rfl⟩
      go_loopw [46] (fun i w4 => LinksRel w2 ids.length L w2.heap.size i w4) (fun i _ => m - (intOf i).toNat)
      case atStart => exact ⟨0, _, Nat.zero_le _, rfl, rfl, masks_start _, HR0.out, HBA.out⟩
      case round =>
        obtain ⟨q, M, hq, rfl, hz, hM, hrow, hb2⟩ := hrel
        have HZ := Lib.hid hz
        have HM := Lib.hid hM
        have HROW := Lib.hid hrow
        have HB2 := Lib.hid hb2
        have HBX := Lib.hid (HBR.out.trans (hb2.mono (Nat.le_of_lt hlw)))
        have hsw : w2.heap.size ≤ wr.heap.size := hb2.size
        have hgw : w2.heap.size < wr.heap.size := hrow.lt
        have hn1 := blk_below HN1.out hb2
        have d0' : wr.cell? ⟨w.heap.size, 0, none⟩ = some (.slice Ai ids.length ci) := (Blk.cell hn1 0).trans rfl
        have HN2 := Lib.hid hn1
        clear hz hM hrow hb2 hn1 d0 d1
        by_cases hlt : q < m
        · have hdq : decide ((q : Int) < (m : Int)) = true := by simp; omega
          obtain ⟨b, off, rfl, hbl, hc⟩ := HL.out (by rw [linksV_len]; omega)
          obtain ⟨x, hx⟩ : ∃ x, L[q]? = some x := ⟨L[q]'(by omega), List.getElem?_eq_getElem _⟩
          have hstep : linksBad ids.length L (q + 1) = linkBad ids.length (L.take q) x := by
            show (if linksBad ids.length L q = 0 then linkBad ids.length (L.take q) (L.getD q ⟨0, 0, 0, 0, 0⟩) else _) = _
            rw [if_pos HZ.out, getD_at hx]
          have hbad : linkBad ids.length (L.take q) x ≠ 0 → linksBad ids.length L L.length = linkBad ids.length (L.take q) x := by
            intro h
            rw [← hstep] at h ⊢
            exact linksBad_keep h L.length (by omega)
          have htk : L.take (q + 1) = L.take q ++ [x] := by
            have hq2 : q < L.length := by omega
            rw [List.take_succ_eq_append_getElem hq2]
            have := (List.getElem?_eq_some_iff.1 hx).2
            rw [this]
          have cell : ∀ j u, (encL x)[j]? = some u → wr.cell? ⟨b, off + (q * 5 + j), none⟩ = some u := by
            intro j u hu
            have hj : j < 5 := by have := (List.getElem?_eq_some_iff.1 hu).1; simpa [encL] using this
            exact pw_cell_below HBX.out (hc (q * 5 + j) u ((linksV_get hx j hj).trans hu))
          obtain ⟨la, lpa, lb, lpb, lc⟩ := x
          have c0 : wr.cell? ⟨b, off + q * 5, none⟩ = some (.int .i64 la) := cell 0 _ rfl
          have c1 : wr.cell? ⟨b, off + q * 5 + 1, none⟩ = some (.int .i64 lpa) := by rw [Nat.add_assoc]; exact cell 1 _ rfl
          have c2 : wr.cell? ⟨b, off + q * 5 + 2, none⟩ = some (.int .i64 lb) := by rw [Nat.add_assoc]; exact cell 2 _ rfl
          have c3 : wr.cell? ⟨b, off + q * 5 + 3, none⟩ = some (.int .i64 lpb) := by rw [Nat.add_assoc]; exact cell 3 _ rfl
          have c4 : wr.cell? ⟨b, off + q * 5 + 4, none⟩ = some (.int .i64 lc) := by rw [Nat.add_assoc]; exact cell 4 _ rfl
          have hbx := below_alloc (Below.refl wr.heap.size wr) (.cells #[.int .i64 la, .int .i64 lpa, .int .i64 lb, .int .i64 lpb, .int .i64 lc] 37)
          have hex := Blk.new wr #[.int .i64 la, .int .i64 lpa, .int .i64 lb, .int .i64 lpb, .int .i64 lc] 37
          have HEX := Lib.hid hex
          have HBXX := Lib.hid hbx
          have HN3 := Lib.hid (blk_below HN2.out hbx)
          have HROW3 := Lib.hid (HROW.out.below hbx)
          have HBE := Lib.hid (HBX.out.trans (hbx.mono HBX.out.size))
          have HB3 := Lib.hid (HB2.out.trans (hbx.mono hsw))
          have HSTEP := Lib.hid hstep
          have HBAD := Lib.hid hbad
          have HTK := Lib.hid htk
          have HX := Lib.hid hx
          have hsx : wr.heap.size < (wr.alloc (.cells #[.int .i64 la, .int .i64 lpa, .int .i64 lb, .int .i64 lpb, .int .i64 lc] 37)).heap.size := hex.lt
          clear hc hx cell hstep hbad htk hbx hex d0'
          have hends : ∀ C : Int, linkBad ids.length (L.take q) ⟨la, lpa, lb, lpb, lc⟩ = C → C ≠ 0 → linksBad ids.length L L.length = C := fun C h h0 => by rw [HBAD.out (by rw [h]; exact h0), h]
          have HENDS := Lib.hid hends
          clear hends
          go_upto_region 15 with (fail)
          generalize wr.alloc (.cells #[.int .i64 la, .int .i64 lpa, .int .i64 lb, .int .i64 lpb, .int .i64 lc] 37) = wx at *
          have e0 : wx.cell? ⟨wr.heap.size, 0, none⟩ = some (.int .i64 la) := (Blk.cell HEX.out 0).trans rfl
          have e1 : wx.cell? ⟨wr.heap.size, 1, none⟩ = some (.int .i64 lpa) := (Blk.cell HEX.out 1).trans rfl
          have e2 : wx.cell? ⟨wr.heap.size, 2, none⟩ = some (.int .i64 lb) := (Blk.cell HEX.out 2).trans rfl
          have e3 : wx.cell? ⟨wr.heap.size, 3, none⟩ = some (.int .i64 lpb) := (Blk.cell HEX.out 3).trans rfl
          have e4 : wx.cell? ⟨wr.heap.size, 4, none⟩ = some (.int .i64 lc) := (Blk.cell HEX.out 4).trans rfl
          have d3 : wx.cell? ⟨w.heap.size, 0, none⟩ = some (.slice Ai ids.length ci) := (Blk.cell HN3.out 0).trans rfl
          clear c0 c1 c2 c3 c4
          have hbadret : ∀ C : Int, linkBad ids.length (L.take q) ⟨la, lpa, lb, lpb, lc⟩ = C → C ≠ 0 → Ending.returned (.int .i64 C) = Ending.returned (.int .i64 (linksBad ids.length L L.length)) ∧ Below w.heap.size w wx :=
            fun C h h0 => ⟨by rw [HENDS.out C h h0], HBE.out⟩
          have HRET := Lib.hid hbadret
          clear hbadret
          by_cases k1 : la < 0 ∨ (ids.length : Int) ≤ la ∨ lb < 0 ∨ (ids.length : Int) ≤ lb
          · have hcode : linkBad ids.length (L.take q) ⟨la, lpa, lb, lpb, lc⟩ = 1 := by unfold linkBad; rw [if_pos k1]
            have HC := Lib.hid (HRET.out 1 hcode (by decide))
            clear hcode
            rcases k1 with h | h | h | h
            · go_wp2_with fail
              go_ret
              exact HC.out
            · have h0 : 0 ≤ la := by omega
              go_wp2_with fail
              go_ret
              exact HC.out
            · by_cases h1 : la < 0
              · go_wp2_with fail
                go_ret
                exact HC.out
              · by_cases h2 : (ids.length : Int) ≤ la
                · go_wp2_with fail
                  go_ret
                  exact HC.out
                · go_wp2_with fail
                  go_ret
                  exact HC.out
            · by_cases h1 : la < 0
              · go_wp2_with fail
                go_ret
                exact HC.out
              · by_cases h2 : (ids.length : Int) ≤ la
                · go_wp2_with fail
                  go_ret
                  exact HC.out
                · have h0 : 0 ≤ lb := by omega
                  go_wp2_with fail
                  go_ret
                  exact HC.out
          · obtain ⟨ai, rfl⟩ := Int.eq_ofNat_of_zero_le (show 0 ≤ la by omega)
            obtain ⟨bi, rfl⟩ := Int.eq_ofNat_of_zero_le (show 0 ≤ lb by omega)
            have hai : ai < ids.length := by omega
            have hbi : bi < ids.length := by omega
            have t1 : decide ((ids.length : Int) ≤ (ai : Int)) = false := by simp; omega
            have t2 : decide ((ids.length : Int) ≤ (bi : Int)) = false := by simp; omega
            go_upto_region 17 with (fail)
            by_cases k2 : lpa < 0 ∨ 8 ≤ lpa ∨ lpb < 0 ∨ 8 ≤ lpb ∨ lc < 1 ∨ 1000 < lc
            · have hcode : linkBad ids.length (L.take q) ⟨(ai : Int), lpa, (bi : Int), lpb, lc⟩ = 10 := by unfold linkBad; rw [if_neg k1, if_pos k2]
              have HC := Lib.hid (HRET.out 10 hcode (by decide))
              clear hcode k1
              by_cases h1 : lpa < 0
              · go_wp2_with fail
                go_ret
                exact HC.out
              · by_cases h2 : 8 ≤ lpa
                · go_wp2_with fail
                  go_ret
                  exact HC.out
                · by_cases h3 : lpb < 0
                  · go_wp2_with fail
                    go_ret
                    exact HC.out
                  · by_cases h4 : 8 ≤ lpb
                    · go_wp2_with fail
                      go_ret
                      exact HC.out
                    · by_cases h5 : lc < 1
                      · go_wp2_with fail
                        go_ret
                        exact HC.out
                      · have h6 : 1000 < lc := by omega
                        go_wp2_with fail
                        go_ret
                        exact HC.out
            · obtain ⟨pi, rfl⟩ := Int.eq_ofNat_of_zero_le (show 0 ≤ lpa by omega)
              obtain ⟨ri, rfl⟩ := Int.eq_ofNat_of_zero_le (show 0 ≤ lpb by omega)
              have hpi : pi < 8 := by omega
              have hri : ri < 8 := by omega
              have hc1 : 1 ≤ lc := by omega
              have hc2 : lc ≤ 1000 := by omega
              go_upto_region 19 with (fail)
              by_cases k3 : (ai : Int) = (bi : Int)
              · have hcode : linkBad ids.length (L.take q) ⟨(ai : Int), (pi : Int), (bi : Int), (ri : Int), lc⟩ = 12 := by unfold linkBad; rw [if_neg k1, if_neg k2, if_pos k3]
                have HC := Lib.hid (HRET.out 12 hcode (by decide))
                have t3 : ((ai : Int) == (bi : Int)) = true := by simpa using k3
                clear hcode k1 k2 k3
                go_wp2_with fail
                go_ret
                exact HC.out
              · have t3 : ((ai : Int) == (bi : Int)) = false := by simpa using k3
                have hne : ai ≠ bi := by omega
                go_upto_region 21 with (fail)
                have hlenM := HM.out.len
                have hma := HM.out.lt ai hai
                have hmb := HM.out.lt bi hbi
                have hka := HM.out.bit ai pi hai hpi
                have hkb := HM.out.bit bi ri hbi hri
                have hra := or_range hma hpi
                have m0 := HROW3.out.cell (masksV_get (M := M) (v := ai) (by omega))
                have m1 := HROW3.out.cell (masksV_get (M := M) (v := bi) (by omega))
                rw [Nat.zero_add] at m0 m1
                have hcode : linkBad ids.length (L.take q) ⟨(ai : Int), (pi : Int), (bi : Int), (ri : Int), lc⟩ = if bitB (M.getD ai 0) pi = 1 ∨ bitB (M.getD bi 0) ri = 1 then 6 else 0 := by
                  unfold linkBad
                  rw [if_neg k1, if_neg k2, if_neg k3]
                  exact ite_same (or_congr hka.symm hkb.symm) _ _
                have HMA := Lib.hid (show Masks ids.length (L.take (q + 1)) (mark M ⟨(ai : Int), (pi : Int), (bi : Int), (ri : Int), lc⟩) by
                  rw [HTK.out]
                  exact masks_mark HM.out ⟨by simp only; omega, by simp only; omega, by simp only; omega, by simp only; omega, by simp only; omega, k3⟩)
                have HMK := Lib.hid (show mark M ⟨(ai : Int), (pi : Int), (bi : Int), (ri : Int), lc⟩ = (M.set ai (orB (M.getD ai 0) pi).toNat).set bi (orB (M.getD bi 0) ri).toNat by
                  unfold mark mark1
                  rw [getD_set_ne _ _ _ _ _ (show (bi : Int).toNat ≠ (ai : Int).toNat by omega)]
                  rfl)
                obtain ⟨ma, hma2⟩ : ∃ ma, M.getD ai 0 = ma := ⟨_, rfl⟩
                obtain ⟨mb, hmb2⟩ : ∃ mb, M.getD bi 0 = mb := ⟨_, rfl⟩
                rw [hma2] at hcode m0 hma hra HMK
                rw [hmb2] at hcode m1 hmb HMK
                have HCODE := Lib.hid hcode
                have HMA2 := Lib.hid hma2
                have HMB2 := Lib.hid hmb2
                have i0 : (0 : Int) ≤ (ai : Int) := by omega
                have i1 : (ai : Int) < (ids.length : Int) := by omega
                have i2 : (0 : Int) ≤ (bi : Int) := by omega
                have i3 : (bi : Int) < (ids.length : Int) := by omega
                have i4 : (0 : Int) ≤ (pi : Int) := by omega
                have i5 : (pi : Int) ≤ 64 := by omega
                have i6 : (0 : Int) ≤ (ri : Int) := by omega
                have i7 : (ri : Int) ≤ 64 := by omega
                clear hlenM hka hkb hcode k1 k2 k3 hma2 hmb2
                by_cases b0 : bitB ma pi = 1
                · have HC := Lib.hid (HRET.out 6 (by rw [HCODE.out, if_pos (.inl b0)]) (by decide))
                  have t4 : (bits BinOp.and IntKind.i64 ((ma : Int) / 2 ^ pi) 1 == 1) = true := by unfold bitB at b0; rw [b0]; rfl
                  clear b0
                  go_quiet (fail)
                  go_wp2_with fail
                  go_ret
                  exact ⟨HC.out.1, pw_below_drewN HC.out.2 nq⟩
                · have t4 : (bits BinOp.and IntKind.i64 ((ma : Int) / 2 ^ pi) 1 == 1) = false := by unfold bitB at b0; simpa using b0
                  by_cases b1 : bitB mb ri = 1
                  · have HC := Lib.hid (HRET.out 6 (by rw [HCODE.out, if_pos (.inr b1)]) (by decide))
                    have t5 : (bits BinOp.and IntKind.i64 ((mb : Int) / 2 ^ ri) 1 == 1) = true := by unfold bitB at b1; rw [b1]; rfl
                    clear b0 b1
                    go_quiet (fail)
                    go_wp2_with fail
                    go_ret
                    exact ⟨HC.out.1, pw_below_drewN HC.out.2 nq⟩
                  · have t5 : (bits BinOp.and IntKind.i64 ((mb : Int) / 2 ^ ri) 1 == 1) = false := by unfold bitB at b1; simpa using b1
                    have HOK := Lib.hid (show linksBad ids.length L (q + 1) = 0 by rw [HSTEP.out, HCODE.out, if_neg (by rintro (h | h); exact b0 h; exact b1 h)])
                    clear b0 b1
                    go_quiet (fail)
                    clear t4 t5
                    go_upto_region 23 with (fail)
                    obtain ⟨wy, hwy⟩ : ∃ wy, wy = wx.drewN nq := ⟨_, rfl⟩
                    have HEX4 := Lib.hid (show Blk wy wr.heap.size #[.int .i64 (ai : Int), .int .i64 (pi : Int), .int .i64 (bi : Int), .int .i64 (ri : Int), .int .i64 lc] 37 by rw [hwy]; exact HEX.out.drewN nq)
                    have HROW4 := Lib.hid (show Row wy w2.heap.size 0 3 (masksV M) by rw [hwy]; exact HROW3.out.drewN nq)
                    have HB4 := Lib.hid (show Below w2.heap.size w2 wy by rw [hwy]; exact pw_below_drewN HB3.out nq)
                    rw [← hwy]
                    clear hwy HEX HROW3 HB3 HBE HN3 e0 e1 e2 e3 e4 d3 m0 m1 HRET HENDS HBAD HCODE
                    have e0 : wy.cell? ⟨wr.heap.size, 0, none⟩ = some (.int .i64 (ai : Int)) := (Blk.cell HEX4.out 0).trans rfl
                    have e1 : wy.cell? ⟨wr.heap.size, 1, none⟩ = some (.int .i64 (pi : Int)) := (Blk.cell HEX4.out 1).trans rfl
                    have m0 := HROW4.out.cell (masksV_get (M := M) (v := ai) (by have := HM.out.len; omega))
                    rw [Nat.zero_add, HMA2.out] at m0
                    have f0 := HROW4.out.frozen ai
                    have hsh : IntKind.i64.wrap (2 ^ pi) = 2 ^ pi := by
                      rcases (show pi = 0 ∨ pi = 1 ∨ pi = 2 ∨ pi = 3 ∨ pi = 4 ∨ pi = 5 ∨ pi = 6 ∨ pi = 7 by omega) with h | h | h | h | h | h | h | h <;> rw [h] <;> decide
                    obtain ⟨na, hna⟩ : ∃ na : Nat, (orB ma pi).toNat = na := ⟨_, rfl⟩
                    have hor : bits BinOp.or IntKind.i64 (ma : Int) (2 ^ pi) = (na : Int) := by
                      have : 0 ≤ orB ma pi := hra.1
                      rw [← hna, Int.toNat_of_nonneg this]
                      rfl
                    have HNA := Lib.hid hna
                    clear hna
                    clear hra
                    refine wp_region_still_tail 10 (by kernel_rfl) (by kernel_rfl) ?_
                    simp only [List.take_succ_cons, List.take_zero, List.drop_succ_cons, List.drop_zero]
                    repeat still_step
                    refine wpStill_nil ?_
                    change wpList _ _ _ _ _ wy.drew
                    go_wp2_with fail
                    clear hsh hor e0 e1 m0 f0
                    obtain ⟨wz, hwz⟩ : ∃ wz, wz = (wy.setCell ⟨w2.heap.size, ai, none⟩ (.int .i64 (na : Int))).drew := ⟨_, rfl⟩
                    have hne2 : wr.heap.size ≠ w2.heap.size := by omega
                    have HEX5 := Lib.hid (show Blk wz wr.heap.size #[.int .i64 (ai : Int), .int .i64 (pi : Int), .int .i64 (bi : Int), .int .i64 (ri : Int), .int .i64 lc] 37 by rw [hwz]; exact (HEX4.out.far hne2 _).drew)
                    have HROW5 := Lib.hid (show Row wz w2.heap.size 0 3 (masksV (M.set ai na)) by
                      rw [hwz, ← masksV_set]
                      have := HROW4.out.set ai (.int .i64 (na : Int))
                      rw [Nat.zero_add] at this
                      exact this.drew)
                    have HB5 := Lib.hid (show Below w2.heap.size w2 wz by rw [hwz]; exact below_drew (HB4.out.setCell (Nat.le_refl _) _))
                    rw [← hwz]
                    clear hwz HEX4 HROW4 HB4
                    have e2 : wz.cell? ⟨wr.heap.size, 2, none⟩ = some (.int .i64 (bi : Int)) := (Blk.cell HEX5.out 2).trans rfl
                    have e3 : wz.cell? ⟨wr.heap.size, 3, none⟩ = some (.int .i64 (ri : Int)) := (Blk.cell HEX5.out 3).trans rfl
                    have m1 := HROW5.out.cell (masksV_get (M := M.set ai na) (v := bi) (by have := HM.out.len; simp; omega))
                    rw [Nat.zero_add, getD_set_ne _ _ _ _ _ (Ne.symm hne), HMB2.out] at m1
                    have f1 := HROW5.out.frozen bi
                    have hsh : IntKind.i64.wrap (2 ^ ri) = 2 ^ ri := by
                      rcases (show ri = 0 ∨ ri = 1 ∨ ri = 2 ∨ ri = 3 ∨ ri = 4 ∨ ri = 5 ∨ ri = 6 ∨ ri = 7 by omega) with h | h | h | h | h | h | h | h <;> rw [h] <;> decide
                    obtain ⟨nb, hnb⟩ : ∃ nb : Nat, (orB mb ri).toNat = nb := ⟨_, rfl⟩
                    have hor : bits BinOp.or IntKind.i64 (mb : Int) (2 ^ ri) = (nb : Int) := by
                      have : 0 ≤ orB mb ri := (or_range hmb hri).1
                      rw [← hnb, Int.toNat_of_nonneg this]
                      rfl
                    have HNB := Lib.hid hnb
                    clear hnb
                    refine wp_region_still_tail 10 (by kernel_rfl) (by kernel_rfl) ?_
                    simp only [List.take_succ_cons, List.take_zero, List.drop_succ_cons, List.drop_zero]
                    repeat still_step
                    refine wpStill_nil ?_
                    change wpList _ _ _ _ _ wz.drew
                    go_wp2_with fail
                    refine ⟨⟨q + 1, mark M ⟨(ai : Int), (pi : Int), (bi : Int), (ri : Int), lc⟩, by omega, by go_num, HOK.out, HMA.out, ?_, ?_⟩, by simp [intOf]; omega⟩
                    · rw [HMK.out, HNA.out, HNB.out, ← masksV_set]
                      have := HROW5.out.set bi (.int .i64 (nb : Int))
                      rw [Nat.zero_add] at this
                      exact this.drew
                    · exact below_drew (HB5.out.setCell (Nat.le_refl _) _)
        · obtain rfl : q = m := by omega
          have hdq : decide ((q : Int) < (q : Int)) = false := by simp
          have hfin : linksBad ids.length L L.length = 0 := by
            have := HZ.out
            rwa [show q = L.length by omega] at this
          have HFIN := Lib.hid hfin
          clear hfin
          go_wp2_with fail
          go_ret
          exact ⟨by rw [HFIN.out]; rfl, HBX.out⟩
end Go.Proofs.Ytcpekijgjnnfoaa.Sp
