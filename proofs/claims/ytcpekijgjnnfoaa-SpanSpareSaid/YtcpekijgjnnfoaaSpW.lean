/-
  Tree: its contract.
-/
import Derived.Test.YtcpekijgjnnfoaaSpE
import Derived.Test.YtcpekijgjnnfoaaSpH
import Derived.Test.YtcpekijgjnnfoaaSpV
import Derived.Test.YtcpekijgjnnfoaaSpT4
import Derived.IntWalk
import Derived.RegionTactic
import Derived.BigRegion
namespace Go.Proofs.Ytcpekijgjnnfoaa.Sp
open Go.RowKit Go.Proofs.YtcpekijgjnnfoaaW.PrintWords Go.Proofs.Ytcpekijgjnnfoaa.Xm Go.Proofs.Ytcpekijgjnnfoaa.Ints Go.Proofs.Ytcpekijgjnnfoaa.Rq Go.Sort

theorem sortedP_of {E : List End} (h : SortedE E) : SortedP E := by
  refine List.Pairwise.imp ?_ h
  intro a b hab
  rw [ltE] at hab
  simpa using hab
/-- A row that need not be there if it is empty. -/
def RowN (n : Nat) (w : World) (b off : Nat) (e : TypeId) (xs : List Value) : Prop := 0 < n → Row w b off e xs
def TreeOk (w w' : World) (ids : List Int) (L : List Link) (e : Ending) : Prop :=
  ∃ E A c, Ends L E ∧ e = .returned (.tuple #[.slice A (statesL ids (treeN ids E) E).length c, .int .i64 0]) ∧ QRow w' w.heap.size 32 3 (.slice A (statesL ids (treeN ids E) E).length c) (statesL ids (treeN ids E) E).length (portsV (statesL ids (treeN ids E) E)) ∧ Below w.heap.size w w'
set_option maxHeartbeats 800000 in
theorem tree_bad (Ai Al : Option Addr) (ci cl : Nat) (ids : List Int) (L : List Link) (w : World) (hi : RInts w (.slice Ai ids.length ci) ids) (hl : RowC w Al (linksV L)) (hc : checkCode ids L ≠ 0) :
    Calls Try.prog 9 #[.agg #[.slice Ai ids.length ci, .slice Al L.length cl]] w fun e w' => e = .returned (.tuple #[.slice none 0 0, .int .i64 (checkCode ids L)]) ∧ Below w.heap.size w w' := by
  have hb0 := below_alloc (Below.refl w.heap.size w) (.cells #[.slice Ai ids.length ci, .slice Al L.length cl] 25)
  have HCK := Lib.hid (check_any Ai Al ci cl ids L (w.alloc (.cells #[.slice Ai ids.length ci, .slice Al L.length cl] 25)) (hi.below hb0 (Nat.le_refl _)) (hl.below hb0))
  have HB0 := Lib.hid hb0
  have ht : (checkCode ids L == 0) = false := by simpa using hc
  have ht2 : (checkCode ids L != 0) = true := by simpa using hc
  obtain ⟨C, hC⟩ : ∃ C, checkCode ids L = C := ⟨_, rfl⟩
  rw [hC] at HCK ht ht2 ⊢
  clear hi hl hc hC hb0
  go_enter Try.func9, Try.ntmps9
  go_wp2_with fail
  refine HCK.out.mono ?_
  rintro e w2 ⟨rfl, hb2⟩
  have HF := Lib.hid (HB0.out.trans (hb2.mono HB0.out.size))
  clear hb2
  go_wp2_with fail
  go_ret2
  exact ⟨rfl, HF.out⟩

def Rel1 (w3 : World) (ids : List Int) (E : List End) (bn off : Nat) (i : Value) (wr : World) : Prop :=
  ∃ j : Nat, j ≤ ids.length ∧ i = .int .i64 j ∧ RowN ids.length wr bn off 58 (bels (passes E j (startN ids))) ∧ Below w3.heap.size w3 wr
def Rel2 (w3 : World) (ids : List Int) (E : List End) (N : List Bel) (bn off : Nat) (i : Value) (wr : World) : Prop :=
  ∃ k : Nat, k ≤ E.length ∧ i = .int .i64 k ∧ RowN ids.length wr bn off 58 (bels ((E.take k).foldl relax1 N)) ∧ Below w3.heap.size w3 wr
def Rel3 (w3 : World) (ids : List Int) (E : List End) (P : List Bel) (bn off : Nat) (i : Value) (wr : World) : Prop :=
  ∃ j : Nat, j ≤ ids.length ∧ i = .int .i64 j ∧ RowN ids.length wr bn off 58 (bels (portsN ids E P j)) ∧ Below w3.heap.size w3 wr
def Rel4 (w3 : World) (ids : List Int) (E : List End) (P : List Bel) (j : Nat) (bn off gb : Nat) (i : Value) (wr : World) : Prop :=
  ∃ k : Nat, k ≤ E.length ∧ i = .int .i64 k ∧ Row wr bn off 58 (bels ((E.take k).foldl (portOne ids j) (P, ⟨0, 0, 0, 0⟩)).1) ∧ Blk wr gb (encV ((E.take k).foldl (portOne ids j) (P, ⟨0, 0, 0, 0⟩)).2).toArray 60 ∧ Below w3.heap.size w3 wr

set_option maxHeartbeats 12800000 in
set_option maxRecDepth 100000 in
theorem tree_ok (Ai Al : Option Addr) (ci cl : Nat) (ids : List Int) (L : List Link) (w : World) (hi : RInts w (.slice Ai ids.length ci) ids) (hl : RowC w Al (linksV L)) (g : NetOk ids L) :
    Calls Try.prog 9 #[.agg #[.slice Ai ids.length ci, .slice Al L.length cl]] w fun e w' => TreeOk w w' ids L e := by
  have hb0 := below_alloc (Below.refl w.heap.size w) (.cells #[.slice Ai ids.length ci, .slice Al L.length cl] 25)
  have HBOX := Lib.hid (Blk.new w #[.slice Ai ids.length ci, .slice Al L.length cl] 25)
  have hck := check_any Ai Al ci cl ids L (w.alloc (.cells #[.slice Ai ids.length ci, .slice Al L.length cl] 25)) (hi.below hb0 (Nat.le_refl _)) (hl.below hb0)
  rw [check_ok.2 g] at hck
  have HCK := Lib.hid hck
  have HB0 := Lib.hid hb0
  have HI := Lib.hid (RowC.of_rints hi)
  have HL := Lib.hid hl
  have G := Lib.hid g
  have hn16 := g.n16
  have hl48 := g.l48
  clear hi hl g hck hb0
  go_enter Try.func9, Try.ntmps9
  go_wp2_with fail
  generalize w.alloc (.cells #[.slice Ai ids.length ci, .slice Al L.length cl] 25) = w1 at *
  refine HCK.out.mono ?_
  rintro e w2 ⟨rfl, hb2⟩
  have HB2 := Lib.hid (HB0.out.trans (hb2.mono HB0.out.size))
  have HBOX2 := Lib.hid (blk_below HBOX.out hb2)
  clear hb2 HCK
  have c0 : w2.cell? ⟨w.heap.size, 0, none⟩ = some (.slice Ai ids.length ci) := (Blk.cell HBOX2.out 0).trans rfl
  have c1 : w2.cell? ⟨w.heap.size, 1, none⟩ = some (.slice Al L.length cl) := (Blk.cell HBOX2.out 1).trans rfl
  go_wp2_with fail
  refine (ends_any Ai Al ids.length ci cl L w2 (HL.out.below HB2.out) (by omega)).mono ?_
  rintro e w3 ⟨Ae, ce, E, rfl, hperm, hsort, hE, hb3⟩
  have HEN := Lib.hid (show Ends L E from ⟨hperm, sortedP_of hsort⟩)
  have hlen : E.length = L.length * 2 := by rw [hperm.length_eq, rawE_len]
  have HE := Lib.hid hE
  have HB3 := Lib.hid (HB2.out.trans (hb3.mono HB2.out.size))
  have HBOX3 := Lib.hid (blk_below HBOX2.out hb3)
  have he96 : E.length ≤ 96 := by omega
  rw [← hlen]
  clear hb3 c0 c1 hperm hsort hE hlen
  have c0 : w3.cell? ⟨w.heap.size, 0, none⟩ = some (.slice Ai ids.length ci) := (Blk.cell HBOX3.out 0).trans rfl
  have c1 : w3.cell? ⟨w.heap.size, 1, none⟩ = some (.slice Al L.length cl) := (Blk.cell HBOX3.out 1).trans rfl
  go_wp2_with fail
  refine (start_any Ai Al L.length ci cl ids w3 (HI.out.below HB3.out) (by omega)).mono ?_
  rintro e w4 ⟨v, rfl, hq, hb4⟩
  obtain ⟨An, cn, rfl, -⟩ := q_slice hq
  have HNET := Lib.hid (HEN.out.net G.out)
  have hrow : ∃ bn off, 0 < ids.length → An = some ⟨bn, off, none⟩ ∧ w3.heap.size ≤ bn ∧ Row w4 bn off 58 (bels (startN ids)) := by
    by_cases h0 : 0 < ids.length
    · obtain ⟨bn, off, h1, h2, h3⟩ := Row.of_q hq h0
      exact ⟨bn, off, fun _ => ⟨h1, h2, h3⟩⟩
    · exact ⟨0, 0, fun h => absurd h h0⟩
  obtain ⟨bn, off, hrow⟩ := hrow
  have HA := Lib.hid (show 0 < ids.length → An = some ⟨bn, off, none⟩ ∧ w3.heap.size ≤ bn from fun h => ⟨(hrow h).1, (hrow h).2.1⟩)
  have HR0 := Lib.hid (show RowN ids.length w4 bn off 58 (bels (startN ids)) from fun h => (hrow h).2.2)
  have HB4 := Lib.hid hb4
  have HCE := Lib.hid (show ∀ x ∈ E, 1 ≤ x.cost ∧ x.cost ≤ 1000 from fun x hx => (HEN.out.ok G.out hx).cost)
  have d0 : w4.cell? ⟨w.heap.size, 0, none⟩ = some (.slice Ai ids.length ci) := pw_cell_below hb4 c0
  have d1 : w4.cell? ⟨w.heap.size, 1, none⟩ = some (.slice Al L.length cl) := pw_cell_below hb4 c1
  clear hq hb4 hrow c0 c1
  go_wp2_with fail
  clear d0 d1
  go_loopw [27] (fun i wr => Rel1 w3 ids E bn off i wr) (fun i _ => ids.length - (intOf i).toNat)
  case atStart => exact ⟨0, Nat.zero_le _, rfl, HR0.out, HB4.out⟩
  case round =>
    obtain ⟨j, hj, rfl, hr, hb⟩ := hrel
    by_cases hlt : j < ids.length
    · have hd : decide ((j : Int) < (ids.length : Int)) = true := by simp; omega
      have h0 : 0 < ids.length := by omega
      obtain ⟨rfl, hbn⟩ := HA.out h0
      obtain ⟨N1, hN1⟩ : ∃ N1, passes E j (startN ids) = N1 := ⟨_, rfl⟩
      rw [hN1] at hr
      have HN1 := Lib.hid (show E.foldl relax1 N1 = passes E (j + 1) (startN ids) by rw [← hN1]; rfl)
      have HBD := Lib.hid (show Bnd (96000 * (j : Int)) N1 by rw [← hN1]; exact passes_bnd HCE.out he96 (bnd_start ids) j)
      have HNL1 := Lib.hid (show N1.length = ids.length by rw [← hN1, passes_len, startN_len])
      have HR1 := Lib.hid hr
      have HB1 := Lib.hid hb
      clear hN1 hr hb
      go_wp2_with fail
      obtain ⟨wo, rfl⟩ : ∃ wo : World, wo = wr := ⟨_, rfl⟩
      go_loopw [31] (fun i wr => Rel2 w3 ids E N1 bn off i wr) (fun i _ => E.length - (intOf i).toNat)
      case atStart => exact ⟨0, Nat.zero_le _, rfl, HR1.out, HB1.out⟩
      case round =>
        obtain ⟨k, hk, rfl, hr, hb⟩ := hrel
        by_cases hlt2 : k < E.length
        · have hd2 : decide ((k : Int) < (E.length : Int)) = true := by simp; omega
          obtain ⟨N2, hN2⟩ : ∃ N2, (E.take k).foldl relax1 N1 = N2 := ⟨_, rfl⟩
          rw [hN2] at hr
          have hbd : Bnd (96000 * (j : Int) + 1000 * (k : Int)) N2 := by
            rw [← hN2]
            refine bnd_mono (fold_relax_bnd (by omega) _ _ (fun y hy => HCE.out y (List.mem_of_mem_take hy)) HBD.out) ?_
            have := List.length_take_le k E
            omega
          have hnl : N2.length = ids.length := by rw [← hN2, fold_relax_len, HNL1.out]
          have HBD2 := Lib.hid hbd
          have HN2 := Lib.hid hN2
          have HNL := Lib.hid hnl
          have HRR := Lib.hid (hr h0)
          have HBB := Lib.hid hb
          clear hr hb hN2 hbd hnl
          obtain ⟨b, o, rfl, hbl, hc⟩ := HE.out (by rw [endsV_len]; omega)
          obtain ⟨x, hx⟩ : ∃ x, E[k]? = some x := ⟨E[k], List.getElem?_eq_getElem _⟩
          have hxm := List.mem_of_getElem? hx
          obtain ⟨n1, n2, n3, n4⟩ := HNET.out.inn x hxm
          obtain ⟨m1, m2⟩ := HCE.out x hxm
          have htk : E.take (k + 1) = E.take k ++ [x] := by
            rw [List.take_succ_eq_append_getElem hlt2]
            have := (List.getElem?_eq_some_iff.1 hx).2
            rw [this]
          have cell : ∀ j u, (encE x)[j]? = some u → wr.cell? ⟨b, o + (k * 5 + j), none⟩ = some u := by
            intro j u hu
            have hj : j < 5 := by have := (List.getElem?_eq_some_iff.1 hu).1; simpa [encE] using this
            exact pw_cell_below HBB.out (hc (k * 5 + j) u ((endsV_get hx j hj).trans hu))
          obtain ⟨xb, xp, yb, yp, xc⟩ := x
          simp only at n1 n2 n3 n4 m1 m2
          obtain ⟨bi, rfl⟩ := Int.eq_ofNat_of_zero_le n1
          obtain ⟨pi, rfl⟩ := Int.eq_ofNat_of_zero_le n3
          have hbi : bi < ids.length := by omega
          have hpi : pi < ids.length := by omega
          have c0 : wr.cell? ⟨b, o + k * 5, none⟩ = some (.int .i64 (bi : Int)) := cell 0 _ rfl
          have c1 : wr.cell? ⟨b, o + k * 5 + 1, none⟩ = some (.int .i64 xp) := by rw [Nat.add_assoc]; exact cell 1 _ rfl
          have c2 : wr.cell? ⟨b, o + k * 5 + 2, none⟩ = some (.int .i64 (pi : Int)) := by rw [Nat.add_assoc]; exact cell 2 _ rfl
          have c3 : wr.cell? ⟨b, o + k * 5 + 3, none⟩ = some (.int .i64 yp) := by rw [Nat.add_assoc]; exact cell 3 _ rfl
          have c4 : wr.cell? ⟨b, o + k * 5 + 4, none⟩ = some (.int .i64 xc) := by rw [Nat.add_assoc]; exact cell 4 _ rfl
          have hbx := below_alloc (Below.refl wr.heap.size wr) (.cells #[.int .i64 (bi : Int), .int .i64 xp, .int .i64 (pi : Int), .int .i64 yp, .int .i64 xc] 56)
          have HEX := Lib.hid (Blk.new wr #[.int .i64 (bi : Int), .int .i64 xp, .int .i64 (pi : Int), .int .i64 yp, .int .i64 xc] 56)
          have HRX := Lib.hid (HRR.out.below hbx)
          have HBX := Lib.hid (HBB.out.trans (hbx.mono HBB.out.size))
          have hbr : bn < wr.heap.size := HRR.out.lt
          have HTK := Lib.hid htk
          clear hc hx hxm cell htk n1 n2 n3 n4

          go_upto_region 11 with (fail)
          generalize wr.alloc (.cells #[.int .i64 (bi : Int), .int .i64 xp, .int .i64 (pi : Int), .int .i64 yp, .int .i64 xc] 56) = wx at *
          clear c0 c1 c2 c3 c4

          obtain ⟨P, hP⟩ : ∃ P, N2[pi]? = some P := ⟨N2[pi]'(by have := HNL.out; omega), List.getElem?_eq_getElem _⟩
          obtain ⟨B, hB⟩ : ∃ B, N2[bi]? = some B := ⟨N2[bi]'(by have := HNL.out; omega), List.getElem?_eq_getElem _⟩
          have hbp : belAt N2 (pi : Int) = P := by simp [belAt, List.getD_eq_getElem?_getD, hP]
          have hbb : belAt N2 (bi : Int) = B := by simp [belAt, List.getD_eq_getElem?_getD, hB]
          have hpc := HBD2.out P (List.mem_of_getElem? hP)
          obtain ⟨pr, pc, pp⟩ := P
          obtain ⟨br, bc, bp⟩ := B
          obtain ⟨hpc1, hpc2⟩ := hpc
          simp only at hpc1 hpc2
          have e2 : wx.cell? ⟨wr.heap.size, 2, none⟩ = some (.int .i64 (pi : Int)) := (Blk.cell HEX.out 2).trans rfl
          have p0 : wx.cell? ⟨bn, off + pi * 3, none⟩ = some (.int .i64 pr) := HRX.out.cell ((bels_get hP 0 (by omega)).trans rfl)
          have p1 : wx.cell? ⟨bn, off + pi * 3 + 1, none⟩ = some (.int .i64 pc) := by rw [Nat.add_assoc]; exact HRX.out.cell ((bels_get hP 1 (by omega)).trans rfl)
          have p2 : wx.cell? ⟨bn, off + pi * 3 + 2, none⟩ = some (.int .i64 pp) := by rw [Nat.add_assoc]; exact HRX.out.cell ((bels_get hP 2 (by omega)).trans rfl)
          have i0 : (0 : Int) ≤ (pi : Int) := by omega
          have i1 : (pi : Int) < (ids.length : Int) := by omega
          have i2 : (0 : Int) ≤ (bi : Int) := by omega
          have i3 : (bi : Int) < (ids.length : Int) := by omega
          have HBP := Lib.hid hbp
          have HBB2 := Lib.hid hbb
          have HBEL := Lib.hid hB
          have hbp1 := below_alloc (Below.refl wx.heap.size wx) (.cells #[.int .i64 pr, .int .i64 pc, .int .i64 pp] 58)
          have HPY := Lib.hid (Blk.new wx #[.int .i64 pr, .int .i64 pc, .int .i64 pp] 58)
          have HEXY := Lib.hid (blk_below HEX.out hbp1)
          have HRY := Lib.hid (HRX.out.below hbp1)
          have HBY := Lib.hid (HBX.out.trans (hbp1.mono HBX.out.size))
          clear hP hB hbp hbb hbp1 HEX HRX HBX
          go_upto_region 12 with (fail)
          generalize wx.alloc (.cells #[.int .i64 pr, .int .i64 pc, .int .i64 pp] 58) = wy at *
          clear e2 p0 p1 p2
          have e0 : wy.cell? ⟨wr.heap.size, 0, none⟩ = some (.int .i64 (bi : Int)) := (Blk.cell HEXY.out 0).trans rfl
          have e4 : wy.cell? ⟨wr.heap.size, 4, none⟩ = some (.int .i64 xc) := (Blk.cell HEXY.out 4).trans rfl
          have q0 : wy.cell? ⟨wx.heap.size, 0, none⟩ = some (.int .i64 pr) := (Blk.cell HPY.out 0).trans rfl
          have q1 : wy.cell? ⟨wx.heap.size, 1, none⟩ = some (.int .i64 pc) := (Blk.cell HPY.out 1).trans rfl
          have a0 : wy.cell? ⟨bn, off + bi * 3, none⟩ = some (.int .i64 br) := HRY.out.cell ((bels_get HBEL.out 0 (by omega)).trans rfl)
          have a1 : wy.cell? ⟨bn, off + bi * 3 + 1, none⟩ = some (.int .i64 bc) := by rw [Nat.add_assoc]; exact HRY.out.cell ((bels_get HBEL.out 1 (by omega)).trans rfl)
          have w0 : IntKind.i64.wrap (pc + xc) = pc + xc := IntWalk.i64_in _ (by omega)
          have hre : relax1 N2 ⟨(bi : Int), xp, (pi : Int), yp, xc⟩ = if pr < br ∨ (pr = br ∧ pc + xc < bc) then N2.set bi ⟨pr, pc + xc, -1⟩ else N2 := by
            unfold relax1
            simp only
            rw [HBP.out, HBB2.out]
            rfl
          by_cases h1 : pr < br
          · have HRL := Lib.hid (show relax1 N2 ⟨(bi : Int), xp, (pi : Int), yp, xc⟩ = N2.set bi ⟨pr, pc + xc, -1⟩ by rw [hre, if_pos (.inl h1)])
            have T1 : decide (pr < br) = true := by simpa using h1
            have T2 := True.intro
            have T3 := True.intro
            clear hre h1
            go_quiet (fail)
            clear w0
            have HR6 := Lib.hid (Row.drewN HRY.out nq)
            have HEX6 := Lib.hid (Blk.drewN HEXY.out nq)
            have HP6 := Lib.hid (Blk.drewN HPY.out nq)
            have HB6 := Lib.hid (pw_below_drewN HBY.out nq)
            clear HRY HEXY HPY HBY e0 e4 q0 q1 a0 a1 T1 T2 T3
            generalize wy.drewN nq = wz at *
            have e0 : wz.cell? ⟨wr.heap.size, 0, none⟩ = some (.int .i64 (bi : Int)) := (Blk.cell HEX6.out 0).trans rfl
            have e4 : wz.cell? ⟨wr.heap.size, 4, none⟩ = some (.int .i64 xc) := (Blk.cell HEX6.out 4).trans rfl
            have q0 : wz.cell? ⟨wx.heap.size, 0, none⟩ = some (.int .i64 pr) := (Blk.cell HP6.out 0).trans rfl
            have q1 : wz.cell? ⟨wx.heap.size, 1, none⟩ = some (.int .i64 pc) := (Blk.cell HP6.out 1).trans rfl
            have a0 : wz.cell? ⟨bn, off + bi * 3, none⟩ = some (.int .i64 br) := HR6.out.cell ((bels_get HBEL.out 0 (by omega)).trans rfl)
            have a1 : wz.cell? ⟨bn, off + bi * 3 + 1, none⟩ = some (.int .i64 bc) := by rw [Nat.add_assoc]; exact HR6.out.cell ((bels_get HBEL.out 1 (by omega)).trans rfl)
            have a2 : wz.cell? ⟨bn, off + bi * 3 + 2, none⟩ = some (.int .i64 bp) := by rw [Nat.add_assoc]; exact HR6.out.cell ((bels_get HBEL.out 2 (by omega)).trans rfl)
            have f0 := HR6.out.frozen (off + bi * 3)
            have f1 := HR6.out.frozen (off + bi * 3 + 1)
            have f2 := HR6.out.frozen (off + bi * 3 + 2)
            go_wp2_with fail
            refine ⟨⟨k + 1, hlt2, by go_num, fun _ => ?_, below3 HB6.out hbn _ _ _⟩, by simp [intOf]; omega⟩
            rw [HTK.out, List.foldl_append, HN2.out, List.foldl_cons, List.foldl_nil, HRL.out]
            exact row_bel HR6.out bi ⟨pr, pc + xc, -1⟩ (by rw [HNL.out]; exact hbi)

          · have T1 : decide (pr < br) = false := by simpa using h1
            by_cases h2 : pr = br
            · have T2 : (pr == br) = true := by simpa using h2
              by_cases h3 : pc + xc < bc
              · have HRL := Lib.hid (show relax1 N2 ⟨(bi : Int), xp, (pi : Int), yp, xc⟩ = N2.set bi ⟨pr, pc + xc, -1⟩ by rw [hre, if_pos (.inr ⟨h2, h3⟩)])
                have T3 : decide (pc + xc < bc) = true := by simpa using h3
                clear hre h1 h2 h3
                go_quiet (fail)
                clear w0
                have HR6 := Lib.hid (Row.drewN HRY.out nq)
                have HEX6 := Lib.hid (Blk.drewN HEXY.out nq)
                have HP6 := Lib.hid (Blk.drewN HPY.out nq)
                have HB6 := Lib.hid (pw_below_drewN HBY.out nq)
                clear HRY HEXY HPY HBY e0 e4 q0 q1 a0 a1 T1 T2 T3
                generalize wy.drewN nq = wz at *
                have e0 : wz.cell? ⟨wr.heap.size, 0, none⟩ = some (.int .i64 (bi : Int)) := (Blk.cell HEX6.out 0).trans rfl
                have e4 : wz.cell? ⟨wr.heap.size, 4, none⟩ = some (.int .i64 xc) := (Blk.cell HEX6.out 4).trans rfl
                have q0 : wz.cell? ⟨wx.heap.size, 0, none⟩ = some (.int .i64 pr) := (Blk.cell HP6.out 0).trans rfl
                have q1 : wz.cell? ⟨wx.heap.size, 1, none⟩ = some (.int .i64 pc) := (Blk.cell HP6.out 1).trans rfl
                have a0 : wz.cell? ⟨bn, off + bi * 3, none⟩ = some (.int .i64 br) := HR6.out.cell ((bels_get HBEL.out 0 (by omega)).trans rfl)
                have a1 : wz.cell? ⟨bn, off + bi * 3 + 1, none⟩ = some (.int .i64 bc) := by rw [Nat.add_assoc]; exact HR6.out.cell ((bels_get HBEL.out 1 (by omega)).trans rfl)
                have a2 : wz.cell? ⟨bn, off + bi * 3 + 2, none⟩ = some (.int .i64 bp) := by rw [Nat.add_assoc]; exact HR6.out.cell ((bels_get HBEL.out 2 (by omega)).trans rfl)
                have f0 := HR6.out.frozen (off + bi * 3)
                have f1 := HR6.out.frozen (off + bi * 3 + 1)
                have f2 := HR6.out.frozen (off + bi * 3 + 2)
                go_wp2_with fail
                refine ⟨⟨k + 1, hlt2, by go_num, fun _ => ?_, below3 HB6.out hbn _ _ _⟩, by simp [intOf]; omega⟩
                rw [HTK.out, List.foldl_append, HN2.out, List.foldl_cons, List.foldl_nil, HRL.out]
                exact row_bel HR6.out bi ⟨pr, pc + xc, -1⟩ (by rw [HNL.out]; exact hbi)

              · have HRL := Lib.hid (show relax1 N2 ⟨(bi : Int), xp, (pi : Int), yp, xc⟩ = N2 by rw [hre, if_neg (by rintro (h | h); exact h1 h; exact h3 h.2)])
                have T3 : decide (pc + xc < bc) = false := by simpa using h3
                clear hre h1 h2 h3
                go_quiet (fail)
                clear w0 T1 T2 T3
                go_wp2_with fail
                refine ⟨⟨k + 1, hlt2, by go_num, fun _ => ?_, pw_below_drewN HBY.out nq⟩, by simp [intOf]; omega⟩
                rw [HTK.out, List.foldl_append, HN2.out, List.foldl_cons, List.foldl_nil, HRL.out]
                exact HRY.out.drewN nq

            · have HRL := Lib.hid (show relax1 N2 ⟨(bi : Int), xp, (pi : Int), yp, xc⟩ = N2 by rw [hre, if_neg (by rintro (h | h); exact h1 h; exact h2 h.1)])
              have T2 : (pr == br) = false := by simpa using h2
              clear hre h1 h2
              go_quiet (fail)
              clear w0 T1 T2
              go_wp2_with fail
              refine ⟨⟨k + 1, hlt2, by go_num, fun _ => ?_, pw_below_drewN HBY.out nq⟩, by simp [intOf]; omega⟩
              rw [HTK.out, List.foldl_append, HN2.out, List.foldl_cons, List.foldl_nil, HRL.out]
              exact HRY.out.drewN nq

        · obtain rfl : k = E.length := by omega
          have hd2 : decide ((E.length : Int) < (E.length : Int)) = false := by simp
          have hr2 := hr
          rw [List.take_length, HN1.out] at hr2
          have HF := Lib.hid (show Rel1 w3 ids E bn off (.int .i64 ((j + 1 : Nat) : Int)) wr from ⟨j + 1, by omega, rfl, hr2, hb⟩)
          clear hr hr2 hb
          go_wp2_with fail
          exact ⟨HF.out, by simp [intOf]; omega⟩

    · obtain rfl : j = ids.length := by omega
      have hd : decide ((ids.length : Int) < (ids.length : Int)) = false := by simp
      obtain ⟨P, hP⟩ : ∃ P, passes E ids.length (startN ids) = P := ⟨_, rfl⟩
      rw [hP] at hr
      have HP := Lib.hid hP
      have HPB := Lib.hid (show Bnd 1000000000 P by rw [← hP]; exact bnd_mono (passes_bnd HCE.out he96 (bnd_start ids) ids.length) (by omega))
      have HPL := Lib.hid (show P.length = ids.length by rw [← hP, passes_len, startN_len])
      have HRP := Lib.hid hr
      have HBP := Lib.hid hb
      clear hr hb hP
      go_wp2_with fail
      obtain ⟨wo, rfl⟩ : ∃ wo : World, wo = wr := ⟨_, rfl⟩
      go_loopw [10, 90] (fun _ i wr => Rel3 w3 ids E P bn off i wr) (fun _ i _ => ids.length - (intOf i).toNat)
      case atStart => exact ⟨0, Nat.zero_le _, rfl, HRP.out, HBP.out⟩
      case round =>
        obtain ⟨j, hj, rfl, hr, hb⟩ := hrel
        by_cases hlt : j < ids.length
        · have hd : decide ((j : Int) < (ids.length : Int)) = true := by simp; omega
          have h0 : 0 < ids.length := by omega
          obtain ⟨rfl, hbn⟩ := HA.out h0
          obtain ⟨N1, hN1⟩ : ∃ N1, portsN ids E P j = N1 := ⟨_, rfl⟩
          rw [hN1] at hr
          have HN1 := Lib.hid (show (E.foldl (portOne ids j) (N1, ⟨0, 0, 0, 0⟩)).1 = portsN ids E P (j + 1) by rw [← hN1]; rfl)
          have HBD := Lib.hid (show Bnd 1000000000 N1 by rw [← hN1]; exact ports_bnd (by omega) HPB.out j)
          have HNL1 := Lib.hid (show N1.length = ids.length by rw [← hN1, ports_len, HPL.out])
          have HR1 := Lib.hid (hr h0)
          have HB1 := Lib.hid hb
          clear hN1 hr hb
          have hba := below_alloc (Below.refl wr.heap.size wr) (.cells #[.int .i64 0, .int .i64 0, .int .i64 0, .int .i64 0] 60)
          have HGA := Lib.hid (Blk.new wr #[.int .i64 0, .int .i64 0, .int .i64 0, .int .i64 0] 60)
          have HRA := Lib.hid (HR1.out.below hba)
          have HBA := Lib.hid (HB1.out.trans (hba.mono HB1.out.size))
          have hbg : bn < wr.heap.size := HR1.out.lt
          have hwo : w3.heap.size ≤ wr.heap.size := HB1.out.size
          clear hba HR1 HB1
          go_wp2_with fail
          generalize wr.alloc (.cells #[.int .i64 0, .int .i64 0, .int .i64 0, .int .i64 0] 60) = wa at *
          obtain ⟨wo, rfl⟩ : ∃ wo : World, wo = wr := ⟨_, rfl⟩
          go_loopw [95] (fun i wr => Rel4 w3 ids E N1 j bn off wo.heap.size i wr) (fun i _ => E.length - (intOf i).toNat)
          case atStart => exact ⟨0, Nat.zero_le _, rfl, HRA.out, HGA.out, HBA.out⟩
          case round =>
            obtain ⟨k, hk, rfl, hr, hgb, hb⟩ := hrel
            by_cases hlt2 : k < E.length
            · have hd2 : decide ((k : Int) < (E.length : Int)) = true := by simp; omega
              obtain ⟨s, hs⟩ : ∃ s, (E.take k).foldl (portOne ids j) (N1, ⟨0, 0, 0, 0⟩) = s := ⟨_, rfl⟩
              rw [hs] at hr hgb
              have HBD2 := Lib.hid (show Bnd 1000000000 s.1 by rw [← hs]; exact fold_port_bnd (by omega) _ _ HBD.out)
              have HNL := Lib.hid (show s.1.length = ids.length by rw [← hs, fold_port_len, HNL1.out])
              have HS := Lib.hid hs
              have HRR := Lib.hid hr
              have HGG := Lib.hid hgb
              have HBB := Lib.hid hb
              have hgw : wo.heap.size < wr.heap.size := hgb.lt
              clear hr hgb hb hs
              obtain ⟨b, o, rfl, hbl, hc⟩ := HE.out (by rw [endsV_len]; omega)
              obtain ⟨x, hx⟩ : ∃ x, E[k]? = some x := ⟨E[k], List.getElem?_eq_getElem _⟩
              have hxm := List.mem_of_getElem? hx
              obtain ⟨n1, n2, n3, n4⟩ := HNET.out.inn x hxm
              obtain ⟨m1, m2⟩ := HCE.out x hxm
              have htk : E.take (k + 1) = E.take k ++ [x] := by
                rw [List.take_succ_eq_append_getElem hlt2]
                have := (List.getElem?_eq_some_iff.1 hx).2
                rw [this]
              have cell : ∀ j u, (encE x)[j]? = some u → wr.cell? ⟨b, o + (k * 5 + j), none⟩ = some u := by
                intro j u hu
                have hj : j < 5 := by have := (List.getElem?_eq_some_iff.1 hu).1; simpa [encE] using this
                exact pw_cell_below HBB.out (hc (k * 5 + j) u ((endsV_get hx j hj).trans hu))
              obtain ⟨xb, xp, yb, yp, xc⟩ := x
              simp only at n1 n2 n3 n4 m1 m2
              obtain ⟨bi, rfl⟩ := Int.eq_ofNat_of_zero_le n1
              obtain ⟨pi, rfl⟩ := Int.eq_ofNat_of_zero_le n3
              have hbi : bi < ids.length := by omega
              have hpi : pi < ids.length := by omega
              have c0 : wr.cell? ⟨b, o + k * 5, none⟩ = some (.int .i64 (bi : Int)) := cell 0 _ rfl
              have c1 : wr.cell? ⟨b, o + k * 5 + 1, none⟩ = some (.int .i64 xp) := by rw [Nat.add_assoc]; exact cell 1 _ rfl
              have c2 : wr.cell? ⟨b, o + k * 5 + 2, none⟩ = some (.int .i64 (pi : Int)) := by rw [Nat.add_assoc]; exact cell 2 _ rfl
              have c3 : wr.cell? ⟨b, o + k * 5 + 3, none⟩ = some (.int .i64 yp) := by rw [Nat.add_assoc]; exact cell 3 _ rfl
              have c4 : wr.cell? ⟨b, o + k * 5 + 4, none⟩ = some (.int .i64 xc) := by rw [Nat.add_assoc]; exact cell 4 _ rfl
              have hbx := below_alloc (Below.refl wr.heap.size wr) (.cells #[.int .i64 (bi : Int), .int .i64 xp, .int .i64 (pi : Int), .int .i64 yp, .int .i64 xc] 56)
              have HEX := Lib.hid (Blk.new wr #[.int .i64 (bi : Int), .int .i64 xp, .int .i64 (pi : Int), .int .i64 yp, .int .i64 xc] 56)
              have HRX := Lib.hid (HRR.out.below hbx)
              have HBX := Lib.hid (HBB.out.trans (hbx.mono HBB.out.size))
              have hbr : bn < wr.heap.size := HRR.out.lt
              have HTK := Lib.hid htk
              clear hc hx hxm cell htk n1 n2 n3 n4

              have HGX := Lib.hid (blk_below HGG.out (below_alloc (Below.refl wr.heap.size wr) (.cells #[.int .i64 (bi : Int), .int .i64 xp, .int .i64 (pi : Int), .int .i64 yp, .int .i64 xc] 56)))
              have hsx := HEX.out.lt
              go_upto_region 23 with (fail)
              generalize wr.alloc (.cells #[.int .i64 (bi : Int), .int .i64 xp, .int .i64 (pi : Int), .int .i64 yp, .int .i64 xc] 56) = wx at *
              clear c0 c1 c2 c3 c4

              have HBWX := Lib.hid (HB3.out.trans (HBX.out.mono HB3.out.size))
              have HNX := Lib.hid (blk_below HBOX3.out HBX.out)
              have d0 : wx.cell? ⟨w.heap.size, 0, none⟩ = some (.slice Ai ids.length ci) := (Blk.cell HNX.out 0).trans rfl
              have d1 : wx.cell? ⟨w.heap.size, 1, none⟩ = some (.slice Al L.length cl) := (Blk.cell HNX.out 1).trans rfl
              have e2 : wx.cell? ⟨wr.heap.size, 2, none⟩ = some (.int .i64 (pi : Int)) := (Blk.cell HEX.out 2).trans rfl
              have e3 : wx.cell? ⟨wr.heap.size, 3, none⟩ = some (.int .i64 yp) := (Blk.cell HEX.out 3).trans rfl
              have ha := announced_any Ai Al (some ⟨bn, off, none⟩) L.length ci cl cn ids s.1 pi yp wx (HI.out.below HBWX.out) HRX.out.rowC hpi (by have := HNL.out; omega)
              rw [HNL.out] at ha
              have hhr : heard ids s.1 ⟨(bi : Int), xp, (pi : Int), yp, xc⟩ = { vecOf ids s.1 pi yp with cost := (vecOf ids s.1 pi yp).cost + xc } := rfl
              have hvc : 0 ≤ (vecOf ids s.1 pi yp).cost ∧ (vecOf ids s.1 pi yp).cost ≤ 1000000000 := bnd_at HBD2.out (by omega) (pi : Int)
              obtain ⟨v, hv⟩ : ∃ v, vecOf ids s.1 pi yp = v := ⟨_, rfl⟩
              rw [hv] at ha hhr hvc
              obtain ⟨o0, o1, o2, o3⟩ := v
              simp only at hhr hvc
              obtain ⟨vc1, vc2⟩ := hvc
              unfold encV at ha
              have HAN := Lib.hid ha
              have HHR := Lib.hid hhr
              clear hv hhr ha
              go_wp2_with fail
              refine HAN.out.mono ?_
              rintro e w5 ⟨rfl, hb5⟩
              have HEX5 := Lib.hid (blk_below HEX.out hb5)
              have HR5 := Lib.hid (HRX.out.below hb5)
              have HG5 := Lib.hid (blk_below HGX.out hb5)
              have HN5 := Lib.hid (blk_below HNX.out hb5)
              have HB5 := Lib.hid (HBX.out.trans (hb5.mono HBX.out.size))
              have hz5 : wx.heap.size ≤ w5.heap.size := hb5.size
              clear hb5 d0 d1 e2 e3 HAN HEX HRX HGX HNX HBWX
              have e4 : w5.cell? ⟨wr.heap.size, 4, none⟩ = some (.int .i64 xc) := (Blk.cell HEX5.out 4).trans rfl
              have e4' : (w5.alloc (.cells #[.int .i64 o0, .int .i64 o1, .int .i64 o2, .int .i64 o3] 60)).cell? ⟨wr.heap.size, 4, none⟩ = some (.int .i64 xc) := pw_cell_below (below_alloc (Below.refl _ _) _) e4
              go_upto_region 25 with (fail)
              clear e4 e4'
              have hbz := below_alloc (Below.refl w5.heap.size w5) (.cells #[.int .i64 o0, .int .i64 (o1 + xc), .int .i64 o2, .int .i64 o3] 60)
              have HVZ := Lib.hid (Blk.new w5 #[.int .i64 o0, .int .i64 (o1 + xc), .int .i64 o2, .int .i64 o3] 60)
              have HEXZ := Lib.hid (blk_below HEX5.out hbz)
              have HRZ := Lib.hid (HR5.out.below hbz)
              have HGZ := Lib.hid (blk_below HG5.out hbz)
              have HNZ := Lib.hid (blk_below HN5.out hbz)
              have HBZ := Lib.hid (HB5.out.trans (hbz.mono HB5.out.size))
              clear hbz HEX5 HR5 HG5 HN5 HB5 HBX
              generalize w5.alloc (.cells #[.int .i64 o0, .int .i64 (o1 + xc), .int .i64 o2, .int .i64 o3] 60) = wz at *
              obtain ⟨br, hbr2⟩ : ∃ br, s.1[j]? = some br := ⟨s.1[j]'(by have := HNL.out; omega), List.getElem?_eq_getElem _⟩
              obtain ⟨idj, hidj⟩ : ∃ y, ids[j]? = some y := ⟨ids[j], List.getElem?_eq_getElem _⟩
              have hbg2 : s.1.getD j ⟨0, 0, 0⟩ = br := by simp [List.getD_eq_getElem?_getD, hbr2]
              have hig : ids.getD j 0 = idj := by simp [List.getD_eq_getElem?_getD, hidj]
              obtain ⟨ib, io, hAi, hil, hic⟩ := HI.out (by rw [ints_len]; omega)
              subst hAi
              have ci0 : wz.cell? ⟨ib, io + j, none⟩ = some (.int .i64 idj) := pw_cell_below (HB3.out.trans (HBZ.out.mono HB3.out.size)) (hic j _ (ints_get hidj))
              have d0 : wz.cell? ⟨w.heap.size, 0, none⟩ = some (.slice (some ⟨ib, io, none⟩) ids.length ci) := (Blk.cell HNZ.out 0).trans rfl
              have x0 : wz.cell? ⟨wr.heap.size, 0, none⟩ = some (.int .i64 (bi : Int)) := (Blk.cell HEXZ.out 0).trans rfl
              have g0 : wz.cell? ⟨bn, off + j * 3, none⟩ = some (.int .i64 br.root) := HRZ.out.cell ((bels_get hbr2 0 (by omega)).trans rfl)
              have g2 : wz.cell? ⟨bn, off + j * 3 + 2, none⟩ = some (.int .i64 br.port) := by rw [Nat.add_assoc]; exact HRZ.out.cell ((bels_get hbr2 2 (by omega)).trans rfl)
              obtain ⟨bst, hbst⟩ : ∃ bst, s.2 = bst := ⟨_, rfl⟩
              have hpo : portOne ids j s ⟨(bi : Int), xp, (pi : Int), yp, xc⟩ = if (bi : Int) = (j : Int) ∧ br.root ≠ idj ∧ (br.port < 0 ∨ better ⟨o0, o1 + xc, o2, o3⟩ bst = true) then (s.1.set j { br with port := xp }, ⟨o0, o1 + xc, o2, o3⟩) else s := by
                unfold portOne
                rw [HHR.out, hbg2, hig, hbst]
              have hgz := HGZ.out
              rw [hbst] at hgz
              obtain ⟨t0, t1, t2, t3⟩ := bst
              have HGZ := Lib.hid (show Blk wz wo.heap.size #[.int .i64 t0, .int .i64 t1, .int .i64 t2, .int .i64 t3] 60 from hgz)
              have HBG := Lib.hid (show ({ br with port := xp } : Bel) = ⟨br.root, br.cost, xp⟩ from rfl)
              have HBEL := Lib.hid hbr2
              have HBST := Lib.hid hbst
              have i0 : (0 : Int) ≤ (j : Int) := by omega
              have i1 : (j : Int) < (ids.length : Int) := by omega
              clear hbr2 hidj hbg2 hig hic hbst hgz HNZ
              have L1 := True.intro
              by_cases h1 : (bi : Int) = (j : Int)
              · have T1 : ((bi : Int) == (j : Int)) = true := by simpa using h1
                by_cases h2 : br.root = idj
                · have T2 : (br.root != idj) = false := by simpa using h2
                  have HPO := Lib.hid (show portOne ids j s ⟨(bi : Int), xp, (pi : Int), yp, xc⟩ = s by rw [hpo, if_neg (fun h => h.2.1 h2)])
                  clear hpo h1 h2
                  go_quiet (fail)
                  have HRQ := Lib.hid (Row.drewN HRZ.out nq)
                  have HEXQ := Lib.hid (Blk.drewN HEXZ.out nq)
                  have HVQ := Lib.hid (Blk.drewN HVZ.out nq)
                  have HGQ := Lib.hid (Blk.drewN HGZ.out nq)
                  have HBQ := Lib.hid (pw_below_drewN HBZ.out nq)
                  clear HRZ HEXZ HVZ HGZ HBZ x0 g0 g2 d0 ci0 T1 T2 L1
                  generalize wz.drewN nq = wq at *

                  go_wp2_with fail
                  refine ⟨⟨k + 1, hlt2, by go_num, ?_, ?_, HBQ.out⟩, by simp [intOf]; omega⟩
                  · rw [HTK.out, List.foldl_append, HS.out, List.foldl_cons, List.foldl_nil, HPO.out]
                    exact HRQ.out
                  · rw [HTK.out, List.foldl_append, HS.out, List.foldl_cons, List.foldl_nil, HPO.out]
                    rw [HBST.out]
                    exact HGQ.out

                · have T2 : (br.root != idj) = true := by simpa using h2
                  by_cases h3 : br.port < 0
                  · have T3 : decide (br.port < 0) = true := by simpa using h3
                    have HPO := Lib.hid (show portOne ids j s ⟨(bi : Int), xp, (pi : Int), yp, xc⟩ = (s.1.set j { br with port := xp }, ⟨o0, o1 + xc, o2, o3⟩) by rw [hpo, if_pos ⟨h1, h2, .inl h3⟩])
                    clear hpo h1 h2 h3
                    go_quiet (fail)
                    have HRQ := Lib.hid (Row.drewN HRZ.out nq)
                    have HEXQ := Lib.hid (Blk.drewN HEXZ.out nq)
                    have HVQ := Lib.hid (Blk.drewN HVZ.out nq)
                    have HGQ := Lib.hid (Blk.drewN HGZ.out nq)
                    have HBQ := Lib.hid (pw_below_drewN HBZ.out nq)
                    clear HRZ HEXZ HVZ HGZ HBZ x0 g0 g2 d0 ci0 T1 T2 T3 L1
                    generalize wz.drewN nq = wq at *

                    have x1 : wq.cell? ⟨wr.heap.size, 1, none⟩ = some (.int .i64 xp) := (Blk.cell HEXQ.out 1).trans rfl
                    have v0 : wq.cell? ⟨w5.heap.size, 0, none⟩ = some (.int .i64 o0) := (Blk.cell HVQ.out 0).trans rfl
                    have v1 : wq.cell? ⟨w5.heap.size, 1, none⟩ = some (.int .i64 (o1 + xc)) := (Blk.cell HVQ.out 1).trans rfl
                    have v2 : wq.cell? ⟨w5.heap.size, 2, none⟩ = some (.int .i64 o2) := (Blk.cell HVQ.out 2).trans rfl
                    have v3 : wq.cell? ⟨w5.heap.size, 3, none⟩ = some (.int .i64 o3) := (Blk.cell HVQ.out 3).trans rfl
                    have b0 : wq.cell? ⟨wo.heap.size, 0, none⟩ = some (.int .i64 t0) := (Blk.cell HGQ.out 0).trans rfl
                    have b1 : wq.cell? ⟨wo.heap.size, 1, none⟩ = some (.int .i64 t1) := (Blk.cell HGQ.out 1).trans rfl
                    have b2 : wq.cell? ⟨wo.heap.size, 2, none⟩ = some (.int .i64 t2) := (Blk.cell HGQ.out 2).trans rfl
                    have b3 : wq.cell? ⟨wo.heap.size, 3, none⟩ = some (.int .i64 t3) := (Blk.cell HGQ.out 3).trans rfl
                    have z0 := HGQ.out.frozen 0
                    have z1 := HGQ.out.frozen 1
                    have z2 := HGQ.out.frozen 2
                    have z3 := HGQ.out.frozen 3
                    have a2 : wq.cell? ⟨bn, off + j * 3 + 2, none⟩ = some (.int .i64 br.port) := by rw [Nat.add_assoc]; exact HRQ.out.cell ((bels_get HBEL.out 2 (by omega)).trans rfl)
                    have z4 := HRQ.out.frozen (off + j * 3 + 2)
                    have hne1 : wr.heap.size ≠ wo.heap.size := by omega
                    have hne2 : w5.heap.size ≠ wo.heap.size := by omega
                    have hne3 : bn ≠ wo.heap.size := by omega
                    have hne4 : wr.heap.size ≠ bn := by omega
                    have hne5 : w5.heap.size ≠ bn := by omega
                    go_upto_region 26 with (fail)
                    go_region
                    go_wp2_with fail
                    refine ⟨⟨k + 1, hlt2, by go_num, ?_, ?_, ?_⟩, by simp [intOf]; omega⟩
                    · rw [HTK.out, List.foldl_append, HS.out, List.foldl_cons, List.foldl_nil, HPO.out]
                      refine (row_port (HRQ.out.far4 hne3 _ _ _ _) j br HBEL.out xp).drew.to ?_
                      rw [HBG.out]
                    · rw [HTK.out, List.foldl_append, HS.out, List.foldl_cons, List.foldl_nil, HPO.out]
                      exact ((blk_set4 HGQ.out _ _ _ _).far (Ne.symm hne3) _).drew
                    · exact below_drew ((below4 HBQ.out (by omega) _ _ _ _).setCell hbn _)

                  · have T3 : decide (br.port < 0) = false := by simpa using h3
                    have L2 := cell_regrown x0
                    have L3 := cell_regrown g0
                    have L4 := cell_regrown g2
                    have L5 := cell_regrown d0
                    have L6 := cell_regrown ci0
                    have v0 : wz.cell? ⟨w5.heap.size, 0, none⟩ = some (.int .i64 o0) := (Blk.cell HVZ.out 0).trans rfl
                    have v1 : wz.cell? ⟨w5.heap.size, 1, none⟩ = some (.int .i64 (o1 + xc)) := (Blk.cell HVZ.out 1).trans rfl
                    have v2 : wz.cell? ⟨w5.heap.size, 2, none⟩ = some (.int .i64 o2) := (Blk.cell HVZ.out 2).trans rfl
                    have v3 : wz.cell? ⟨w5.heap.size, 3, none⟩ = some (.int .i64 o3) := (Blk.cell HVZ.out 3).trans rfl
                    have b0 : wz.cell? ⟨wo.heap.size, 0, none⟩ = some (.int .i64 t0) := (Blk.cell HGZ.out 0).trans rfl
                    have b1 : wz.cell? ⟨wo.heap.size, 1, none⟩ = some (.int .i64 t1) := (Blk.cell HGZ.out 1).trans rfl
                    have b2 : wz.cell? ⟨wo.heap.size, 2, none⟩ = some (.int .i64 t2) := (Blk.cell HGZ.out 2).trans rfl
                    have b3 : wz.cell? ⟨wo.heap.size, 3, none⟩ = some (.int .i64 t3) := (Blk.cell HGZ.out 3).trans rfl
                    have M0 := cell_regrown v0
                    have M1 := cell_regrown v1
                    have M2 := cell_regrown v2
                    have M3 := cell_regrown v3
                    have M4 := cell_regrown b0
                    have M5 := cell_regrown b1
                    have M6 := cell_regrown b2
                    have M7 := cell_regrown b3
                    have hB := fun W => better_any ⟨o0, o1 + xc, o2, o3⟩ ⟨t0, t1, t2, t3⟩ W
                    obtain ⟨bt, hbt⟩ : ∃ bt, better ⟨o0, o1 + xc, o2, o3⟩ ⟨t0, t1, t2, t3⟩ = bt := ⟨_, rfl⟩
                    rw [hbt] at hB hpo
                    unfold encV at hB
                    have cB : ∀ d os, Calls Try.prog 25 #[.agg [.int .i64 o0, .int .i64 (o1 + xc), .int .i64 o2, .int .i64 o3].toArray, .agg [.int .i64 t0, .int .i64 t1, .int .i64 t2, .int .i64 t3].toArray] (grow (redrawn wz d) os) fun e w'' => e = .returned (.bool bt) ∧ ∃ p : Regrown, w'' = grow (redrawn wz p.d) p.os :=
                      fun d os => Calls.regrown_of (hB _)
                    have CB := Lib.hid cB
                    have HPO0 := Lib.hid hpo
                    have HH1 := Lib.hid h1
                    have HH2 := Lib.hid h2
                    have HH3 := Lib.hid h3
                    clear hB hbt cB hpo h1 h2 h3 v0 v1 v2 v3 b0 b1 b2 b3
                    refine wp_region_quiet_below (by kernel_rfl) (by kernel_rfl) ?_
                    repeat (first | go_big_quiet_step (exact CB.out _ _) | quiet_step (exact CB.out _ _))
                    refine wpQuiet_nil ?_
                    intro wq hw'
                    have hbq : Below wz.heap.size wz wq := by
                      obtain ⟨⟨dq, osq⟩, rfl⟩ := hw'
                      exact below_regrown wz dq osq
                    have HRQ := Lib.hid (HRZ.out.below hbq)
                    have HEXQ := Lib.hid (blk_below HEXZ.out hbq)
                    have HVQ := Lib.hid (blk_below HVZ.out hbq)
                    have HGQ := Lib.hid (blk_below HGZ.out hbq)
                    have HBQ := Lib.hid (HBZ.out.trans (hbq.mono HBZ.out.size))
                    clear hw' hbq CB HRZ HEXZ HVZ HGZ HBZ x0 g0 g2 d0 ci0 T1 T2 T3 L1 L2 L3 L4 L5 L6 M0 M1 M2 M3 M4 M5 M6 M7
                    cases bt with
                    | true =>
                      have HPO := Lib.hid (show portOne ids j s ⟨(bi : Int), xp, (pi : Int), yp, xc⟩ = (s.1.set j { br with port := xp }, ⟨o0, o1 + xc, o2, o3⟩) by rw [HPO0.out, if_pos ⟨HH1.out, HH2.out, .inr rfl⟩])
                      have x1 : wq.cell? ⟨wr.heap.size, 1, none⟩ = some (.int .i64 xp) := (Blk.cell HEXQ.out 1).trans rfl
                      have v0 : wq.cell? ⟨w5.heap.size, 0, none⟩ = some (.int .i64 o0) := (Blk.cell HVQ.out 0).trans rfl
                      have v1 : wq.cell? ⟨w5.heap.size, 1, none⟩ = some (.int .i64 (o1 + xc)) := (Blk.cell HVQ.out 1).trans rfl
                      have v2 : wq.cell? ⟨w5.heap.size, 2, none⟩ = some (.int .i64 o2) := (Blk.cell HVQ.out 2).trans rfl
                      have v3 : wq.cell? ⟨w5.heap.size, 3, none⟩ = some (.int .i64 o3) := (Blk.cell HVQ.out 3).trans rfl
                      have b0 : wq.cell? ⟨wo.heap.size, 0, none⟩ = some (.int .i64 t0) := (Blk.cell HGQ.out 0).trans rfl
                      have b1 : wq.cell? ⟨wo.heap.size, 1, none⟩ = some (.int .i64 t1) := (Blk.cell HGQ.out 1).trans rfl
                      have b2 : wq.cell? ⟨wo.heap.size, 2, none⟩ = some (.int .i64 t2) := (Blk.cell HGQ.out 2).trans rfl
                      have b3 : wq.cell? ⟨wo.heap.size, 3, none⟩ = some (.int .i64 t3) := (Blk.cell HGQ.out 3).trans rfl
                      have z0 := HGQ.out.frozen 0
                      have z1 := HGQ.out.frozen 1
                      have z2 := HGQ.out.frozen 2
                      have z3 := HGQ.out.frozen 3
                      have a2 : wq.cell? ⟨bn, off + j * 3 + 2, none⟩ = some (.int .i64 br.port) := by rw [Nat.add_assoc]; exact HRQ.out.cell ((bels_get HBEL.out 2 (by omega)).trans rfl)
                      have z4 := HRQ.out.frozen (off + j * 3 + 2)
                      have hne1 : wr.heap.size ≠ wo.heap.size := by omega
                      have hne2 : w5.heap.size ≠ wo.heap.size := by omega
                      have hne3 : bn ≠ wo.heap.size := by omega
                      have hne4 : wr.heap.size ≠ bn := by omega
                      have hne5 : w5.heap.size ≠ bn := by omega
                      go_upto_region 26 with (fail)
                      go_region
                      go_wp2_with fail
                      refine ⟨⟨k + 1, hlt2, by go_num, ?_, ?_, ?_⟩, by simp [intOf]; omega⟩
                      · rw [HTK.out, List.foldl_append, HS.out, List.foldl_cons, List.foldl_nil, HPO.out]
                        refine (row_port (HRQ.out.far4 hne3 _ _ _ _) j br HBEL.out xp).drew.to ?_
                        rw [HBG.out]
                      · rw [HTK.out, List.foldl_append, HS.out, List.foldl_cons, List.foldl_nil, HPO.out]
                        exact ((blk_set4 HGQ.out _ _ _ _).far (Ne.symm hne3) _).drew
                      · exact below_drew ((below4 HBQ.out (by omega) _ _ _ _).setCell hbn _)

                    | false =>
                      have HPO := Lib.hid (show portOne ids j s ⟨(bi : Int), xp, (pi : Int), yp, xc⟩ = s by rw [HPO0.out, if_neg (by rintro ⟨_, _, h | h⟩; exact HH3.out h; cases h)])
                      go_wp2_with fail
                      refine ⟨⟨k + 1, hlt2, by go_num, ?_, ?_, HBQ.out⟩, by simp [intOf]; omega⟩
                      · rw [HTK.out, List.foldl_append, HS.out, List.foldl_cons, List.foldl_nil, HPO.out]
                        exact HRQ.out
                      · rw [HTK.out, List.foldl_append, HS.out, List.foldl_cons, List.foldl_nil, HPO.out]
                        rw [HBST.out]
                        exact HGQ.out

              · have T1 : ((bi : Int) == (j : Int)) = false := by simpa using h1
                have HPO := Lib.hid (show portOne ids j s ⟨(bi : Int), xp, (pi : Int), yp, xc⟩ = s by rw [hpo, if_neg (fun h => h1 h.1)])
                clear hpo h1
                go_quiet (fail)
                have HRQ := Lib.hid (Row.drewN HRZ.out nq)
                have HEXQ := Lib.hid (Blk.drewN HEXZ.out nq)
                have HVQ := Lib.hid (Blk.drewN HVZ.out nq)
                have HGQ := Lib.hid (Blk.drewN HGZ.out nq)
                have HBQ := Lib.hid (pw_below_drewN HBZ.out nq)
                clear HRZ HEXZ HVZ HGZ HBZ x0 g0 g2 d0 ci0 T1 L1
                generalize wz.drewN nq = wq at *

                go_wp2_with fail
                refine ⟨⟨k + 1, hlt2, by go_num, ?_, ?_, HBQ.out⟩, by simp [intOf]; omega⟩
                · rw [HTK.out, List.foldl_append, HS.out, List.foldl_cons, List.foldl_nil, HPO.out]
                  exact HRQ.out
                · rw [HTK.out, List.foldl_append, HS.out, List.foldl_cons, List.foldl_nil, HPO.out]
                  rw [HBST.out]
                  exact HGQ.out

            · obtain rfl : k = E.length := by omega
              have hd2 : decide ((E.length : Int) < (E.length : Int)) = false := by simp
              rw [List.take_length] at hr
              rw [HN1.out] at hr
              have HF := Lib.hid (show Rel3 w3 ids E P bn off (.int .i64 ((j + 1 : Nat) : Int)) wr from ⟨j + 1, by omega, rfl, fun _ => hr, hb⟩)
              clear hr hb hgb
              go_wp2_with fail
              exact ⟨HF.out, by simp [intOf]; omega⟩
        · obtain rfl : j = ids.length := by omega
          have hd : decide ((ids.length : Int) < (ids.length : Int)) = false := by simp
          have hT : portsN ids E P ids.length = treeN ids E := by rw [← HP.out]; rfl
          rw [hT] at hr
          have hTl : (treeN ids E).length = ids.length := treeN_len HNET.out
          have hRC : RowC wr An (bels (treeN ids E)) := by
            intro hp
            have h0 : 0 < ids.length := by rw [bels_len, hTl] at hp; omega
            obtain ⟨h1, _⟩ := HA.out h0
            rw [h1]
            exact (hr h0).rowC hp
          have HBB := Lib.hid hb
          have HBW := Lib.hid (HB3.out.trans (hb.mono HB3.out.size))
          have HNX := Lib.hid (blk_below HBOX3.out hb)
          have hst := states_any Ai Al An Ae L.length ci cl cn ce ids (treeN ids E) E wr (HI.out.below HBW.out) hRC (HE.out.below hb) hTl HNET.out.inn (by omega)
          rw [hTl] at hst
          have HST := Lib.hid hst
          have d0 : wr.cell? ⟨w.heap.size, 0, none⟩ = some (.slice Ai ids.length ci) := (Blk.cell HNX.out 0).trans rfl
          have d1 : wr.cell? ⟨w.heap.size, 1, none⟩ = some (.slice Al L.length cl) := (Blk.cell HNX.out 1).trans rfl
          clear hr hb hT hTl hRC hst
          go_wp2_with fail
          refine HST.out.mono ?_
          rintro e w7 ⟨A7, c7, rfl, hq7, hb7⟩
          have HF := Lib.hid (show TreeOk w w7 ids L (.returned (.tuple #[.slice A7 (statesL ids (treeN ids E) E).length c7, .int .i64 0])) from
            ⟨E, A7, c7, HEN.out, rfl, q_lower hq7 HBW.out.size, HBW.out.trans (hb7.mono HBW.out.size)⟩)
          clear hq7 hb7
          go_wp2_with fail
          go_ret2
          exact HF.out

end Go.Proofs.Ytcpekijgjnnfoaa.Sp
