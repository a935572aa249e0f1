/-
  The law SpanOrder: neither the order of the links nor the order of their ends matters: the walk.
-/
import Derived.Test.YtcpekijgjnnfoaaSpX
import Derived.Test.YtcpekijgjnnfoaaSpY
import Derived.Test.YtcpekijgjnnfoaaSpI
import Derived.Test.YtcpekijgjnnfoaaSpN
namespace Go.Proofs.Ytcpekijgjnnfoaa.Sp
open Go.RowKit Go.Proofs.YtcpekijgjnnfoaaW.PrintWords Go.Proofs.Ytcpekijgjnnfoaa.Xm Go.Proofs.Ytcpekijgjnnfoaa.Ints Go.Proofs.Ytcpekijgjnnfoaa.Xo Go.Proofs.Ytcpekijgjnnfoaa.Rq Go.Sort

def NetMade (w2 w' : World) (Ai : Option Addr) (n ci : Nat) (L : List Link) (p : Value) : Prop :=
  ∃ g A c, p = .pointer (some ⟨g, 0, none⟩) ∧ w2.heap.size ≤ g ∧ Blk w' g #[.slice Ai n ci, .slice A L.length c] 25 ∧ OwnRow w2.heap.size w' A L ∧ Below w2.heap.size w2 w'
def OrdRel (w2 : World) (g : Nat) (bx : Array Value) (Am : Option Addr) (T : List Bool) (L : List Link) (i : Value) (wr : World) : Prop :=
  ∃ k : Nat, k ≤ L.length ∧ i = .int .i64 k ∧ OwnRow w2.heap.size wr Am (turnN T L.reverse k) ∧ Blk wr g bx 25 ∧ Below w2.heap.size w2 wr
set_option maxHeartbeats 6400000 in
set_option maxRecDepth 100000 in
theorem order_walk (w : World) (v : Value) (h : IsSpanbig w v) (vt : Value) (ht : IsBools w vt) : Calls Try.prog 6 #[v, vt] w fun e w' => e = .returned (.bool true) ∧ Below w.heap.size w w' := by
  obtain ⟨Ai, Al, ci, cl, ids, L, h, hbig⟩ := h
  obtain ⟨rfl, hi, hl, -, hnil⟩ := h
  obtain ⟨T, At, ct, rfl, hT1, hT2, hB⟩ := ht
  have hTl : T.length ≤ 9223372036854775807 := Nat.le_trans hT1 hT2
  have hb0 := below_alloc (Below.refl w.heap.size w) (.cells #[.slice Ai ids.length ci, .slice Al L.length cl] 25)
  have HBOX := Lib.hid (Blk.new w #[.slice Ai ids.length ci, .slice Al L.length cl] 25)
  have HB0 := Lib.hid hb0
  have HI := Lib.hid hi
  have HL := Lib.hid hl
  have HT := Lib.hid hB
  have HN := Lib.hid hnil
  clear hi hl hb0 hB hnil hT1 hT2
  go_enter Try.func6, Try.ntmps6
  go_wp2_with fail
  generalize w.alloc (.cells #[.slice Ai ids.length ci, .slice Al L.length cl] 25) = w1 at *
  refine (spanWorks_any w1).mono ?_
  rintro e w2 ⟨rfl, hb2⟩
  have HB2 := Lib.hid (HB0.out.trans (hb2.mono HB0.out.size))
  have HBOX2 := Lib.hid (blk_below HBOX.out hb2)
  clear hb2
  have d0 : w2.cell? ⟨w.heap.size, 0, none⟩ = some (.slice Ai ids.length ci) := (Blk.cell HBOX2.out 0).trans rfl
  have d1 : w2.cell? ⟨w.heap.size, 1, none⟩ = some (.slice Al L.length cl) := (Blk.cell HBOX2.out 1).trans rfl
  have HCL := Lib.hid (fun W (hW : Below w2.heap.size w2 W) => clone_links Al cl L W (HL.out.below (HB2.out.trans (hW.mono HB2.out.size))) HN.out hbig)
  have HK := Lib.hid (fun W (hW : Below w2.heap.size w2 W) => (⟨pw_cell_below hW d0, pw_cell_below hW d1⟩ : W.cell? ⟨w.heap.size, 0, none⟩ = some (.slice Ai ids.length ci) ∧ W.cell? ⟨w.heap.size, 1, none⟩ = some (.slice Al L.length cl)))
  go_upto_region 3 with (fail)
  go_cut [5] from 14 to 20 (fun p w' => NetMade w2 w' Ai ids.length ci L p)
  case first =>
    refine wp_region_noPanic ?_
    go_region_held_law (fun W => W.cell? ⟨w.heap.size, 0, none⟩ = some (.slice Ai ids.length ci) ∧ W.cell? ⟨w.heap.size, 1, none⟩ = some (.slice Al L.length cl))
      (first | (refine HK.out _ ?_; repeat (first | with_reducible assumption | exact Below.refl _ _ | with_reducible refine below_drew ?_ | with_reducible refine below_alloc ?_ _ | with_reducible refine Below.setCell ?_ ?_ _ | exact Nat.le_refl _ | exact hs5)))
      (first
        | (go_at_call 17; refine (HCL.out w2.drew (below_drew (Below.refl _ _))).mono ?_; rintro e w5 ⟨A5, c5, rfl, hr5, hb5'⟩
           have hb5 : Below w2.heap.size w2 w5 := (below_drew (Below.refl w2.heap.size w2)).trans hb5'
           have hs5 : w2.heap.size ≤ w5.heap.size := hb5.size
           clear hb5')
        | (go_at_call 17; refine (HCL.out _ (below_drew (below_alloc (Below.refl _ _) _))).mono ?_; rintro e w5 ⟨A5, c5, rfl, hr5, hb5'⟩
           have hbn := blk_below (Blk.drew (Blk.new w2 #[.slice none 0 0, .slice none 0 0] 25)) hb5'
           have n0 := hbn.frozen 0
           have n1 := hbn.frozen 1
           have m0 : w5.cell? ⟨w2.heap.size, 0, none⟩ = some (.slice none 0 0) := (hbn.cell 0).trans rfl
           have m1 : w5.cell? ⟨w2.heap.size, 1, none⟩ = some (.slice none 0 0) := (hbn.cell 1).trans rfl
           have hb5 : Below w2.heap.size w2 w5 := (below_drew (below_alloc (Below.refl w2.heap.size w2) (.cells #[.slice none 0 0, .slice none 0 0] 25))).trans (hb5'.mono (by simp))
           have hs5 : w2.heap.size ≤ w5.heap.size := hb5.size
           clear hb5'))
    all_goals
      refine NoPanic.normal ?_
      go_wp2_with fail
      go_meet
    · refine ⟨w5.heap.size, A5, c5, rfl, hs5, Blk.new _ _ _, fun hp => ?_, below_alloc hb5 _⟩
      obtain ⟨b, off, e, hb, hr⟩ := hr5 hp
      exact ⟨b, off, e, hb, hr.alloc _⟩
    · refine ⟨w2.heap.size, A5, c5, rfl, Nat.le_refl _, Blk.set (Blk.set hbn 0 _) 1 _, fun hp => ?_, (hb5.setCell (Nat.le_refl _) _).setCell (Nat.le_refl _) _⟩
      obtain ⟨b, off, e, hb, hr⟩ := hr5 hp
      have hb' : w2.heap.size + 1 ≤ b := by simpa using hb
      exact ⟨b, off, e, by omega, (hr.far (by show b ≠ w2.heap.size; omega) _).far (by show b ≠ w2.heap.size; omega) _⟩
  case rest =>
    obtain ⟨g, Am, cm, rfl, hg, hbm, hrm, hb3⟩ := hcut
    have e0 : wc.cell? ⟨g, 0, none⟩ = some (.slice Ai ids.length ci) := (Blk.cell hbm 0).trans rfl
    have e1 : wc.cell? ⟨g, 1, none⟩ = some (.slice Am L.length cm) := (Blk.cell hbm 1).trans rfl
    have HRV := Lib.hid (reverse_any w2.heap.size wc Am cm L hrm (by omega))
    have HBM := Lib.hid hbm
    have HB3 := Lib.hid hb3
    clear hrm hbm hb3 HCL HK d0 d1
    go_wp2_with fail
    refine HRV.out.mono ?_
    rintro e w4 ⟨rfl, hr4, hb4, hk4⟩
    have HBM4 := Lib.hid (hk4 _ _ _ (by decide) HBM.out)
    have HR4 := Lib.hid hr4
    have HB4 := Lib.hid (HB3.out.trans hb4)
    clear e0 e1 hr4 hb4 hk4 HRV
    have e0 : w4.cell? ⟨g, 0, none⟩ = some (.slice Ai ids.length ci) := (Blk.cell HBM4.out 0).trans rfl
    have e1 : w4.cell? ⟨g, 1, none⟩ = some (.slice Am L.length cm) := (Blk.cell HBM4.out 1).trans rfl
    go_wp2_with fail
    go_loopw [26] (fun i wr => OrdRel w2 g #[.slice Ai ids.length ci, .slice Am L.length cm] Am T L i wr) (fun i _ => L.length - (intOf i).toNat)
    case atStart => exact ⟨0, Nat.zero_le _, rfl, by rw [turnN_zero]; exact HR4.out, HBM4.out, HB4.out⟩
    case round =>
      obtain ⟨k, hk, rfl, hr, hbx, hb⟩ := hrel
      have HR := Lib.hid hr
      have HBX := Lib.hid hbx
      have HB := Lib.hid hb
      clear hr hbx hb
      by_cases hlt : k < L.length
      · have hd : decide ((k : Int) < (L.length : Int)) = true := by simp; omega
        have i0 : (0 : Int) ≤ (k : Int) := by omega
        have i1 : (k : Int) < (L.length : Int) := by omega
        obtain ⟨b, off, rfl, hbl, hrow⟩ := HR.out (by rw [turnN_len, List.length_reverse]; omega)
        obtain ⟨x, hx⟩ : ∃ x, L.reverse[k]? = some x := ⟨_, List.getElem?_eq_getElem (by rw [List.length_reverse]; exact hlt)⟩
        have hxk := turnN_get (T := T) hx
        have HX := Lib.hid hx
        have HROW := Lib.hid hrow
        have hbr := hrow.lt
        have cell : ∀ j u, (encL x)[j]? = some u → wr.cell? ⟨b, off + (k * 5 + j), none⟩ = some u := by
          intro j u hu
          have hj : j < 5 := by have := (List.getElem?_eq_some_iff.1 hu).1; simpa [encL] using this
          exact HROW.out.cell ((linksV_get hxk j hj).trans hu)
        have c0 : wr.cell? ⟨b, off + k * 5, none⟩ = some (.int .i64 x.a) := cell 0 _ rfl
        have c1 : wr.cell? ⟨b, off + k * 5 + 1, none⟩ = some (.int .i64 x.pa) := by rw [Nat.add_assoc]; exact cell 1 _ rfl
        have c2 : wr.cell? ⟨b, off + k * 5 + 2, none⟩ = some (.int .i64 x.b) := by rw [Nat.add_assoc]; exact cell 2 _ rfl
        have c3 : wr.cell? ⟨b, off + k * 5 + 3, none⟩ = some (.int .i64 x.pb) := by rw [Nat.add_assoc]; exact cell 3 _ rfl
        have c4 : wr.cell? ⟨b, off + k * 5 + 4, none⟩ = some (.int .i64 x.cost) := by rw [Nat.add_assoc]; exact cell 4 _ rfl
        clear hx hxk hrow cell
        go_upto_region 8 with (fail)
        have hbn := Blk.new wr #[.int .i64 x.a, .int .i64 x.pa, .int .i64 x.b, .int .i64 x.pb, .int .i64 x.cost] 37
        have hbl2 := below_alloc (Below.refl wr.heap.size wr) (.cells #[.int .i64 x.a, .int .i64 x.pa, .int .i64 x.b, .int .i64 x.pb, .int .i64 x.cost] 37)
        generalize wr.alloc (.cells #[.int .i64 x.a, .int .i64 x.pa, .int .i64 x.b, .int .i64 x.pb, .int .i64 x.cost] 37) = wl at *
        generalize hlq : wr.heap.size = lq at *
        have HBW := Lib.hid (HB.out.trans ((hlq ▸ hbl2 : Below wr.heap.size wr wl).mono HB.out.size))
        have HBX2 := Lib.hid (blk_below HBX.out (hlq ▸ hbl2))
        have HROW2 := Lib.hid (HROW.out.below (hlq ▸ hbl2))
        have hgb : b ≠ g := by
          obtain ⟨cur, hcur, _⟩ := HROW.out
          exact blk_ne_blk hcur HBX.out (by decide)
        have l0 : wl.cell? ⟨lq, 0, none⟩ = some (.int .i64 x.a) := (Blk.cell hbn 0).trans rfl
        have l1 : wl.cell? ⟨lq, 1, none⟩ = some (.int .i64 x.pa) := (Blk.cell hbn 1).trans rfl
        have l2 : wl.cell? ⟨lq, 2, none⟩ = some (.int .i64 x.b) := (Blk.cell hbn 2).trans rfl
        have l3 : wl.cell? ⟨lq, 3, none⟩ = some (.int .i64 x.pb) := (Blk.cell hbn 3).trans rfl
        have l4 : wl.cell? ⟨lq, 4, none⟩ = some (.int .i64 x.cost) := (Blk.cell hbn 4).trans rfl
        have q1 : wl.cell? ⟨g, 1, none⟩ = some (.slice (some ⟨b, off, none⟩) L.length cm) := (Blk.cell HBX2.out 1).trans rfl
        have HGB := Lib.hid hgb
        clear c0 c1 c2 c3 c4 hbn hbl2 hlq e0 e1 hgb
        by_cases hkT : k < T.length
        · have t1 : decide ((k : Int) < (T.length : Int)) = true := by simp; omega
          have i2 : (k : Int) < (T.length : Int) := by omega
          obtain ⟨tb, tof, rfl, htb, htc⟩ := HT.out (by omega)
          obtain ⟨y, hy⟩ : ∃ y, T[k]? = some y := ⟨T[k], List.getElem?_eq_getElem _⟩
          have tk : wl.cell? ⟨tb, tof + k, none⟩ = some (.bool y) := pw_cell_below (HB2.out.trans (HBW.out.mono HB2.out.size)) (htc k y hy)
          have HTY := Lib.hid (show T.getD k false = y by rw [List.getD, hy]; rfl)
          clear htc hy
          cases y with
          | true =>
            have f0 := HROW2.out.frozen (off + k * 5)
            have f1 := HROW2.out.frozen (off + k * 5 + 1)
            have f2 := HROW2.out.frozen (off + k * 5 + 2)
            have f3 := HROW2.out.frozen (off + k * 5 + 3)
            have f4 := HROW2.out.frozen (off + k * 5 + 4)
            have hxk := turnN_get (T := T) HX.out
            have u0 : ∃ u, wl.cell? ⟨b, off + k * 5, none⟩ = some u := ⟨_, HROW2.out.cell ((linksV_get hxk 0 (by omega)).trans rfl)⟩
            have u1 : ∃ u, wl.cell? ⟨b, off + k * 5 + 1, none⟩ = some u := ⟨_, by rw [Nat.add_assoc]; exact HROW2.out.cell ((linksV_get hxk 1 (by omega)).trans rfl)⟩
            have u2 : ∃ u, wl.cell? ⟨b, off + k * 5 + 2, none⟩ = some u := ⟨_, by rw [Nat.add_assoc]; exact HROW2.out.cell ((linksV_get hxk 2 (by omega)).trans rfl)⟩
            have u3 : ∃ u, wl.cell? ⟨b, off + k * 5 + 3, none⟩ = some u := ⟨_, by rw [Nat.add_assoc]; exact HROW2.out.cell ((linksV_get hxk 3 (by omega)).trans rfl)⟩
            have u4 : ∃ u, wl.cell? ⟨b, off + k * 5 + 4, none⟩ = some u := ⟨_, by rw [Nat.add_assoc]; exact HROW2.out.cell ((linksV_get hxk 4 (by omega)).trans rfl)⟩
            obtain ⟨o0, u0⟩ := u0
            obtain ⟨o1, u1⟩ := u1
            obtain ⟨o2, u2⟩ := u2
            obtain ⟨o3, u3⟩ := u3
            obtain ⟨o4, u4⟩ := u4
            clear hxk
            go_wp2_with fail
            have hset := row_link HROW2.out k (swapL x) (by rw [turnN_len, List.length_reverse]; exact hlt)
            rw [turnN_step HX.out HTY.out] at hset
            refine ⟨⟨k + 1, hlt, by go_num, fun _ => ⟨b, off, rfl, hbl, hset⟩, ((((HBX2.out.far HGB.out.symm _).far HGB.out.symm _).far HGB.out.symm _).far HGB.out.symm _).far HGB.out.symm _, ((((HBW.out.setCell hbl _).setCell hbl _).setCell hbl _).setCell hbl _).setCell hbl _⟩, by simp [intOf]; omega⟩
          | false =>
            go_wp2_with fail
            refine ⟨⟨k + 1, hlt, by go_num, fun _ => ⟨b, off, rfl, hbl, ?_⟩, HBX2.out, HBW.out⟩, by simp [intOf]; omega⟩
            rw [← turnN_stay HTY.out]
            exact HROW2.out
        · have t1 : decide ((k : Int) < (T.length : Int)) = false := by simp; omega
          have HTY := Lib.hid (show T.getD k false = false by rw [List.getD, List.getElem?_eq_none (by omega)]; rfl)
          go_wp2_with fail
          refine ⟨⟨k + 1, hlt, by go_num, fun _ => ⟨b, off, rfl, hbl, ?_⟩, HBX2.out, HBW.out⟩, by simp [intOf]; omega⟩
          rw [← turnN_stay HTY.out]
          exact HROW2.out
      · obtain rfl : k = L.length := by omega
        have hd : decide ((L.length : Int) < (L.length : Int)) = false := by simp
        have hrm := HR.out
        rw [turnN_end T L L.length (Nat.le_refl _)] at hrm
        have HBW := Lib.hid (HB2.out.trans (HB.out.mono HB2.out.size))
        have HN5 := Lib.hid (blk_below HBOX2.out HB.out)
        have hml : (turnedL T L).length = L.length := by simp [turnedL]
        have d0 : wr.cell? ⟨w.heap.size, 0, none⟩ = some (.slice Ai ids.length ci) := (Blk.cell HN5.out 0).trans rfl
        have d1 : wr.cell? ⟨w.heap.size, 1, none⟩ = some (.slice Al L.length cl) := (Blk.cell HN5.out 1).trans rfl
        have HPM := Lib.hid (raw_turned T L)
        have HOK := Lib.hid (turned_ok (ids := ids) T (L := L))
        obtain ⟨M, hM⟩ : ∃ M, turnedL T L = M := ⟨_, rfl⟩
        rw [hM] at hrm hml HPM HOK
        have HM := Lib.hid hrm.rowC
        have HML := Lib.hid hml
        clear hM hrm hml e0 e1
        by_cases hc : checkCode ids L = 0
        · have g0 := check_ok.1 hc
          have G := Lib.hid g0
          have GM := Lib.hid (HOK.out.2 g0)
          clear hc g0
          go_wp2_with fail
          refine (tree_ok Ai Al ci cl ids L wr (HI.out.below HBW.out (Nat.le_refl _)) (HL.out.below HBW.out) G.out).mono ?_
          rintro e w5 ⟨E, A, c, hE, rfl, hq, hb5⟩
          have HEN := Lib.hid hE
          have HQ := Lib.hid (RowC.of_q hq)
          have HB5 := Lib.hid (HBW.out.trans (hb5.mono HBW.out.size))
          have HBX5 := Lib.hid (blk_below HBX.out hb5)
          have hto := tree_ok Ai Am ci cm ids M w5 (HI.out.below HB5.out (Nat.le_refl _)) (HM.out.below hb5) GM.out
          rw [HML.out] at hto
          have HTO := Lib.hid hto
          clear hE hq hb5 d0 d1 hto
          have d0 : w5.cell? ⟨g, 0, none⟩ = some (.slice Ai ids.length ci) := (Blk.cell HBX5.out 0).trans rfl
          have d1 : w5.cell? ⟨g, 1, none⟩ = some (.slice Am L.length cm) := (Blk.cell HBX5.out 1).trans rfl
          obtain ⟨S, hS⟩ : ∃ S, statesL ids (treeN ids E) E = S := ⟨_, rfl⟩
          rw [hS] at HQ ⊢
          have HS := Lib.hid hS
          clear hS
          go_wp2_with fail
          refine HTO.out.mono ?_
          rintro e w6 ⟨E', A', c', hE', rfl, hq', hb6⟩
          obtain rfl := ends_unique G.out HEN.out hE' HPM.out
          rw [HS.out] at hq' ⊢
          have hsl : S.length ≤ 1000 := by
            rw [← HS.out]
            have h1 := G.out.l48
            have h2 := HEN.out.perm.length_eq
            rw [rawE_len] at h2
            simp [statesL]
            omega
          have HEQ := Lib.hid (equal_ports A A' c c' S w6 (HQ.out.below hb6) (RowC.of_q hq') hsl)
          have HB6 := Lib.hid (HB5.out.trans (hb6.mono HB5.out.size))
          clear hE' hq' hb6 d0 d1
          go_wp2_with fail
          refine HEQ.out.mono ?_
          rintro e w7 ⟨rfl, mm, rfl⟩
          go_wp2_with fail
          go_ret
          exact ⟨rfl, pw_below_drewN HB6.out mm⟩
        · have hcm : checkCode ids M ≠ 0 := fun h => hc (check_ok.2 (HOK.out.1 (check_ok.1 h)))
          have HBAD := Lib.hid (tree_bad Ai Al ci cl ids L wr (HI.out.below HBW.out (Nat.le_refl _)) (HL.out.below HBW.out) hc)
          have hbad2 := fun W (hW : Below wr.heap.size wr W) => tree_bad Ai Am ci cm ids M W (HI.out.below (HBW.out.trans (hW.mono HBW.out.size)) (Nat.le_refl _)) (HM.out.below hW) hcm
          rw [HML.out] at hbad2
          have HBAD2 := Lib.hid hbad2
          obtain ⟨C, hC⟩ : ∃ C, checkCode ids L = C := ⟨_, rfl⟩
          obtain ⟨D, hD⟩ : ∃ D, checkCode ids M = D := ⟨_, rfl⟩
          rw [hC] at HBAD
          rw [hD] at HBAD2
          have t1 : (C == 0) = false := by rw [← hC]; simpa using hc
          have t2 : (D == 0) = false := by rw [← hD]; simpa using hcm
          clear hc hcm hC hD hbad2
          go_wp2_with fail
          refine HBAD.out.mono ?_
          rintro e w5 ⟨rfl, hb5⟩
          have HB5 := Lib.hid (HBW.out.trans (hb5.mono HBW.out.size))
          have HBX5 := Lib.hid (blk_below HBX.out hb5)
          have HBAD3 := Lib.hid (HBAD2.out w5 hb5)
          clear hb5 d0 d1
          have d0 : w5.cell? ⟨g, 0, none⟩ = some (.slice Ai ids.length ci) := (Blk.cell HBX5.out 0).trans rfl
          have d1 : w5.cell? ⟨g, 1, none⟩ = some (.slice Am L.length cm) := (Blk.cell HBX5.out 1).trans rfl
          go_wp2_with fail
          refine HBAD3.out.mono ?_
          rintro e w6 ⟨rfl, hb6⟩
          have HB6 := Lib.hid (HB5.out.trans (hb6.mono HB5.out.size))
          have HEQ := Lib.hid (equal_ports none none 0 0 [] w6 (fun h => by simp [portsV] at h) (fun h => by simp [portsV] at h) (by simp))
          clear hb6 d0 d1
          go_wp2_with fail
          refine HEQ.out.mono ?_
          rintro e w7 ⟨rfl, mm, rfl⟩
          go_wp2_with fail
          go_ret
          exact ⟨rfl, pw_below_drewN HB6.out mm⟩
end Go.Proofs.Ytcpekijgjnnfoaa.Sp
