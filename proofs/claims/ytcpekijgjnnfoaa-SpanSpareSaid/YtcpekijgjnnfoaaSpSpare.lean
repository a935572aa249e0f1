/-
  The law SpanSpare: a link that the tree does not use and that becomes dearer changes nothing: the walk.
-/
import Derived.Test.YtcpekijgjnnfoaaSpOrder
import Derived.Test.YtcpekijgjnnfoaaSpJ
import Derived.Test.YtcpekijgjnnfoaaWithin
namespace Go.Proofs.Ytcpekijgjnnfoaa.Sp
open Go.RowKit Go.Proofs.YtcpekijgjnnfoaaW.PrintWords Go.Proofs.Ytcpekijgjnnfoaa.Xm Go.Proofs.Ytcpekijgjnnfoaa.Ints Go.Proofs.Ytcpekijgjnnfoaa.Xo Go.Proofs.Ytcpekijgjnnfoaa.Rq Go.Sort Go.Proofs.Ytcpekijgjnnfoaa.Within

theorem links_cost (N : List Link) (i : Nat) (b : Link) (hb : N[i]? = some b) (p : Int) : (linksV N).set (i * 5 + 4) (.int .i64 p) = linksV (N.set i { b with cost := p }) := by
  have h := flat_set5 encL (fun _ => ⟨_, _, _, _, _, rfl⟩) N i { b with cost := p } (.int .i64 b.a) (.int .i64 b.pa) (.int .i64 b.b) (.int .i64 b.pb) (.int .i64 p) (List.getElem?_eq_some_iff.1 hb).1 rfl
  rw [show linksV (N.set i { b with cost := p }) = _ from h.symm]
  have e0 : (linksV N)[i * 5]? = some (.int .i64 b.a) := (linksV_get hb 0 (by omega)).trans rfl
  have e1 : (linksV N)[i * 5 + 1]? = some (.int .i64 b.pa) := (linksV_get hb 1 (by omega)).trans rfl
  have e2 : (linksV N)[i * 5 + 2]? = some (.int .i64 b.b) := (linksV_get hb 2 (by omega)).trans rfl
  have e3 : (linksV N)[i * 5 + 3]? = some (.int .i64 b.pb) := (linksV_get hb 3 (by omega)).trans rfl
  have self : ∀ (l : List Value) (j : Nat) (u : Value), l[j]? = some u → l.set j u = l := by
    intro l j u hj
    obtain ⟨hl, he⟩ := List.getElem?_eq_some_iff.1 hj
    rw [← he, List.set_getElem_self]
  have s0 := self _ _ _ e0
  have s1 := self _ _ _ e1
  have s2 := self _ _ _ e2
  have s3 := self _ _ _ e3
  show _ = (((((linksV N).set (i * 5) _).set (i * 5 + 1) _).set (i * 5 + 2) _).set (i * 5 + 3) _).set (i * 5 + 4) _
  rw [s0, s1, s2, s3]
/-- The first k links made dearer. -/
def sprN (S : List SPort) (m : Int) (L : List Link) (k : Nat) : List Link := L.mapIdx fun i l => if i < k then spareL S m l else l
theorem sprN_len (S : List SPort) (m : Int) (L : List Link) (k : Nat) : (sprN S m L k).length = L.length := by simp [sprN]
theorem sprN_zero (S : List SPort) (m : Int) (L : List Link) : sprN S m L 0 = L := by
  refine List.ext_getElem? fun i => ?_
  simp [sprN, List.getElem?_mapIdx]
theorem sprN_get {S : List SPort} {m : Int} {L : List Link} {k : Nat} {l : Link} (h : L[k]? = some l) : (sprN S m L k)[k]? = some l := by
  simp [sprN, List.getElem?_mapIdx, h]
theorem sprN_step {S : List SPort} {m : Int} {L : List Link} {k : Nat} {l : Link} (h : L[k]? = some l) : (sprN S m L k).set k (spareL S m l) = sprN S m L (k + 1) := by
  refine List.ext_getElem? fun i => ?_
  have hk : k < L.length := (List.getElem?_eq_some_iff.1 h).1
  rw [List.getElem?_set]
  by_cases e : k = i
  · subst e
    rw [if_pos rfl, sprN_len, if_pos hk]
    simp [sprN, List.getElem?_mapIdx, h]
  · rw [if_neg e]
    simp only [sprN, List.getElem?_mapIdx]
    by_cases hi : i < k
    · simp only [if_pos hi, if_pos (show i < k + 1 by omega)]
    · simp only [if_neg hi, if_neg (show ¬ i < k + 1 by omega)]
theorem sprN_stay {S : List SPort} {m : Int} {L : List Link} {k : Nat} {l : Link} (h : L[k]? = some l) (hs : spareL S m l = l) : sprN S m L k = sprN S m L (k + 1) := by
  rw [← sprN_step h, hs]
  have := sprN_get (S := S) (m := m) h
  obtain ⟨hl, he⟩ := List.getElem?_eq_some_iff.1 this
  have e2 : (sprN S m L k).set k l = (sprN S m L k).set k ((sprN S m L k)[k]) := by rw [he]
  rw [e2, List.set_getElem_self]
theorem sprN_end (S : List SPort) (m : Int) (L : List Link) (k : Nat) (h : L.length ≤ k) : sprN S m L k = L.map (spareL S m) := by
  refine List.ext_getElem? fun i => ?_
  simp only [sprN, List.getElem?_mapIdx, List.getElem?_map]
  by_cases hi : i < L.length
  · simp only [if_pos (show i < k by omega)]
  · rw [List.getElem?_eq_none (by omega)]
    rfl
def SprRel (w2 : World) (g : Nat) (bx : Array Value) (Am : Option Addr) (S : List SPort) (m : Int) (L : List Link) (i : Value) (wr : World) : Prop :=
  ∃ k : Nat, k ≤ L.length ∧ i = .int .i64 k ∧ OwnRow w2.heap.size wr Am (sprN S m L k) ∧ Blk wr g bx 25 ∧ Below w2.heap.size w2 wr
attribute [local go_sem] max2_ints min2_ints max_of2 min_of2
set_option maxHeartbeats 6400000 in
set_option maxRecDepth 100000 in
theorem spare_walk (w : World) (v : Value) (h : IsSpanbig w v) (mo : Int) (_hm : (Lit.int .i64 mo).wf = true) : Calls Try.prog 5 #[v, .int .i64 mo] w fun e w' => e = .returned (.bool true) ∧ Below w.heap.size w w' := by
  obtain ⟨Ai, Al, ci, cl, ids, L, h, hbig⟩ := h
  obtain ⟨rfl, hi, hl, -, hnil⟩ := h
  have hb0 := below_alloc (Below.refl w.heap.size w) (.cells #[.slice Ai ids.length ci, .slice Al L.length cl] 25)
  have HBOX := Lib.hid (Blk.new w #[.slice Ai ids.length ci, .slice Al L.length cl] 25)
  have HB0 := Lib.hid hb0
  have HI := Lib.hid hi
  have HL := Lib.hid hl
  have HN := Lib.hid hnil
  clear hi hl hb0 hnil _hm
  go_enter Try.func5, Try.ntmps5
  go_wp2_with fail
  generalize w.alloc (.cells #[.slice Ai ids.length ci, .slice Al L.length cl] 25) = w1 at *
  refine (spanWorks_any w1).mono ?_
  rintro e w2 ⟨rfl, hb2⟩
  have HB2 := Lib.hid (HB0.out.trans (hb2.mono HB0.out.size))
  have HBOX2 := Lib.hid (blk_below HBOX.out hb2)
  clear hb2
  have d0 : w2.cell? ⟨w.heap.size, 0, none⟩ = some (.slice Ai ids.length ci) := (Blk.cell HBOX2.out 0).trans rfl
  have d1 : w2.cell? ⟨w.heap.size, 1, none⟩ = some (.slice Al L.length cl) := (Blk.cell HBOX2.out 1).trans rfl
  by_cases hc : checkCode ids L = 0
  · have g0 := check_ok.1 hc
    have G := Lib.hid g0
    clear hc g0
    go_wp2_with fail
    refine (tree_ok Ai Al ci cl ids L w2 (HI.out.below HB2.out (Nat.le_refl _)) (HL.out.below HB2.out) G.out).mono ?_
    rintro e w3 ⟨E, A, c, hE, rfl, hq, hb3⟩
    have HEN := Lib.hid hE
    have HQ := Lib.hid (RowC.of_q hq)
    have HB3 := Lib.hid (HB2.out.trans (hb3.mono HB2.out.size))
    have HBOX3 := Lib.hid (blk_below HBOX2.out hb3)
    have hsl : (statesL ids (treeN ids E) E).length ≤ 1000 := by
      have h1 := G.out.l48
      have h2 := HEN.out.perm.length_eq
      rw [rawE_len] at h2
      simp [statesL]
      omega
    clear hE hq hb3 d0 d1
    have d0 : w3.cell? ⟨w.heap.size, 0, none⟩ = some (.slice Ai ids.length ci) := (Blk.cell HBOX3.out 0).trans rfl
    have d1 : w3.cell? ⟨w.heap.size, 1, none⟩ = some (.slice Al L.length cl) := (Blk.cell HBOX3.out 1).trans rfl
    obtain ⟨S, hS⟩ : ∃ S, statesL ids (treeN ids E) E = S := ⟨_, rfl⟩
    rw [hS] at HQ hsl ⊢
    have HS := Lib.hid hS
    clear hS
    have HCL := Lib.hid (fun W (hW : Below w3.heap.size w3 W) => clone_links Al cl L W (HL.out.below (HB3.out.trans (hW.mono HB3.out.size))) HN.out hbig)
    have HK := Lib.hid (fun W (hW : Below w3.heap.size w3 W) => (⟨pw_cell_below hW d0, pw_cell_below hW d1⟩ : W.cell? ⟨w.heap.size, 0, none⟩ = some (.slice Ai ids.length ci) ∧ W.cell? ⟨w.heap.size, 1, none⟩ = some (.slice Al L.length cl)))
    obtain ⟨mw, hmw⟩ : ∃ m, wi mo 1000 = m := ⟨_, rfl⟩
    have hm0 := wi_bd mo 1000 (by omega)
    have HWI := Lib.hid (fun W => within_q mo 1000 W (by omega) (by omega))
    rw [hmw] at hm0 HWI
    obtain ⟨hm0, hm1⟩ := hm0
    clear hmw
    go_upto_region 6 with (fail)
    go_cut [7] from 23 to 29 (fun p w' => NetMade w3 w' Ai ids.length ci L p)
    case first =>
      refine wp_region_noPanic ?_
      go_region_held_law (fun W => W.cell? ⟨w.heap.size, 0, none⟩ = some (.slice Ai ids.length ci) ∧ W.cell? ⟨w.heap.size, 1, none⟩ = some (.slice Al L.length cl))
        (first | (refine HK.out _ ?_; repeat (first | with_reducible assumption | exact Below.refl _ _ | with_reducible refine below_drew ?_ | with_reducible refine below_alloc ?_ _ | with_reducible refine Below.setCell ?_ ?_ _ | exact Nat.le_refl _ | exact hs5)))
        (first
          | (go_at_call 17; refine (HCL.out w3.drew (below_drew (Below.refl _ _))).mono ?_; rintro e w5 ⟨A5, c5, rfl, hr5, hb5'⟩
             have hb5 : Below w3.heap.size w3 w5 := (below_drew (Below.refl w3.heap.size w3)).trans hb5'
             have hs5 : w3.heap.size ≤ w5.heap.size := hb5.size
             clear hb5')
          | (go_at_call 17; refine (HCL.out _ (below_drew (below_alloc (Below.refl _ _) _))).mono ?_; rintro e w5 ⟨A5, c5, rfl, hr5, hb5'⟩
             have hbn := blk_below (Blk.drew (Blk.new w3 #[.slice none 0 0, .slice none 0 0] 25)) hb5'
             have n0 := hbn.frozen 0
             have n1 := hbn.frozen 1
             have m0 : w5.cell? ⟨w3.heap.size, 0, none⟩ = some (.slice none 0 0) := (hbn.cell 0).trans rfl
             have m1 : w5.cell? ⟨w3.heap.size, 1, none⟩ = some (.slice none 0 0) := (hbn.cell 1).trans rfl
             have hb5 : Below w3.heap.size w3 w5 := (below_drew (below_alloc (Below.refl w3.heap.size w3) (.cells #[.slice none 0 0, .slice none 0 0] 25))).trans (hb5'.mono (by simp))
             have hs5 : w3.heap.size ≤ w5.heap.size := hb5.size
             clear hb5'))
      all_goals
        refine NoPanic.normal ?_
        go_wp2_with fail
        go_meet
      · refine ⟨w5.heap.size, A5, c5, rfl, hs5, Blk.new _ _ _, fun hp => ?_, below_alloc hb5 _⟩
        obtain ⟨b, off, e, hb, hr⟩ := hr5 hp
        exact ⟨b, off, e, hb, hr.alloc _⟩
      · refine ⟨w3.heap.size, A5, c5, rfl, Nat.le_refl _, Blk.set (Blk.set hbn 0 _) 1 _, fun hp => ?_, (hb5.setCell (Nat.le_refl _) _).setCell (Nat.le_refl _) _⟩
        obtain ⟨b, off, e, hb, hr⟩ := hr5 hp
        have hb' : w3.heap.size + 1 ≤ b := by simpa using hb
        exact ⟨b, off, e, by omega, (hr.far (by show b ≠ w3.heap.size; omega) _).far (by show b ≠ w3.heap.size; omega) _⟩
    case rest =>
      obtain ⟨g, Am, cm, rfl, hg, hbm, hrm, hb4⟩ := hcut
      have e1 : wc.cell? ⟨g, 1, none⟩ = some (.slice Am L.length cm) := (Blk.cell hbm 1).trans rfl
      have HBM := Lib.hid hbm
      have HRM := Lib.hid hrm
      have HB4 := Lib.hid hb4
      clear hrm hbm hb4 HCL HK d0 d1
      go_wp2_with fail
      go_loopw [32] (fun i wr => SprRel w3 g #[.slice Ai ids.length ci, .slice Am L.length cm] Am S mw L i wr) (fun i _ => L.length - (intOf i).toNat)
      case atStart => exact ⟨0, Nat.zero_le _, rfl, by rw [sprN_zero]; exact HRM.out, HBM.out, HB4.out⟩
      case round =>
        obtain ⟨k, hk, rfl, hr, hbx, hb⟩ := hrel
        have HR := Lib.hid hr
        have HBX := Lib.hid hbx
        have HB := Lib.hid hb
        clear hr hbx hb
        by_cases hlt : k < L.length
        · have hd : decide ((k : Int) < (L.length : Int)) = true := by simp; omega
          have i0 : (0 : Int) ≤ (k : Int) := by omega
          have i1 : (k : Int) < (L.length : Int) := by omega
          obtain ⟨b, off, rfl, hbl, hrow⟩ := HR.out (by rw [sprN_len]; omega)
          obtain ⟨x, hx⟩ : ∃ x, L[k]? = some x := ⟨_, List.getElem?_eq_getElem hlt⟩
          have hxk := sprN_get (S := S) (m := mw) hx
          have hcost := (G.out.link x (List.mem_of_getElem? hx))
          have HX := Lib.hid hx
          have HROW := Lib.hid hrow
          have hbr := hrow.lt
          have cell : ∀ j u, (encL x)[j]? = some u → wr.cell? ⟨b, off + (k * 5 + j), none⟩ = some u := by
            intro j u hu
            have hj : j < 5 := by have := (List.getElem?_eq_some_iff.1 hu).1; simpa [encL] using this
            exact HROW.out.cell ((linksV_get hxk j hj).trans hu)
          have c0 : wr.cell? ⟨b, off + k * 5, none⟩ = some (.int .i64 x.a) := cell 0 _ rfl
          have c1 : wr.cell? ⟨b, off + k * 5 + 1, none⟩ = some (.int .i64 x.pa) := by rw [Nat.add_assoc]; exact cell 1 _ rfl
          have c2 : wr.cell? ⟨b, off + k * 5 + 2, none⟩ = some (.int .i64 x.b) := by rw [Nat.add_assoc]; exact cell 2 _ rfl
          have c3 : wr.cell? ⟨b, off + k * 5 + 3, none⟩ = some (.int .i64 x.pb) := by rw [Nat.add_assoc]; exact cell 3 _ rfl
          have c4 : wr.cell? ⟨b, off + k * 5 + 4, none⟩ = some (.int .i64 x.cost) := by rw [Nat.add_assoc]; exact cell 4 _ rfl
          clear hx hxk hrow cell
          have HCOST := Lib.hid hcost
          clear hcost
          go_upto_region 10 with (fail)
          have hbn := Blk.new wr #[.int .i64 x.a, .int .i64 x.pa, .int .i64 x.b, .int .i64 x.pb, .int .i64 x.cost] 37
          have hbl2 := below_alloc (Below.refl wr.heap.size wr) (.cells #[.int .i64 x.a, .int .i64 x.pa, .int .i64 x.b, .int .i64 x.pb, .int .i64 x.cost] 37)
          generalize wr.alloc (.cells #[.int .i64 x.a, .int .i64 x.pa, .int .i64 x.b, .int .i64 x.pb, .int .i64 x.cost] 37) = wl at *
          generalize hlq : wr.heap.size = lq at *
          have HBW := Lib.hid (HB.out.trans ((hlq ▸ hbl2 : Below wr.heap.size wr wl).mono HB.out.size))
          have HBX2 := Lib.hid (blk_below HBX.out (hlq ▸ hbl2))
          have HROW2 := Lib.hid (HROW.out.below (hlq ▸ hbl2))
          have hgb : b ≠ g := by
            obtain ⟨cur, hcur, _⟩ := HROW.out
            exact blk_ne_blk hcur HBX.out (by decide)
          have HBN := Lib.hid hbn
          have l0 : wl.cell? ⟨lq, 0, none⟩ = some (.int .i64 x.a) := (Blk.cell hbn 0).trans rfl
          have l1 : wl.cell? ⟨lq, 1, none⟩ = some (.int .i64 x.pa) := (Blk.cell hbn 1).trans rfl
          have l2 : wl.cell? ⟨lq, 2, none⟩ = some (.int .i64 x.b) := (Blk.cell hbn 2).trans rfl
          have l3 : wl.cell? ⟨lq, 3, none⟩ = some (.int .i64 x.pb) := (Blk.cell hbn 3).trans rfl
          have HGB := Lib.hid hgb
          have HOP := Lib.hid (fun W (hW : Below wl.heap.size wl W) (bb pp : Int) => open_any A c S bb pp W (HQ.out.below (HBW.out.trans (hW.mono HBW.out.size))) hsl)
          clear c0 c1 c2 c3 c4 hbn hbl2 hlq e1 hgb
          obtain ⟨ya, hya⟩ : ∃ y, openB S x.a x.pa = y := ⟨_, rfl⟩
          obtain ⟨yb, hyb⟩ : ∃ y, openB S x.b x.pb = y := ⟨_, rfl⟩
          have HYA := Lib.hid hya
          have HYB := Lib.hid hyb
          clear hya hyb
          go_cut [52] from 37 to 53 (fun t w' => t = .bool (!(ya && yb)) ∧ Below wl.heap.size wl w')
          case first =>
            go_wp2_with fail
            refine (HOP.out wl (Below.refl _ _) x.a x.pa).mono ?_
            rintro e w5 ⟨rfl, hb5⟩
            rw [HYA.out]
            have HB5 := Lib.hid hb5
            have k2 := pw_cell_below hb5 l2
            have k3 := pw_cell_below hb5 l3
            clear hb5 l0 l1 l2 l3
            cases ya with
            | false =>
              go_wp2_with fail
              go_meet
              exact ⟨rfl, HB5.out⟩
            | true =>
              go_wp2_with fail
              refine (HOP.out w5 HB5.out x.b x.pb).mono ?_
              rintro e w6 ⟨rfl, hb6⟩
              rw [HYB.out]
              have HB6 := Lib.hid (HB5.out.trans (hb6.mono HB5.out.size))
              clear hb6
              cases yb with
              | false =>
                go_wp2_with fail
                go_meet
                exact ⟨rfl, HB6.out⟩
              | true =>
                go_wp2_with fail
                go_meet
                exact ⟨rfl, HB6.out⟩
          case rest =>
            obtain ⟨rfl, hb6⟩ := hcut
            have HB6 := Lib.hid (HBW.out.trans (hb6.mono HBW.out.size))
            have HBX6 := Lib.hid (blk_below HBX2.out hb6)
            have HROW6 := Lib.hid (HROW2.out.below hb6)
            have HBN6 := Lib.hid (blk_below HBN.out hb6)
            clear hb6 l0 l1 l2 l3
            obtain ⟨t, ht⟩ : ∃ t, (ya && yb) = t := ⟨_, rfl⟩
            rw [ht]
            have HTT := Lib.hid ht
            clear ht
            cases t with
            | true =>
              have hsp : spareL S mw x = x := by
                have h := HTT.out
                simp only [Bool.and_eq_true] at h
                unfold spareL
                rw [HYA.out, HYB.out, h.1, h.2]
                rfl
              have HSP := Lib.hid hsp
              clear hsp
              go_wp2_with fail
              refine ⟨⟨k + 1, hlt, by go_num, fun _ => ⟨b, off, rfl, hbl, ?_⟩, HBX6.out, HB6.out⟩, by simp [intOf]; omega⟩
              rw [← sprN_stay HX.out HSP.out]
              exact HROW6.out
            | false =>
              have hsp : spareL S mw x = { x with cost := min 1000 (x.cost + mw) } := by
                have h := HTT.out
                unfold spareL
                rw [HYA.out, HYB.out, h]
                rfl
              have HSP := Lib.hid hsp
              obtain ⟨hq1, hq2⟩ := HCOST.out.cost
              have hwr : wrap64 (x.cost + mw) = x.cost + mw := by unfold wrap64; omega
              have f4 := HROW6.out.frozen (off + k * 5 + 4)
              have u4 : ∃ u, wc.cell? ⟨b, off + k * 5 + 4, none⟩ = some u := ⟨_, by rw [Nat.add_assoc]; exact HROW6.out.cell ((linksV_get (sprN_get (S := S) (m := mw) HX.out) 4 (by omega)).trans rfl)⟩
              obtain ⟨o4, u4⟩ := u4
              have q1 : wc.cell? ⟨g, 1, none⟩ = some (.slice (some ⟨b, off, none⟩) L.length cm) := (Blk.cell HBX6.out 1).trans rfl
              have l4 : wc.cell? ⟨lq, 4, none⟩ = some (.int .i64 x.cost) := (Blk.cell HBN6.out 4).trans rfl
              have hset := HROW6.out.set (k * 5 + 4) (.int .i64 (min 1000 (x.cost + mw)))
              rw [links_cost _ k x (sprN_get HX.out), ← hsp, sprN_step HX.out, ← Nat.add_assoc] at hset
              have HSET := Lib.hid hset
              have HLB := Lib.hid (show lq ≠ b by omega)
              have HK11 := Lib.hid (fun (W : World) (h1 : W.heap[g]? = wc.heap[g]?) (h2 : W.heap[lq]? = wc.heap[lq]?) => (⟨(Blk.cell (show Blk W g _ _ from h1.trans HBX6.out) 1).trans rfl, (Blk.cell (show Blk W lq _ _ from h2.trans HBN6.out) 4).trans rfl⟩ :
                W.cell? ⟨g, 1, none⟩ = some (.slice (some ⟨b, off, none⟩) L.length cm) ∧ W.cell? ⟨lq, 4, none⟩ = some (.int .i64 x.cost)))
              clear hsp hset
              have hmin : min 1000 (x.cost + mw) = if x.cost + mw < 1000 then x.cost + mw else 1000 := by split <;> omega
              rw [hmin] at HSET
              clear hmin
              go_wp2_with fail
              refine wp_region_noPanic ?_
              go_region_held_law (fun W => W.cell? ⟨g, 1, none⟩ = some (.slice (some ⟨b, off, none⟩) L.length cm) ∧ W.cell? ⟨lq, 4, none⟩ = some (.int .i64 x.cost))
                (first | exact HK11.out _ rfl rfl | exact HK11.out _ (heap_set1 _ HGB.out.symm) (heap_set1 _ HLB.out))
                (first | (go_at_call 18; refine (HWI.out _).mono ?_; rintro e w7 ⟨rfl, rfl⟩))
              refine NoPanic.normal ?_
              go_wp2_with fail
              exact ⟨⟨k + 1, hlt, by go_num, fun _ => ⟨b, off, rfl, hbl, Row.drew HSET.out⟩, Blk.drew (HBX6.out.far HGB.out.symm _), below_drew (HB6.out.setCell (p := ⟨b, off + k * 5 + 4, none⟩) hbl _)⟩, by simp [intOf]; omega⟩
        · obtain rfl : k = L.length := by omega
          have hd : decide ((L.length : Int) < (L.length : Int)) = false := by simp
          have hrm := HR.out
          rw [sprN_end S mw L L.length (Nat.le_refl _)] at hrm
          have hml : (L.map (spareL S mw)).length = L.length := by simp
          have HBW := Lib.hid (HB3.out.trans (HB.out.mono HB3.out.size))
          have hGM := spare_ok G.out S hm0
          have HSAME := Lib.hid (fun F (hF : Ends (L.map (spareL S mw)) F) => (HS.out ▸ spare_same G.out HEN.out hm0 (by rw [HS.out]; exact hF) : statesL ids (treeN ids F) F = S))
          obtain ⟨M, hM⟩ : ∃ M, L.map (spareL S mw) = M := ⟨_, rfl⟩
          rw [hM] at hrm hml hGM HSAME
          have hto := tree_ok Ai Am ci cm ids M wr (HI.out.below HBW.out (Nat.le_refl _)) hrm.rowC hGM
          rw [hml] at hto
          have HTO := Lib.hid hto
          have d0 : wr.cell? ⟨g, 0, none⟩ = some (.slice Ai ids.length ci) := (Blk.cell HBX.out 0).trans rfl
          have d1 : wr.cell? ⟨g, 1, none⟩ = some (.slice Am L.length cm) := (Blk.cell HBX.out 1).trans rfl
          clear hM hrm hml hGM hto e1
          go_wp2_with fail
          refine HTO.out.mono ?_
          rintro e w6 ⟨E', A', c', hE', rfl, hq', hb6⟩
          rw [HSAME.out E' hE'] at hq' ⊢
          have HEQ := Lib.hid (equal_ports A' A c' c S w6 (RowC.of_q hq') (HQ.out.below (HB.out.trans (hb6.mono HB.out.size))) hsl)
          have HB6 := Lib.hid (HBW.out.trans (hb6.mono HBW.out.size))
          clear hE' hq' hb6 d0 d1
          go_wp2_with fail
          refine HEQ.out.mono ?_
          rintro e w7 ⟨rfl, mm, rfl⟩
          go_wp2_with fail
          go_ret
          exact ⟨rfl, pw_below_drewN HB6.out mm⟩
  · have HBAD := Lib.hid (tree_bad Ai Al ci cl ids L w2 (HI.out.below HB2.out (Nat.le_refl _)) (HL.out.below HB2.out) hc)
    obtain ⟨C, hC⟩ : ∃ C, checkCode ids L = C := ⟨_, rfl⟩
    rw [hC] at HBAD
    have t1 : (C != 0) = true := by rw [← hC]; simpa using hc
    clear hc hC
    go_wp2_with fail
    refine HBAD.out.mono ?_
    rintro e w3 ⟨rfl, hb3⟩
    have HB3 := Lib.hid (HB2.out.trans (hb3.mono HB2.out.size))
    clear hb3 d0 d1
    go_wp2_with fail
    go_ret
    exact ⟨rfl, HB3.out⟩
end Go.Proofs.Ytcpekijgjnnfoaa.Sp
