/-
  The law SpanAgrees: the protocol settles to the tree, in at most as many rounds as there are bridges: the walk.
-/
import Derived.Test.YtcpekijgjnnfoaaSpX
import Derived.Test.YtcpekijgjnnfoaaSpZ
import Derived.Test.YtcpekijgjnnfoaaSpO
namespace Go.Proofs.Ytcpekijgjnnfoaa.Sp
open Go.RowKit Go.Proofs.YtcpekijgjnnfoaaW.PrintWords Go.Proofs.Ytcpekijgjnnfoaa.Xm Go.Proofs.Ytcpekijgjnnfoaa.Ints Go.Proofs.Ytcpekijgjnnfoaa.Xo Go.Proofs.Ytcpekijgjnnfoaa.Rq Go.Sort

set_option maxHeartbeats 3200000 in
set_option maxRecDepth 100000 in
theorem agrees_walk (w : World) (v : Value) (h : IsSpannet w v) : Calls Try.prog 7 #[v] w fun e w' => e = .returned (.bool true) ∧ Below w.heap.size w w' := by
  obtain ⟨Ai, Al, ci, cl, ids, L, h⟩ := h
  obtain ⟨rfl, hi, hl, -, -⟩ := h
  have hb0 := below_alloc (Below.refl w.heap.size w) (.cells #[.slice Ai ids.length ci, .slice Al L.length cl] 25)
  have HBOX := Lib.hid (Blk.new w #[.slice Ai ids.length ci, .slice Al L.length cl] 25)
  have HB0 := Lib.hid hb0
  have HI := Lib.hid hi
  have HL := Lib.hid hl
  clear hi hl hb0
  go_enter Try.func7, Try.ntmps7
  go_wp2_with fail
  generalize w.alloc (.cells #[.slice Ai ids.length ci, .slice Al L.length cl] 25) = w1 at *
  refine (spanWorks_any w1).mono ?_
  rintro e w2 ⟨rfl, hb2⟩
  have HB2 := Lib.hid (HB0.out.trans (hb2.mono HB0.out.size))
  have HBOX2 := Lib.hid (blk_below HBOX.out hb2)
  clear hb2
  have d0 : w2.cell? ⟨w.heap.size, 0, none⟩ = some (.slice Ai ids.length ci) := (Blk.cell HBOX2.out 0).trans rfl
  have d1 : w2.cell? ⟨w.heap.size, 1, none⟩ = some (.slice Al L.length cl) := (Blk.cell HBOX2.out 1).trans rfl
  by_cases hc : checkCode ids L = 0
  · have g := check_ok.1 hc
    have G := Lib.hid g
    clear hc g
    go_wp2_with fail
    refine (tree_ok Ai Al ci cl ids L w2 (HI.out.below HB2.out (Nat.le_refl _)) (HL.out.below HB2.out) G.out).mono ?_
    rintro e w3 ⟨E, A, c, hE, rfl, hq, hb3⟩
    have HEN := Lib.hid hE
    have HQ := Lib.hid (RowC.of_q hq)
    have HB3 := Lib.hid (HB2.out.trans (hb3.mono HB2.out.size))
    have HBOX3 := Lib.hid (blk_below HBOX2.out hb3)
    clear hE hq hb3 d0 d1
    have d0 : w3.cell? ⟨w.heap.size, 0, none⟩ = some (.slice Ai ids.length ci) := (Blk.cell HBOX3.out 0).trans rfl
    have d1 : w3.cell? ⟨w.heap.size, 1, none⟩ = some (.slice Al L.length cl) := (Blk.cell HBOX3.out 1).trans rfl
    obtain ⟨S, hS⟩ : ∃ S, statesL ids (treeN ids E) E = S := ⟨_, rfl⟩
    rw [hS] at HQ ⊢
    have HS := Lib.hid hS
    clear hS
    go_wp2_with fail
    refine (settle_ok Ai Al ci cl ids L w3 (HI.out.below HB3.out (Nat.le_refl _)) (HL.out.below HB3.out) G.out).mono ?_
    rintro e w4 ⟨E', A', c', k, hE', hk, rfl, hq', hb4⟩
    obtain rfl := ends_unique G.out HEN.out hE' (List.Perm.refl _)
    rw [HS.out] at hq' ⊢
    have hsl : S.length ≤ 1000 := by
      rw [← HS.out]
      have h1 := G.out.l48
      have h2 := hE'.perm.length_eq
      rw [rawE_len] at h2
      simp [statesL]
      omega
    have HEQ := Lib.hid (equal_ports A A' c c' S w4 (HQ.out.below hb4) hq' hsl)
    have HB4 := Lib.hid (HB3.out.trans (hb4.mono HB3.out.size))
    have HBOX4 := Lib.hid (blk_below HBOX3.out hb4)
    clear hE' hq' hb4 d0 d1
    go_wp2_with fail
    refine HEQ.out.mono ?_
    rintro e w5 ⟨rfl, mm, rfl⟩
    have d0 : w4.cell? ⟨w.heap.size, 0, none⟩ = some (.slice Ai ids.length ci) := (Blk.cell HBOX4.out 0).trans rfl
    have t1 : decide ((k : Int) ≤ (ids.length : Int)) = true := by simp; omega
    have t2 : decide ((0 : Int) ≤ (k : Int)) = true := by simp
    go_wp2_with fail
    go_ret
    exact ⟨rfl, pw_below_drewN HB4.out mm⟩
  · have HBAD := Lib.hid (tree_bad Ai Al ci cl ids L w2 (HI.out.below HB2.out (Nat.le_refl _)) (HL.out.below HB2.out) hc)
    have HBAD2 := Lib.hid (fun W (hW : Below w.heap.size w W) => settle_bad Ai Al ci cl ids L W (HI.out.below hW (Nat.le_refl _)) (HL.out.below hW) hc)
    obtain ⟨C, hC⟩ : ∃ C, checkCode ids L = C := ⟨_, rfl⟩
    rw [hC] at HBAD HBAD2
    clear hc hC
    go_wp2_with fail
    refine HBAD.out.mono ?_
    rintro e w3 ⟨rfl, hb3⟩
    have HB3 := Lib.hid (HB2.out.trans (hb3.mono HB2.out.size))
    have HBOX3 := Lib.hid (blk_below HBOX2.out hb3)
    clear hb3 d0 d1
    have d0 : w3.cell? ⟨w.heap.size, 0, none⟩ = some (.slice Ai ids.length ci) := (Blk.cell HBOX3.out 0).trans rfl
    have d1 : w3.cell? ⟨w.heap.size, 1, none⟩ = some (.slice Al L.length cl) := (Blk.cell HBOX3.out 1).trans rfl
    go_wp2_with fail
    refine (HBAD2.out w3 HB3.out).mono ?_
    rintro e w4 ⟨rfl, hb4⟩
    have HB4 := Lib.hid (HB3.out.trans (hb4.mono HB3.out.size))
    have HBOX4 := Lib.hid (blk_below HBOX3.out hb4)
    clear hb4 d0 d1
    have t0 : (C == C) = true := by simp
    have HEQ := Lib.hid (equal_ports none none 0 0 [] w4 (fun h => by simp [portsV] at h) (fun h => by simp [portsV] at h) (by simp))
    go_wp2_with fail
    refine HEQ.out.mono ?_
    rintro e w5 ⟨rfl, mm, rfl⟩
    have d0 : w4.cell? ⟨w.heap.size, 0, none⟩ = some (.slice Ai ids.length ci) := (Blk.cell HBOX4.out 0).trans rfl
    have t1 : decide ((0 : Int) ≤ (ids.length : Int)) = true := by simp
    go_wp2_with fail
    go_ret
    exact ⟨rfl, pw_below_drewN HB4.out mm⟩
end Go.Proofs.Ytcpekijgjnnfoaa.Sp
