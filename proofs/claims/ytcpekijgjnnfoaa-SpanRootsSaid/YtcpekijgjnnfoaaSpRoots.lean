/-
  The law SpanRoots: all ports of the bridge with the smallest identifier are open: the walk.
-/
import Derived.Test.YtcpekijgjnnfoaaSpX
import Derived.Test.YtcpekijgjnnfoaaSpT5
import Derived.Test.YtcpekijgjnnfoaaSpO
namespace Go.Proofs.Ytcpekijgjnnfoaa.Sp
open Go.RowKit Go.Proofs.YtcpekijgjnnfoaaW.PrintWords Go.Proofs.Ytcpekijgjnnfoaa.Xm Go.Proofs.Ytcpekijgjnnfoaa.Ints Go.Proofs.Ytcpekijgjnnfoaa.Xo Go.Proofs.Ytcpekijgjnnfoaa.Rq Go.Sort

theorem portsV_len (S : List SPort) : (portsV S).length = S.length * 3 := flat_len encP 3 (fun _ => rfl) S
theorem portsV_get {S : List SPort} {i : Nat} {x : SPort} (h : S[i]? = some x) (j : Nat) (hj : j < 3) : (portsV S)[i * 3 + j]? = (encP x)[j]? := flat_get encP 3 (fun _ => rfl) S i x h j hj
def RootsRel (w2 : World) (n : Nat) (i : Value) (wr : World) : Prop := ∃ k : Nat, k ≤ n ∧ i = .int .i64 k ∧ Below w2.heap.size w2 wr
theorem foldl_min_le : ∀ (L : List Int) (a : Int), L.foldl min a ≤ a ∧ ∀ x ∈ L, L.foldl min a ≤ x
  | [], a => ⟨Int.le_refl a, fun x hx => by cases hx⟩
  | y :: L, a => by
    obtain ⟨h1, h2⟩ := foldl_min_le L (min a y)
    have h3 := Int.min_le_left a y
    have h4 := Int.min_le_right a y
    rw [List.foldl_cons]
    refine ⟨by omega, fun x hx => ?_⟩
    rcases List.mem_cons.1 hx with rfl | hx
    · omega
    · exact h2 x hx
theorem minOf_le {L : List Int} : ∀ x ∈ L, Lib.minOf L ≤ x := (foldl_min_le L (L.headD 0)).2
set_option maxHeartbeats 3200000 in
set_option maxRecDepth 100000 in
theorem roots_walk (w : World) (v : Value) (h : IsSpannet w v) : Calls Try.prog 3 #[v] w fun e w' => e = .returned (.bool true) ∧ Below w.heap.size w w' := by
  obtain ⟨Ai, Al, ci, cl, ids, L, h⟩ := h
  obtain ⟨rfl, hi, hl, -, -⟩ := h
  have hb0 := below_alloc (Below.refl w.heap.size w) (.cells #[.slice Ai ids.length ci, .slice Al L.length cl] 25)
  have HBOX := Lib.hid (Blk.new w #[.slice Ai ids.length ci, .slice Al L.length cl] 25)
  have HB0 := Lib.hid hb0
  have HI := Lib.hid hi
  have HL := Lib.hid hl
  clear hi hl hb0
  go_enter Try.func3, Try.ntmps3
  go_wp2_with fail
  generalize w.alloc (.cells #[.slice Ai ids.length ci, .slice Al L.length cl] 25) = w1 at *
  refine (spanWorks_any w1).mono ?_
  rintro e w2 ⟨rfl, hb2⟩
  have HB2 := Lib.hid (HB0.out.trans (hb2.mono HB0.out.size))
  have HBOX2 := Lib.hid (blk_below HBOX.out hb2)
  clear hb2
  have d0 : w2.cell? ⟨w.heap.size, 0, none⟩ = some (.slice Ai ids.length ci) := (Blk.cell HBOX2.out 0).trans rfl
  have d1 : w2.cell? ⟨w.heap.size, 1, none⟩ = some (.slice Al L.length cl) := (Blk.cell HBOX2.out 1).trans rfl
  by_cases hc : checkCode ids L = 0
  · have g := check_ok.1 hc
    have G := Lib.hid g
    clear hc g
    go_wp2_with fail
    refine (tree_ok Ai Al ci cl ids L w2 (HI.out.below HB2.out (Nat.le_refl _)) (HL.out.below HB2.out) G.out).mono ?_
    rintro e w3 ⟨E, A, c, hE, rfl, hq, hb3⟩
    have hsl : (statesL ids (treeN ids E) E).length = E.length := by simp [statesL]
    have HEN := Lib.hid hE
    have HQ := Lib.hid (RowC.of_q hq)
    have HB3 := Lib.hid (HB2.out.trans (hb3.mono HB2.out.size))
    have HBOX3 := Lib.hid (blk_below HBOX2.out hb3)
    obtain ⟨S, hS⟩ : ∃ S, statesL ids (treeN ids E) E = S := ⟨_, rfl⟩
    rw [hS] at HQ hsl ⊢
    have HS := Lib.hid hS
    have HSL := Lib.hid hsl
    have hn48 := G.out.l48
    have hel : S.length ≤ 96 := by rw [hsl, hE.perm.length_eq, rawE_len]; omega
    clear hE hq hb3 hS hsl d0 d1
    go_wp2_with fail
    go_loopw [21] (fun i wr => RootsRel w3 S.length i wr) (fun i _ => S.length - (intOf i).toNat)
    case atStart => exact ⟨0, Nat.zero_le _, rfl, Below.refl _ _⟩
    case round =>
      obtain ⟨k, hk, rfl, hb⟩ := hrel
      by_cases hlt : k < S.length
      · have hd : decide ((k : Int) < (S.length : Int)) = true := by simp; omega
        obtain ⟨b, off, rfl, hbl, hcs⟩ := HQ.out (by rw [portsV_len]; omega)
        have hke : k < E.length := by have := HSL.out; omega
        obtain ⟨x, hx⟩ : ∃ x, E[k]? = some x := ⟨E[k], List.getElem?_eq_getElem _⟩
        have hxm := List.mem_of_getElem? hx
        have hsk : S[k]? = some (stateOf ids (treeN ids E) x) := by rw [← HS.out]; unfold statesL; rw [List.getElem?_map, hx]; rfl
        have hro := roots_open G.out HEN.out hxm
        have hok := (HEN.out.ok G.out hxm).b
        obtain ⟨st, hst⟩ : ∃ st, stateOf ids (treeN ids E) x = st := ⟨_, rfl⟩
        have hsb : st.bridge = x.bridge := by rw [← hst]; rfl
        rw [hst] at hsk hro
        obtain ⟨bi, hbi⟩ := Int.eq_ofNat_of_zero_le hok.1
        rw [hbi] at hsb hok hro
        rw [Int.toNat_natCast] at hro
        have hbl2 : bi < ids.length := by omega
        obtain ⟨sb, sp, so⟩ := st
        simp only at hsb hro
        subst hsb
        have c0 : wr.cell? ⟨b, off + k * 3, none⟩ = some (.int .i64 (bi : Int)) := pw_cell_below hb (hcs (k * 3) _ ((portsV_get hsk 0 (by omega)).trans rfl))
        have c1 : wr.cell? ⟨b, off + k * 3 + 1, none⟩ = some (.int .i64 sp) := by rw [Nat.add_assoc]; exact pw_cell_below hb (hcs (k * 3 + 1) _ ((portsV_get hsk 1 (by omega)).trans rfl))
        have c2 : wr.cell? ⟨b, off + k * 3 + 2, none⟩ = some (.bool so) := by rw [Nat.add_assoc]; exact pw_cell_below hb (hcs (k * 3 + 2) _ ((portsV_get hsk 2 (by omega)).trans rfl))
        obtain ⟨Ai', ci', he, hc1, hc2, _, hcc⟩ := HI.out
        injection he with he1 he2 he3
        subst he1
        subst he3
        obtain ⟨ib, io, rfl, hil, hic⟩ := hcc (by omega)
        have hbx := below_alloc (Below.refl wr.heap.size wr) (.cells #[.int .i64 (bi : Int), .int .i64 sp, .bool so] 32)
        have HEX := Lib.hid (Blk.new wr #[.int .i64 (bi : Int), .int .i64 sp, .bool so] 32)
        have HBX := Lib.hid (hb.trans (hbx.mono hb.size))
        have HBW := Lib.hid (HB3.out.trans (HBX.out.mono HB3.out.size))
        have HNX := Lib.hid (blk_below HBOX3.out HBX.out)
        obtain ⟨y, hy⟩ : ∃ y, ids[bi]? = some y := ⟨ids[bi], List.getElem?_eq_getElem _⟩
        have hkey : key ids bi = y := by simp [key, List.getD_eq_getElem?_getD, hy]
        have hmin := fun W (hW : Below w.heap.size w W) => Try.slices_Min_int ib io ids.length ci ids W (by omega) (Nat.le_refl _) (by omega) (fun j hj => pw_cell_below hW (hic j _ (by rw [List.getD_eq_getElem?_getD, List.getElem?_eq_getElem hj]; simp)))
        rw [List.take_length] at hmin
        obtain ⟨mn, hmn⟩ : ∃ mn, Lib.minOf ids = mn := ⟨_, rfl⟩
        rw [hmn] at hmin
        have hopen : y = mn → so = true := by
          intro e
          refine hro fun u hu => ?_
          rw [hkey, e, ← hmn]
          unfold key
          rw [List.getD_eq_getElem?_getD, List.getElem?_eq_getElem hu]
          exact minOf_le _ (List.getElem_mem hu)
        have HIC := Lib.hid (hic bi y hy)
        have HMIN := Lib.hid hmin
        clear hb hcs hx hxm hsk hro hok hst hbi hcc hic hbx hy hkey hmin hmn
        go_upto_region 9 with (fail)
        generalize wr.alloc (.cells #[.int .i64 (bi : Int), .int .i64 sp, .bool so] 32) = wx at *
        clear c0 c1 c2
        have c0 : wx.cell? ⟨wr.heap.size, 0, none⟩ = some (.int .i64 (bi : Int)) := (Blk.cell HEX.out 0).trans rfl
        have c2 : wx.cell? ⟨wr.heap.size, 2, none⟩ = some (.bool so) := (Blk.cell HEX.out 2).trans rfl
        have d0 : wx.cell? ⟨w.heap.size, 0, none⟩ = some (.slice (some ⟨ib, io, none⟩) ids.length ci) := (Blk.cell HNX.out 0).trans rfl
        have e0 : wx.cell? ⟨ib, io + bi, none⟩ = some (.int .i64 y) := pw_cell_below HBW.out HIC.out
        have t1 : decide ((ids.length : Int) ≤ (bi : Int)) = false := by simp; omega
        have i0 : (0 : Int) ≤ (bi : Int) := by omega
        have i1 : (bi : Int) < (ids.length : Int) := by omega
        have HM := Lib.hid (fun n => HMIN.out (wx.drewN n) (pw_below_drewN HBW.out n))
        by_cases hym : y = mn
        · have T1 : (y == mn) = true := by simpa using hym
          obtain rfl : so = true := hopen hym
          clear hym hopen
          go_quiet ((go_at_call 10; exact Calls.quiet_of_same (HM.out _)))
          go_wp2_with fail
          exact ⟨⟨k + 1, hlt, by go_num, pw_below_drewN HBX.out nq⟩, by simp [intOf]; omega⟩
        · have T1 : (y == mn) = false := by simpa using hym
          clear hym hopen
          go_quiet ((go_at_call 10; exact Calls.quiet_of_same (HM.out _)))
          go_wp2_with fail
          exact ⟨⟨k + 1, hlt, by go_num, pw_below_drewN HBX.out nq⟩, by simp [intOf]; omega⟩
      · obtain rfl : k = S.length := by omega
        have hd : decide ((S.length : Int) < (S.length : Int)) = false := by simp
        have HF := Lib.hid (HB3.out.trans (hb.mono HB3.out.size))
        clear hb
        go_wp2_with fail
        go_ret
        exact ⟨rfl, HF.out⟩
  · have HBAD := Lib.hid (tree_bad Ai Al ci cl ids L w2 (HI.out.below HB2.out (Nat.le_refl _)) (HL.out.below HB2.out) hc)
    have t1 : (checkCode ids L != 0) = true := by simpa using hc
    obtain ⟨C, hC⟩ : ∃ C, checkCode ids L = C := ⟨_, rfl⟩
    rw [hC] at HBAD t1
    clear hc hC
    go_wp2_with fail
    refine HBAD.out.mono ?_
    rintro e w3 ⟨rfl, hb3⟩
    have HF := Lib.hid (HB2.out.trans (hb3.mono HB2.out.size))
    clear hb3
    go_wp2_with fail
    go_ret
    exact ⟨rfl, HF.out⟩
end Go.Proofs.Ytcpekijgjnnfoaa.Sp
