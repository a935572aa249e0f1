/-
  Settle: its contract.
-/
import Derived.Test.YtcpekijgjnnfoaaSpY
import Derived.Test.YtcpekijgjnnfoaaSpW
namespace Go.Proofs.Ytcpekijgjnnfoaa.Sp
open Go.RowKit Go.Proofs.YtcpekijgjnnfoaaW.PrintWords Go.Proofs.Ytcpekijgjnnfoaa.Xm Go.Proofs.Ytcpekijgjnnfoaa.Ints Go.Proofs.Ytcpekijgjnnfoaa.Rq Go.Sort

def SettleOk (w w' : World) (ids : List Int) (L : List Link) (e : Ending) : Prop :=
  ∃ E A c, ∃ k : Nat, Ends L E ∧ k ≤ ids.length ∧ e = .returned (.tuple #[.slice A (statesL ids (treeN ids E) E).length c, .int .i64 (k : Int), .int .i64 0]) ∧ RowC w' A (portsV (statesL ids (treeN ids E) E)) ∧ Below w.heap.size w w'
set_option maxHeartbeats 800000 in
theorem settle_bad (Ai Al : Option Addr) (ci cl : Nat) (ids : List Int) (L : List Link) (w : World) (hi : RInts w (.slice Ai ids.length ci) ids) (hl : RowC w Al (linksV L)) (hc : checkCode ids L ≠ 0) :
    Calls Try.prog 21 #[.agg #[.slice Ai ids.length ci, .slice Al L.length cl]] w fun e w' => e = .returned (.tuple #[.slice none 0 0, .int .i64 0, .int .i64 (checkCode ids L)]) ∧ Below w.heap.size w w' := by
  have hb0 := below_alloc (Below.refl w.heap.size w) (.cells #[.slice Ai ids.length ci, .slice Al L.length cl] 25)
  have HCK := Lib.hid (check_any Ai Al ci cl ids L (w.alloc (.cells #[.slice Ai ids.length ci, .slice Al L.length cl] 25)) (hi.below hb0 (Nat.le_refl _)) (hl.below hb0))
  have HB0 := Lib.hid hb0
  have ht : (checkCode ids L == 0) = false := by simpa using hc
  have ht2 : (checkCode ids L != 0) = true := by simpa using hc
  obtain ⟨C, hC⟩ : ∃ C, checkCode ids L = C := ⟨_, rfl⟩
  rw [hC] at HCK ht ht2 ⊢
  clear hi hl hc hC hb0
  go_enter Try.func21, Try.ntmps21
  go_wp2_with fail
  refine HCK.out.mono ?_
  rintro e w2 ⟨rfl, hb2⟩
  have HF := Lib.hid (HB0.out.trans (hb2.mono HB0.out.size))
  clear hb2
  go_wp2_with fail
  go_ret3
  exact ⟨rfl, HF.out⟩
def SetRel (w3 : World) (ids : List Int) (E : List End) (now r : Value) (wr : World) : Prop :=
  ∃ (k : Nat) (A : Option Addr) (c : Nat), k ≤ ids.length ∧ r = .int .i64 k ∧ now = .slice A ids.length c ∧ RowC wr A (bels (iter ids E k)) ∧ Below w3.heap.size w3 wr
set_option maxHeartbeats 6400000 in
set_option maxRecDepth 100000 in
theorem settle_ok (Ai Al : Option Addr) (ci cl : Nat) (ids : List Int) (L : List Link) (w : World) (hi : RInts w (.slice Ai ids.length ci) ids) (hl : RowC w Al (linksV L)) (g : NetOk ids L) :
    Calls Try.prog 21 #[.agg #[.slice Ai ids.length ci, .slice Al L.length cl]] w fun e w' => SettleOk w w' ids L e := by
  have hb0 := below_alloc (Below.refl w.heap.size w) (.cells #[.slice Ai ids.length ci, .slice Al L.length cl] 25)
  have HBOX := Lib.hid (Blk.new w #[.slice Ai ids.length ci, .slice Al L.length cl] 25)
  have hck := check_any Ai Al ci cl ids L (w.alloc (.cells #[.slice Ai ids.length ci, .slice Al L.length cl] 25)) (hi.below hb0 (Nat.le_refl _)) (hl.below hb0)
  rw [check_ok.2 g] at hck
  have HCK := Lib.hid hck
  have HB0 := Lib.hid hb0
  have HI := Lib.hid (RowC.of_rints hi)
  have HL := Lib.hid hl
  have G := Lib.hid g
  have hn16 := g.n16
  have hl48 := g.l48
  clear hi hl g hck hb0
  go_enter Try.func21, Try.ntmps21
  go_wp2_with fail
  generalize w.alloc (.cells #[.slice Ai ids.length ci, .slice Al L.length cl] 25) = w1 at *
  refine HCK.out.mono ?_
  rintro e w2 ⟨rfl, hb2⟩
  have HB2 := Lib.hid (HB0.out.trans (hb2.mono HB0.out.size))
  have HBOX2 := Lib.hid (blk_below HBOX.out hb2)
  clear hb2 HCK
  have c0 : w2.cell? ⟨w.heap.size, 0, none⟩ = some (.slice Ai ids.length ci) := (Blk.cell HBOX2.out 0).trans rfl
  have c1 : w2.cell? ⟨w.heap.size, 1, none⟩ = some (.slice Al L.length cl) := (Blk.cell HBOX2.out 1).trans rfl
  go_wp2_with fail
  refine (ends_any Ai Al ids.length ci cl L w2 (HL.out.below HB2.out) (by omega)).mono ?_
  rintro e w3 ⟨Ae, ce, E, rfl, hperm, hsort, hE, hb3⟩
  have HEN := Lib.hid (show Ends L E from ⟨hperm, sortedP_of hsort⟩)
  have hlen : E.length = L.length * 2 := by rw [hperm.length_eq, rawE_len]
  have HE := Lib.hid hE
  have HB3 := Lib.hid (HB2.out.trans (hb3.mono HB2.out.size))
  have HBOX3 := Lib.hid (blk_below HBOX2.out hb3)
  have he96 : E.length ≤ 96 := by omega
  rw [← hlen]
  clear hb3 c0 c1 hperm hsort hE hlen
  have c0 : w3.cell? ⟨w.heap.size, 0, none⟩ = some (.slice Ai ids.length ci) := (Blk.cell HBOX3.out 0).trans rfl
  have c1 : w3.cell? ⟨w.heap.size, 1, none⟩ = some (.slice Al L.length cl) := (Blk.cell HBOX3.out 1).trans rfl
  go_wp2_with fail
  refine (start_any Ai Al L.length ci cl ids w3 (HI.out.below HB3.out) (by omega)).mono ?_
  rintro e w4 ⟨v, rfl, hq, hb4⟩
  obtain ⟨An, cn, rfl, -⟩ := q_slice hq
  have HNET := Lib.hid (HEN.out.net G.out)
  have HCE := Lib.hid (show ∀ x ∈ E, 1 ≤ x.cost ∧ x.cost ≤ 1000 from fun x hx => (HEN.out.ok G.out hx).cost)
  have HQ0 := Lib.hid (RowC.of_q hq)
  have HB4 := Lib.hid hb4
  clear hq hb4 c0 c1
  go_wp2_with fail
  go_loopw [7, 8, 9] (fun now r _ wr => SetRel w3 ids E now r wr) (fun _ r _ _ => ids.length - (intOf r).toNat)
  case atStart => exact ⟨0, An, cn, Nat.zero_le _, rfl, rfl, HQ0.out, HB4.out⟩
  case round =>
    obtain ⟨k, A, c, hk, rfl, rfl, hr, hb⟩ := hrel
    have HNX := Lib.hid (blk_below HBOX3.out hb)
    have HBW := Lib.hid (HB3.out.trans (hb.mono HB3.out.size))
    have hil := iter_len HNET.out.inn k
    have hbn : ∀ b ∈ iter ids E k, 0 ≤ b.cost ∧ b.cost ≤ 1000000 := fun b hb => by
      have := bnd_iter HNET.out.inn HCE.out k b hb
      omega
    have hst := step_any Ai Al A Ae L.length ci cl c ce ids (iter ids E k) E wr (HI.out.below HBW.out) hr (HE.out.below hb) hil HNET.out.inn (by omega) (by omega) hbn HCE.out
    rw [hil] at hst
    have HST := Lib.hid hst
    have HR := Lib.hid hr
    have HB := Lib.hid hb
    have HIL := Lib.hid hil
    have d0 : wr.cell? ⟨w.heap.size, 0, none⟩ = some (.slice Ai ids.length ci) := (Blk.cell HNX.out 0).trans rfl
    have d1 : wr.cell? ⟨w.heap.size, 1, none⟩ = some (.slice Al L.length cl) := (Blk.cell HNX.out 1).trans rfl
    clear hr hb hil hbn hst
    go_wp2_with fail
    refine HST.out.mono ?_
    rintro e w5 ⟨A5, c5, rfl, hr5, hb5⟩
    have hl5 : (stepN ids E (iter ids E k)).length = ids.length := stepN_len HNET.out.inn _
    have heq := equal_bels A5 A c5 c (stepN ids E (iter ids E k)) (iter ids E k) w5 (by rw [hl5, HIL.out]) hr5 (HR.out.below hb5) (by omega)
    rw [hl5] at heq
    rw [hl5]
    have HEQ := Lib.hid heq
    have HR5 := Lib.hid hr5
    have HRN := Lib.hid (HR.out.below hb5)
    have HB5 := Lib.hid (HB.out.trans (hb5.mono HB.out.size))
    have HBW5 := Lib.hid (HBW.out.trans (hb5.mono HBW.out.size))
    have HN5 := Lib.hid (blk_below HNX.out hb5)
    clear hl5 heq hr5 hb5 d0 d1
    go_wp2_with fail
    refine HEQ.out.mono ?_
    rintro e w6 ⟨⟨bt, rfl, hbt⟩, mm, rfl⟩
    cases bt with
    | true =>
      have hfix : stepN ids E (iter ids E k) = iter ids E k := hbt.1 rfl
      have htree : iter ids E k = treeN ids E := (iter_same hfix hk).trans (tree_iter HNET.out)
      have d0 : w5.cell? ⟨w.heap.size, 0, none⟩ = some (.slice Ai ids.length ci) := (Blk.cell HN5.out 0).trans rfl
      have d1 : w5.cell? ⟨w.heap.size, 1, none⟩ = some (.slice Al L.length cl) := (Blk.cell HN5.out 1).trans rfl
      have hrt := HRN.out
      have hil := HIL.out
      rw [htree] at hrt hil
      have hss := states_any Ai Al A Ae L.length ci cl c ce ids (treeN ids E) E (w5.drewN mm) (HI.out.below (pw_below_drewN HBW5.out mm)) (hrt.below (pw_below_drewN (Below.refl _ _) mm)) (HE.out.below (pw_below_drewN HB5.out mm)) hil HNET.out.inn (by omega)
      rw [hil] at hss
      have HSS := Lib.hid hss
      clear hbt hfix htree hrt hil hss
      go_wp2_with fail
      refine HSS.out.mono ?_
      rintro e w7 ⟨A7, c7, rfl, hq7, hb7⟩
      have HF := Lib.hid (show SettleOk w w7 ids L (.returned (.tuple #[.slice A7 (statesL ids (treeN ids E) E).length c7, .int .i64 (k : Int), .int .i64 0])) from
        ⟨E, A7, c7, k, HEN.out, hk, rfl, RowC.of_q hq7, (pw_below_drewN HBW5.out mm).trans (hb7.mono (pw_below_drewN HBW5.out mm).size)⟩)
      clear hq7 hb7
      go_wp2_with fail
      go_ret3
      exact HF.out
    | false =>
      have hkn : k < ids.length := by
        rcases Nat.lt_or_ge k ids.length with h | h
        · exact h
        · exfalso
          have e : k = ids.length := by omega
          have := hbt.2 (by rw [e]; exact iter_fix HNET.out)
          cases this
      clear hbt
      go_wp2_with fail
      have HF := Lib.hid (show SetRel w3 ids E (.slice A5 ids.length c5) (.int .i64 ((k + 1 : Nat) : Int)) (w5.drewN mm) from ⟨k + 1, A5, c5, hkn, rfl, rfl, HR5.out.below (pw_below_drewN (Below.refl _ _) mm), pw_below_drewN HB5.out mm⟩)
      exact ⟨HF.out, by simp [intOf]; omega⟩
end Go.Proofs.Ytcpekijgjnnfoaa.Sp
