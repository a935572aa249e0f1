/-
  The law CreditFlows, walked.
-/
import Derived.Test.YtidgmoeimgjggaaCredit
import Derived.Deep.LoopGhost
namespace Go.Proofs.Ytidgmoeimgjggaa.Credit
open Go.RowKit Go.Proofs.YtidgmoeimgjggaaW.PrintWords Go.Proofs.Ytidgmoeimgjggaa.Xm

attribute [local go_sem] max2_ints min2_ints max_of2 min_of2

set_option maxHeartbeats 1000000 in
theorem creditFlows_walk (a b : Int) (w : World) :
    Calls Try.prog 4 #[.int .i64 a, .int .i64 b] w fun e w' => e = .returned (.bool true) ∧ Below w.heap.size w w' := by
  obtain ⟨r1, r2⟩ := wi_bd a 50 (by omega)
  obtain ⟨l1, l2⟩ := wi_bd b 500 (by omega)
  go_enter Try.func4, Try.ntmps4
  go_wp2_with (go_at_call 11; refine (within_any _ _ _ (by omega) (by omega)).mono ?_; rintro e w' ⟨rfl, rfl⟩)
  generalize wi a 50 = room at *
  generalize wi b 500 = all at *
  refine (creditWorks_any _).mono ?_
  rintro e w1 ⟨rfl, hB⟩
  have HB := Lib.hid hB
  clear hB
  go_wp2_with fail
  refine (newGiver_any _ _ (by omega) (by omega)).mono ?_
  rintro e w' ⟨rfl, rfl⟩
  go_wp2_with fail
  refine (newTaker_any _).mono ?_
  rintro e w' ⟨rfl, rfl⟩
  go_wp2_with fail
  go_loopw [8] (fun left wr => ∃ s c : Int, left = .int .i64 (all - s) ∧ 0 ≤ s ∧ s ≤ all ∧ s ≤ c ∧ c ≤ s + (1 + room) ∧ IsGiver wr w1.heap.size (1 + room) s s ∧ IsTaker wr (w1.heap.size + 1) c s ∧ Only (fun k => w1.heap.size ≤ k) w1 wr) (fun left _ => (intOf left).toNat)
  case atStart =>
    refine ⟨0, 0, by simp, by omega, by omega, by omega, by omega, (Blk.new w1 _ _).alloc _, ?_, ((Only.refl _ _).alloc _).alloc _⟩
    have := Blk.new (w1.alloc (.cells #[.int .i64 (1 + room), .int .i64 0, .int .i64 0] 70)) #[.int .i64 0, .int .i64 0] 72
    exact (by simpa using this : Blk _ (w1.heap.size + 1) _ _)
  case round =>
    obtain ⟨s, c, rfl, s1, s2, s3, s4, hg, ht, ho⟩ := hrel
    have HG := Lib.hid hg
    have HT := Lib.hid ht
    have HO := Lib.hid ho
    clear hg ht ho
    by_cases hs : s < all
    · by_cases hle : all - s < 1 + room
      · go_wp2_with fail
        refine (grant_any _ (1 + room) s s _ HG.out (by omega) (by omega) (by omega) (by omega)).mono ?_
        rintro e w' ⟨rfl, m, rfl⟩
        go_wp2_with fail
        refine (hear_any _ c s _ _ (by exact HT.out) (by omega) (by omega)).mono ?_
        rintro e w2 ⟨rfl, ht2, ho2⟩
        have HT2 := Lib.hid ht2
        have HO2 := Lib.hid ho2
        clear ht2 ho2
        go_wp2_with fail
        refine (send_any _ _ s _ _ HT2.out (by omega) (by omega) (by omega) (by omega) (by omega)).mono ?_
        rw [show min (all - s) (s + (1 + room) - s) = all - s by omega]
        rintro e w3 ⟨rfl, ht3, ho3⟩
        have HT3 := Lib.hid ht3
        have HO3 := Lib.hid ho3
        clear ht3 ho3
        have HG3 := Lib.hid (HO3.out.blk (HO2.out.blk (Blk.drewN HG.out m) (by simp)) (by simp))
        go_wp2_with fail
        refine (in_any _ (1 + room) s s _ _ (by exact HG3.out) (by omega) (by omega) (by omega) (by omega) (by omega) (by omega) (by omega) (by omega)).mono ?_
        rintro e w4 ⟨rfl, hg4, ho4⟩
        have HG4 := Lib.hid hg4
        have HO4 := Lib.hid ho4
        clear hg4 ho4
        go_wp2_with fail
        refine (take_any _ (1 + room) _ s _ _ HG4.out (by omega) (by omega) (by omega) (by omega) (by omega) (by omega)).mono ?_
        rw [show min (all - s) (s + (all - s) - s) = all - s by omega]
        rintro e w5 ⟨rfl, hg5, ho5⟩
        have HG5 := Lib.hid hg5
        have HO5 := Lib.hid ho5
        clear hg5 ho5
        go_wp2_with fail
        go_roundw
        case rel =>
          refine ⟨s + (all - s), s + (1 + room), by (congr 1; omega), by omega, by omega, by omega, by omega, HG5.out, HO5.out.blk (HO4.out.blk HT3.out (by simp)) (by simp), ?_⟩
          have k2 := (HO.out.drewN m).step HO2.out (by intro i hi e; omega)
          have k3 := k2.step HO3.out (by intro i hi e; omega)
          have k4 := k3.step HO4.out (by intro i hi e; omega)
          exact k4.step HO5.out (by intro i hi e; omega)
        case measure => simp [intOf]; omega
      · go_wp2_with fail
        refine (grant_any _ (1 + room) s s _ HG.out (by omega) (by omega) (by omega) (by omega)).mono ?_
        rintro e w' ⟨rfl, m, rfl⟩
        go_wp2_with fail
        refine (hear_any _ c s _ _ (by exact HT.out) (by omega) (by omega)).mono ?_
        rintro e w2 ⟨rfl, ht2, ho2⟩
        have HT2 := Lib.hid ht2
        have HO2 := Lib.hid ho2
        clear ht2 ho2
        go_wp2_with fail
        refine (send_any _ _ s _ _ HT2.out (by omega) (by omega) (by omega) (by omega) (by omega)).mono ?_
        rw [show min (all - s) (s + (1 + room) - s) = 1 + room by omega]
        rintro e w3 ⟨rfl, ht3, ho3⟩
        have HT3 := Lib.hid ht3
        have HO3 := Lib.hid ho3
        clear ht3 ho3
        have HG3 := Lib.hid (HO3.out.blk (HO2.out.blk (Blk.drewN HG.out m) (by simp)) (by simp))
        go_wp2_with fail
        refine (in_any _ (1 + room) s s _ _ (by exact HG3.out) (by omega) (by omega) (by omega) (by omega) (by omega) (by omega) (by omega) (by omega)).mono ?_
        rintro e w4 ⟨rfl, hg4, ho4⟩
        have HG4 := Lib.hid hg4
        have HO4 := Lib.hid ho4
        clear hg4 ho4
        go_wp2_with fail
        refine (take_any _ (1 + room) _ s _ _ HG4.out (by omega) (by omega) (by omega) (by omega) (by omega) (by omega)).mono ?_
        rw [show min (1 + room) (s + (1 + room) - s) = 1 + room by omega]
        rintro e w5 ⟨rfl, hg5, ho5⟩
        have HG5 := Lib.hid hg5
        have HO5 := Lib.hid ho5
        clear hg5 ho5
        go_wp2_with fail
        go_roundw
        case rel =>
          refine ⟨s + (1 + room), s + (1 + room), by (congr 1; omega), by omega, by omega, by omega, by omega, HG5.out, HO5.out.blk (HO4.out.blk HT3.out (by simp)) (by simp), ?_⟩
          have k2 := (HO.out.drewN m).step HO2.out (by intro i hi e; omega)
          have k3 := k2.step HO3.out (by intro i hi e; omega)
          have k4 := k3.step HO4.out (by intro i hi e; omega)
          exact k4.step HO5.out (by intro i hi e; omega)
        case measure => simp [intOf]; omega
    · obtain rfl : s = all := by omega
      go_wp2_with fail
      refine (sent_any _ c s _ HT.out).mono ?_
      rintro e w' ⟨rfl, rfl⟩
      go_wp2_with fail
      refine (held_any _ (1 + room) s s _ HG.out (by omega) (by omega) (by omega) (by omega)).mono ?_
      rintro e w' ⟨rfl, m, rfl⟩
      go_wp2_with fail
      refine (grant_any _ (1 + room) s s _ (by exact HG.out) (by omega) (by omega) (by omega) (by omega)).mono ?_
      rintro e w' ⟨rfl, m2, rfl⟩
      go_wp2_with fail
      go_ret
      exact ⟨rfl, pw_below_drewN (HB.out.trans (HO.out.below HB.out.size (fun k hk e => by have := HB.out.size; omega))) _⟩

theorem creditFlows_row (a : Int) (_ : (Lit.int .i64 a).wf = true) (b : Int) (_ : (Lit.int .i64 b).wf = true) (w : World) :
    Calls Try.prog 4 #[.int .i64 a, .int .i64 b] w fun e w' => e = .returned (.bool true) ∧ Below w.heap.size w w' := creditFlows_walk a b w
end Go.Proofs.Ytidgmoeimgjggaa.Credit
