/-
  The law LearnLatest, walked.
-/
import Derived.Test.YtidgmoeimgjggaaMoves
import Derived.Test.YtidgmoeimgjggaaOpen
namespace Go.Proofs.Ytidgmoeimgjggaa.Learn
open Go.RowKit Go.Proofs.YtidgmoeimgjggaaW.PrintWords Go.Proofs.Ytidgmoeimgjggaa.Xm Go.Proofs.Ytidgmoeimgjggaa.Credit Go.Proofs.Ytidgmoeimgjggaa.Xo

attribute [local go_sem] max2_ints min2_ints max_of2 min_of2

theorem within_q (x n : Int) (w : World) (h1 : 1 ≤ n) (h2 : n ≤ 1000000000000000) :
    Calls Try.prog 11 #[.int .i64 x, .int .i64 n] w fun e w' => e = .returned (.int .i64 (wi x n)) ∧ w' = w := (within_any x n w h1 h2).mono fun _ _ ⟨h, k⟩ => ⟨h, k.symm⟩

/-- The state at the head of a round. -/
def LatInv (w1 wr : World) (age room : Int) (k : Nat) (now : Value) : Prop :=
  ∃ t l : Int, now = .int .i64 t ∧ 0 ≤ t ∧ t ≤ 71 * k ∧ l ≤ t ∧ IsTable wr 0 w1.heap.size age room l [] ∧ Only (· = w1.heap.size) w1 wr
def LatRel (w1 : World) (age room : Int) (n : Nat) (now i : Value) (wr : World) : Prop := ∃ k : Nat, k ≤ n ∧ i = .int .i64 k ∧ LatInv w1 wr age room k now

set_option maxHeartbeats 2000000 in
set_option maxRecDepth 100000 in
theorem learnLatest_walk (a b : Int) (ao : Option Addr) (len cap : Nat) (V : Nat → Value) (w : World) (hlc : len ≤ cap) (hcm : cap ≤ 9223372036854775807) (hc : Cells w ao len V) (hv : ∀ i, i < len → IsInts w (V i)) :
    Calls Try.prog 5 #[.int .i64 a, .int .i64 b, .slice ao len cap] w fun e w' => e = .returned (.bool true) ∧ Below w.heap.size w w' := by
  obtain ⟨a1, a2⟩ := wi_bd a 50 (by omega)
  obtain ⟨b1, b2⟩ := wi_bd b 8 (by omega)
  have HC := Lib.hid hc
  have HV := Lib.hid hv
  clear hc hv
  obtain ⟨n, hn1, hn2, hmin⟩ : ∃ n : Nat, n ≤ len ∧ n ≤ 60 ∧ (if (60 : Int) < (len : Int) then (60 : Int) else (len : Int)) = (n : Int) := by
    by_cases h : (60 : Int) < (len : Int)
    · exact ⟨60, by omega, by omega, by rw [if_pos h]; rfl⟩
    · exact ⟨len, by omega, by omega, by rw [if_neg h]⟩
  go_enter Try.func5, Try.ntmps5
  go_wp2_with (go_at_call 11; refine (within_any _ _ _ (by omega) (by omega)).mono ?_; rintro e w' ⟨rfl, rfl⟩)
  generalize wi a 50 = age at *
  generalize wi b 8 = room at *
  refine (learnWorks_any _).mono ?_
  rintro e w1 ⟨rfl, hB⟩
  have HB := Lib.hid hB
  clear hB
  go_wp2_with fail
  refine (new_any (1 + age) (1 + room) _ (by omega) (by omega) (by omega) (by omega)).mono ?_
  rintro e w' ⟨rfl, rfl⟩
  have I0 : Hid (LatInv w1 (w1.alloc (.cells #[.int .i64 (1 + age), .int .i64 (1 + room), .int .i64 0, .slice none 0 0] 75)) (1 + age) (1 + room) 0 (.int .i64 0)) :=
    ⟨0, 0, rfl, by omega, by omega, by omega, isTable_new w1 0 _ _, (Only.refl _ _).alloc _⟩
  go_wp2_with fail
  go_loopw [9, 42] (fun now i wr => LatRel w1 (1 + age) (1 + room) n now i wr) (fun _ i _ => n - (intOf i).toNat)
  case atStart => exact ⟨0, by omega, rfl, I0.out⟩
  case round =>
    obtain ⟨k, hk, rfl, t, l, rfl, t1, t2, t3, ht, ho⟩ := hrel
    have HT := Lib.hid ht
    have HO := Lib.hid ho
    clear ht ho
    by_cases hlt : k < n
    · obtain ⟨b', off, rfl, hbl, hcell⟩ := HC.out (by omega)
      obtain ⟨A, m, c, Z, hu, hm1, hm2, _, hz⟩ := HV.out k (by omega)
      have hbel := HB.out.trans (HO.out.below HB.out.size (fun q hq e => by have := HB.out.size; omega))
      have hcell1 : wr.cell? ⟨b', off + k, none⟩ = some (.slice A m c) := by
        rw [← hu]; exact (hbel.cell (p := ⟨b', off + k, none⟩) hbl).trans (hcell k (by omega))
      have hm3 : m ≤ 9223372036854775807 := by unfold maxLen at hm2; omega
      by_cases h3 : 3 ≤ m
      · obtain ⟨bb, oo, rfl, hbb, hzz⟩ := hz (by omega)
        have z0 : wr.cell? ⟨bb, oo, none⟩ = some (.int .i64 (Z 0)) := (hbel.cell (p := ⟨bb, oo, none⟩) hbb).trans (hzz 0 (by omega))
        have z1 : wr.cell? ⟨bb, oo + 1, none⟩ = some (.int .i64 (Z 1)) := (hbel.cell (p := ⟨bb, oo + 1, none⟩) hbb).trans (hzz 1 (by omega))
        have z2 : wr.cell? ⟨bb, oo + 2, none⟩ = some (.int .i64 (Z 2)) := (hbel.cell (p := ⟨bb, oo + 2, none⟩) hbb).trans (hzz 2 (by omega))
        obtain ⟨k1, k2⟩ := wi_bd (Z 0) 12 (by omega)
        obtain ⟨p1, p2⟩ := wi_bd (Z 1) 8 (by omega)
        obtain ⟨d1, d2⟩ := wi_bd (Z 2) 20 (by omega)
        clear hzz hz hcell hu hbel
        go_wp2_with fail
        go_quiet ((go_at_call 11; exact Calls.quiet_of_same (within_q _ _ _ (by omega) (by omega))))
        go_wp2_with fail
        refine (within_any _ _ _ (by omega) (by omega)).mono ?_
        rintro e w' ⟨rfl, rfl⟩
        generalize wi (Z 0) 12 = link at *
        generalize wi (Z 1) 8 = port at *
        generalize wi (Z 2) 20 = dd at *
        clear hcell1 z0 z1 z2
        go_wp2_with fail
        refine (see_any 0 w1.heap.size (1 + age) (1 + room) l (t + dd) link port [] _ (by exact HT.out) (fun x hx => by simp at hx) (by omega) (by omega) (by omega) (by omega) (by omega) (by simp; omega) (by omega) (by omega) (link_small link (by omega) (by omega)) (by omega) (by omega)).mono ?_
        rw [show seeL (([] : List Ent).filter (freshB (t + dd) (1 + age))) link port (t + dd) (1 + room) = [⟨link, port, t + dd⟩] from by
          simp [seeL, room1]]
        rintro e w2 ⟨rfl, ht2, ho2⟩
        have HT2 := Lib.hid (ht2.lower (Nat.zero_le _))
        have HO2 := Lib.hid ho2
        clear ht2 ho2
        go_wp2_with fail
        refine (size_any 0 w1.heap.size (1 + age) (1 + room) (t + dd) (t + dd) [⟨link, port, t + dd⟩] _ HT2.out (fun x hx => by simp at hx; subst hx; simp; omega) (by omega) (by omega) (by omega) (by simp)).mono ?_
        rintro e w3 ⟨he, ht3, ho3⟩
        rw [show ([⟨link, port, t + dd⟩] : List Ent).filter (freshB (t + dd) (1 + age)) = [⟨link, port, t + dd⟩] from by simp [freshB]; omega] at he ht3
        rw [show ((([⟨link, port, t + dd⟩] : List Ent).length : Nat) : Int) = 1 from rfl] at he
        subst he
        have HT3 := Lib.hid (ht3.lower (Nat.zero_le _))
        have HO3 := Lib.hid ho3
        clear ht3 ho3
        go_wp2_with fail
        refine (find_any 0 w1.heap.size (1 + age) (1 + room) (t + dd) _ link [⟨link, port, t + dd⟩] _ HT3.out (fun x hx => by simp at hx; subst hx; simp; omega) (by omega) (by omega) (by omega) (by simp)).mono ?_
        have hf1 : ∀ T, T - (t + dd) < 1 + age → ([⟨link, port, t + dd⟩] : List Ent).filter (freshB T (1 + age)) = [⟨link, port, t + dd⟩] := fun T hT => by simp [freshB]; omega
        have hf2 : ∀ T, 1 + age ≤ T - (t + dd) → ([⟨link, port, t + dd⟩] : List Ent).filter (freshB T (1 + age)) = [] := fun T hT => by simp [freshB]; omega
        rw [hf1 _ (by omega)]
        rintro e w4 ⟨he, ht4, ho4⟩
        rw [show findP [⟨link, port, t + dd⟩] link = (port, true) from by simp [findP]] at he
        subst he
        have HT4 := Lib.hid (ht4.lower (Nat.zero_le _))
        have HO4 := Lib.hid ho4
        have HF2 := Lib.hid hf2
        clear ht4 ho4 hf1 hf2
        have tb : (port != port) = false := by simp
        go_wp2_with fail
        refine (find_any 0 w1.heap.size (1 + age) (1 + room) _ _ link [⟨link, port, t + dd⟩] _ HT4.out (fun x hx => by simp at hx; subst hx; simp; omega) (by omega) (by omega) (by omega) (by simp)).mono ?_
        rw [HF2.out _ (by omega)]
        rintro e w5 ⟨he, ht5, ho5⟩
        rw [show findP [] link = (0, false) from rfl] at he
        subst he
        have HT5 := Lib.hid (ht5.lower (Nat.zero_le _))
        have HO5 := Lib.hid ho5
        clear ht5 ho5 tb
        go_wp2_with fail
        refine ⟨?_, by simp [intOf]; omega⟩
        have hO : Only (· = w1.heap.size) w1 w5 := ((((HO.out.drewN nq).trans HO2.out).trans HO3.out).trans HO4.out).trans HO5.out
        first | refine ⟨k + 1, ?_, ?_, ?_⟩ | ((repeat apply Exists.intro); refine ⟨⟨k + 1, ?_, ?_, ?_⟩, rfl⟩)
        · omega
        · go_num
        · exact ⟨_, _, rfl, by omega, by omega, by omega, HT5.out, hO⟩
      · clear hz hcell hu
        go_wp2_with fail
        refine ⟨?_, by simp [intOf]; omega⟩
        first | refine ⟨k + 1, ?_, ?_, ?_⟩ | ((repeat apply Exists.intro); refine ⟨⟨k + 1, ?_, ?_, ?_⟩, rfl⟩)
        · omega
        · go_num
        · exact ⟨t, l, rfl, t1, by omega, t3, HT.out, HO.out⟩
    · obtain rfl : k = n := by omega
      go_wp2_with fail
      go_ret
      exact ⟨rfl, HB.out.trans (HO.out.below HB.out.size (fun q hq e => by have := HB.out.size; omega))⟩

theorem learnLatest_row (w : World) (a : Int) (_ : (Lit.int .i64 a).wf = true) (b : Int) (_ : (Lit.int .i64 b).wf = true) (v : Value) (h : IsRows w v) :
    Calls Try.prog 5 #[.int .i64 a, .int .i64 b, v] w fun e w' => e = .returned (.bool true) ∧ Below w.heap.size w w' := by
  obtain ⟨ao, len, cap, V, rfl, h1, h2, h3, h4, h5, h6⟩ := h
  exact learnLatest_walk a b ao len cap V w h1 (by unfold maxLen at h2; omega) h5 h6
end Go.Proofs.Ytidgmoeimgjggaa.Learn
