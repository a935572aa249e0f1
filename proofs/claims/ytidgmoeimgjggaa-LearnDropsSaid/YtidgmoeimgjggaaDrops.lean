/-
  The law LearnDrops, walked.
-/
import Derived.Test.YtidgmoeimgjggaaLatest
import Derived.StillTailTactics
namespace Go.Proofs.Ytidgmoeimgjggaa.Learn
open Go.RowKit Go.Proofs.YtidgmoeimgjggaaW.PrintWords Go.Proofs.Ytidgmoeimgjggaa.Xm Go.Proofs.Ytidgmoeimgjggaa.Credit Go.Proofs.Ytidgmoeimgjggaa.Xo

attribute [local go_sem] max2_ints min2_ints max_of2 min_of2

def Zero (L : List Ent) : Prop := ∀ x ∈ L, x.seen = 0
theorem Zero.seen {L : List Ent} (h : Zero L) {now : Int} (hn : 0 ≤ now) : Seen now L := fun x hx => by rw [h x hx]; exact ⟨by omega, hn⟩
theorem Zero.fresh {L : List Ent} (h : Zero L) : L.filter (freshB 0 1000000000) = L := by
  rw [List.filter_eq_self]
  intro x hx
  simp [freshB, h x hx]
theorem zero_see {L : List Ent} (h : Zero L) (link port room : Int) : Zero (seeL L link port 0 room) := by
  intro x hx
  rcases List.mem_append.1 hx with hx | hx
  · have h2 : x ∈ L.eraseP (linkB link) := by
      unfold room1 at hx
      split at hx
      · exact List.mem_of_mem_drop hx
      · exact hx
    exact h x (List.mem_of_mem_eraseP h2)
  · simp at hx; rw [hx]
theorem len_see {L : List Ent} (link port now room : Int) (h : (L.length : Int) ≤ room) (hr : 1 ≤ room) : ((seeL L link port now room).length : Int) ≤ room := by
  have h1 : (L.eraseP (linkB link)).length ≤ L.length := (List.eraseP_sublist).length_le
  unfold seeL room1
  split
  · rename_i h2; simp at *; omega
  · rename_i h2; simp at *; omega
theorem findP_port {M : List Ent} {port link : Int} (h : ∀ x ∈ M, x.port ≠ port) : (findP M link).2 = true → (findP M link).1 ≠ port := by
  unfold findP
  split
  · rename_i x hx
    intro _
    exact h x (List.mem_of_find?_eq_some hx)
  · intro h; cases h

def DrInv (w1 wr : World) (room : Int) : Prop :=
  ∃ L, IsTable wr 0 w1.heap.size 1000000000 room 0 L ∧ Zero L ∧ (L.length : Int) ≤ room ∧ Only (· = w1.heap.size) w1 wr
def DrRel (w1 : World) (room : Int) (n : Nat) (i : Value) (wr : World) : Prop := ∃ k : Nat, k ≤ n ∧ i = .int .i64 k ∧ DrInv w1 wr room
def Dr2Rel (w1 : World) (room : Int) (M : List Ent) (i : Value) (wr : World) : Prop :=
  ∃ k : Nat, k ≤ 12 ∧ i = .int .i64 k ∧ IsTable wr 0 w1.heap.size 1000000000 room 0 M ∧ Only (· = w1.heap.size) w1 wr

set_option maxHeartbeats 2000000 in
set_option maxRecDepth 100000 in
theorem learnDrops_walk (a : Int) (ao : Option Addr) (len cap : Nat) (V : Nat → Value) (b : Int) (w : World) (hlc : len ≤ cap) (hcm : cap ≤ 9223372036854775807) (hc : Cells w ao len V) (hv : ∀ i, i < len → IsInts w (V i)) :
    Calls Try.prog 6 #[.int .i64 a, .slice ao len cap, .int .i64 b] w fun e w' => e = .returned (.bool true) ∧ Below w.heap.size w w' := by
  obtain ⟨a1, a2⟩ := wi_bd a 8 (by omega)
  obtain ⟨b1, b2⟩ := wi_bd b 8 (by omega)
  have HC := Lib.hid hc
  have HV := Lib.hid hv
  clear hc hv
  obtain ⟨n, hn1, hn2, hmin⟩ : ∃ n : Nat, n ≤ len ∧ n ≤ 30 ∧ (if (30 : Int) < (len : Int) then (30 : Int) else (len : Int)) = (n : Int) := by
    by_cases h : (30 : Int) < (len : Int)
    · exact ⟨30, by omega, by omega, by rw [if_pos h]; rfl⟩
    · exact ⟨len, by omega, by omega, by rw [if_neg h]⟩
  go_enter Try.func6, Try.ntmps6
  go_wp2_with (go_at_call 11; refine (within_any _ _ _ (by omega) (by omega)).mono ?_; rintro e w' ⟨rfl, rfl⟩)
  generalize wi a 8 = room at *
  generalize wi b 8 = port at *
  refine (learnWorks_any _).mono ?_
  rintro e w1 ⟨rfl, hB⟩
  have HB := Lib.hid hB
  clear hB
  go_wp2_with fail
  refine (new_any 1000000000 (1 + room) _ (by omega) (by omega) (by omega) (by omega)).mono ?_
  rintro e w' ⟨rfl, rfl⟩
  have I0 : Hid (DrInv w1 (w1.alloc (.cells #[.int .i64 1000000000, .int .i64 (1 + room), .int .i64 0, .slice none 0 0] 75)) (1 + room)) :=
    ⟨[], isTable_new w1 0 _ _, fun x hx => by simp at hx, by simp; omega, (Only.refl _ _).alloc _⟩
  go_wp2_with fail
  go_loopw [38] (fun i wr => DrRel w1 (1 + room) n i wr) (fun i _ => n - (intOf i).toNat)
  case atStart => exact ⟨0, by omega, rfl, I0.out⟩
  case round =>
    obtain ⟨k, hk, rfl, L, ht, hz, hl, ho⟩ := hrel
    have HT := Lib.hid ht
    have HO := Lib.hid ho
    have HZ := Lib.hid hz
    clear ht ho hz
    by_cases hlt : k < n
    · obtain ⟨b', off, rfl, hbl, hcell⟩ := HC.out (by omega)
      obtain ⟨A, m, c, Z, hu, hm1, hm2, _, hzz⟩ := HV.out k (by omega)
      have hbel := HB.out.trans (HO.out.below HB.out.size (fun q hq e => by have := HB.out.size; omega))
      have hcell1 : wr.cell? ⟨b', off + k, none⟩ = some (.slice A m c) := by
        rw [← hu]; exact (hbel.cell (p := ⟨b', off + k, none⟩) hbl).trans (hcell k (by omega))
      have hm3 : m ≤ 9223372036854775807 := by unfold maxLen at hm2; omega
      by_cases h2 : 2 ≤ m
      · obtain ⟨bb, oo, rfl, hbb, hcc⟩ := hzz (by omega)
        have z0 : wr.cell? ⟨bb, oo, none⟩ = some (.int .i64 (Z 0)) := (hbel.cell (p := ⟨bb, oo, none⟩) hbb).trans (hcc 0 (by omega))
        have z1 : wr.cell? ⟨bb, oo + 1, none⟩ = some (.int .i64 (Z 1)) := (hbel.cell (p := ⟨bb, oo + 1, none⟩) hbb).trans (hcc 1 (by omega))
        obtain ⟨k1, k2⟩ := wi_bd (Z 0) 12 (by omega)
        obtain ⟨p1, p2⟩ := wi_bd (Z 1) 8 (by omega)
        have t1 : decide ((1 : Int) < (m : Int)) = true := by simp; omega
        have t2 : (0 : Int) < (m : Int) := by omega
        have t3 : (1 : Int) < (m : Int) := by omega
        have t4 : 0 < m := by omega
        have t5 : 1 < m := by omega
        clear hcc hzz hcell hu hbel
        go_wp2_with fail
        refine wp_region_still_tail 13 (by kernel_rfl) (by kernel_rfl) ?_
        simp only [List.take_succ_cons, List.take_zero, List.drop_succ_cons, List.drop_zero]
        repeat (first | still_call (within_q _ _ _ (by omega) (by omega)) | still_step)
        refine wpStill_nil ?_
        change wpList _ _ _ _ _ wr.drew
        generalize wi (Z 0) 12 = link at *
        generalize wi (Z 1) 8 = pp at *
        clear t1 t2 t3 t4 t5 hcell1 z0 z1
        have hk2 := link_small link (by omega) (by omega)
        have HK2 := Lib.hid hk2
        clear hk2
        go_wp2_with fail
        refine (see_any 0 w1.heap.size 1000000000 (1 + room) 0 0 link pp L _ (by exact HT.out) (HZ.out.seen (by omega)) (by omega) (by omega) (by omega) (by omega) (by omega) hl (by omega) (by omega) HK2.out (by omega) (by omega)).mono ?_
        rw [HZ.out.fresh]
        rintro e w2 ⟨rfl, ht2, ho2⟩
        have HT2 := Lib.hid (ht2.lower (Nat.zero_le _))
        have HO2 := Lib.hid ho2
        have HZ2 := Lib.hid (zero_see HZ.out link pp (1 + room))
        have HL2 := Lib.hid (len_see link pp 0 (1 + room) hl (by omega))
        clear ht2 ho2
        go_wp2_with fail
        refine ⟨?_, by simp [intOf]; omega⟩
        first | refine ⟨k + 1, ?_, ?_, ?_⟩ | ((repeat apply Exists.intro); refine ⟨⟨k + 1, ?_, ?_, ?_⟩, rfl⟩)
        · omega
        · go_num
        · exact ⟨_, HT2.out, HZ2.out, HL2.out, (HO.out.drew).trans HO2.out⟩
      · have t1 : decide ((1 : Int) < (m : Int)) = false := by simp; omega
        clear hzz hcell hu hbel
        go_wp2_with fail
        go_quiet (fail)
        clear t1
        go_wp2_with fail
        refine ⟨?_, by simp [intOf]; omega⟩
        first | refine ⟨k + 1, ?_, ?_, ?_⟩ | ((repeat apply Exists.intro); refine ⟨⟨k + 1, ?_, ?_, ?_⟩, rfl⟩)
        · omega
        · go_num
        · exact ⟨L, HT.out, HZ.out, hl, HO.out.drewN _⟩
    · obtain rfl : k = n := by omega
      have hL1 : L.length ≤ 100000 := by omega
      go_wp2_with fail
      refine (size_any 0 w1.heap.size 1000000000 (1 + room) 0 0 L _ HT.out (HZ.out.seen (by omega)) (by omega) (by omega) (by omega) hL1).mono ?_
      rintro e w2 ⟨he, ht2, ho2⟩
      rw [HZ.out.fresh] at he ht2
      subst he
      have HT2 := Lib.hid (ht2.lower (Nat.zero_le _))
      have HO2 := Lib.hid ho2
      clear ht2 ho2
      go_wp2_with fail
      refine (drop_any 0 w1.heap.size 1000000000 (1 + room) 0 port L _ HT2.out hL1).mono ?_
      obtain ⟨M, hM⟩ : ∃ M, L.filter (portB port) = M := ⟨_, rfl⟩
      have hMp : ∀ x ∈ M, x.port ≠ port := by
        intro x hx
        rw [← hM] at hx
        have := (List.mem_filter.1 hx).2
        simpa [portB] using this
      have hMz : Zero M := fun x hx => by rw [← hM] at hx; exact HZ.out x (List.mem_filter.1 hx).1
      have hMl : M.length ≤ L.length := by rw [← hM]; exact List.length_filter_le _ _
      have hMd : M.filter (portB port) = M := by
        rw [List.filter_eq_self]
        intro x hx
        simp [portB, hMp x hx]
      rw [hM]
      rintro e w3 ⟨he, ht3, ho3⟩
      subst he
      have HT3 := Lib.hid (ht3.lower (Nat.zero_le _))
      have HO3 := Lib.hid ho3
      have HMP := Lib.hid hMp
      have HMZ := Lib.hid hMz
      have HMD := Lib.hid hMd
      clear ht3 ho3 hM hMp hMz hMd
      go_wp2_with fail
      refine (size_any 0 w1.heap.size 1000000000 (1 + room) 0 0 M _ HT3.out (HMZ.out.seen (by omega)) (by omega) (by omega) (by omega) (by omega)).mono ?_
      rintro e w4 ⟨he, ht4, ho4⟩
      rw [HMZ.out.fresh] at he ht4
      subst he
      have HT4 := Lib.hid (ht4.lower (Nat.zero_le _))
      have HO4 := Lib.hid ho4
      clear ht4 ho4
      go_wp2_with fail
      go_loopw [72] (fun i wq => Dr2Rel w1 (1 + room) M i wq) (fun i _ => 12 - (intOf i).toNat)
      case atStart => exact ⟨0, by omega, rfl, HT4.out, ((HO.out.trans HO2.out).trans HO3.out).trans HO4.out⟩
      case round =>
        obtain ⟨q, hq, rfl, ht, ho⟩ := hrel
        have HT5 := Lib.hid ht
        have HO5 := Lib.hid ho
        clear ht ho
        by_cases hlt : q < 12
        · have hfp := findP_port (link := (q : Int)) HMP.out
          generalize hpv : findP M (q : Int) = pv at *
          have HPV := Lib.hid hpv
          obtain ⟨pp, ok⟩ := pv
          clear hpv
          simp only at hfp
          go_wp2_with fail
          refine (find_any 0 w1.heap.size 1000000000 (1 + room) 0 0 (q : Int) M _ HT5.out (HMZ.out.seen (by omega)) (by omega) (by omega) (by omega) (by omega)).mono ?_
          rw [HMZ.out.fresh]
          rintro e w6 ⟨he, ht6, ho6⟩
          rw [HPV.out] at he
          subst he
          have HT6 := Lib.hid (ht6.lower (Nat.zero_le _))
          have HO6 := Lib.hid ho6
          clear ht6 ho6
          cases ok with
          | true =>
            have hne : (pp == port) = false := by rw [beq_eq_false_iff_ne]; exact hfp rfl
            clear hfp
            go_wp2_with fail
            refine ⟨?_, by simp [intOf]; omega⟩
            first | refine ⟨q + 1, ?_, ?_, ?_, ?_⟩ | ((repeat apply Exists.intro); refine ⟨⟨q + 1, ?_, ?_, ?_, ?_⟩, rfl⟩)
            · omega
            · go_num
            · exact HT6.out
            · exact HO5.out.trans HO6.out
          | false =>
            clear hfp
            go_wp2_with fail
            refine ⟨?_, by simp [intOf]; omega⟩
            first | refine ⟨q + 1, ?_, ?_, ?_, ?_⟩ | ((repeat apply Exists.intro); refine ⟨⟨q + 1, ?_, ?_, ?_, ?_⟩, rfl⟩)
            · omega
            · go_num
            · exact HT6.out
            · exact HO5.out.trans HO6.out
        · obtain rfl : q = 12 := by omega
          have t1 : ((M.length : Int) == (L.length : Int) - ((L.length : Int) - (M.length : Int))) = true := by rw [beq_iff_eq]; omega
          go_wp2_with fail
          refine (drop_any 0 w1.heap.size 1000000000 (1 + room) 0 port M _ HT5.out (by omega)).mono ?_
          rw [HMD.out]
          rintro e w6 ⟨he, ht6, ho6⟩
          rw [show ((M.length : Int) - (M.length : Int)) = 0 by omega] at he
          subst he
          have HO6 := Lib.hid ho6
          clear ht6 ho6
          go_wp2_with fail
          go_ret
          exact ⟨rfl, HB.out.trans ((HO5.out.trans HO6.out).below HB.out.size (fun i hi e => by have := HB.out.size; omega))⟩

theorem learnDrops_row (w : World) (a : Int) (_ : (Lit.int .i64 a).wf = true) (v : Value) (h : IsRows w v) (b : Int) (_ : (Lit.int .i64 b).wf = true) :
    Calls Try.prog 6 #[.int .i64 a, v, .int .i64 b] w fun e w' => e = .returned (.bool true) ∧ Below w.heap.size w w' := by
  obtain ⟨ao, len, cap, V, rfl, h1, h2, h3, h4, h5, h6⟩ := h
  exact learnDrops_walk a ao len cap V b w h1 (by unfold maxLen at h2; omega) h5 h6
end Go.Proofs.Ytidgmoeimgjggaa.Learn
