/-
  The law LagOrder, walked.
-/
import Derived.Test.YtlhpfhicggdnpaaRev
import Derived.Test.YtlhpfhicggdnpaaOpenI
namespace Go.Proofs.Ytlhpfhicggdnpaa.Lag
open Go.RowKit Go.Proofs.YtlhpfhicggdnpaaW.PrintWords Go.Proofs.Ytlhpfhicggdnpaa.Xm Go.Proofs.Ytlhpfhicggdnpaa.Ints Go.Proofs.Ytlhpfhicggdnpaa.LagN Go.Proofs.Ytlhpfhicggdnpaa.Xo

def OrdRel (w1 : World) (n : Nat) (i : Value) (wr : World) : Prop := ∃ k : Nat, k ≤ n ∧ i = .int .i64 k ∧ Below w1.heap.size w1 wr

set_option maxHeartbeats 2000000 in
set_option maxRecDepth 100000 in
theorem lagOrder_walk (w : World) (v : Value) (L : List Int) (h : RInts w v L) (hl : L.length * 8 ≤ 140737488351232) (s : ByteArray) (hs : s.size ≤ 140737488351232) :
    Calls Try.prog 4 #[v, .string s] w fun e w' => e = .returned (.bool true) ∧ Below w.heap.size w w' := by
  have H := Lib.hid h
  obtain ⟨A, c, rfl, hLc, hcm, h4, h5⟩ := h
  clear h4 h5
  obtain ⟨C, hC⟩ : ∃ C, chk L = C := ⟨_, rfl⟩
  have HC := Lib.hid hC
  clear hC
  go_enter Try.func4, Try.ntmps4
  go_wp2_with fail
  refine (lagWorks_any _).mono ?_
  rintro e w1 ⟨rfl, hb1⟩
  have HB1 := Lib.hid hb1
  clear hb1
  go_wp2_with fail
  refine (cut_any s 300 _ (by omega) (by omega) (by omega)).mono ?_
  rintro e w' ⟨⟨t, rfl, ht1, ht2, _⟩, rfl⟩
  have htl : t.size ≤ 9223372036854775807 := by omega
  have H1 := Lib.hid (H.out.below HB1.out (Nat.le_refl _))
  by_cases h0 : C = 0
  · subst h0
    go_wp2_with fail
    refine (Choose_ok _ L t _ H1.out htl HC.out).mono ?_
    obtain ⟨m, hm⟩ : ∃ m, pickM (wt t) L = m := ⟨_, rfl⟩
    rw [hm]
    rintro e w2 ⟨rfl, hb2⟩
    have HM := Lib.hid hm
    have HB2 := Lib.hid (HB1.out.trans (hb2.mono HB1.out.size))
    have H2 := Lib.hid (H.out.below HB2.out (Nat.le_refl _))
    obtain ⟨c1, c2, c3, c4⟩ := chk_ok HC.out
    have hmem : m ∈ L := by rw [← hm]; exact choose_mem _ c2
    have HMEM := Lib.hid hmem
    obtain ⟨m1, m2⟩ := c3 m hmem
    have C3 := Lib.hid c3
    have C4 := Lib.hid c4
    clear hb2 hm c3 c4 hmem
    go_wp2_with fail
    refine (clone_any _ L _ H2.out hl).mono ?_
    rintro e w3 ⟨v3, rfl, hq3, hb3⟩
    obtain ⟨g, off, cap, rfl, hgb, _⟩ := q_form hq3 c2
    have HQ3 := Lib.hid hq3
    have HB3 := Lib.hid (HB2.out.trans (hb3.mono HB2.out.size))
    have hszb : w.heap.size ≤ w2.heap.size := HB2.out.size
    clear hq3 hb3
    go_wp2_with fail
    refine (reverse_any _ g off cap L _ HQ3.out (by omega) c2).mono ?_
    rintro e w4 ⟨rfl, hq4, ho4⟩
    have HB4 := Lib.hid (HB3.out.trans (ho4.below HB3.out.size (fun k hk e => by omega)))
    have HR4 : Hid (RInts w4 (.slice (some ⟨g, off, none⟩) L.length cap) L.reverse) := rints_of_q hq4 (by simpa using c2)
    have hcr : chk L.reverse = 0 := chk_of (by simpa using c1) (by simpa using c2) (fun x hx => C3.out x (by simpa using hx)) (List.pairwise_reverse.2 (C4.out.imp (fun h => Ne.symm h)))
    have hpr : pickM (wt t) L.reverse = m := by rw [choose_same (wt t) c2 (fun x => by simp)]; exact HM.out
    have HCR := Lib.hid hcr
    have HPR := Lib.hid hpr
    clear hq4 ho4 hcr hpr
    go_wp2_with fail
    refine (Choose_ok _ L.reverse t _ HR4.out htl HCR.out).mono ?_
    rw [HPR.out]
    rintro e w5 ⟨rfl, hb5⟩
    have HB5 := Lib.hid (HB4.out.trans (hb5.mono HB4.out.size))
    clear hb5
    go_wp2_with fail
    go_loopw [37] (fun i wr => OrdRel w5 L.length i wr) (fun i _ => L.length - (intOf i).toNat)
    case atStart => exact ⟨0, by omega, rfl, Below.refl _ _⟩
    case round =>
      obtain ⟨k, hk, rfl, hbel⟩ := hrel
      have HBE := Lib.hid (HB5.out.trans (hbel.mono HB5.out.size))
      have HBL := Lib.hid hbel
      clear hbel
      have HRW := Lib.hid (H.out.below HBE.out (Nat.le_refl _))
      by_cases hlt : k < L.length
      · obtain ⟨x, hx⟩ : ∃ x, L[k]? = some x := ⟨L[k], by simp [hlt]⟩
        have hxm := List.mem_of_getElem? hx
        obtain ⟨x1, x2⟩ := C3.out x hxm
        have hle : wt t x ≤ wt t m := by
          rcases choose_best (wt t) x hxm with h | h
          · rw [← HM.out, h]; exact Int.le_refl _
          · rw [HM.out] at h; unfold Pref at h; omega
        obtain ⟨A2, c2', he, _, _, _, h6⟩ := HRW.out
        injection he with he1 he2 he3
        subst he1
        subst he3
        obtain ⟨b2, o2, rfl, _, hcc⟩ := h6 (by omega)
        have hcell := hcc k x hx
        have hle' := Lib.hid hle
        clear hcc h6 hx hxm hle
        go_wp2_with fail
        refine (weight_any x t _ htl x1 x2).mono ?_
        rintro e w6 ⟨rfl, hb6⟩
        have HB6 := Lib.hid (HBL.out.trans (hb6.mono HBL.out.size))
        clear hb6 hcell
        go_wp2_with fail
        refine (weight_any m t _ htl m1 m2).mono ?_
        rintro e w7 ⟨rfl, hb7⟩
        have HB7 := Lib.hid (HB6.out.trans (hb7.mono HB6.out.size))
        have d1 : decide (wt t m < wt t x) = false := by have := hle'.out; simp; omega
        clear hb7
        go_wp2_with fail
        refine ⟨?_, by simp [intOf]; omega⟩
        first | refine ⟨k + 1, ?_, ?_, ?_⟩ | ((repeat apply Exists.intro); refine ⟨⟨k + 1, ?_, ?_, ?_⟩, rfl⟩)
        · omega
        · go_num
        · exact HB7.out
      · obtain rfl : k = L.length := by omega
        go_wp2_with fail
        refine (contains_any _ m L _ HRW.out).mono ?_
        rw [show decide (m ∈ L) = true from by simpa using HMEM.out]
        rintro e w6 ⟨rfl, rfl⟩
        go_wp2_with fail
        go_ret
        exact ⟨rfl, HBE.out⟩
  · have t1 : (C != 0) = true := by simpa using h0
    have H0 := Lib.hid h0
    clear h0
    go_wp2_with fail
    refine (Choose_bad _ L t _ H1.out htl C HC.out H0.out).mono ?_
    rintro e w2 ⟨rfl, hb2⟩
    have HB2 := Lib.hid (HB1.out.trans (hb2.mono HB1.out.size))
    clear hb2
    go_wp2_with fail
    go_ret
    exact ⟨rfl, HB2.out⟩

theorem lagOrder_row (w : World) (v : Value) (h : IsIntList w v) (s : ByteArray) (hs : s.size ≤ 140737488351232) :
    Calls Try.prog 4 #[v, .string s] w fun e w' => e = .returned (.bool true) ∧ Below w.heap.size w w' := by
  obtain ⟨L, h1, h2⟩ := h
  exact lagOrder_walk w v L h1 h2 s hs
end Go.Proofs.Ytlhpfhicggdnpaa.Lag
