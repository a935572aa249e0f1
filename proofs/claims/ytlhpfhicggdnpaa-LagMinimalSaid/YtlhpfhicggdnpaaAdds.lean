/-
  The law LagAdds, walked.
-/
import Derived.Test.YtlhpfhicggdnpaaOrder
import Derived.Test.YtlhpfhicggdnpaaWithin
namespace Go.Proofs.Ytlhpfhicggdnpaa.Lag
open Go.RowKit Go.Proofs.YtlhpfhicggdnpaaW.PrintWords Go.Proofs.Ytlhpfhicggdnpaa.Xm Go.Proofs.Ytlhpfhicggdnpaa.Ints Go.Proofs.Ytlhpfhicggdnpaa.LagN Go.Proofs.Ytlhpfhicggdnpaa.Xo Go.Proofs.Ytlhpfhicggdnpaa.Within

attribute [local go_sem] max2_ints min2_ints max_of2 min_of2

theorem chkGo_snoc (x : Int) (hx : 0 ≤ x ∧ x ≤ 65535) : ∀ (L pre : List Int), chkGo pre L = 0 → chkGo pre (L ++ [x]) = 0 ∨ chkGo pre (L ++ [x]) = 6
  | [], pre, _ => by
    simp only [List.nil_append, chkGo]
    rw [if_neg (by omega)]
    split
    · exact .inr rfl
    · exact .inl rfl
  | m :: r, pre, h => by
    unfold chkGo at h
    rw [List.cons_append, chkGo]
    split at h
    · omega
    · rename_i h1
      rw [if_neg h1]
      split at h
      · omega
      · rename_i h2
        rw [if_neg h2]
        exact chkGo_snoc x hx r (pre ++ [m]) h
theorem chk_snoc {L : List Int} {x : Int} (hx : 0 ≤ x ∧ x ≤ 65535) (h : chk L = 0) : chk (L ++ [x]) = 0 ∨ chk (L ++ [x]) = 2 ∨ chk (L ++ [x]) = 6 := by
  obtain ⟨h1, h2, h3, h4⟩ := chk_ok h
  have hg : chkGo [] L = 0 := chkGo_of L [] h3 (by simp) h4
  have := chkGo_snoc x hx L [] hg
  unfold chk
  split
  · exact .inr (.inl rfl)
  · rcases this with h5 | h5
    · rw [if_neg (by rw [h5]; simp), if_neg (by simp)]
      exact .inl rfl
    · rw [if_pos (by rw [h5]; decide), h5]
      exact .inr (.inr rfl)
theorem pick_snoc (f : Int → Int) {L : List Int} (x : Int) : pickM f (L ++ [x]) = pickM f L ∨ pickM f (L ++ [x]) = x := by
  have hm := choose_mem f (L := L ++ [x]) (by simp)
  rcases List.mem_append.1 hm with h | h
  · exact .inl (choose_eq f h (fun y hy => choose_best f y (by simp [hy]))).symm
  · exact .inr (by simpa using h)

set_option maxHeartbeats 2000000 in
set_option maxRecDepth 100000 in
theorem lagAdds_walk (w : World) (v : Value) (L : List Int) (h : RInts w v L) (hl : L.length * 8 ≤ 140737488351232) (a : Int) (fv : Value) (S : List ByteArray) (hS : RStrs w fv S) :
    Calls Try.prog 3 #[v, .int .i64 a, fv] w fun e w' => e = .returned (.bool true) ∧ Below w.heap.size w w' := by
  have H := Lib.hid h
  obtain ⟨A, c, rfl, hLc, hcm, h4, h5⟩ := h
  obtain ⟨FA, fc, rfl, hSc, hfc, _, hs5, hsz⟩ := hS
  have HS5 := Lib.hid hs5
  have HSZ := Lib.hid hsz
  clear h4 h5 hs5 hsz
  obtain ⟨n, hn1, hn2, hmin⟩ : ∃ n : Nat, n ≤ S.length ∧ n ≤ 30 ∧ (if (30 : Int) < (S.length : Int) then (30 : Int) else (S.length : Int)) = (n : Int) := by
    by_cases h : (30 : Int) < (S.length : Int)
    · exact ⟨30, by omega, by omega, by rw [if_pos h]; rfl⟩
    · exact ⟨S.length, by omega, by omega, by rw [if_neg h]⟩
  obtain ⟨x1, x2⟩ := wi_bd a 65536 (by omega)
  obtain ⟨C, hC⟩ : ∃ C, chk L = C := ⟨_, rfl⟩
  have HC := Lib.hid hC
  clear hC
  go_enter Try.func3, Try.ntmps3
  go_wp2_with fail
  refine (lagWorks_any _).mono ?_
  rintro e w1 ⟨rfl, hb1⟩
  have HB1 := Lib.hid hb1
  have H1 := Lib.hid (H.out.below hb1 (Nat.le_refl _))
  clear hb1
  go_wp2_with fail
  refine (clone_any _ L _ H1.out hl).mono ?_
  rintro e w2 ⟨v2, rfl, hq2, hb2⟩
  have HQ2 := Lib.hid hq2
  have HB2 := Lib.hid (HB1.out.trans (hb2.mono HB1.out.size))
  have hs12 : w1.heap.size ≤ w2.heap.size := hb2.size
  clear hq2 hb2
  go_wp2_with fail
  refine (within_any _ _ _ (by omega) (by omega)).mono ?_
  rintro e w' ⟨rfl, rfl⟩
  generalize wi a 65536 = x at *
  go_wp2_with (at_builtin; refine wpList_append_q w2 w1.heap.size rfl (.tmp 26) (.tmp 29) 22 3 (.int .i64 0) 1 8 rfl Try.underlying22 info_int rfl (by decide) v2 L.length (nums .i64 L) rfl ?hq 1 [.int .i64 x] rfl rfl ?h1 (by decide) ?h63 ?hby ?hba ?next)
  case hq => exact HQ2.out
  case h1 => intro u hu; simp at hu; subst hu; rfl
  case h63 => unfold maxLen; omega
  case hby => omega
  case hba => exact hs12
  case next =>
    intro v3 w3 hq3 hg3 _
    have hb3 : Below w.heap.size w w3 := HB2.out.grown hg3 HB2.out.size (fun k hk => by have := (q_typed HQ2.out k hk).1; have := HB1.out.size; omega)
    have hq3' : QRow w3 w1.heap.size 3 1 v3 (L.length + 1) (nums .i64 (L ++ [x])) := by simpa [nums] using hq3
    obtain ⟨c3, e3, rfl, _⟩ := q_slice hq3
    have HR3 := Lib.hid (rints_of_q hq3' (by simp))
    have HB3 := Lib.hid hb3
    have H3 := Lib.hid (H.out.below hb3 (Nat.le_refl _))
    clear hq3 hg3 hb3 hq3'
    go_wp2_with fail
    by_cases h0 : C = 0
    · subst h0
      refine (Choose_ok _ L _ _ H3.out (by decide) HC.out).mono ?_
      generalize pickM (wt { data := #[] }) L = m0
      rintro e w4 ⟨rfl, hb4⟩
      have HB4 := Lib.hid (HB3.out.trans (hb4.mono HB3.out.size))
      have HR4 := Lib.hid (HR3.out.below hb4 (Nat.le_refl _))
      clear hb4
      obtain ⟨D, hD⟩ : ∃ D, chk (L ++ [x]) = D := ⟨_, rfl⟩
      have hDD := chk_snoc ⟨x1, by omega⟩ HC.out
      rw [hD] at hDD
      have HD := Lib.hid hD
      clear hD
      go_wp2_with fail
      by_cases hd0 : D = 0
      · subst hd0
        clear hDD
        refine (Choose_ok _ (L ++ [x]) _ _ HR4.out (by decide) HD.out).mono ?_
        generalize pickM (wt { data := #[] }) (L ++ [x]) = m1
        rintro e w5 ⟨rfl, hb5⟩
        have HB5 := Lib.hid (HB4.out.trans (hb5.mono HB4.out.size))
        have HR5 := Lib.hid (HR4.out.below hb5 (Nat.le_refl _))
        clear hb5
        go_wp2_with fail
        go_loopw [53] (fun i wr => OrdRel w5 n i wr) (fun i _ => n - (intOf i).toNat)
        case atStart => exact ⟨0, by omega, rfl, Below.refl _ _⟩
        case round =>
          obtain ⟨k, hk, rfl, hbel⟩ := hrel
          have HBE := Lib.hid (HB5.out.trans (hbel.mono HB5.out.size))
          have HBL := Lib.hid hbel
          clear hbel
          by_cases hlt : k < n
          · obtain ⟨f, hf⟩ : ∃ f, S[k]? = some f := ⟨S[k]'(by omega), List.getElem?_eq_getElem (by omega)⟩
            have hfs := HSZ.out f (List.mem_of_getElem? hf)
            obtain ⟨fb, fo, rfl, hfl, hfcell⟩ := HS5.out (by omega)
            have hcell : wr.cell? ⟨fb, fo + k, none⟩ = some (.string f) := (HBE.out.cell (p := ⟨fb, fo + k, none⟩) hfl).trans (hfcell k f hf)
            have HRW := Lib.hid (H.out.below HBE.out (Nat.le_refl _))
            clear hf hfcell
            go_wp2_with fail
            clear hcell
            refine (Choose_ok _ L f _ HRW.out hfs HC.out).mono ?_
            have hpick := pick_snoc (wt f) (L := L) x
            generalize hm : pickM (wt f) L = m at *
            rintro e w6 ⟨rfl, hb6⟩
            have HB6 := Lib.hid (HBL.out.trans (hb6.mono HBL.out.size))
            have HR6 := Lib.hid (HR5.out.below HB6.out (Nat.le_refl _))
            have HP := Lib.hid hpick
            clear hb6 hm hpick
            go_wp2_with fail
            refine (Choose_ok _ (L ++ [x]) f _ HR6.out hfs HD.out).mono ?_
            have hpick := HP.out
            generalize hm2 : pickM (wt f) (L ++ [x]) = m2 at *
            rintro e w7 ⟨rfl, hb7⟩
            have HB7 := Lib.hid (HB6.out.trans (hb7.mono HB6.out.size))
            have HR7 := Lib.hid (HR6.out.below hb7 (Nat.le_refl _))
            clear hb7 hm2
            by_cases he : m2 = m
            · subst he
              have t1 : (m2 != m2) = false := by simp
              clear hpick
              go_wp2_with fail
              refine ⟨?_, by simp [intOf]; omega⟩
              first | refine ⟨k + 1, ?_, ?_, ?_⟩ | ((repeat apply Exists.intro); refine ⟨⟨k + 1, ?_, ?_, ?_⟩, rfl⟩)
              · omega
              · go_num
              · exact HB7.out
            · have t1 : (m2 != m) = true := by simpa using he
              obtain rfl : m2 = x := by rcases hpick with h | h; exact absurd h he; exact h
              have t2 : (m2 != m2) = false := by simp
              obtain ⟨RA, rc, hre, _, _, _, hr6⟩ := HR7.out
              injection hre with hre1 hre2 hre3
              subst hre1
              subst hre3
              obtain ⟨rb, ro, rfl, _, hrc⟩ := hr6 (by simp)
              have hcx := hrc L.length m2 (by simp)
              clear hrc hr6 hpick he hre2
              go_wp2_with fail
              refine ⟨?_, by simp [intOf]; omega⟩
              first | refine ⟨k + 1, ?_, ?_, ?_⟩ | ((repeat apply Exists.intro); refine ⟨⟨k + 1, ?_, ?_, ?_⟩, rfl⟩)
              · omega
              · go_num
              · exact HB7.out
          · obtain rfl : k = n := by omega
            go_wp2_with fail
            go_ret
            exact ⟨rfl, HBE.out⟩
      · refine (Choose_bad _ (L ++ [x]) _ _ HR4.out (by decide) D HD.out hd0).mono ?_
        rintro e w5 ⟨rfl, hb5⟩
        have HB5 := Lib.hid (HB4.out.trans (hb5.mono HB4.out.size))
        clear hb5
        rcases hDD with h | rfl | rfl
        · exact absurd h hd0
        · clear hd0
          go_wp2_with fail
          go_ret
          exact ⟨rfl, HB5.out⟩
        · clear hd0
          go_wp2_with fail
          go_ret
          exact ⟨rfl, HB5.out⟩
    · refine (Choose_bad _ L _ _ H3.out (by decide) C HC.out h0).mono ?_
      have t1 : (C != 0) = true := by simpa using h0
      rintro e w4 ⟨rfl, hb4⟩
      have HB4 := Lib.hid (HB3.out.trans (hb4.mono HB3.out.size))
      clear hb4 h0
      go_wp2_with fail
      go_ret
      exact ⟨rfl, HB4.out⟩

theorem lagAdds_row (w : World) (v : Value) (h : IsIntList w v) (a : Int) (_ : (Lit.int .i64 a).wf = true) (fv : Value) (hf : IsStrList w fv) :
    Calls Try.prog 3 #[v, .int .i64 a, fv] w fun e w' => e = .returned (.bool true) ∧ Below w.heap.size w w' := by
  obtain ⟨L, h1, h2⟩ := h
  obtain ⟨S, h3⟩ := hf
  exact lagAdds_walk w v L h1 h2 a fv S h3
end Go.Proofs.Ytlhpfhicggdnpaa.Lag
