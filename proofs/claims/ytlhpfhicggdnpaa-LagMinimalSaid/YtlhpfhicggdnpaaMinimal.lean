/-
  lag.Moved; the law LagMinimal, walked.
-/
import Derived.Test.YtlhpfhicggdnpaaCat
import Derived.StillTailTactics
namespace Go.Proofs.Ytlhpfhicggdnpaa.Lag
open Go.RowKit Go.Proofs.YtlhpfhicggdnpaaW.PrintWords Go.Proofs.Ytlhpfhicggdnpaa.Xm Go.Proofs.Ytlhpfhicggdnpaa.Ints Go.Proofs.Ytlhpfhicggdnpaa.LagN Go.Proofs.Ytlhpfhicggdnpaa.Xo Go.Proofs.Ytlhpfhicggdnpaa.Within

attribute [local go_sem] max2_ints min2_ints max_of2 min_of2

/-- How many flows lead to different members. -/
def moved (L M : List Int) : List ByteArray → Nat
  | [] => 0
  | f :: r => (if pickM (wt f) L = pickM (wt f) M then 0 else 1) + moved L M r
theorem moved_snoc (L M : List Int) (f : ByteArray) : ∀ S : List ByteArray, moved L M (S ++ [f]) = moved L M S + (if pickM (wt f) L = pickM (wt f) M then 0 else 1)
  | [] => by simp [moved]
  | g :: r => by rw [List.cons_append, moved, moved, moved_snoc L M f r]; omega
theorem moved_le (L M : List Int) : ∀ S : List ByteArray, moved L M S ≤ S.length
  | [] => by simp [moved]
  | f :: r => by have := moved_le L M r; simp only [moved, List.length_cons]; split <;> omega
def MovRel (w : World) (L M : List Int) (S : List ByteArray) (n i : Value) (wr : World) : Prop := ∃ k : Nat, k ≤ S.length ∧ i = .int .i64 k ∧ n = .int .i64 ((moved L M (S.take k) : Nat) : Int) ∧ Below w.heap.size w wr

set_option maxHeartbeats 1600000 in
theorem moved_any (v1 v2 v3 : Value) (L M : List Int) (S : List ByteArray) (w : World) (h1 : RInts w v1 L) (h2 : RInts w v2 M) (h3 : RStrs w v3 S) (hL : chk L = 0) (hM : chk M = 0) (hS : S.length ≤ 256) :
    Calls Try.prog 29 #[v1, v2, v3] w fun e w' => e = .returned (.tuple #[.int .i64 ((moved L M S : Nat) : Int), .int .i64 0]) ∧ Below w.heap.size w w' := by
  have H1 := Lib.hid h1
  have H2 := Lib.hid h2
  obtain ⟨A1, c1, rfl, _, _, z1, y1⟩ := h1
  obtain ⟨A2, c2, rfl, _, _, z2, y2⟩ := h2
  obtain ⟨A3, c3, rfl, hSc, hfc, z3, y3, hsz⟩ := h3
  have HS := Lib.hid y3
  have HSZ := Lib.hid hsz
  have HL := Lib.hid hL
  have HM := Lib.hid hM
  clear y1 y2 y3 z1 z2 z3 hsz hL hM
  go_enter Try.func29, Try.ntmps29
  go_wp2_with fail
  refine (check_any _ L _ H1.out).mono ?_
  rw [HL.out]
  rintro e w' ⟨rfl, rfl⟩
  go_wp2_with fail
  refine (check_any _ M _ H2.out).mono ?_
  rw [HM.out]
  rintro e w' ⟨rfl, rfl⟩
  go_wp2_with fail
  go_loopw [10, 28] (fun n i wr => MovRel w' L M S n i wr) (fun _ i _ => S.length - (intOf i).toNat)
  case atStart => exact ⟨0, by omega, rfl, rfl, Below.refl _ _⟩
  case round =>
    obtain ⟨k, hk, rfl, rfl, hb⟩ := hrel
    have HB := Lib.hid hb
    have hml : moved L M (S.take k) ≤ 256 := Nat.le_trans (moved_le L M _) (by simp; omega)
    clear hb
    by_cases hlt : k < S.length
    · obtain ⟨f, hf⟩ : ∃ f, S[k]? = some f := ⟨S[k], by simp [hlt]⟩
      have hfs := HSZ.out f (List.mem_of_getElem? hf)
      have hsn : moved L M (S.take (k + 1)) = moved L M (S.take k) + (if pickM (wt f) L = pickM (wt f) M then 0 else 1) := by
        rw [List.take_add_one, hf]; exact moved_snoc L M f _
      have HSN := Lib.hid hsn
      obtain ⟨fb, fo, rfl, hfl, hfcell⟩ := HS.out (by omega)
      have hcell : wr.cell? ⟨fb, fo + k, none⟩ = some (.string f) := (HB.out.cell (p := ⟨fb, fo + k, none⟩) hfl).trans (hfcell k f hf)
      have HR1 := Lib.hid (H1.out.below HB.out (Nat.le_refl _))
      clear hf hsn hfcell
      generalize moved L M (S.take k) = n0 at *
      go_wp2_with fail
      clear hcell
      refine (choose_any _ L f _ HR1.out hfs (chk_ok HL.out).2.1 (chk_ok HL.out).2.2.1).mono ?_
      generalize pickM (wt f) L = a at *
      rintro e w2 ⟨rfl, hb2⟩
      have HB2 := Lib.hid (HB.out.trans (hb2.mono HB.out.size))
      have HR2 := Lib.hid (H2.out.below HB2.out (Nat.le_refl _))
      clear hb2
      go_wp2_with fail
      refine (choose_any _ M f _ HR2.out hfs (chk_ok HM.out).2.1 (chk_ok HM.out).2.2.1).mono ?_
      generalize pickM (wt f) M = b at *
      rintro e w3 ⟨rfl, hb3⟩
      have HB3 := Lib.hid (HB2.out.trans (hb3.mono HB2.out.size))
      clear hb3
      by_cases hab : a = b
      · subst hab
        have t1 : (a != a) = false := by simp
        go_wp2_with fail
        refine ⟨?_, by simp [intOf]; omega⟩
        first | refine ⟨k + 1, ?_, ?_, ?_, ?_⟩ | ((repeat apply Exists.intro); refine ⟨⟨k + 1, ?_, ?_, ?_, ?_⟩, rfl⟩)
        · omega
        · go_num
        · rw [HSN.out]; simp
        · exact HB3.out
      · have t1 : (a != b) = true := by simpa using hab
        have HAB := Lib.hid hab
        clear hab
        go_wp2_with fail
        refine ⟨?_, by simp [intOf]; omega⟩
        first | refine ⟨k + 1, ?_, ?_, ?_, ?_⟩ | ((repeat apply Exists.intro); refine ⟨⟨k + 1, ?_, ?_, ?_, ?_⟩, rfl⟩)
        · omega
        · go_num
        · rw [HSN.out, if_neg HAB.out]; simp
        · exact HB3.out
    · obtain rfl : k = S.length := by omega
      have htl : S.take S.length = S := List.take_length
      have HTL := Lib.hid htl
      clear htl
      go_wp2_with fail
      go_ret2
      exact ⟨by rw [← congrArg (moved L M) HTL.out]; rfl, HB.out⟩

/-- Without its place i. -/
def outL (L : List Int) (i : Nat) : List Int := L.take i ++ L.drop (i + 1)
theorem out_mem {L : List Int} {i : Nat} {x : Int} (hx : L[i]? = some x) (hn : L.Nodup) : (∀ y, y ∈ outL L i → y ∈ L ∧ y ≠ x) ∧ (∀ y, y ∈ L → y = x ∨ y ∈ outL L i) ∧ (outL L i).Nodup := by
  have hi := (List.getElem?_eq_some_iff.1 hx).1
  have hxe := (List.getElem?_eq_some_iff.1 hx).2
  have hs : L = L.take i ++ x :: L.drop (i + 1) := by
    rw [← hxe, ← List.drop_eq_getElem_cons hi, List.take_append_drop]
  rw [hs] at hn
  have hn2 := List.nodup_append.1 hn
  obtain ⟨n1, n2, n3⟩ := hn2
  obtain ⟨n4, n5⟩ := List.nodup_cons.1 n2
  refine ⟨fun y hy => ?_, fun y hy => ?_, ?_⟩
  · rcases List.mem_append.1 hy with h | h
    · exact ⟨List.mem_of_mem_take h, fun e => n3 y h x (by simp) e⟩
    · exact ⟨List.mem_of_mem_drop h, fun e => n4 (by rw [← e]; exact h)⟩
  · rw [hs] at hy
    rcases List.mem_append.1 hy with h | h
    · exact .inr (List.mem_append.2 (.inl h))
    · rcases List.mem_cons.1 h with h | h
      · exact .inl h
      · exact .inr (List.mem_append.2 (.inr h))
  · exact List.nodup_append.2 ⟨n1, n5, fun a ha b hb => n3 a ha b (by simp [hb])⟩
theorem chk_out {L : List Int} {i : Nat} {x : Int} (hx : L[i]? = some x) (h : chk L = 0) (h2 : 2 ≤ L.length) : chk (outL L i) = 0 := by
  obtain ⟨c1, _, c3, c4⟩ := chk_ok h
  have hi := (List.getElem?_eq_some_iff.1 hx).1
  obtain ⟨m1, _, m3⟩ := out_mem hx c4
  have hl : (outL L i).length = L.length - 1 := by simp [outL]; omega
  exact chk_of (by omega) (by omega) (fun y hy => c3 y (m1 y hy).1) m3
theorem pick_out (f : Int → Int) {L : List Int} {i : Nat} {x : Int} (hx : L[i]? = some x) (h : chk L = 0) (hne : pickM f L ≠ x) : pickM f (outL L i) = pickM f L := by
  obtain ⟨_, c2, _, c4⟩ := chk_ok h
  obtain ⟨m1, m2, _⟩ := out_mem hx c4
  have hm := choose_mem f c2
  rcases m2 _ hm with e | e
  · exact absurd e hne
  · exact choose_eq f e (fun y hy => choose_best f y (m1 y hy).1)
theorem pick_out_ne (f : Int → Int) {L : List Int} {i : Nat} {x : Int} (hx : L[i]? = some x) (h : chk L = 0) (h2 : 2 ≤ L.length) : pickM f (outL L i) ∈ outL L i ∧ pickM f (outL L i) ≠ x := by
  obtain ⟨_, c2, _, c4⟩ := chk_ok h
  obtain ⟨m1, _, _⟩ := out_mem hx c4
  have hm := choose_mem f (chk_ok (chk_out hx h h2)).2.1
  exact ⟨hm, (m1 _ hm).2⟩

def MinRel (w1 : World) (L M : List Int) (S : List ByteArray) (n : Nat) (mv i : Value) (wr : World) : Prop := ∃ k : Nat, k ≤ n ∧ i = .int .i64 k ∧ mv = .int .i64 ((moved L M (S.take k) : Nat) : Int) ∧ Below w1.heap.size w1 wr

set_option maxHeartbeats 4000000 in
set_option maxRecDepth 100000 in
theorem lagMinimal_walk (w : World) (v : Value) (L : List Int) (h : RInts w v L) (a : Int) (fv : Value) (S : List ByteArray) (hS : RStrs w fv S) :
    Calls Try.prog 8 #[v, .int .i64 a, fv] w fun e w' => e = .returned (.bool true) ∧ Below w.heap.size w w' := by
  have H := Lib.hid h
  obtain ⟨A, c, rfl, hLc, hcm, h4, h5⟩ := h
  obtain ⟨FA, fc, rfl, hSc, hfc, hs4, hs5, hsz⟩ := hS
  have HS4 := Lib.hid hs4
  have HS5 := Lib.hid hs5
  have HSZ := Lib.hid hsz
  clear h4 h5 hs4 hs5 hsz
  obtain ⟨n, hn1, hn2, hmin⟩ : ∃ n : Nat, n ≤ S.length ∧ n ≤ 30 ∧ (if (30 : Int) < (S.length : Int) then (30 : Int) else (S.length : Int)) = (n : Int) := by
    by_cases h : (30 : Int) < (S.length : Int)
    · exact ⟨30, by omega, by omega, by rw [if_pos h]; rfl⟩
    · exact ⟨S.length, by omega, by omega, by rw [if_neg h]⟩
  obtain ⟨C, hC⟩ : ∃ C, chk L = C := ⟨_, rfl⟩
  have HC := Lib.hid hC
  clear hC
  go_enter Try.func8, Try.ntmps8
  go_wp2_with fail
  refine (lagWorks_any _).mono ?_
  rintro e w1 ⟨rfl, hb1⟩
  have HB1 := Lib.hid hb1
  have H1 := Lib.hid (H.out.below hb1 (Nat.le_refl _))
  clear hb1
  go_wp2_with fail
  by_cases h0 : C = 0
  · subst h0
    obtain ⟨l1, l2, l3, l4⟩ := chk_ok HC.out
    have L3 := Lib.hid l3
    have L4 := Lib.hid l4
    clear l3 l4
    refine (Choose_ok _ L _ _ H1.out (by decide) HC.out).mono ?_
    generalize pickM (wt { data := #[] }) L = m0
    rintro e w2 ⟨rfl, hb2⟩
    have HB2 := Lib.hid (HB1.out.trans (hb2.mono HB1.out.size))
    have H2 := Lib.hid (H.out.below HB2.out (Nat.le_refl _))
    clear hb2
    by_cases hl2 : L.length < 2
    · have hl2' : (L.length : Int) < 2 := by omega
      go_wp2_with fail
      go_ret
      exact ⟨rfl, HB2.out⟩
    · have hl2' : ¬ (L.length : Int) < 2 := by omega
      obtain ⟨i1, i2⟩ := wi_bd a (L.length : Int) (by omega)
      go_wp2_with fail
      refine (within_any _ _ _ (by omega) (by omega)).mono ?_
      rintro e w' ⟨rfl, rfl⟩
      generalize wi a (L.length : Int) = iz at *
      obtain ⟨i, rfl⟩ := Int.eq_ofNat_of_zero_le i1
      have hi : i < L.length := by omega
      obtain ⟨x, hx⟩ : ∃ x, L[i]? = some x := ⟨L[i], by simp [hi]⟩
      have HX := Lib.hid hx
      obtain ⟨bb, oo, rfl, hbb, hcells⟩ : ∃ b off, A = some ⟨b, off, none⟩ ∧ b < w.heap.size ∧ ∀ i x, L[i]? = some x → w.cell? ⟨b, off + i, none⟩ = some (.int .i64 x) := by
        obtain ⟨A', c', he, _, _, _, h6⟩ := H.out
        injection he with he1 he2 he3
        subst he1
        exact h6 (by omega)
      have hcx := hcells i x hx
      have HCX := Lib.hid hcx
      have hd := H2.out.drop (k := i + 1) (by omega)
      have htk := H2.out.take (k := i) (by omega)
      obtain ⟨i0, hinf, hz0, hz1, hz2⟩ := info_parts info_int
      have hwr : IntKind.i64.wrap ((i : Int) + 1) = (i : Int) + 1 := IntWalk.i64_in _ (by omega)
      have hp2 : ((i : Int) + 1).toNat = i + 1 := by omega
      have hrun1 : ∀ W : World, (Instr.slice 22 (.slice (some ⟨bb, oo, none⟩) L.length c) none (some (.int .i64 (i : Int))) none).run Try.prog W = .ok (.slice (some ⟨bb, oo, none⟩) i c) W := by
        have h := cut_to 22 3 .i64 Try.underlying22 hinf (some ⟨bb, oo, none⟩) L.length c (i : Int) (by omega) (by omega) hLc
        simpa using h
      have hrun2 : ∀ W : World, (Instr.slice 22 (.slice (some ⟨bb, oo, none⟩) L.length c) (some (.int .i64 ((i : Int) + 1))) none none).run Try.prog W = .ok (.slice (if c = i + 1 then some ⟨bb, oo, none⟩ else (some (⟨bb, oo, none⟩ : Addr)).map (·.add ((i + 1) * 1))) (L.length - (i + 1)) (c - (i + 1))) W := by
        have h := cut_from 22 3 .i64 Try.underlying22 hinf 1 hz1 (some ⟨bb, oo, none⟩) L.length c ((i : Int) + 1) (by omega) (by omega)
        rw [hp2] at h
        exact h
      obtain ⟨B, hB⟩ : ∃ B, (if c = i + 1 then some (⟨bb, oo, none⟩ : Addr) else (some (⟨bb, oo, none⟩ : Addr)).map (·.add ((i + 1) * 1))) = B := ⟨_, rfl⟩
      rw [hB] at hrun2 hd
      have HD := Lib.hid hd
      have HTK := Lib.hid htk
      clear hd htk hB hinf hz0 hz1 hz2 hcells hcx hx
      go_wp2_with fail
      refine wp_region_still_tail 7 (by kernel_rfl) (by kernel_rfl) ?_
      simp only [List.take_succ_cons, List.take_zero, List.drop_succ_cons, List.drop_zero]
      repeat still_step
      refine wpStill_nil ?_
      change wpList _ _ _ _ _ w2.drew
      go_wp2_with fail
      have hcat := concat_any w2.heap.size (.slice (some ⟨bb, oo, none⟩) i c) (.slice B (L.length - (i + 1)) (c - (i + 1))) (L.take i) (L.drop (i + 1)) ((w2.alloc (.cells #[.slice (some ⟨bb, oo, none⟩) i c, .slice B (L.length - (i + 1)) (c - (i + 1))] 22)).drew)
        (by simp) (cell_new w2 _ rfl _ _ 0 _ rfl) (cell_new w2 _ rfl _ _ 1 _ rfl) (HTK.out.below (below_drew (below_alloc (Below.refl _ _) _)) (Nat.le_refl _)) (HD.out.below (below_drew (below_alloc (Below.refl _ _) _)) (Nat.le_refl _)) (by simp; omega) (by simp; omega) (by simp; omega)
      refine hcat.mono ?_
      clear hcat
      obtain ⟨R, hR⟩ : ∃ R, L.take i ++ L.drop (i + 1) = R := ⟨_, rfl⟩
      have hRl : R.length = L.length - 1 := by rw [← hR]; simp; omega
      have hRp : 0 < R.length := by omega
      have hRC : chk R = 0 := by rw [← hR]; exact chk_out HX.out HC.out (by omega)
      have hRP : ∀ f, (pickM f L ≠ x → pickM f R = pickM f L) ∧ pickM f R ∈ R ∧ pickM f R ≠ x := by
        intro f
        rw [← hR]
        exact ⟨fun hne => pick_out f HX.out HC.out hne, pick_out_ne f HX.out HC.out (by omega)⟩
      rw [hR]
      rintro e w3 ⟨v3, rfl, hq3, hb3⟩
      have hb3' : Below w2.heap.size w2 w3 := (below_drew (below_alloc (Below.refl _ _) _)).trans ((show Below w2.heap.size ((w2.alloc _).drew) w3 from ⟨hb3.os, hb3.tape, hb3.output, hb3.size, fun k hk => hb3.block k (by simp; omega)⟩))
      have HB3 := Lib.hid (HB2.out.trans (hb3'.mono HB2.out.size))
      have HR3 := Lib.hid (rints_of_q hq3 hRp)
      obtain ⟨A3, k3, rfl, _⟩ := q_slice hq3
      have HRC := Lib.hid hRC
      have HRP := Lib.hid hRP
      clear hq3 hb3 hb3' hrun1 hrun2 hR hRC hRP hRl hwr hp2
      go_wp2_with fail
      go_loopw [10, 53] (fun mv q wr => MinRel w3 L R S n mv q wr) (fun _ q _ => n - (intOf q).toNat)
      case atStart => exact ⟨0, by omega, rfl, rfl, Below.refl _ _⟩
      case round =>
        obtain ⟨k, hk, rfl, rfl, hbel⟩ := hrel
        have HBE := Lib.hid (HB3.out.trans (hbel.mono HB3.out.size))
        have HBL := Lib.hid hbel
        have hml : moved L R (S.take k) ≤ 256 := Nat.le_trans (moved_le L R _) (by simp; omega)
        clear hbel
        by_cases hlt : k < n
        · obtain ⟨f, hf⟩ : ∃ f, S[k]? = some f := ⟨S[k]'(by omega), List.getElem?_eq_getElem (by omega)⟩
          have hfs := HSZ.out f (List.mem_of_getElem? hf)
          have hsn : moved L R (S.take (k + 1)) = moved L R (S.take k) + (if pickM (wt f) L = pickM (wt f) R then 0 else 1) := by
            rw [List.take_add_one, hf]; exact moved_snoc L R f _
          have HSN := Lib.hid hsn
          obtain ⟨fb, fo, rfl, hfl, hfcell⟩ := HS5.out (by omega)
          have hcell : wr.cell? ⟨fb, fo + k, none⟩ = some (.string f) := (HBE.out.cell (p := ⟨fb, fo + k, none⟩) hfl).trans (hfcell k f hf)
          have HRW := Lib.hid (H.out.below HBE.out (Nat.le_refl _))
          obtain ⟨p1, p2, p3⟩ := HRP.out (wt f)
          clear hf hsn hfcell
          generalize moved L R (S.take k) = n0 at *
          go_wp2_with fail
          clear hcell
          refine (Choose_ok _ L f _ HRW.out hfs HC.out).mono ?_
          generalize pickM (wt f) L = m at *
          rintro e w6 ⟨rfl, hb6⟩
          have HB6 := Lib.hid (HBL.out.trans (hb6.mono HBL.out.size))
          have HR6 := Lib.hid (HR3.out.below HB6.out (Nat.le_refl _))
          have P1 := Lib.hid p1
          have P2 := Lib.hid p2
          have P3 := Lib.hid p3
          clear hb6 p1 p2 p3
          go_wp2_with fail
          refine (Choose_ok _ R f _ HR6.out hfs HRC.out).mono ?_
          have p1 := P1.out
          have p2 := P2.out
          have p3 := P3.out
          clear P1 P2 P3
          generalize pickM (wt f) R = m2 at *
          rintro e w7 ⟨rfl, hb7⟩
          have HB7 := Lib.hid (HB6.out.trans (hb7.mono HB6.out.size))
          have HR7 := Lib.hid (HR6.out.below hb7 (Nat.le_refl _))
          have HB7w := Lib.hid (HB3.out.trans (HB7.out.mono HB3.out.size))
          have hcx : w7.cell? ⟨bb, oo + i, none⟩ = some (.int .i64 x) := (HB7w.out.cell (p := ⟨bb, oo + i, none⟩) hbb).trans HCX.out
          have hdec : decide (m2 ∈ R) = true := by simpa using p2
          have HDEC := Lib.hid hdec
          clear hb7 p2 hdec
          by_cases hmx : m = x
          · subst hmx
            have t1 : (m != m) = false := by simp
            have t2 : (m == m) = true := by simp
            have hne : ¬ m = m2 := fun e => p3 e.symm
            have HNE := Lib.hid hne
            clear p1 p3 hne
            go_wp2_with fail
            refine (contains_any _ m2 R _ HR7.out).mono ?_
            rw [HDEC.out]
            rintro e w' ⟨rfl, rfl⟩
            go_wp2_with fail
            refine ⟨?_, by simp [intOf]; omega⟩
            first | refine ⟨k + 1, ?_, ?_, ?_, ?_⟩ | ((repeat apply Exists.intro); refine ⟨⟨k + 1, ?_, ?_, ?_, ?_⟩, rfl⟩)
            · omega
            · go_num
            · rw [HSN.out, if_neg HNE.out]; simp
            · exact HB7.out
          · have t1 : (m != x) = true := by simpa using hmx
            have t3 : (m == x) = false := by simpa using hmx
            obtain rfl : m2 = m := p1 hmx
            have t2 : (m2 != m2) = false := by simp
            clear p1 p3 hmx
            go_wp2_with fail
            refine (contains_any _ m2 R _ HR7.out).mono ?_
            rw [HDEC.out]
            rintro e w' ⟨rfl, rfl⟩
            go_wp2_with fail
            refine ⟨?_, by simp [intOf]; omega⟩
            first | refine ⟨k + 1, ?_, ?_, ?_, ?_⟩ | ((repeat apply Exists.intro); refine ⟨⟨k + 1, ?_, ?_, ?_, ?_⟩, rfl⟩)
            · omega
            · go_num
            · have hq := HSN.out
              simp only [if_true] at hq
              rw [hq]; simp
            · exact HB7.out
        · obtain rfl : k = n := by omega
          have hSt : (S.take k).length = k := by simp; omega
          have HRW := Lib.hid (H.out.below HBE.out (Nat.le_refl _))
          have HR6 := Lib.hid (HR3.out.below HBL.out (Nat.le_refl _))
          have hstr : RStrs wr (.slice FA k fc) (S.take k) := by
            refine ⟨FA, fc, by rw [hSt], by omega, hfc, HS4.out, fun hp => ?_, fun y hy => HSZ.out y (List.mem_of_mem_take hy)⟩
            obtain ⟨fb, fo, ha, hfl, hfcell⟩ := HS5.out (by omega)
            refine ⟨fb, fo, ha, Nat.lt_of_lt_of_le hfl HBE.out.size, fun q y hy => ?_⟩
            rw [List.getElem?_take] at hy
            split at hy
            · exact (HBE.out.cell (p := ⟨fb, fo + q, none⟩) hfl).trans (hfcell q y hy)
            · cases hy
          have HSTR := Lib.hid hstr
          have HST := Lib.hid hSt
          clear hstr hSt
          have HMO := moved_any _ _ _ L R (S.take k) wr HRW.out HR6.out HSTR.out HC.out HRC.out (by rw [HST.out]; omega)
          generalize moved L R (S.take k) = n0 at *
          go_wp2_with fail
          refine HMO.mono ?_
          rintro e w6 ⟨rfl, hb6⟩
          have HB6 := Lib.hid (HBE.out.trans (hb6.mono HBE.out.size))
          clear hb6 HMO
          have t1 : ((n0 : Int) == (n0 : Int)) = true := by simp
          go_wp2_with fail
          go_ret
          exact ⟨rfl, HB6.out⟩
  · refine (Choose_bad _ L _ _ H1.out (by decide) C HC.out h0).mono ?_
    have t1 : (C != 0) = true := by simpa using h0
    rintro e w4 ⟨rfl, hb4⟩
    have HB4 := Lib.hid (HB1.out.trans (hb4.mono HB1.out.size))
    clear hb4 h0
    go_wp2_with fail
    go_ret
    exact ⟨rfl, HB4.out⟩

theorem lagMinimal_row (w : World) (v : Value) (h : IsIntList w v) (a : Int) (_ : (Lit.int .i64 a).wf = true) (fv : Value) (hf : IsStrList w fv) :
    Calls Try.prog 8 #[v, .int .i64 a, fv] w fun e w' => e = .returned (.bool true) ∧ Below w.heap.size w w' := by
  obtain ⟨L, h1, h2⟩ := h
  obtain ⟨S, h3⟩ := hf
  exact lagMinimal_walk w v L h1 a fv S h3
end Go.Proofs.Ytlhpfhicggdnpaa.Lag
