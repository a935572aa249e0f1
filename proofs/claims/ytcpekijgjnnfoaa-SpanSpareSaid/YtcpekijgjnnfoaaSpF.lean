/-
  Check, first half: the identifiers.
-/
import Derived.Test.YtcpekijgjnnfoaaSpD
import Derived.Test.YtcpekijgjnnfoaaInts
import Derived.Test.YtcpekijgjnnfoaaSpK
namespace Go.Proofs.Ytcpekijgjnnfoaa.Sp
open Go.RowKit Go.Proofs.YtcpekijgjnnfoaaW.PrintWords Go.Proofs.Ytcpekijgjnnfoaa.Xm Go.Proofs.Ytcpekijgjnnfoaa.Ints

theorem RowC.of_rints {w : World} {A : Option Addr} {n c : Nat} {L : List Int} (h : RInts w (.slice A n c) L) : RowC w A (ints L) := by
  obtain ⟨A', c', he, _, _, _, h4⟩ := h
  injection he with he1 he2 he3
  subst he1
  intro hp
  rw [ints_len] at hp
  obtain ⟨b, off, rfl, hl, hc⟩ := h4 hp
  refine ⟨b, off, rfl, hl, fun j u hu => ?_⟩
  have hj : j < L.length := by have := (List.getElem?_eq_some_iff.1 hu).1; rwa [ints_len] at this
  obtain ⟨x, hx⟩ : ∃ x, L[j]? = some x := ⟨L[j], List.getElem?_eq_getElem _⟩
  have := ints_get hx
  rw [this] at hu
  injection hu with hu
  rw [← hu]
  exact hc j x hx

/-- What Check answers of the identifiers and of the sizes; of the links: linksCode. -/
def IdsRel (ids : List Int) (i : Value) : Prop := ∃ k : Nat, k ≤ ids.length ∧ i = .int .i64 k ∧ idsBad ids k = 0
set_option maxHeartbeats 3200000 in
set_option maxRecDepth 100000 in
theorem check_ids (Ai Al : Option Addr) (m ci cl : Nat) (ids : List Int) (w : World) (hi : RInts w (.slice Ai ids.length ci) ids) (hbad : 16 < ids.length ∨ 48 < m ∨ idsBad ids ids.length ≠ 0) :
    Calls Try.prog 11 #[.agg #[.slice Ai ids.length ci, .slice Al m cl]] w fun e w' => e = .returned (.int .i64 (if 16 < ids.length ∨ 48 < m then 2 else idsBad ids ids.length)) ∧ Below w.heap.size w w' := by
  have HI := Lib.hid hi
  have hb0 := below_alloc (Below.refl w.heap.size w) (.cells #[.slice Ai ids.length ci, .slice Al m cl] 25)
  have hn0 := Blk.new w #[.slice Ai ids.length ci, .slice Al m cl] 25
  have HB0 := Lib.hid hb0
  have HN0 := Lib.hid hn0
  clear hi hb0 hn0
  by_cases h16 : 16 < ids.length
  · have hd : decide ((16 : Int) < (ids.length : Int)) = true := by simp; omega
    rw [if_pos (.inl h16)]
    clear hbad
    go_enter Try.func11, Try.ntmps11
    go_wp2_with fail
    go_ret
    exact ⟨rfl, HB0.out⟩
  · have hd : decide ((16 : Int) < (ids.length : Int)) = false := by simp; omega
    by_cases h48 : 48 < m
    · have hd2 : decide ((48 : Int) < (m : Int)) = true := by simp; omega
      rw [if_pos (.inr h48)]
      clear hbad
      go_enter Try.func11, Try.ntmps11
      go_wp2_with fail
      go_ret
      exact ⟨rfl, HB0.out⟩
    · have hd2 : decide ((48 : Int) < (m : Int)) = false := by simp; omega
      rw [if_neg (by omega)]
      have hib : idsBad ids ids.length ≠ 0 := by rcases hbad with h | h | h; omega; omega; exact h
      have HIB := Lib.hid hib
      clear hbad hib
      go_enter Try.func11, Try.ntmps11
      go_wp2_with fail
      generalize w.alloc (.cells #[.slice Ai ids.length ci, .slice Al m cl] 25) = w1 at *
      go_loopw [3, 4, 21] (fun _ _ i wr => IdsRel ids i ∧ Below w1.heap.size w1 wr) (fun _ _ i _ => ids.length - (intOf i).toNat)
      case atStart => exact ⟨⟨0, Nat.zero_le _, rfl, rfl⟩, Below.refl _ _⟩
      case round =>
        obtain ⟨⟨k, hk, rfl, hz⟩, hb1⟩ := hrel
        have HB1 := Lib.hid hb1
        have HZ := Lib.hid hz
        have hs1 : w.heap.size ≤ w1.heap.size := HB0.out.size
        have HBR := Lib.hid (HB0.out.trans (hb1.mono hs1))
        clear hb1 hz
        by_cases hlt : k < ids.length
        · have hdk : decide ((k : Int) < (ids.length : Int)) = true := by simp; omega
          obtain ⟨A', ci', he, hc1, hc2, _, hcc⟩ := HI.out
          injection he with he1 he2 he3
          subst he1
          subst he3
          obtain ⟨b, off, rfl, hbl, hc⟩ := hcc (by omega)
          obtain ⟨x, hx⟩ : ∃ x, ids[k]? = some x := ⟨ids[k], List.getElem?_eq_getElem _⟩
          have hgd : ids.getD k 0 = x := by simp [List.getD, hx]
          have hcx : wr.cell? ⟨b, off + k, none⟩ = some (.int .i64 x) := pw_cell_below HBR.out (hc k x hx)
          have hn0 := blk_below HN0.out HB1.out
          have d0 : wr.cell? ⟨w.heap.size, 0, none⟩ = some (.slice (some ⟨b, off, none⟩) ids.length ci) := (Blk.cell hn0 0).trans rfl
          have HCT := Lib.hid (contains_any (.slice (some ⟨b, off, none⟩) k ci) x (ids.take k) wr ((HI.out.below HBR.out (Nat.le_refl _)).take hk))
          have hstep : idsBad ids (k + 1) = idBad ids k := by
            show (if idsBad ids k = 0 then idBad ids k else idsBad ids k) = _
            rw [if_pos HZ.out]
          have HSTEP := Lib.hid hstep
          have hidb : idBad ids k = (if x < 0 ∨ x > 65535 then 1 else if x ∈ ids.take k then 6 else 0) := by unfold idBad; rw [hgd]
          have HIDB := Lib.hid hidb
          have hbd : idBad ids k ≠ 0 → Below w.heap.size w wr ∧ idsBad ids ids.length = idBad ids k :=
            fun hne => ⟨HBR.out, (idsBad_keep (k := k + 1) (by rw [HSTEP.out]; exact hne) ids.length (by omega)).trans HSTEP.out⟩
          have HBAD := Lib.hid hbd
          clear hc hcc hx hgd hn0 hstep hidb hbd
          by_cases hx0 : x < 0
          · have hdx : decide (x < 0) = true := by simpa using hx0
            go_wp2_with fail
            go_ret
            have h := HIDB.out
            rw [if_pos (.inl hx0)] at h
            obtain ⟨h1, h2⟩ := HBAD.out (by rw [h]; decide)
            exact ⟨by rw [h2, h]; rfl, h1⟩
          · have hdx : decide (x < 0) = false := by simpa using hx0
            by_cases hx1 : x > 65535
            · have hdy : decide (x > 65535) = true := by simpa using hx1
              have hdy' : decide (65535 < x) = true := by simpa using hx1
              go_wp2_with fail
              go_ret
              have h := HIDB.out
              rw [if_pos (.inr hx1)] at h
              obtain ⟨h1, h2⟩ := HBAD.out (by rw [h]; decide)
              exact ⟨by rw [h2, h]; rfl, h1⟩
            · have hdy : decide (x > 65535) = false := by simpa using hx1
              have hdy' : decide (65535 < x) = false := by simpa using hx1
              have h := HIDB.out
              rw [if_neg (by omega)] at h
              have HH := Lib.hid h
              clear h
              by_cases hm : x ∈ ids.take k
              · have hdm : decide (x ∈ ids.take k) = true := by simpa using hm
                go_wp2_with (go_at_call 27; (refine (HCT.out).mono ?_); rintro e w5 ⟨rfl, rfl⟩)
                go_ret
                have h := HH.out
                rw [if_pos hm] at h
                obtain ⟨h1, h2⟩ := HBAD.out (by rw [h]; decide)
                exact ⟨by rw [h2, h]; rfl, h1⟩
              · have hdm : decide (x ∈ ids.take k) = false := by simpa using hm
                go_wp2_with (go_at_call 27; (refine (HCT.out).mono ?_); rintro e w5 ⟨rfl, rfl⟩)
                have h := HH.out
                rw [if_neg hm] at h
                exact ⟨⟨⟨k + 1, by omega, rfl, by rw [HSTEP.out]; exact h⟩, HB1.out⟩, by simp [intOf]; omega⟩
        · obtain rfl : k = ids.length := by omega
          exact absurd HZ.out HIB.out
end Go.Proofs.Ytcpekijgjnnfoaa.Sp
