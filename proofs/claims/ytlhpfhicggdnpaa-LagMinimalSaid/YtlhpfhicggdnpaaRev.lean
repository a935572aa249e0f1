/-
  slices.Reverse over a row of ints of the call's own.
-/
import Derived.Test.YtlhpfhicggdnpaaSl
import Derived.RegionTactic
import Derived.ChangeAlike
namespace Go.Proofs.Ytlhpfhicggdnpaa.Lag
open Go.RowKit Go.Proofs.YtlhpfhicggdnpaaW.PrintWords Go.Proofs.Ytlhpfhicggdnpaa.Xm Go.Proofs.Ytlhpfhicggdnpaa.Ints

/-- One cell of an own row of ints is written. -/
theorem q_set {w : World} {base n off g cap : Nat} {L : List Int} (h : QRow w base 3 1 (.slice (some ⟨g, off, none⟩) n cap) n (nums .i64 L)) (hp : 0 < n) {i : Nat} (hi : i < n) (x : Int) :
    QRow (w.setCell ⟨g, off + i, none⟩ (.int .i64 x)) base 3 1 (.slice (some ⟨g, off, none⟩) n cap) n (nums .i64 (L.set i x)) := by
  obtain ⟨h1, h2⟩ := h
  refine ⟨by rw [nums_length, List.length_set, ← nums_length .i64]; exact h1, ?_⟩
  rcases h2 with ⟨h0, _⟩ | ⟨g', off', cap', cur, he, hb, hh, hnc, hcm, hcs, ht⟩
  · omega
  · injection he with ha _ hc
    injection ha with ha
    injection ha with hg ho
    subst hg; subst hc; subst ho
    refine .inr ⟨g, off', cap, cur.setIfInBounds (off' * 1 + i) (.int .i64 x), rfl, hb, blk_set hh _ _, hnc, hcm, by simpa using hcs, ?_⟩
    rw [Array.toList_setIfInBounds]
    have : nums .i64 (L.set i x) = (nums .i64 L).set i (.int .i64 x) := by simp [nums, List.map_set]
    rw [this, ← ht, List.drop_set, if_neg (by omega), List.take_set]
    congr 1
    omega

def RevOk (L M : List Int) (k : Nat) : Prop := M.length = L.length ∧ ∀ p, p < L.length → M[p]? = if p < k ∨ L.length - 1 - p < k then L[L.length - 1 - p]? else L[p]?
theorem rev_step {L M : List Int} {k : Nat} (h : RevOk L M k) (hk : k < L.length - 1 - k) {x y : Int} (hx : M[k]? = some x) (hy : M[L.length - 1 - k]? = some y) :
    RevOk L ((M.set k y).set (L.length - 1 - k) x) (k + 1) := by
  obtain ⟨h1, h2⟩ := h
  refine ⟨by simp [h1], fun p hp => ?_⟩
  have hxx := h2 k (by omega)
  have hyy := h2 (L.length - 1 - k) (by omega)
  rw [if_neg (by omega), hx] at hxx
  rw [if_neg (by omega), hy] at hyy
  by_cases e1 : p = L.length - 1 - k
  · subst e1
    rw [List.getElem?_set_self (by simp [h1]; omega), if_pos (by omega), show L.length - 1 - (L.length - 1 - k) = k by omega, ← hxx]
  · rw [List.getElem?_set_ne (Ne.symm e1)]
    by_cases e2 : p = k
    · subst e2
      rw [List.getElem?_set_self (by omega), if_pos (by omega), ← hyy]
    · rw [List.getElem?_set_ne (Ne.symm e2), h2 p hp]
      by_cases c : p < k ∨ L.length - 1 - p < k
      · rw [if_pos c, if_pos (by omega)]
      · rw [if_neg c, if_neg (by omega)]
theorem rev_end {L M : List Int} {k : Nat} (h : RevOk L M k) (hk : L.length - 1 - k ≤ k) : M = L.reverse := by
  apply List.ext_getElem?
  intro p
  by_cases hp : p < L.length
  · rw [h.2 p hp, List.getElem?_reverse hp]
    by_cases c : p < k ∨ L.length - 1 - p < k
    · rw [if_pos c]
    · rw [if_neg c]
      have : p = L.length - 1 - p := by omega
      rw [← this]
  · rw [List.getElem?_eq_none (by rw [h.1]; omega), List.getElem?_eq_none (by simp; omega)]

def RevRel (w : World) (base g off cap : Nat) (L : List Int) (i j : Value) (wr : World) : Prop :=
  ∃ (k : Nat) (M : List Int), k < L.length ∧ i = .int .i64 k ∧ j = .int .i64 ((L.length : Int) - 1 - k) ∧ RevOk L M k ∧ QRow wr base 3 1 (.slice (some ⟨g, off, none⟩) L.length cap) L.length (nums .i64 M) ∧ Only (· = g) w wr
def RevOut (w w' : World) (base g : Nat) (v : Value) (L : List Int) (e : Ending) : Prop := e = .returned (.tuple #[]) ∧ QRow w' base 3 1 v L.length (nums .i64 L.reverse) ∧ Only (· = g) w w'

set_option maxHeartbeats 1600000 in
theorem reverse_any (base g off cap : Nat) (L : List Int) (w : World) (h : QRow w base 3 1 (.slice (some ⟨g, off, none⟩) L.length cap) L.length (nums .i64 L)) (hl : L.length ≤ 1000000) (hp : 0 < L.length) :
    Calls Try.prog 14 #[.slice (some ⟨g, off, none⟩) L.length cap] w fun e w' => RevOut w w' base g (.slice (some ⟨g, off, none⟩) L.length cap) L e := by
  have H := Lib.hid h
  clear h
  go_enter Try.func14, Try.ntmps14
  go_wp2
  go_loopw [2, 3] (fun i j wr => RevRel w base g off cap L i j wr) (fun i _ _ => L.length - (intOf i).toNat)
  case atStart => exact ⟨0, L, hp, rfl, by simp, ⟨rfl, fun p hp => by rw [if_neg (by omega)]⟩, H.out, Only.refl _ _⟩
  case round =>
    obtain ⟨k, M, hk, rfl, rfl, hrev, hq, ho⟩ := hrel
    have HREV := Lib.hid hrev
    have HQ := Lib.hid hq
    have HO := Lib.hid ho
    have hML := hrev.1
    clear hrev hq ho
    by_cases hlt : k < L.length - 1 - k
    · obtain ⟨x, hx⟩ : ∃ x, M[k]? = some x := ⟨M[k]'(by omega), List.getElem?_eq_getElem (by omega)⟩
      obtain ⟨y, hy⟩ : ∃ y, M[L.length - 1 - k]? = some y := ⟨M[L.length - 1 - k]'(by omega), List.getElem?_eq_getElem (by omega)⟩
      obtain ⟨j, hj⟩ : ∃ j : Nat, j = L.length - 1 - k := ⟨_, rfl⟩
      have hj1 : (L.length : Int) - 1 - (k : Int) = (j : Int) := by omega
      have hj2 : k < j := by omega
      have hj3 : j < L.length := by omega
      rw [← hj] at hy
      have hfm := q_form HQ.out hp
      obtain ⟨g', off', cap', he, _, _, _, _, hcells, hfr, _⟩ := hfm
      injection he with ha _ hc
      injection ha with ha
      injection ha with hg hoo
      subst hg; subst hc; subst hoo
      have ck : wr.cell? ⟨g, off + k, none⟩ = some (.int .i64 x) := by rw [hcells k (by omega)]; simp [nums, hx]
      have cj : wr.cell? ⟨g, off + j, none⟩ = some (.int .i64 y) := by rw [hcells j (by omega)]; simp [nums, hy]
      have fk := hfr (off + k)
      have fj := hfr (off + j)
      have HX := Lib.hid hx
      have HY := Lib.hid hy
      have HJ := Lib.hid hj
      have HML := Lib.hid hML
      clear hx hy hcells hfr hj hML
      rw [hj1]
      go_wp2
      go_region
      go_wp2
      have hjj := HJ.out
      refine ⟨?_, by simp [intOf]; omega⟩
      refine ⟨k + 1, (M.set k y).set j x, by omega, by go_num, by (congr 1; omega), ?_, ?_, ?_⟩
      · rw [hjj]
        exact rev_step HREV.out hlt HX.out (by rw [← hjj]; exact HY.out)
      · exact q_set (q_set HQ.out hp (by omega) y) hp (by omega) x
      · exact ((HO.out.set1 _ _).set1 _ _).drew
    · go_wp2
      go_end0
      refine ⟨rfl, ?_, HO.out⟩
      rw [← rev_end HREV.out (by omega)]
      exact HQ.out
end Go.Proofs.Ytlhpfhicggdnpaa.Lag
