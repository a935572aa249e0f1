/-
  How arguments []int and []string are opened.
-/
import Derived.Test.YtlhpfhicggdnpaaInts
import Derived.ProofKit
import Derived.OpenShut
import Derived.SizedLaws
import Derived.SliceStrings
namespace Go.Proofs.Ytlhpfhicggdnpaa.Xo
open Go.ChangeShapes Go.WideShapes Go.ChangeAt Go.RowKit Go.Proofs.Ytlhpfhicggdnpaa.Ints

def IsIntList (w : World) (v : Value) : Prop := ∃ L, RInts w v L ∧ L.length * 8 ≤ 140737488351232
/-- A slice of strings. -/
def RStrs (w : World) (v : Value) (S : List ByteArray) : Prop :=
  ∃ (A : Option Addr) (c : Nat), v = .slice A S.length c ∧ S.length ≤ c ∧ c ≤ 9223372036854775807 ∧ (A = none → c = 0) ∧
    (0 < S.length → ∃ b off, A = some ⟨b, off, none⟩ ∧ b < w.heap.size ∧ ∀ i x, S[i]? = some x → w.cell? ⟨b, off + i, none⟩ = some (.string x)) ∧ ∀ x ∈ S, x.size ≤ 9223372036854775807
def IsStrList (w : World) (v : Value) : Prop := ∃ S, RStrs w v S

section
variable {H : Type} {enc : TypeId × Value → H} {W : World} {base : Nat} {held : Bool} {ts : List TypeId} {ds : List (DataW H)} {d : DataW H} {ps : List MemPlace} {v : Value} {b0 : Nat}

theorem ints_open (hsz : (DataW.weightsEach Try.prog ts ds).all (· ≤ reachBytes) = true) {j : Nat} (ht : ts[j]? = some 22) (hd : ds[j]? = some d) (hv : Value.okWide Try.prog W .any b0 22 v)
    (h : DataW.Trod enc Try.prog W 0 (fun _ => true) held 22 v d ps) : IsIntList W v := by
  obtain ⟨a, len, cap, rfl⟩ := okWide_slice Try.underlying22 hv
  obtain ⟨fuel, hf⟩ := h
  rcases open_ints Try.underlying22 Try.underlying3 (by kernel_rfl) hf with ⟨hcs, _⟩ | ⟨x, l, c, zs, hcs, _, hl, hm, hz, hx, hcell, hwz⟩
  · simp [Value.cells] at hcs
    obtain ⟨rfl, rfl, rfl⟩ := hcs
    exact ⟨[], ⟨none, 0, rfl, by simp, by omega, fun _ => rfl, fun h => absurd h (by simp)⟩, by simp⟩
  · simp [Value.cells] at hcs
    obtain ⟨rfl, rfl, rfl⟩ := hcs
    obtain ⟨hx, _⟩ := Prod.mk.inj hx
    subst hx
    have hz' : zs.length = cap := by simpa using hz
    have hlen : (zs.take len).length = len := by simp; omega
    have z := sized_slice hsz ht hd Try.underlying22
    have e8 : Try.prog.bytesOf 3 = 8 := by kernel_rfl
    rw [e8] at z
    have h1 : (lits (H := H) .i64 (zs.take len)).length + (lits (H := H) .i64 (zs.drop len)).length = zs.length := by simp [lits]; omega
    rw [h1] at z
    refine ⟨zs.take len, ⟨some x, cap, by rw [hlen], by omega, by unfold maxLen at hm; omega, (fun h => by cases h), fun hp => ?_⟩, ?_⟩
    · obtain ⟨b, off, rfl, hc⟩ := ints_at hcell (by omega)
      refine ⟨b, off, rfl, World.block_lt_of_cell? W _ (hc 0 (by omega)), fun i y hy => ?_⟩
      have hi : i < len := by have := (List.getElem?_eq_some_iff.1 hy).1; omega
      rw [hc i (by omega)]
      rw [List.getElem?_take, if_pos hi] at hy
      simp [List.getD, hy]
    · rw [hlen]
      exact Nat.le_trans (Nat.mul_le_mul_right _ (by omega)) z

theorem strs_open (_hsz : (DataW.weightsEach Try.prog ts ds).all (· ≤ reachBytes) = true) {j : Nat} (_ht : ts[j]? = some 23) (_hd : ds[j]? = some d) (hv : Value.okWide Try.prog W .any b0 23 v)
    (h : DataW.Trod enc Try.prog W 0 (fun _ => true) held 23 v d ps) : IsStrList W v := by
  obtain ⟨a, len, cap, rfl⟩ := okWide_slice Try.underlying23 hv
  obtain ⟨fuel, hf⟩ := h
  rcases open_strings Try.underlying23 Try.underlying9 (by kernel_rfl) hf with ⟨hcs, _⟩ | ⟨x, l, c, zs, hcs, _, hl, hm, hz, hx, hcell, hwz⟩
  · simp [Value.cells] at hcs
    obtain ⟨rfl, rfl, rfl⟩ := hcs
    exact ⟨[], ⟨none, 0, rfl, by simp, by omega, fun _ => rfl, fun h => absurd h (by simp), by simp⟩⟩
  · simp [Value.cells] at hcs
    obtain ⟨rfl, rfl, rfl⟩ := hcs
    have hz' : zs.length = cap := by simpa using hz
    have hlen : (zs.take len).length = len := by simp; omega
    refine ⟨zs.take len, ⟨some x, cap, by rw [hlen], by omega, by unfold maxLen at hm; omega, (fun h => by cases h), fun hp => ?_, fun y hy => by have := hwz y (List.mem_of_mem_take hy); unfold maxLen at this; omega⟩⟩
    obtain ⟨b, off, spot⟩ := x
    have hspot : spot = none := by simpa [Addr.add] using World.cell?_spot (hcell 0 (by omega))
    subst hspot
    refine ⟨b, off, rfl, World.block_lt_of_cell? W _ (hcell 0 (by omega)), fun i y hy => ?_⟩
    have hi : i < len := by have := (List.getElem?_eq_some_iff.1 hy).1; omega
    rw [← Go.WideShapes.add_plain, hcell i (by omega)]
    rw [List.getElem?_take, if_pos hi] at hy
    simp [List.getD, hy]
end
end Go.Proofs.Ytlhpfhicggdnpaa.Xo
