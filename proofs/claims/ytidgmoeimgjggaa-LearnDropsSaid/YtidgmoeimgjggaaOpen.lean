/-
  How arguments that lead to memory are opened.
-/
import Derived.Test.YtidgmoeimgjggaaProg
import Derived.Test.YtidgmoeimgjggaaMem
import Derived.ProofKit
import Derived.OpenShut
import Derived.SizedLaws
import Derived.Deep.Matrix
import Derived.Deep.Strs
namespace Go.Proofs.Ytidgmoeimgjggaa.Xo
open Go.ChangeShapes Go.WideShapes Go.ChangeAt Go.RowKit Go.Deep

/-- n cells from an address on. -/
def Cells (w : World) (a : Option Addr) (n : Nat) (f : Nat → Value) : Prop := 0 < n → ∃ b off, a = some ⟨b, off, none⟩ ∧ b < w.heap.size ∧ ∀ i, i < n → w.cell? ⟨b, off + i, none⟩ = some (f i)

theorem cells_of {w : World} {a : Addr} {n : Nat} {f : Nat → Value} (h : ∀ i, i < n → w.cell? (a.add i) = some (f i)) : Cells w (some a) n f := by
  intro hp
  obtain ⟨b, off, spot⟩ := a
  have hspot : spot = none := by simpa [Addr.add] using World.cell?_spot (h 0 hp)
  subst hspot
  exact ⟨b, off, rfl, World.block_lt_of_cell? w _ (h 0 hp), fun j hj => by rw [← Go.WideShapes.add_plain]; exact h j hj⟩

theorem Cells.below {w w' : World} {a : Option Addr} {n : Nat} {f : Nat → Value} (h : Cells w a n f) {B : Nat} (hb : Below B w w') (hB : w.heap.size ≤ B) : Cells w' a n f := by
  intro hp
  obtain ⟨b, off, rfl, hlt, hc⟩ := h hp
  exact ⟨b, off, rfl, Nat.lt_of_lt_of_le hlt hb.size, fun i hi => (hb.cell (p := ⟨b, off + i, none⟩) (by simp; omega)).trans (hc i hi)⟩

/-- A slice of ints. -/
def IsInts (w : World) (v : Value) : Prop := ∃ (a : Option Addr) (n c : Nat) (Z : Nat → Int), v = .slice a n c ∧ n ≤ c ∧ c ≤ maxLen ∧ (a = none → c = 0) ∧ Cells w a n (fun i => .int .i64 (Z i))
/-- A slice of slices of ints. -/
def IsRows (w : World) (v : Value) : Prop := ∃ (a : Option Addr) (n c : Nat) (V : Nat → Value), v = .slice a n c ∧ n ≤ c ∧ c ≤ maxLen ∧ c * 24 ≤ 140737488351232 ∧ (a = none → c = 0) ∧ Cells w a n V ∧ ∀ i, i < n → IsInts w (V i)

section
variable {H : Type} {enc : TypeId × Value → H} {W : World} {base : Nat} {held : Bool} {ts : List TypeId} {ds : List (DataW H)} {d : DataW H} {ps : List MemPlace} {v : Value} {b0 : Nat}

theorem rows_open (hsz : (DataW.weightsEach Try.prog ts ds).all (· ≤ reachBytes) = true) {j : Nat} (ht : ts[j]? = some 22) (hd : ds[j]? = some d) (hv : Value.okWide Try.prog W .any b0 22 v)
    (h : DataW.Trod enc Try.prog W 0 (fun _ => true) held 22 v d ps) : IsRows W v := by
  obtain ⟨a, len, cap, rfl⟩ := okWide_slice Try.underlying22 hv
  obtain ⟨fuel, hf⟩ := h
  rcases open_int_rows Try.underlying22 Try.underlying31 Try.underlying3 (by kernel_rfl) (by kernel_rfl) hf with ⟨hcs, _⟩ | ⟨x, l, c, A, L, C, Z, hcs, _, hl, hm, hx, hcell⟩
  · simp [Value.cells] at hcs
    obtain ⟨rfl, rfl, rfl⟩ := hcs
    exact ⟨none, 0, 0, fun _ => .bool false, rfl, by omega, by omega, by omega, fun _ => rfl, fun h => absurd h (by omega), fun i hi => absurd hi (by omega)⟩
  · simp [Value.cells] at hcs
    obtain ⟨rfl, rfl, rfl⟩ := hcs
    obtain ⟨hx, _⟩ := Prod.mk.inj hx
    subst hx
    have z := sized_slice hsz ht hd Try.underlying22
    have e24 : Try.prog.bytesOf 31 = 24 := by kernel_rfl
    rw [e24] at z
    simp only [List.length_map, List.length_range] at z
    refine ⟨_, len, cap, fun i => .slice (A i) (L i) (C i), rfl, hl, hm, ?_, (fun h => by cases h), cells_of (fun i hi => (hcell i (by omega)).1), fun i hi => ?_⟩
    · have : len + (cap - len) = cap := by omega
      rw [this] at z
      exact z
    · obtain ⟨_, h2, h3, h4, h5, h6, h7⟩ := hcell i (by omega)
      refine ⟨A i, L i, C i, fun k => (Z i).getD k 0, rfl, h2, h3, h6, ?_⟩
      cases hA : A i with
      | none => exact fun hp => absurd hp (by have := h6 hA; omega)
      | some a' => exact cells_of (fun k hk => (h7 a' hA).2 k (by omega))
end
end Go.Proofs.Ytidgmoeimgjggaa.Xo
