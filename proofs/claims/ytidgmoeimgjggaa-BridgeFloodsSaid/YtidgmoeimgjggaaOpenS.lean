/-
  How arguments []api.TagPort, []bool and api.Frame are opened.
-/
import Derived.Test.YtidgmoeimgjggaaBrN
import Derived.ProofKit
import Derived.OpenShut
import Derived.SizedLaws
import Derived.Deep.SlicePairs
import Derived.Deep.Grids
import Derived.Lib.SmallJoins
namespace Go.Proofs.Ytidgmoeimgjggaa.Xo
open Go.ChangeShapes Go.WideShapes Go.ChangeAt Go.RowKit Go.Proofs.Ytidgmoeimgjggaa.Ints Go.Proofs.Ytidgmoeimgjggaa.Br

def IsPorts (w : World) (v : Value) : Prop := ∃ P, RPorts w v P
/-- A slice of Booleans. -/
def RBools (w : World) (v : Value) (B : List Bool) : Prop :=
  ∃ (A : Option Addr) (c : Nat), v = .slice A B.length c ∧ B.length ≤ c ∧ c ≤ 9223372036854775807 ∧ (0 < B.length → ∃ b off, A = some ⟨b, off, none⟩ ∧ b < w.heap.size ∧ ∀ i x, B[i]? = some x → w.cell? ⟨b, off + i, none⟩ = some (.bool x))
def IsBools (w : World) (v : Value) : Prop := ∃ B, RBools w v B
def IsFrame (v : Value) : Prop := ∃ f : Fr, v = f.val

instance : Inhabited Port := ⟨⟨0, []⟩⟩

section
variable {H : Type} {enc : TypeId × Value → H} {W : World} {base : Nat} {held : Bool} {ts : List TypeId} {ds : List (DataW H)} {d : DataW H} {ps : List MemPlace} {v : Value} {b0 : Nat}

theorem ints_cells {n : Nat} {u : Value} {x : DataW H × List MemPlace} (h : DataW.trod enc Try.prog W 0 (fun _ => true) held n 31 [u] = some x) : ∃ A c L, u = .slice A L.length c ∧ RInts W u L := by
  rcases open_ints Try.underlying31 Try.underlying3 (by kernel_rfl) h with ⟨hcs, _⟩ | ⟨a, l, c, zs, hcs, _, hl, hm, hz, hx, hcell, hwz⟩
  · simp at hcs
    subst hcs
    exact ⟨none, 0, [], rfl, none, 0, rfl, by simp, by omega, fun _ => rfl, fun h => absurd h (by simp)⟩
  · simp at hcs
    subst hcs
    have hz' : zs.length = c := by simpa using hz
    have hlen : (zs.take l).length = l := by simp; omega
    refine ⟨some a, c, zs.take l, by rw [hlen], some a, c, by rw [hlen], by omega, by unfold maxLen at hm; omega, (fun h => by cases h), fun hp => ?_⟩
    obtain ⟨b, off, spot⟩ := a
    have hspot : spot = none := by simpa [Addr.add] using World.cell?_spot (hcell 0 (by omega))
    subst hspot
    refine ⟨b, off, rfl, World.block_lt_of_cell? W _ (hcell 0 (by omega)), fun i y hy => ?_⟩
    have hi : i < l := by have := (List.getElem?_eq_some_iff.1 hy).1; omega
    rw [← Go.WideShapes.add_plain, hcell i (by omega)]
    rw [List.getElem?_take, if_pos hi] at hy
    simp [List.getD, hy]

theorem ports_open (hsz : (DataW.weightsEach Try.prog ts ds).all (· ≤ reachBytes) = true) {j : Nat} (ht : ts[j]? = some 48) (hd : ds[j]? = some d) (hv : Value.okWide Try.prog W .any b0 48 v)
    (h : DataW.Trod enc Try.prog W 0 (fun _ => true) held 48 v d ps) : IsPorts W v := by
  obtain ⟨a, len, cap, rfl⟩ := okWide_slice Try.underlying48 hv
  obtain ⟨fuel, hf⟩ := h
  rcases Go.Deep.open_slice_pairs Try.underlying48 Try.underlying63 (by kernel_rfl) rfl rfl (by kernel_rfl) (by kernel_rfl) hf with ⟨hcs, _⟩ | ⟨x, l, c, m, n, V0, V1, D0, D1, P0, P1, hcs, _, hl, hm, hmm, hx, hcell⟩
  · simp [Value.cells] at hcs
    obtain ⟨rfl, rfl, rfl⟩ := hcs
    exact ⟨[], none, 0, rfl, by simp, by simp, fun h => absurd h (by simp)⟩
  · simp [Value.cells] at hcs
    obtain ⟨rfl, rfl, rfl⟩ := hcs
    simp only [if_true] at hmm
    obtain rfl : cap = m := hmm.symm
    obtain ⟨hx, _⟩ := Prod.mk.inj hx
    subst hx
    have z := sized_slice hsz ht hd Try.underlying48
    have e32 : Try.prog.bytesOf 63 = 32 := by kernel_rfl
    rw [e32] at z
    simp only [List.length_map, List.length_range] at z
    obtain ⟨q, hq⟩ := Go.Deep.choose_lt (α := Port) (n := cap) (p := fun i p => V0 i = .int .i64 p.access ∧ ∃ A c, V1 i = .slice A p.allow.length c ∧ RInts W (V1 i) p.allow) (fun i hi => by
      obtain ⟨_, _, h0, h1⟩ := hcell i hi
      obtain ⟨k, hk, _, _⟩ := DataW.trod_int Try.underlying3 h0
      simp at hk
      obtain ⟨A, c, L, hA, hL⟩ := ints_cells h1
      exact ⟨⟨k, L⟩, hk, A, c, hA, hL⟩)
    refine ⟨(List.range len).map q, some x, cap, by simp, by simpa using hl, ?_, fun hp => ?_⟩
    · rw [List.length_map, List.length_range]
      have : len + (cap - len) = cap := by omega
      rw [this] at z
      have : cap * 32 ≤ 140737488351232 := z
      omega
    · obtain ⟨b, off, spot⟩ := x
      have hlen0 : 0 < len := by simpa using hp
      have hspot : spot = none := by simpa [Addr.add] using World.cell?_spot (hcell 0 (by omega)).1
      subst hspot
      refine ⟨b, off, rfl, World.block_lt_of_cell? W _ (hcell 0 (by omega)).1, fun i p hp => ?_⟩
      have hi : i < len := by have := (List.getElem?_eq_some_iff.1 hp).1; simpa using this
      have hpq : p = q i := by
        rw [List.getElem?_map, List.getElem?_range hi] at hp
        simpa using hp.symm
      subst hpq
      obtain ⟨k0, A, c', k1, k2⟩ := hq i (by omega)
      obtain ⟨g0, g1, _, _⟩ := hcell i (by omega)
      rw [Go.WideShapes.add_plain] at g0 g1
      refine ⟨A, c', by rw [g0, k0], ?_, by rw [← k1]; exact k2⟩
      rw [Nat.add_assoc, g1, k1]

theorem bools_open (_hsz : (DataW.weightsEach Try.prog ts ds).all (· ≤ reachBytes) = true) {j : Nat} (_ht : ts[j]? = some 59) (_hd : ds[j]? = some d) (hv : Value.okWide Try.prog W .any b0 59 v)
    (h : DataW.Trod enc Try.prog W 0 (fun _ => true) held 59 v d ps) : IsBools W v := by
  obtain ⟨a, len, cap, rfl⟩ := okWide_slice Try.underlying59 hv
  obtain ⟨fuel, hf⟩ := h
  rcases Go.Deep.open_bools Try.underlying59 Try.underlying4 (by kernel_rfl) hf with ⟨hcs, _⟩ | ⟨x, l, c, B, hcs, _, hl, hm, hx, hcell⟩
  · simp [Value.cells] at hcs
    obtain ⟨rfl, rfl, rfl⟩ := hcs
    exact ⟨[], none, 0, rfl, by simp, by omega, fun h => absurd h (by simp)⟩
  · simp [Value.cells] at hcs
    obtain ⟨rfl, rfl, rfl⟩ := hcs
    refine ⟨(List.range len).map B, some x, cap, by simp, by simpa using hl, by unfold maxLen at hm; omega, fun hp => ?_⟩
    obtain ⟨b, off, spot⟩ := x
    have hlen0 : 0 < len := by simpa using hp
    have hspot : spot = none := by simpa [Addr.add] using World.cell?_spot (hcell 0 (by omega))
    subst hspot
    refine ⟨b, off, rfl, World.block_lt_of_cell? W _ (hcell 0 (by omega)), fun i x hx => ?_⟩
    have hi : i < len := by have := (List.getElem?_eq_some_iff.1 hx).1; simpa using this
    have hxq : x = B i := by
      rw [List.getElem?_map, List.getElem?_range hi] at hx
      simpa using hx.symm
    rw [← Go.WideShapes.add_plain, hcell i (by omega), hxq]
theorem frame_open (_hsz : (DataW.weightsEach Try.prog ts ds).all (· ≤ reachBytes) = true) {j : Nat} (_ht : ts[j]? = some 55) (_hd : ds[j]? = some d) (hv : Value.okWide Try.prog W .any b0 55 v)
    (h : DataW.Trod enc Try.prog W 0 (fun _ => true) held 55 v d ps) : IsFrame v := by
  have hC : Try.prog.cellsOf 55 = 5 := by kernel_rfl
  have ki : Try.prog.cellsOf 3 = 1 := by kernel_rfl
  have ks : Try.prog.cellsOf 9 = 1 := by kernel_rfl
  obtain ⟨cs, rfl, hs⟩ := okWide_struct Try.underlying55 hv
  obtain ⟨l⟩ := cs
  match l, hs.trans hC with
  | [c0, c1, c2, c3, c4], _ =>
    obtain ⟨fuel, hf⟩ := h
    obtain ⟨xs, n, _, _, _, hlen, hg⟩ := DataW.trod_struct Try.underlying55 hf
    have g0 := hg 0 _ rfl
    have g1 := hg 1 _ rfl
    have g2 := hg 2 _ rfl
    have g3 := hg 3 _ rfl
    have g4 := hg 4 _ rfl
    match xs, hlen with
    | [y0, y1, y2, y3, y4], _ =>
      simp [Value.cells, ki, ks] at g0 g1 g2 g3 g4
      obtain ⟨k0, e0, _⟩ := DataW.trod_int Try.underlying3 g0
      obtain ⟨k1, e1, _⟩ := DataW.trod_int Try.underlying3 g1
      obtain ⟨k2, e2, _⟩ := DataW.trod_int Try.underlying3 g2
      obtain ⟨k3, e3, _⟩ := DataW.trod_int Try.underlying3 g3
      obtain ⟨k4, e4, _⟩ := DataW.trod_string Try.underlying9 g4
      simp at e0 e1 e2 e3 e4
      subst e0 e1 e2 e3 e4
      exact ⟨⟨k0, k1, k2, k3, k4⟩, rfl⟩
end
end Go.Proofs.Ytidgmoeimgjggaa.Xo
