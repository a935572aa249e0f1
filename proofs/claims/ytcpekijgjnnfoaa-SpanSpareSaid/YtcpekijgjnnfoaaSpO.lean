/-
  How an argument api.SpanNet is opened.
-/
import Derived.Test.YtcpekijgjnnfoaaSpF
import Derived.ProofKit
import Derived.OpenShut
import Derived.SizedLaws
import Derived.Deep.Slices
import Derived.Deep.Fields
import Derived.ChangeSame
import Derived.Lib.SmallJoins
namespace Go.Proofs.Ytcpekijgjnnfoaa.Xo
open Go.ChangeShapes Go.WideShapes Go.ChangeAt Go.RowKit Go.Proofs.Ytcpekijgjnnfoaa.Ints Go.Proofs.Ytcpekijgjnnfoaa.Sp

theorem list5 {α : Type} : ∀ {l : List α}, l.length = 5 → ∃ a b c d e, l = [a, b, c, d, e]
  | [a, b, c, d, e], _ => ⟨a, b, c, d, e, rfl⟩
structure IsSpanNet (w : World) (v : Value) (Ai Al : Option Addr) (ci cl : Nat) (ids : List Int) (L : List Link) : Prop where
  val : v = .agg #[.slice Ai ids.length ci, .slice Al L.length cl]
  ids : RInts w (.slice Ai ids.length ci) ids
  links : RowC w Al (linksV L)
  cap : L.length ≤ cl
  nil : Al = none → cl = 0
def IsSpannet (w : World) (v : Value) : Prop := ∃ Ai Al ci cl ids L, IsSpanNet w v Ai Al ci cl ids L

section
variable {H : Type} {enc : TypeId × Value → H} {W : World} {base : Nat} {held : Bool} {ts : List TypeId} {ds : List (DataW H)} {d : DataW H} {ps : List MemPlace} {v : Value} {b0 : Nat}
theorem ints_cells {n : Nat} {u : Value} {x : DataW H × List MemPlace} (h : DataW.trod enc Try.prog W 0 (fun _ => true) held n 22 [u] = some x) : ∃ A c L, u = .slice A L.length c ∧ RInts W u L := by
  rcases open_ints Try.underlying22 Try.underlying3 (by kernel_rfl) h with ⟨hcs, _⟩ | ⟨a, l, c, zs, hcs, _, hl, hm, hz, hx, hcell, hwz⟩
  · simp at hcs
    subst hcs
    exact ⟨none, 0, [], rfl, none, 0, rfl, by simp, by omega, fun _ => rfl, fun h => absurd h (by simp)⟩
  · simp at hcs
    subst hcs
    have hz' : zs.length = c := by simpa using hz
    have hlen : (zs.take l).length = l := by simp; omega
    refine ⟨some a, c, zs.take l, by rw [hlen], some a, c, by rw [hlen], by omega, by unfold maxLen at hm; omega, (fun h => by cases h), fun hp => ?_⟩
    obtain ⟨b, off, spot⟩ := a
    have hspot : spot = none := by simpa [Addr.add] using World.cell?_spot (hcell 0 (by omega))
    subst hspot
    refine ⟨b, off, rfl, World.block_lt_of_cell? W _ (hcell 0 (by omega)), fun i y hy => ?_⟩
    have hi : i < l := by have := (List.getElem?_eq_some_iff.1 hy).1; omega
    rw [← Go.WideShapes.add_plain, hcell i (by omega)]
    rw [List.getElem?_take, if_pos hi] at hy
    simp [List.getD, hy]
theorem links_cells {n : Nat} {u : Value} {x : DataW H × List MemPlace} (h : DataW.trod enc Try.prog W 0 (fun _ => true) held n 23 [u] = some x) :
    ∃ A c L, u = .slice A L.length c ∧ RowC W A (linksV L) ∧ L.length ≤ c ∧ (A = none → c = 0) := by
  have ki : Try.prog.cellsOf 3 = 1 := by kernel_rfl
  have k5 : Try.prog.cellsOf 37 = 5 := by kernel_rfl
  rcases Go.Deep.open_slice Try.underlying23 h with ⟨hcs, _⟩ | ⟨a, len, cap, m, q, D, Pl, hcs, hb, hl, hm, hmm, hx, hi⟩
  · simp at hcs
    subst hcs
    exact ⟨none, 0, [], rfl, fun h => absurd h (by simp [linksV]), by simp, fun _ => rfl⟩
  · simp at hcs
    subst hcs
    have hmm' : m = cap := by simpa using hmm
    subst hmm'
    have hel : ∀ i, i < len → ∃ l : Link, ∀ (j : Nat) (u : Value), (encL l)[j]? = some u → W.cell? (a.add (i * 5 + j)) = some u := by
      intro i hil
      obtain ⟨cs', hc, ht'⟩ := hi i (by omega)
      rw [k5] at hc
      obtain ⟨ys, n', _, _, hlen, hyl, hf⟩ := DataW.trod_struct Try.underlying37 ht'
      obtain ⟨_, hcl, hat⟩ := World.cells?_some hc
      have g0 := hf 0 _ rfl
      have g1 := hf 1 _ rfl
      have g2 := hf 2 _ rfl
      have g3 := hf 3 _ rfl
      have g4 := hf 4 _ rfl
      obtain ⟨c0, c1, c2, c3, c4, rfl⟩ : ∃ c0 c1 c2 c3 c4, cs' = [c0, c1, c2, c3, c4] := list5 hcl
      obtain ⟨y0, y1, y2, y3, y4, rfl⟩ : ∃ y0 y1 y2 y3 y4, ys = [y0, y1, y2, y3, y4] := list5 hyl
      · simp [ki] at g0 g1 g2 g3 g4
        obtain ⟨k0, e0, _⟩ := DataW.trod_int Try.underlying3 g0
        obtain ⟨k1, e1, _⟩ := DataW.trod_int Try.underlying3 g1
        obtain ⟨k2, e2, _⟩ := DataW.trod_int Try.underlying3 g2
        obtain ⟨k3, e3, _⟩ := DataW.trod_int Try.underlying3 g3
        obtain ⟨k4, e4, _⟩ := DataW.trod_int Try.underlying3 g4
        simp at e0 e1 e2 e3 e4
        subst e0 e1 e2 e3 e4
        refine ⟨⟨k0, k1, k2, k3, k4⟩, fun j u hu => ?_⟩
        have hj : j < 5 := by have := (List.getElem?_eq_some_iff.1 hu).1; simpa [encL] using this
        rw [← Go.Deep.add_add, hat j hj]
        exact hu
    have hel' : ∀ i, ∃ l : Link, i < len → ∀ (j : Nat) (u : Value), (encL l)[j]? = some u → W.cell? (a.add (i * 5 + j)) = some u := by
      intro i
      by_cases h : i < len
      · obtain ⟨l, hl⟩ := hel i h
        exact ⟨l, fun _ => hl⟩
      · exact ⟨⟨0, 0, 0, 0, 0⟩, fun h' => absurd h' h⟩
    obtain ⟨f, hf⟩ := Classical.axiomOfChoice hel'
    refine ⟨some a, m, (List.range len).map f, by simp, fun hp => ?_, by simpa using hl, fun h => by cases h⟩
    have h0 : 0 < len := by
      rw [linksV_len] at hp
      simp at hp
      omega
    obtain ⟨b, off, spot⟩ := a
    have hspot : spot = none := by
      have := hf 0 h0 0 (.int .i64 (f 0).a) rfl
      simpa [Addr.add] using World.cell?_spot this
    subst hspot
    have hlt : b < W.heap.size := by
      have := World.block_lt_of_cell? W _ (hf 0 h0 0 (.int .i64 (f 0).a) rfl)
      simpa [Go.WideShapes.add_plain] using this
    refine ⟨b, off, rfl, hlt, fun j u hu => ?_⟩
    have hj : j < len * 5 := by have := (List.getElem?_eq_some_iff.1 hu).1; rw [linksV_len] at this; simpa using this
    have hg := linksV_get (L := (List.range len).map f) (i := j / 5) (e := f (j / 5)) (by rw [List.getElem?_map, List.getElem?_range (by omega)]; rfl) (j % 5) (by omega)
    rw [show j / 5 * 5 + j % 5 = j by omega, hu] at hg
    have := hf (j / 5) (by omega) (j % 5) u hg.symm
    rw [show j / 5 * 5 + j % 5 = j by omega, Go.WideShapes.add_plain] at this
    exact this
theorem spannet_open (_hsz : (DataW.weightsEach Try.prog ts ds).all (· ≤ reachBytes) = true) {j : Nat} (_ht : ts[j]? = some 25) (_hd : ds[j]? = some d) (hv : Value.okWide Try.prog W .any b0 25 v)
    (h : DataW.Trod enc Try.prog W 0 (fun _ => true) held 25 v d ps) : IsSpannet W v := by
  have hC : Try.prog.cellsOf 25 = 2 := by kernel_rfl
  have ki : Try.prog.cellsOf 22 = 1 := by kernel_rfl
  have kl : Try.prog.cellsOf 23 = 1 := by kernel_rfl
  obtain ⟨cs, rfl, hs⟩ := okWide_struct Try.underlying25 hv
  obtain ⟨l⟩ := cs
  match l, hs.trans hC with
  | [c0, c1], _ =>
    obtain ⟨fuel, hf⟩ := h
    obtain ⟨xs, n, _, _, _, hlen, hg⟩ := DataW.trod_struct Try.underlying25 hf
    have g0 := hg 0 _ rfl
    have g1 := hg 1 _ rfl
    match xs, hlen with
    | [y0, y1], _ =>
      simp [Value.cells, ki, kl] at g0 g1
      obtain ⟨Ai, ci, ids, rfl, h1⟩ := ints_cells g0
      obtain ⟨Al, cl, L, rfl, h2, h3, h4⟩ := links_cells g1
      exact ⟨Ai, Al, ci, cl, ids, L, rfl, h1, h2, h3, h4⟩
end
end Go.Proofs.Ytcpekijgjnnfoaa.Xo
