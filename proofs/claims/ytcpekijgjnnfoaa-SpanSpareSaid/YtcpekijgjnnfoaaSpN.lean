/-
  How arguments api.SpanNet (with the size of its links) and []bool are opened.
-/
import Derived.Test.YtcpekijgjnnfoaaSpO
import Derived.Deep.Grids
namespace Go.Proofs.Ytcpekijgjnnfoaa.Xo
open Go.ChangeShapes Go.WideShapes Go.ChangeAt Go.RowKit Go.Proofs.Ytcpekijgjnnfoaa.Ints Go.Proofs.Ytcpekijgjnnfoaa.Sp

theorem sized_field {H : Type} {P : Program} {ts : List TypeId} {ds : List (DataW H)} (h : (DataW.weightsEach P ts ds).all (· ≤ reachBytes) = true) {j k : Nat} {t te q : TypeId} {fs : Array Field} {parts e' sp' : List (DataW H)}
    (ht : ts[j]? = some t) (hd : ds[j]? = some (.agg parts)) (hu : P.underlying t = some (.struct fs)) (hk : (fs.toList.map (·.type))[k]? = some te) (hp : parts[k]? = some (.slice e' sp')) (hu2 : P.underlying te = some (.slice q)) :
    (e'.length + sp'.length) * P.bytesOf q ≤ reachBytes := by
  refine of_decide_eq_true (List.all_eq_true.1 h _ (DataW.weights_mem_each ht hd _ ?_))
  simp only [DataW.weights, hu]
  exact DataW.weights_mem_each hk hp _ (by simp [DataW.weights, hu2])
def RBools (w : World) (v : Value) (B : List Bool) : Prop :=
  ∃ (A : Option Addr) (c : Nat), v = .slice A B.length c ∧ B.length ≤ c ∧ c ≤ 9223372036854775807 ∧ (0 < B.length → ∃ b off, A = some ⟨b, off, none⟩ ∧ b < w.heap.size ∧ ∀ i x, B[i]? = some x → w.cell? ⟨b, off + i, none⟩ = some (.bool x))
def IsBools (w : World) (v : Value) : Prop := ∃ B, RBools w v B
def IsSpanbig (w : World) (v : Value) : Prop := ∃ Ai Al ci cl ids L, IsSpanNet w v Ai Al ci cl ids L ∧ L.length * 40 ≤ 140737488351232

section
variable {H : Type} {enc : TypeId × Value → H} {W : World} {base : Nat} {held : Bool} {ts : List TypeId} {ds : List (DataW H)} {d : DataW H} {ps : List MemPlace} {v : Value} {b0 : Nat}
theorem bools_open (_hsz : (DataW.weightsEach Try.prog ts ds).all (· ≤ reachBytes) = true) {j : Nat} (_ht : ts[j]? = some 46) (_hd : ds[j]? = some d) (hv : Value.okWide Try.prog W .any b0 46 v)
    (h : DataW.Trod enc Try.prog W 0 (fun _ => true) held 46 v d ps) : IsBools W v := by
  obtain ⟨a, len, cap, rfl⟩ := okWide_slice Try.underlying46 hv
  obtain ⟨fuel, hf⟩ := h
  rcases Go.Deep.open_bools Try.underlying46 Try.underlying4 (by kernel_rfl) hf with ⟨hcs, _⟩ | ⟨x, l, c, B, hcs, _, hl, hm, hx, hcell⟩
  · simp [Value.cells] at hcs
    obtain ⟨rfl, rfl, rfl⟩ := hcs
    exact ⟨[], none, 0, rfl, by simp, by omega, fun h => absurd h (by simp)⟩
  · simp [Value.cells] at hcs
    obtain ⟨rfl, rfl, rfl⟩ := hcs
    refine ⟨(List.range len).map B, some x, cap, by simp, by simpa using hl, by unfold maxLen at hm; omega, fun hp => ?_⟩
    obtain ⟨b, off, spot⟩ := x
    have hlen0 : 0 < len := by simpa using hp
    have hspot : spot = none := by simpa [Addr.add] using World.cell?_spot (hcell 0 (by omega))
    subst hspot
    refine ⟨b, off, rfl, World.block_lt_of_cell? W _ (hcell 0 (by omega)), fun i x hx => ?_⟩
    have hi : i < len := by have := (List.getElem?_eq_some_iff.1 hx).1; simpa using this
    have hxq : x = B i := by
      rw [List.getElem?_map, List.getElem?_range hi] at hx
      simpa using hx.symm
    rw [← Go.WideShapes.add_plain, hcell i (by omega), hxq]
theorem links_sized {n : Nat} {u : Value} {x : DataW H × List MemPlace} (h : DataW.trod enc Try.prog W 0 (fun _ => true) held n 23 [u] = some x) {A : Option Addr} {l c : Nat} (hu : u = .slice A l c) :
    l = 0 ∨ ∃ es sp, x.1 = .slice es sp ∧ es.length = l := by
  rcases Go.Deep.open_slice Try.underlying23 h with ⟨hcs, _⟩ | ⟨a, len, cap, m, q, D, Pl, hcs, hb, hl, hm, hmm, hx, hi⟩
  · subst hu
    simp at hcs
    exact .inl hcs.2.1
  · subst hu
    simp at hcs
    subst hx
    exact .inr ⟨_, _, rfl, by simp [hcs.2.1]⟩
theorem spanbig_open (hsz : (DataW.weightsEach Try.prog ts ds).all (· ≤ reachBytes) = true) {j : Nat} (ht : ts[j]? = some 25) (hd : ds[j]? = some d) (hv : Value.okWide Try.prog W .any b0 25 v)
    (h : DataW.Trod enc Try.prog W 0 (fun _ => true) held 25 v d ps) : IsSpanbig W v := by
  obtain ⟨Ai, Al, ci, cl, ids, L, hN⟩ := spannet_open hsz ht hd hv h
  refine ⟨Ai, Al, ci, cl, ids, L, hN, ?_⟩
  have kl : Try.prog.cellsOf 23 = 1 := by kernel_rfl
  have e40 : Try.prog.bytesOf 37 = 40 := by kernel_rfl
  obtain ⟨fuel, hf⟩ := h
  rw [hN.val] at hf
  obtain ⟨xs, n, _, hx, _, hlen, hg⟩ := DataW.trod_struct Try.underlying25 hf
  have g1 := hg 1 _ rfl
  match xs, hlen with
  | [y0, y1], _ =>
    simp [Value.cells, kl] at g1
    rcases links_sized g1 rfl with h0 | ⟨es, sp, he, hl⟩
    · omega
    · obtain ⟨hx, _⟩ := Prod.mk.inj hx
      subst hx
      have z := sized_field (k := 1) hsz ht hd Try.underlying25 rfl (by simp [he]; exact ⟨rfl, rfl⟩) Try.underlying23
      rw [e40, hl] at z
      have : (L.length + sp.length) * 40 ≤ 140737488351232 := z
      omega
end
end Go.Proofs.Ytcpekijgjnnfoaa.Xo
