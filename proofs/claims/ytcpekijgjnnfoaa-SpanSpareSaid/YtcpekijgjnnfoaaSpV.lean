/-
  Tree: what bounds the costs on the way.
-/
import Derived.Test.YtcpekijgjnnfoaaSpT3
namespace Go.Proofs.Ytcpekijgjnnfoaa.Sp
open Go Go.Proofs.Ytcpekijgjnnfoaa.Th

/-- No belief costs more than c. -/
def Bnd (c : Int) (N : List Bel) : Prop := ∀ b ∈ N, 0 ≤ b.cost ∧ b.cost ≤ c
theorem bnd_mono {c d : Int} {N : List Bel} (h : Bnd c N) (hd : c ≤ d) : Bnd d N := fun b hb => ⟨(h b hb).1, by have := (h b hb).2; omega⟩
theorem bnd_start (ids : List Int) : Bnd 0 (startN ids) := by
  intro b hb
  obtain ⟨x, _, rfl⟩ := List.mem_map.1 hb
  exact ⟨Int.le_refl 0, Int.le_refl 0⟩
theorem bnd_at {c : Int} {N : List Bel} (h : Bnd c N) (hc : 0 ≤ c) (i : Int) : 0 ≤ (belAt N i).cost ∧ (belAt N i).cost ≤ c := by
  unfold belAt
  rw [List.getD_eq_getElem?_getD]
  cases hx : N[i.toNat]? with
  | none => exact ⟨Int.le_refl 0, hc⟩
  | some b => exact h b (List.mem_of_getElem? hx)
theorem bnd_set {c : Int} {N : List Bel} (h : Bnd c N) {i : Nat} {b : Bel} (hb : 0 ≤ b.cost ∧ b.cost ≤ c) : Bnd c (N.set i b) := by
  intro x hx
  rcases List.mem_or_eq_of_mem_set hx with hx | rfl
  · exact h x hx
  · exact hb
theorem bnd_relax {c : Int} {N : List Bel} (h : Bnd c N) (hc : 0 ≤ c) {x : End} (hx : 1 ≤ x.cost ∧ x.cost ≤ 1000) : Bnd (c + 1000) (relax1 N x) := by
  unfold relax1
  split
  · exact bnd_set (bnd_mono h (by omega)) (by have := bnd_at h hc x.peer; simp only; omega)
  · exact bnd_mono h (by omega)
theorem bnd_step {c : Int} {ids : List Int} {N : List Bel} {E : List End} (h : Bnd c N) (hc : 0 ≤ c) (hn : InNet ids.length E) (hE : ∀ x ∈ E, 1 ≤ x.cost ∧ x.cost ≤ 1000) : Bnd (c + 1000) (stepN ids E N) := by
  intro b hb
  obtain ⟨v, hv, hvb⟩ := List.getElem_of_mem hb
  have hv' : v < ids.length := by rwa [stepN_len hn] at hv
  have := stepN_get hn N v hv'
  rw [List.getD_eq_getElem?_getD, List.getElem?_eq_getElem hv, hvb] at this
  simp only [Option.getD_some] at this
  rw [this]
  have hm := (bestV_is (ownOf ids v) (heard ids N) (endsOf E v)).mem
  cases ho : bestV (ownOf ids v) (heard ids N) (endsOf E v) with
  | none => exact ⟨Int.le_refl 0, by show (0 : Int) ≤ c + 1000; omega⟩
  | some y =>
    have hy := hE y (List.mem_filter.1 (hm y ho).1).1
    have := bnd_at h hc y.peer
    show 0 ≤ (belAt N y.peer).cost + y.cost ∧ (belAt N y.peer).cost + y.cost ≤ c + 1000
    omega
theorem bnd_iter {ids : List Int} {E : List End} (hn : InNet ids.length E) (hE : ∀ x ∈ E, 1 ≤ x.cost ∧ x.cost ≤ 1000) : ∀ k : Nat, Bnd (1000 * (k : Int)) (iter ids E k)
  | 0 => bnd_start ids
  | k + 1 => bnd_mono (bnd_step (bnd_iter hn hE k) (by omega) hn hE) (by omega)
/-- What turns only ports keeps the bound. -/
theorem bnd_portOne {c : Int} {ids : List Int} {i : Nat} {s : List Bel × Vec} (h : Bnd c s.1) (hc : 0 ≤ c) (x : End) : Bnd c (portOne ids i s x).1 := by
  unfold portOne
  split
  · refine bnd_set h ?_
    have := bnd_at h hc (i : Int)
    unfold belAt at this
    rw [Int.toNat_natCast] at this
    exact this
  · exact h
theorem portOne_len (ids : List Int) (i : Nat) (s : List Bel × Vec) (x : End) : (portOne ids i s x).1.length = s.1.length := by unfold portOne; split <;> simp
theorem fold_port_len (ids : List Int) (i : Nat) : ∀ (E : List End) (s : List Bel × Vec), (E.foldl (portOne ids i) s).1.length = s.1.length
  | [], _ => rfl
  | x :: E, s => by rw [List.foldl_cons, fold_port_len ids i E, portOne_len]
theorem fold_port_bnd {c : Int} {ids : List Int} {i : Nat} (hc : 0 ≤ c) : ∀ (E : List End) (s : List Bel × Vec), Bnd c s.1 → Bnd c (E.foldl (portOne ids i) s).1
  | [], _, h => h
  | x :: E, s, h => fold_port_bnd hc E _ (bnd_portOne h hc x)
theorem fold_relax_len : ∀ (E : List End) (N : List Bel), (E.foldl relax1 N).length = N.length
  | [], _ => rfl
  | x :: E, N => by rw [List.foldl_cons, fold_relax_len E, relax1_len]
theorem fold_relax_bnd {c : Int} (hc : 0 ≤ c) : ∀ (E : List End) (N : List Bel), (∀ x ∈ E, 1 ≤ x.cost ∧ x.cost ≤ 1000) → Bnd c N → Bnd (c + 1000 * (E.length : Int)) (E.foldl relax1 N)
  | [], _, _, h => bnd_mono h (by simp)
  | x :: E, N, hE, h => by
    have := fold_relax_bnd (c := c + 1000) (by omega) E (relax1 N x) (fun y hy => hE y (by simp [hy])) (bnd_relax h hc (hE x (by simp)))
    exact bnd_mono this (by rw [List.length_cons]; omega)
theorem passes_len (E : List End) (N : List Bel) : ∀ k, (passes E k N).length = N.length
  | 0 => rfl
  | k + 1 => by show (E.foldl relax1 (passes E k N)).length = _; rw [fold_relax_len, passes_len E N k]
theorem passes_bnd {E : List End} {N : List Bel} (hE : ∀ x ∈ E, 1 ≤ x.cost ∧ x.cost ≤ 1000) (hl : E.length ≤ 96) (h : Bnd 0 N) : ∀ k : Nat, Bnd (96000 * (k : Int)) (passes E k N)
  | 0 => h
  | k + 1 => bnd_mono (fold_relax_bnd (by omega) E _ hE (passes_bnd hE hl h k)) (by omega)
theorem ports_len (ids : List Int) (E : List End) (N : List Bel) : ∀ k, (portsN ids E N k).length = N.length
  | 0 => rfl
  | k + 1 => by show (E.foldl (portOne ids k) (portsN ids E N k, _)).1.length = _; rw [fold_port_len]; exact ports_len ids E N k
theorem ports_bnd {c : Int} (hc : 0 ≤ c) {ids : List Int} {E : List End} {N : List Bel} (h : Bnd c N) : ∀ k, Bnd c (portsN ids E N k)
  | 0 => h
  | k + 1 => fold_port_bnd hc E (portsN ids E N k, ⟨0, 0, 0, 0⟩) (ports_bnd hc h k)
end Go.Proofs.Ytcpekijgjnnfoaa.Sp
