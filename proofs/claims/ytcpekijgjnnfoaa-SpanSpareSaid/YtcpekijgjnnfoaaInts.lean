/-
  Slices of ints that are read as lists; slices.Index, slices.Contains over them.
-/
import Derived.Test.YtcpekijgjnnfoaaProg
import Derived.Test.YtcpekijgjnnfoaaMem
import Derived.Deep.QuietTactic
import Derived.BigQuiet
import Derived.Outline
import Derived.IntWalk
import Derived.Deep.LoopGhost
namespace Go.Proofs.Ytcpekijgjnnfoaa.Ints
open Go.RowKit Go.Proofs.YtcpekijgjnnfoaaW.PrintWords Go.Proofs.Ytcpekijgjnnfoaa.Xm

/-- v is a slice (nil, or over cells that are there) that reads as L. -/
def RInts (w : World) (v : Value) (L : List Int) : Prop :=
  ∃ (A : Option Addr) (c : Nat), v = .slice A L.length c ∧ L.length ≤ c ∧ c ≤ 9223372036854775807 ∧ (A = none → c = 0) ∧
    (0 < L.length → ∃ b off, A = some ⟨b, off, none⟩ ∧ b < w.heap.size ∧ ∀ i x, L[i]? = some x → w.cell? ⟨b, off + i, none⟩ = some (.int .i64 x))

theorem RInts.mono {w w' : World} {v : Value} {L : List Int} (h : RInts w v L) (hb : ∀ b, b < w.heap.size → w'.heap[b]? = w.heap[b]?) (hs : w.heap.size ≤ w'.heap.size) : RInts w' v L := by
  obtain ⟨A, c, h1, h2, h3, h4, h5⟩ := h
  refine ⟨A, c, h1, h2, h3, h4, fun hp => ?_⟩
  obtain ⟨b, off, ha, hlt, hc⟩ := h5 hp
  exact ⟨b, off, ha, Nat.lt_of_lt_of_le hlt hs, fun i x hx => (World.cell?_of_block (w := w) (w' := w') (a := ⟨b, off + i, none⟩) (hb b hlt)).trans (hc i x hx)⟩
theorem RInts.below {w w' : World} {v : Value} {L : List Int} (h : RInts w v L) {B : Nat} (hb : Below B w w') (hB : w.heap.size ≤ B) : RInts w' v L := h.mono (fun b hlt => hb.block b (by omega)) hb.size
theorem RInts.drewN {w : World} {v : Value} {L : List Int} (h : RInts w v L) (n : Nat) : RInts (w.drewN n) v L := h
theorem rints_nil (w : World) : RInts w (.slice none 0 0) [] := ⟨none, 0, rfl, by simp, by omega, fun _ => rfl, fun h => absurd h (by simp)⟩
/-- xs[:k]. -/
theorem RInts.take {w : World} {A : Option Addr} {n c : Nat} {L : List Int} (h : RInts w (.slice A n c) L) {k : Nat} (hk : k ≤ L.length) : RInts w (.slice A k c) (L.take k) := by
  obtain ⟨A', c', h1, h2, h3, h4, h5⟩ := h
  injection h1 with e1 e2 e3
  subst e1; subst e3
  have hl : (L.take k).length = k := by simp; omega
  refine ⟨A, c, by rw [hl], by omega, h3, h4, fun hp => ?_⟩
  obtain ⟨b, off, ha, hlt, hc⟩ := h5 (by omega)
  refine ⟨b, off, ha, hlt, fun i x hx => hc i x ?_⟩
  rw [List.getElem?_take] at hx
  split at hx
  · exact hx
  · cases hx
/-- xs[k:]. -/
theorem RInts.drop {w : World} {A : Option Addr} {n c : Nat} {L : List Int} (h : RInts w (.slice A n c) L) {k : Nat} (hk : k ≤ L.length) : RInts w (.slice (if c = k then A else A.map (·.add (k * 1))) (L.length - k) (c - k)) (L.drop k) := by
  obtain ⟨A', c', h1, h2, h3, h4, h5⟩ := h
  injection h1 with e1 e2 e3
  subst e1; subst e3
  have hl : (L.drop k).length = L.length - k := by simp
  refine ⟨_, c - k, by rw [hl], by omega, by omega, fun hA => ?_, fun hp => ?_⟩
  · split at hA
    · omega
    · cases A with
      | none => have := h4 rfl; omega
      | some a => simp at hA
  · obtain ⟨b, off, rfl, hlt, hc⟩ := h5 (by omega)
    rw [if_neg (by omega)]
    refine ⟨b, off + k, by simp [add_at], hlt, fun i x hx => ?_⟩
    rw [Nat.add_assoc]
    exact hc (k + i) x (by rw [List.getElem?_drop] at hx; exact hx)

/-- The place of the first m, or -1. -/
def idx (m : Int) : List Int → Int
  | [] => -1
  | x :: r => if m = x then 0 else (if idx m r = -1 then -1 else idx m r + 1)
theorem idx_none {m : Int} : ∀ {L : List Int}, (∀ x ∈ L, x ≠ m) → idx m L = -1
  | [], _ => rfl
  | x :: r, h => by
    have h1 : ¬ m = x := fun e => h x (by simp) e.symm
    have h2 := idx_none (m := m) (L := r) (fun y hy => h y (by simp [hy]))
    simp [idx, h1, h2]
theorem idx_some {m : Int} : ∀ {L : List Int} {i : Nat}, L[i]? = some m → (∀ (j : Nat) (x : Int), j < i → L[j]? = some x → x ≠ m) → idx m L = (i : Int)
  | [], i, h, _ => by simp at h
  | x :: r, 0, h, _ => by simp at h; simp [idx, h]
  | x :: r, i + 1, h, hj => by
    have h1 : ¬ m = x := fun e => hj 0 x (by omega) rfl e.symm
    have h2 := idx_some (m := m) (L := r) (i := i) (by simpa using h) (fun j y hlt hy => hj (j + 1) y (by omega) (by simpa using hy))
    simp only [idx, if_neg h1, h2]
    rw [if_neg (by omega)]
    omega
theorem split_at (m : Int) (L : List Int) : (∀ x ∈ L, x ≠ m) ∨ ∃ i : Nat, L[i]? = some m ∧ ∀ (j : Nat) (x : Int), j < i → L[j]? = some x → x ≠ m := by
  induction L with
  | nil => exact .inl (by simp)
  | cons y L ih =>
    by_cases hy : y = m
    · exact .inr ⟨0, by simp [hy], fun j _ hj => absurd hj (by omega)⟩
    · rcases ih with h | ⟨i, h1, h2⟩
      · exact .inl (by simp [hy]; exact h)
      · refine .inr ⟨i + 1, by simpa using h1, fun j x hj hx => ?_⟩
        cases j with
        | zero => simp at hx; subst hx; exact hy
        | succ j => exact h2 j x (by omega) (by simpa using hx)
theorem idx_mem (m : Int) (L : List Int) : decide (0 ≤ idx m L) = decide (m ∈ L) := by
  rcases split_at m L with h | ⟨i, h1, h2⟩
  · rw [idx_none h]
    have : ¬ m ∈ L := fun hm => h m hm rfl
    simp [this]
  · rw [idx_some h1 h2]
    have : m ∈ L := List.mem_of_getElem? h1
    simp [this]

def IdxRel (n : Nat) (i : Value) : Prop := ∃ k : Nat, k ≤ n ∧ i = .int .i64 k

set_option maxHeartbeats 400000 in
theorem index_any (v : Value) (m : Int) (L : List Int) (w : World) (h : RInts w v L) :
    Calls Try.prog 36 #[v, .int .i64 m] w fun e w' => e = .returned (.int .i64 (idx m L)) ∧ w' = w := by
  obtain ⟨A, c, rfl, h2, h3, _, h5⟩ := h
  have H5 := Lib.hid h5
  clear h5
  rcases split_at m L with hn | ⟨i, h1, hj⟩
  · have HF := Lib.hid (idx_none hn)
    have HN := Lib.hid hn
    clear hn
    go_enter Try.func36, Try.ntmps36
    go_wp2
    go_loop [8] (fun i => IdxRel L.length i) (fun i => L.length - (intOf i).toNat)
    case atStart => exact ⟨0, by omega, rfl⟩
    case round =>
      obtain ⟨k, hk, rfl⟩ := hrel
      by_cases hlt : k < L.length
      · obtain ⟨x, hx⟩ : ∃ x, L[k]? = some x := ⟨L[k], by simp [hlt]⟩
        have hne : (m == x) = false := by rw [beq_eq_false_iff_ne]; exact fun e => HN.out x (List.mem_of_getElem? hx) e.symm
        obtain ⟨b, off, rfl, _, hc⟩ := H5.out (by omega)
        have hcell := hc k x hx
        clear hc hx
        go_wp2
        go_round
        case rel => exact ⟨k + 1, by omega, by go_num⟩
        case measure => simp [intOf]; omega
      · obtain rfl : k = L.length := by omega
        go_wp2
        go_ret
        exact ⟨by rw [HF.out]; rfl, rfl⟩
  · have HF := Lib.hid (idx_some h1 hj)
    have HJ := Lib.hid hj
    have H1 := Lib.hid h1
    have hi : i < L.length := (List.getElem?_eq_some_iff.1 h1).1
    clear hj h1
    go_enter Try.func36, Try.ntmps36
    go_wp2
    go_loop [8] (fun q => IdxRel i q) (fun q => L.length - (intOf q).toNat)
    case atStart => exact ⟨0, by omega, rfl⟩
    case round =>
      obtain ⟨k, hk, rfl⟩ := hrel
      obtain ⟨b, off, rfl, _, hc⟩ := H5.out (by omega)
      by_cases hlt : k < i
      · obtain ⟨x, hx⟩ : ∃ x, L[k]? = some x := ⟨L[k]'(by omega), List.getElem?_eq_getElem (by omega)⟩
        have hne : (m == x) = false := by rw [beq_eq_false_iff_ne]; exact fun e => HJ.out k x hlt hx e.symm
        have hcell := hc k x hx
        clear hc hx
        go_wp2
        go_round
        case rel => exact ⟨k + 1, by omega, by go_num⟩
        case measure => simp [intOf]; omega
      · obtain rfl : k = i := by omega
        have hcell := hc k m H1.out
        clear hc
        go_wp2
        go_ret
        exact ⟨by rw [HF.out]; rfl, rfl⟩

set_option maxHeartbeats 400000 in
theorem contains_any (v : Value) (m : Int) (L : List Int) (w : World) (h : RInts w v L) :
    Calls Try.prog 27 #[v, .int .i64 m] w fun e w' => e = .returned (.bool (decide (m ∈ L))) ∧ w' = w := by
  have H := Lib.hid h
  have HM := Lib.hid (idx_mem m L)
  obtain ⟨A, c, rfl, h2, h3, _, h5⟩ := h
  clear h5
  go_enter Try.func27, Try.ntmps27
  go_wp2_with fail
  refine (index_any _ m L _ H.out).mono ?_
  rintro e w' ⟨rfl, rfl⟩
  go_wp2_with fail
  go_ret
  exact ⟨by rw [← HM.out]; rfl, rfl⟩
end Go.Proofs.Ytcpekijgjnnfoaa.Ints
