/-
  announced, start: contracts.
-/
import Derived.Test.YtcpekijgjnnfoaaSpA
import Derived.Deep.RegionHeldLaw
import Derived.Deep.AppendLies
namespace Go.Proofs.Ytcpekijgjnnfoaa.Sp
open Go.RowKit Go.Proofs.YtcpekijgjnnfoaaW.PrintWords Go.Proofs.Ytcpekijgjnnfoaa.Xm

/-- Rows of structs of k cells. -/
theorem flat_get {α : Type} (enc : α → List Value) (k : Nat) (hk : ∀ x, (enc x).length = k) : ∀ (L : List α) (i : Nat) (x : α), L[i]? = some x → ∀ j, j < k → (L.flatMap enc)[i * k + j]? = (enc x)[j]?
  | [], i, x, h, _, _ => by simp at h
  | y :: l, 0, x, h, j, hj => by
    simp at h
    subst h
    rw [List.flatMap_cons, Nat.zero_mul, Nat.zero_add, List.getElem?_append_left (by rw [hk]; exact hj)]
  | y :: l, i + 1, x, h, j, hj => by
    simp at h
    rw [List.flatMap_cons, List.getElem?_append_right (by rw [hk, Nat.succ_mul]; omega), hk, show (i + 1) * k + j - k = i * k + j by rw [Nat.succ_mul]; omega]
    exact flat_get enc k hk l i x h j hj
theorem flat_len {α : Type} (enc : α → List Value) (k : Nat) (hk : ∀ x, (enc x).length = k) (L : List α) : (L.flatMap enc).length = L.length * k := by
  induction L with
  | nil => simp
  | cons y l ih => rw [List.flatMap_cons, List.length_append, hk, ih, List.length_cons, Nat.succ_mul]; omega
def encB (x : Bel) : List Value := [.int .i64 x.root, .int .i64 x.cost, .int .i64 x.port]
def bels (N : List Bel) : List Value := N.flatMap encB
theorem bels_len (N : List Bel) : (bels N).length = N.length * 3 := flat_len encB 3 (fun _ => rfl) N
theorem bels_get {N : List Bel} {i : Nat} {b : Bel} (h : N[i]? = some b) (j : Nat) (hj : j < 3) : (bels N)[i * 3 + j]? = (encB b)[j]? := flat_get encB 3 (fun _ => rfl) N i b h j hj
def endsV (L : List End) : List Value := L.flatMap encE
theorem endsV_len (L : List End) : (endsV L).length = L.length * 5 := flat_len encE 5 (fun _ => rfl) L
theorem endsV_get {L : List End} {i : Nat} {e : End} (h : L[i]? = some e) (j : Nat) (hj : j < 5) : (endsV L)[i * 5 + j]? = (encE e)[j]? := flat_get encE 5 (fun _ => rfl) L i e h j hj

theorem info_bel : (Try.prog.info? 58).map (fun i => (i.zero, i.size, i.bytes)) = some (some (.agg #[.int .i64 0, .int .i64 0, .int .i64 0]), 3, 24) := by kernel_rfl

set_option maxHeartbeats 1600000 in
set_option maxRecDepth 100000 in
theorem announced_any (Ai Al An : Option Addr) (m ci cl cn : Nat) (ids : List Int) (N : List Bel) (i : Nat) (port : Int) (w : World) (hi : RowC w Ai (ints ids)) (hN : RowC w An (bels N)) (h1 : i < ids.length) (h2 : i < N.length) :
    Calls Try.prog 24 #[.agg #[.slice Ai ids.length ci, .slice Al m cl], .slice An N.length cn, .int .i64 (i : Int), .int .i64 port] w fun e w' => e = .returned (.agg (encV (vecOf ids N i port)).toArray) ∧ Below w.heap.size w w' := by
  obtain ⟨b1, o1, rfl, hb1, hc1⟩ := hi (by rw [ints_len]; omega)
  obtain ⟨b2, o2, rfl, hb2, hc2⟩ := hN (by rw [bels_len]; omega)
  obtain ⟨x, hx⟩ : ∃ x, ids[i]? = some x := ⟨ids[i], List.getElem?_eq_getElem _⟩
  obtain ⟨n, hn⟩ : ∃ n, N[i]? = some n := ⟨N[i], List.getElem?_eq_getElem _⟩
  have cx := hc1 i _ (ints_get hx)
  have cr : w.cell? ⟨b2, o2 + i * 3, none⟩ = some (.int .i64 n.root) := hc2 (i * 3) _ ((bels_get hn 0 (by omega)).trans rfl)
  have cc : w.cell? ⟨b2, o2 + i * 3 + 1, none⟩ = some (.int .i64 n.cost) := by rw [Nat.add_assoc]; exact hc2 (i * 3 + 1) _ ((bels_get hn 1 (by omega)).trans rfl)
  have hv : vecOf ids N i port = ⟨n.root, n.cost, x, port⟩ := by simp [vecOf, List.getD, hx, hn]
  rw [hv]
  have hi0 : (0 : Int) ≤ (i : Int) := by omega
  have hi1 : (i : Int) < (ids.length : Int) := by omega
  have hi2 : (i : Int) < (N.length : Int) := by omega
  obtain ⟨nr, nc, np⟩ := n
  simp only at cr cc
  unfold encV
  have hb0 := below_alloc (below_alloc (Below.refl w.heap.size w) (.cells #[.slice (some ⟨b1, o1, none⟩) ids.length ci, .slice Al m cl] 25)) (.cells #[.int .i64 0, .int .i64 0, .int .i64 0, .int .i64 0] 60)
  have hbn := (Blk.new w #[.slice (some ⟨b1, o1, none⟩) ids.length ci, .slice Al m cl] 25).alloc (.cells #[.int .i64 0, .int .i64 0, .int .i64 0, .int .i64 0] 60)
  have hbr0 := Blk.new (w.alloc (.cells #[.slice (some ⟨b1, o1, none⟩) ids.length ci, .slice Al m cl] 25)) #[.int .i64 0, .int .i64 0, .int .i64 0, .int .i64 0] 60
  have hbr : Blk ((w.alloc (.cells #[.slice (some ⟨b1, o1, none⟩) ids.length ci, .slice Al m cl] 25)).alloc (.cells #[.int .i64 0, .int .i64 0, .int .i64 0, .int .i64 0] 60)) (w.heap.size + 1) #[.int .i64 0, .int .i64 0, .int .i64 0, .int .i64 0] 60 := by simpa using hbr0
  have HB0 := Lib.hid hb0
  have HBN := Lib.hid hbn
  have HBR := Lib.hid hbr
  have CX := Lib.hid cx
  have CR := Lib.hid cr
  have CC := Lib.hid cc
  clear hb0 hbn hbr0 hbr hx hn hc1 hc2 hi hN hv cx cr cc
  go_enter Try.func24, Try.ntmps24
  go_wp2_with fail
  generalize (w.alloc (.cells #[.slice (some ⟨b1, o1, none⟩) ids.length ci, .slice Al m cl] 25)).alloc (.cells #[.int .i64 0, .int .i64 0, .int .i64 0, .int .i64 0] 60) = w1 at *
  have cx : w1.cell? ⟨b1, o1 + i, none⟩ = some (.int .i64 x) := pw_cell_below HB0.out CX.out
  have cr : w1.cell? ⟨b2, o2 + i * 3, none⟩ = some (.int .i64 nr) := pw_cell_below HB0.out CR.out
  have cc : w1.cell? ⟨b2, o2 + i * 3 + 1, none⟩ = some (.int .i64 nc) := pw_cell_below HB0.out CC.out
  have cn0 : w1.cell? ⟨w.heap.size, 0, none⟩ = some (.slice (some ⟨b1, o1, none⟩) ids.length ci) := (Blk.cell HBN.out 0).trans rfl
  refine wp_region_still_tail 17 (by kernel_rfl) (by kernel_rfl) ?_
  simp only [List.take_succ_cons, List.take_zero, List.drop_succ_cons, List.drop_zero]
  repeat still_step
  refine wpStill_nil ?_
  change wpList _ _ _ _ _ w1.drew
  have r0 : w1.cell? ⟨w.heap.size + 1, 0, none⟩ = some (.int .i64 0) := (Blk.cell HBR.out 0).trans rfl
  have r1 : w1.cell? ⟨w.heap.size + 1, 1, none⟩ = some (.int .i64 0) := (Blk.cell HBR.out 1).trans rfl
  have r2 : w1.cell? ⟨w.heap.size + 1, 2, none⟩ = some (.int .i64 0) := (Blk.cell HBR.out 2).trans rfl
  have r3 : w1.cell? ⟨w.heap.size + 1, 3, none⟩ = some (.int .i64 0) := (Blk.cell HBR.out 3).trans rfl
  have f0 := HBR.out.frozen 0
  have f1 := HBR.out.frozen 1
  have f2 := HBR.out.frozen 2
  have f3 := HBR.out.frozen 3
  go_wp2_with fail
  refine bodyPost_ret (v := .agg #[.int .i64 nr, .int .i64 nc, .int .i64 x, .int .i64 port]) (by simp [results, Try.results24, go_sem, r0, r1, r2, r3]) rfl ⟨rfl, ?_⟩
  exact below_drew ((((HB0.out.setCell (p := ⟨w.heap.size + 1, 0, none⟩) (by simp) _).setCell (p := ⟨w.heap.size + 1, 1, none⟩) (by simp) _).setCell (p := ⟨w.heap.size + 1, 2, none⟩) (by simp) _).setCell (p := ⟨w.heap.size + 1, 3, none⟩) (by simp) _)
end Go.Proofs.Ytcpekijgjnnfoaa.Sp
