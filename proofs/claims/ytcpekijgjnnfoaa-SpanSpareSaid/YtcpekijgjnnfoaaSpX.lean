/-
  spanWorks: the fixed example.
-/
import Derived.Test.YtcpekijgjnnfoaaSpW
namespace Go.Proofs.Ytcpekijgjnnfoaa.Sp
open Go.RowKit Go.Proofs.YtcpekijgjnnfoaaW.PrintWords Go.Proofs.Ytcpekijgjnnfoaa.Xm Go.Proofs.Ytcpekijgjnnfoaa.Ints

def ids0 : List Int := [1, 2]
def L0 : List Link := [⟨0, 0, 1, 0, 1⟩, ⟨0, 1, 1, 1, 1⟩]
def E0 : List End := [⟨0, 0, 1, 0, 1⟩, ⟨0, 1, 1, 1, 1⟩, ⟨1, 0, 0, 0, 1⟩, ⟨1, 1, 0, 1, 1⟩]
def S0 : List SPort := [⟨0, 0, true⟩, ⟨0, 1, true⟩, ⟨1, 0, true⟩, ⟨1, 1, false⟩]
theorem net0 : NetOk ids0 L0 := check_ok.1 (by decide +kernel)
theorem ends0 : Ends L0 E0 where
  perm := List.Perm.cons _ (List.Perm.swap _ _ _)
  sorted := by unfold SortedP E0; decide
theorem states0 : statesL ids0 (treeN ids0 E0) E0 = S0 := by kernel_rfl
set_option maxHeartbeats 1600000 in
theorem spanWorks_any (w : World) : Calls Try.prog 8 #[] w fun e w' => e = .returned (.bool true) ∧ Below w.heap.size w w' := by
  have hb1 := below_alloc (below_alloc (Below.refl w.heap.size w) (.cells #[.int .i64 1, .int .i64 2] 3)) (.cells #[.int .i64 0, .int .i64 0, .int .i64 1, .int .i64 0, .int .i64 1, .int .i64 0, .int .i64 1, .int .i64 1, .int .i64 1, .int .i64 1] 37)
  have hi : RInts ((w.alloc (.cells #[.int .i64 1, .int .i64 2] 3)).alloc (.cells #[.int .i64 0, .int .i64 0, .int .i64 1, .int .i64 0, .int .i64 1, .int .i64 0, .int .i64 1, .int .i64 1, .int .i64 1, .int .i64 1] 37)) (.slice (some ⟨w.heap.size, 0, none⟩) ids0.length 2) ids0 := by
    refine ⟨_, 2, rfl, by decide, by omega, (fun h => by cases h), fun _ => ⟨w.heap.size, 0, rfl, (by simp; omega), fun i x hx => ?_⟩⟩
    rw [Nat.zero_add]
    have h := (Blk.cell ((Blk.new w #[.int .i64 1, .int .i64 2] 3).alloc (.cells #[.int .i64 0, .int .i64 0, .int .i64 1, .int .i64 0, .int .i64 1, .int .i64 0, .int .i64 1, .int .i64 1, .int .i64 1, .int .i64 1] 37)) i)
    rw [h]
    match i, hx with
    | 0, hx => simp [ids0] at hx; subst hx; rfl
    | 1, hx => simp [ids0] at hx; subst hx; rfl
    | i + 2, hx => simp [ids0] at hx
  have hl : RowC ((w.alloc (.cells #[.int .i64 1, .int .i64 2] 3)).alloc (.cells #[.int .i64 0, .int .i64 0, .int .i64 1, .int .i64 0, .int .i64 1, .int .i64 0, .int .i64 1, .int .i64 1, .int .i64 1, .int .i64 1] 37)) (some ⟨w.heap.size + 1, 0, none⟩) (linksV L0) := by
    have h := RowC.new (w.alloc (.cells #[.int .i64 1, .int .i64 2] 3)) (linksV L0) 37
    have e : (w.alloc (.cells #[.int .i64 1, .int .i64 2] 3)).heap.size = w.heap.size + 1 := by simp
    rw [e] at h
    exact h
  have HT := Lib.hid (tree_ok (some ⟨w.heap.size, 0, none⟩) (some ⟨w.heap.size + 1, 0, none⟩) 2 2 ids0 L0 _ hi hl net0)
  have HB1 := Lib.hid hb1
  clear hb1 hi hl
  go_enter Try.func8, Try.ntmps8
  go_wp2_with fail
  refine HT.out.mono ?_
  rintro e w2 ⟨E, A, c, hE, rfl, hq, hb2⟩
  obtain rfl := ends_unique net0 ends0 hE (List.Perm.refl _)
  rw [states0] at hq ⊢
  obtain ⟨b, off, cap, he, _, hlt, _, _, hc, _, _⟩ := q_form hq (by decide)
  injection he with he1 he2 he3
  subst he1
  have c2 : w2.cell? ⟨b, off + 6 + 2, none⟩ = some (.bool true) := hc 8 (by decide)
  have c3 : w2.cell? ⟨b, off + 9 + 2, none⟩ = some (.bool false) := hc 11 (by decide)
  have HF := Lib.hid (HB1.out.trans (hb2.mono HB1.out.size))
  clear hc hq hb2 hE HT
  have hS : S0.length = 4 := rfl
  rw [hS]
  clear hS
  go_wp2_with fail
  go_ret
  exact ⟨rfl, HF.out⟩
end Go.Proofs.Ytcpekijgjnnfoaa.Sp
