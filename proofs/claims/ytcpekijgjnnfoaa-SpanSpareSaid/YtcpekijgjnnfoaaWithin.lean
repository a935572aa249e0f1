/-
  patchbaykeep1.within: its contract.
-/
import Derived.Test.YtcpekijgjnnfoaaProg
import Derived.Test.YtcpekijgjnnfoaaMem
import Derived.Deep.QuietTactic
import Derived.BigQuiet
import Derived.Outline
namespace Go.Proofs.Ytcpekijgjnnfoaa.Within
open Go.RowKit Go.Proofs.YtcpekijgjnnfoaaW.PrintWords Go.Proofs.Ytcpekijgjnnfoaa.Xm

/-- 'within'. -/
def wi (x n : Int) : Int := (IntKind.u64.wrap x) % n
theorem wi_bd (x n : Int) (h : 1 ≤ n) : 0 ≤ wi x n ∧ wi x n < n := ⟨Int.emod_nonneg _ (by omega), Int.emod_lt_of_pos _ (by omega)⟩

set_option maxHeartbeats 400000 in
theorem within_any (x n : Int) (w : World) (h1 : 1 ≤ n) (h2 : n ≤ 1000000000000000) :
    Calls Try.prog 18 #[.int .i64 x, .int .i64 n] w fun e w' => e = .returned (.int .i64 (wi x n)) ∧ w = w' := by
  have hk : IntKind.u64.wrap n = n := by rw [IntKind.wrap_u64]; omega
  have hx : 0 ≤ IntKind.u64.wrap x := by rw [IntKind.wrap_u64]; omega
  have hb := wi_bd x n h1
  have e1 : wrap64 (Int.tmod (IntKind.u64.wrap x) n) = wi x n := by
    rw [Int.tmod_eq_emod_of_nonneg hx]; unfold wrap64; simp only [wi] at *; omega
  have hz : ((IntKind.u64.wrap n) == 0) = false := by rw [hk]; simp; omega
  have E1 := Lib.hid e1
  clear e1 hk hx hb
  go_enter Try.func18, Try.ntmps18
  go_wp2
  go_ret
  exact ⟨by rw [← E1.out]; rfl, rfl⟩

theorem within_q (x n : Int) (w : World) (h1 : 1 ≤ n) (h2 : n ≤ 1000000000000000) :
    Calls Try.prog 18 #[.int .i64 x, .int .i64 n] w fun e w' => e = .returned (.int .i64 (wi x n)) ∧ w' = w := (within_any x n w h1 h2).mono fun _ _ ⟨h, k⟩ => ⟨h, k.symm⟩
end Go.Proofs.Ytcpekijgjnnfoaa.Within
