/-
  Check: its contract.
-/
import Derived.Test.YtcpekijgjnnfoaaSpG
namespace Go.Proofs.Ytcpekijgjnnfoaa.Sp
open Go.RowKit Go.Proofs.YtcpekijgjnnfoaaW.PrintWords Go.Proofs.Ytcpekijgjnnfoaa.Xm Go.Proofs.Ytcpekijgjnnfoaa.Ints

theorem check_any (Ai Al : Option Addr) (ci cl : Nat) (ids : List Int) (L : List Link) (w : World) (hi : RInts w (.slice Ai ids.length ci) ids) (hl : RowC w Al (linksV L)) :
    Calls Try.prog 11 #[.agg #[.slice Ai ids.length ci, .slice Al L.length cl]] w fun e w' => e = .returned (.int .i64 (checkCode ids L)) ∧ Below w.heap.size w w' := by
  by_cases h : 16 < ids.length ∨ 48 < L.length ∨ idsBad ids ids.length ≠ 0
  · have hc : checkCode ids L = if 16 < ids.length ∨ 48 < L.length then 2 else idsBad ids ids.length := by
      unfold checkCode
      by_cases h1 : 16 < ids.length ∨ 48 < L.length
      · rw [if_pos h1, if_pos h1]
      · rw [if_neg h1, if_neg h1, if_pos]
        rcases h with h | h | h
        · exact absurd (.inl h) h1
        · exact absurd (.inr h) h1
        · exact h
    rw [hc]
    exact check_ids Ai Al L.length ci cl ids w hi h
  · have h1 : ¬ 16 < ids.length := fun q => h (.inl q)
    have h2 : ¬ 48 < L.length := fun q => h (.inr (.inl q))
    have h3 : idsBad ids ids.length = 0 := Classical.byContradiction fun q => h (.inr (.inr q))
    have hc : checkCode ids L = linksBad ids.length L L.length := by
      unfold checkCode
      rw [if_neg (by omega), if_neg (by rw [h3]; simp)]
    rw [hc]
    exact check_links Ai Al L.length ci cl ids L w hi hl rfl h1 h2 h3
end Go.Proofs.Ytcpekijgjnnfoaa.Sp
