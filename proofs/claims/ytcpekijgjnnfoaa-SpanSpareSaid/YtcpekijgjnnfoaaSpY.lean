/-
  slices.Equal over beliefs and over states of ports.
-/
import Derived.Test.YtcpekijgjnnfoaaSpS
import Derived.Test.YtcpekijgjnnfoaaWEqStruct
import Derived.Test.YtcpekijgjnnfoaaSpE
namespace Go.Proofs.Ytcpekijgjnnfoaa.Sp
open Go.RowKit Go.Proofs.YtcpekijgjnnfoaaW.PrintWords Go.Proofs.Ytcpekijgjnnfoaa.Xm

theorem eq_bel (d : Nat) (w : World) (x0 y0 x1 y1 x2 y2 : Int) :
    (Op.equalIn (d + 2) 58 (.agg #[.int .i64 x0, .int .i64 x1, .int .i64 x2]) (.agg #[.int .i64 y0, .int .i64 y1, .int .i64 y2])).run Try.prog w = .ok (x0 == y0 && (x1 == y1 && (x2 == y2))) w := by
  refine eqA_of Try.underlying58 (by kernel_rfl) ?_
  refine eqf_cons (by rfl) (by go_simp; rfl) (by go_simp; rfl) (by go_simp) ?_
  refine eqf_cons (by rfl) (by go_simp; rfl) (by go_simp; rfl) (by go_simp) ?_
  exact eqf_last (by rfl) (by go_simp; rfl) (by go_simp; rfl) (by go_simp)
theorem eq_sport (d : Nat) (w : World) (x0 y0 x1 y1 : Int) (x2 y2 : Bool) :
    (Op.equalIn (d + 2) 32 (.agg #[.int .i64 x0, .int .i64 x1, .bool x2]) (.agg #[.int .i64 y0, .int .i64 y1, .bool y2])).run Try.prog w = .ok (x0 == y0 && (x1 == y1 && (x2 == y2))) w := by
  refine eqA_of Try.underlying32 (by kernel_rfl) ?_
  refine eqf_cons (by rfl) (by go_simp; rfl) (by go_simp; rfl) (by go_simp) ?_
  refine eqf_cons (by rfl) (by go_simp; rfl) (by go_simp; rfl) (by go_simp) ?_
  exact eqf_last (by rfl) (by go_simp; rfl) (by go_simp; rfl) (by go_simp)
attribute [local go_sem high] eq_bel eq_sport
theorem pv_len (S : List SPort) : (portsV S).length = S.length * 3 := flat_len encP 3 (fun _ => rfl) S
theorem pv_get {S : List SPort} {i : Nat} {x : SPort} (h : S[i]? = some x) (j : Nat) (hj : j < 3) : (portsV S)[i * 3 + j]? = (encP x)[j]? := flat_get encP 3 (fun _ => rfl) S i x h j hj
def EqRel (n : Nat) (i : Value) (w wr : World) : Prop := ∃ k : Nat, k ≤ n ∧ i = .int .i64 k ∧ ∃ m, wr = w.drewN m
set_option maxHeartbeats 1600000 in
theorem equal_ports (A1 A2 : Option Addr) (c1 c2 : Nat) (S : List SPort) (w : World) (h1 : RowC w A1 (portsV S)) (h2 : RowC w A2 (portsV S)) (hl : S.length ≤ 1000) :
    Calls Try.prog 19 #[.slice A1 S.length c1, .slice A2 S.length c2] w fun e w' => e = .returned (.bool true) ∧ ∃ m, w' = w.drewN m := by
  have H1 := Lib.hid h1
  have H2 := Lib.hid h2
  have t0 : ((S.length : Int) != (S.length : Int)) = false := by simp
  clear h1 h2
  go_enter Try.func19, Try.ntmps19
  go_wp2_with fail
  go_loopw [5, 13] (fun _ i wr => EqRel S.length i w wr) (fun _ i _ => S.length - (intOf i).toNat)
  case atStart => exact ⟨0, Nat.zero_le _, rfl, 0, rfl⟩
  case round =>
    obtain ⟨k, hk, rfl, m, rfl⟩ := hrel
    by_cases hlt : k < S.length
    · have hd : decide ((k : Int) < (S.length : Int)) = true := by simp; omega
      obtain ⟨b1, o1, rfl, _, hc1⟩ := H1.out (by rw [pv_len]; omega)
      obtain ⟨b2, o2, rfl, _, hc2⟩ := H2.out (by rw [pv_len]; omega)
      obtain ⟨x, hx⟩ : ∃ x, S[k]? = some x := ⟨S[k], List.getElem?_eq_getElem _⟩
      have c0 : w.cell? ⟨b1, o1 + k * 3, none⟩ = some (.int .i64 x.bridge) := hc1 (k * 3) _ ((pv_get hx 0 (by omega)).trans rfl)
      have c1 : w.cell? ⟨b1, o1 + k * 3 + 1, none⟩ = some (.int .i64 x.port) := by rw [Nat.add_assoc]; exact hc1 (k * 3 + 1) _ ((pv_get hx 1 (by omega)).trans rfl)
      have c2 : w.cell? ⟨b1, o1 + k * 3 + 2, none⟩ = some (.bool x.isOpen) := by rw [Nat.add_assoc]; exact hc1 (k * 3 + 2) _ ((pv_get hx 2 (by omega)).trans rfl)
      have d0 : w.cell? ⟨b2, o2 + k * 3, none⟩ = some (.int .i64 x.bridge) := hc2 (k * 3) _ ((pv_get hx 0 (by omega)).trans rfl)
      have d1 : w.cell? ⟨b2, o2 + k * 3 + 1, none⟩ = some (.int .i64 x.port) := by rw [Nat.add_assoc]; exact hc2 (k * 3 + 1) _ ((pv_get hx 1 (by omega)).trans rfl)
      have d2 : w.cell? ⟨b2, o2 + k * 3 + 2, none⟩ = some (.bool x.isOpen) := by rw [Nat.add_assoc]; exact hc2 (k * 3 + 2) _ ((pv_get hx 2 (by omega)).trans rfl)
      have i0 : (0 : Int) ≤ (k : Int) := by omega
      have i1 : (k : Int) < (S.length : Int) := by omega
      clear hc1 hc2 hx
      go_wp2_with fail
      go_quiet (fail)
      go_wp2_with fail
      exact ⟨⟨k + 1, hlt, by go_num, m + nq, rfl⟩, by simp [intOf]; omega⟩
    · obtain rfl : k = S.length := by omega
      have hd : decide ((S.length : Int) < (S.length : Int)) = false := by simp
      go_wp2_with fail
      go_ret
      exact ⟨rfl, m, rfl⟩
theorem first_diff {N M : List Bel} (hl : N.length = M.length) (hne : N ≠ M) : ∃ (i : Nat) (x y : Bel), N[i]? = some x ∧ M[i]? = some y ∧ (x.root == y.root && (x.cost == y.cost && (x.port == y.port))) = false ∧ ∀ j, j < i → N[j]? = M[j]? := by
  induction N generalizing M with
  | nil =>
    cases M with
    | nil => exact absurd rfl hne
    | cons b M => simp at hl
  | cons a N ih =>
    cases M with
    | nil => simp at hl
    | cons b M =>
      by_cases e : a = b
      · subst e
        obtain ⟨i, x, y, h1, h2, h3, h4⟩ := ih (M := M) (by simpa using hl) (fun h => hne (by rw [h]))
        refine ⟨i + 1, x, y, by simpa using h1, by simpa using h2, h3, fun j hj => ?_⟩
        cases j with
        | zero => rfl
        | succ j => simpa using h4 j (by omega)
      · refine ⟨0, a, b, rfl, rfl, ?_, fun j hj => absurd hj (by omega)⟩
        obtain ⟨a1, a2, a3⟩ := a
        obtain ⟨b1, b2, b3⟩ := b
        simp only [Bool.and_eq_false_iff, beq_eq_false_iff_ne]
        by_cases h1 : a1 = b1
        · by_cases h2 : a2 = b2
          · right; right
            intro h3
            exact e (by rw [h1, h2, h3])
          · exact .inr (.inl h2)
        · exact .inl h1
set_option maxHeartbeats 3200000 in
theorem equal_bels (A1 A2 : Option Addr) (c1 c2 : Nat) (N M : List Bel) (w : World) (hl : N.length = M.length) (h1 : RowC w A1 (bels N)) (h2 : RowC w A2 (bels M)) (hs : N.length ≤ 1000) :
    Calls Try.prog 30 #[.slice A1 N.length c1, .slice A2 N.length c2] w fun e w' => (∃ b, e = .returned (.bool b) ∧ (b = true ↔ N = M)) ∧ ∃ m, w' = w.drewN m := by
  have H1 := Lib.hid h1
  have H2 := Lib.hid h2
  have t0 : ((N.length : Int) != (N.length : Int)) = false := by simp
  clear h1 h2
  by_cases he : N = M
  · have HE := Lib.hid (show (∃ b, Ending.returned (.bool true) = .returned (.bool b) ∧ (b = true ↔ N = M)) from ⟨true, rfl, fun _ => he, fun _ => rfl⟩)
    have HH := Lib.hid he
    clear he hl
    go_enter Try.func30, Try.ntmps30
    go_wp2_with fail
    go_loopw [5, 13] (fun _ i wr => EqRel N.length i w wr) (fun _ i _ => N.length - (intOf i).toNat)
    case atStart => exact ⟨0, Nat.zero_le _, rfl, 0, rfl⟩
    case round =>
      obtain ⟨k, hk, rfl, m, rfl⟩ := hrel
      by_cases hlt : k < N.length
      · have hd : decide ((k : Int) < (N.length : Int)) = true := by simp; omega
        obtain ⟨b1, o1, rfl, _, hc1⟩ := H1.out (by rw [bels_len]; omega)
        obtain ⟨b2, o2, rfl, _, hc2⟩ := H2.out (by rw [bels_len, ← HH.out]; omega)
        obtain ⟨x, hx⟩ : ∃ x, N[k]? = some x := ⟨N[k], List.getElem?_eq_getElem _⟩
        have hy : M[k]? = some x := by rw [← HH.out]; exact hx
        have c0 : w.cell? ⟨b1, o1 + k * 3, none⟩ = some (.int .i64 x.root) := hc1 (k * 3) _ ((bels_get hx 0 (by omega)).trans rfl)
        have c1 : w.cell? ⟨b1, o1 + k * 3 + 1, none⟩ = some (.int .i64 x.cost) := by rw [Nat.add_assoc]; exact hc1 (k * 3 + 1) _ ((bels_get hx 1 (by omega)).trans rfl)
        have c2 : w.cell? ⟨b1, o1 + k * 3 + 2, none⟩ = some (.int .i64 x.port) := by rw [Nat.add_assoc]; exact hc1 (k * 3 + 2) _ ((bels_get hx 2 (by omega)).trans rfl)
        have d0 : w.cell? ⟨b2, o2 + k * 3, none⟩ = some (.int .i64 x.root) := hc2 (k * 3) _ ((bels_get hy 0 (by omega)).trans rfl)
        have d1 : w.cell? ⟨b2, o2 + k * 3 + 1, none⟩ = some (.int .i64 x.cost) := by rw [Nat.add_assoc]; exact hc2 (k * 3 + 1) _ ((bels_get hy 1 (by omega)).trans rfl)
        have d2 : w.cell? ⟨b2, o2 + k * 3 + 2, none⟩ = some (.int .i64 x.port) := by rw [Nat.add_assoc]; exact hc2 (k * 3 + 2) _ ((bels_get hy 2 (by omega)).trans rfl)
        have i0 : (0 : Int) ≤ (k : Int) := by omega
        have i1 : (k : Int) < (N.length : Int) := by omega
        clear hc1 hc2 hx hy
        go_wp2_with fail
        go_quiet (fail)
        go_wp2_with fail
        exact ⟨⟨k + 1, hlt, by go_num, m + nq, rfl⟩, by simp [intOf]; omega⟩
      · obtain rfl : k = N.length := by omega
        have hd : decide ((N.length : Int) < (N.length : Int)) = false := by simp
        go_wp2_with fail
        go_ret
        exact ⟨HE.out, m, rfl⟩
  · have HE := Lib.hid (show (∃ b, Ending.returned (.bool false) = .returned (.bool b) ∧ (b = true ↔ N = M)) from ⟨false, rfl, fun h => (by cases h), fun h => absurd h he⟩)
    obtain ⟨i, x, y, hx, hy, hxy, hj⟩ := first_diff hl he
    have hin : i < N.length := (List.getElem?_eq_some_iff.1 hx).1
    have HX := Lib.hid hx
    have HY := Lib.hid hy
    have HJ := Lib.hid hj
    have HL := Lib.hid hl
    have HXY := Lib.hid hxy
    clear he hl hx hy hj hxy
    go_enter Try.func30, Try.ntmps30
    go_wp2_with fail
    go_loopw [5, 13] (fun _ q wr => EqRel i q w wr) (fun _ q _ => N.length - (intOf q).toNat)
    case atStart => exact ⟨0, Nat.zero_le _, rfl, 0, rfl⟩
    case round =>
      obtain ⟨k, hk, rfl, m, rfl⟩ := hrel
      have hd : decide ((k : Int) < (N.length : Int)) = true := by simp; omega
      obtain ⟨b1, o1, rfl, _, hc1⟩ := H1.out (by rw [bels_len]; omega)
      obtain ⟨b2, o2, rfl, _, hc2⟩ := H2.out (by rw [bels_len, ← HL.out]; omega)
      have i0 : (0 : Int) ≤ (k : Int) := by omega
      have i1 : (k : Int) < (N.length : Int) := by omega
      by_cases hlt : k < i
      · obtain ⟨z, hz⟩ : ∃ z, N[k]? = some z := ⟨N[k]'(by omega), List.getElem?_eq_getElem _⟩
        have hy : M[k]? = some z := by rw [← HJ.out k hlt]; exact hz
        have c0 : w.cell? ⟨b1, o1 + k * 3, none⟩ = some (.int .i64 z.root) := hc1 (k * 3) _ ((bels_get hz 0 (by omega)).trans rfl)
        have c1 : w.cell? ⟨b1, o1 + k * 3 + 1, none⟩ = some (.int .i64 z.cost) := by rw [Nat.add_assoc]; exact hc1 (k * 3 + 1) _ ((bels_get hz 1 (by omega)).trans rfl)
        have c2 : w.cell? ⟨b1, o1 + k * 3 + 2, none⟩ = some (.int .i64 z.port) := by rw [Nat.add_assoc]; exact hc1 (k * 3 + 2) _ ((bels_get hz 2 (by omega)).trans rfl)
        have d0 : w.cell? ⟨b2, o2 + k * 3, none⟩ = some (.int .i64 z.root) := hc2 (k * 3) _ ((bels_get hy 0 (by omega)).trans rfl)
        have d1 : w.cell? ⟨b2, o2 + k * 3 + 1, none⟩ = some (.int .i64 z.cost) := by rw [Nat.add_assoc]; exact hc2 (k * 3 + 1) _ ((bels_get hy 1 (by omega)).trans rfl)
        have d2 : w.cell? ⟨b2, o2 + k * 3 + 2, none⟩ = some (.int .i64 z.port) := by rw [Nat.add_assoc]; exact hc2 (k * 3 + 2) _ ((bels_get hy 2 (by omega)).trans rfl)
        clear hc1 hc2 hz hy
        go_wp2_with fail
        go_quiet (fail)
        go_wp2_with fail
        exact ⟨⟨k + 1, hlt, by go_num, m + nq, rfl⟩, by simp [intOf]; omega⟩
      · obtain rfl : k = i := by omega
        have c0 : w.cell? ⟨b1, o1 + k * 3, none⟩ = some (.int .i64 x.root) := hc1 (k * 3) _ ((bels_get HX.out 0 (by omega)).trans rfl)
        have c1 : w.cell? ⟨b1, o1 + k * 3 + 1, none⟩ = some (.int .i64 x.cost) := by rw [Nat.add_assoc]; exact hc1 (k * 3 + 1) _ ((bels_get HX.out 1 (by omega)).trans rfl)
        have c2 : w.cell? ⟨b1, o1 + k * 3 + 2, none⟩ = some (.int .i64 x.port) := by rw [Nat.add_assoc]; exact hc1 (k * 3 + 2) _ ((bels_get HX.out 2 (by omega)).trans rfl)
        have d0 : w.cell? ⟨b2, o2 + k * 3, none⟩ = some (.int .i64 y.root) := hc2 (k * 3) _ ((bels_get HY.out 0 (by omega)).trans rfl)
        have d1 : w.cell? ⟨b2, o2 + k * 3 + 1, none⟩ = some (.int .i64 y.cost) := by rw [Nat.add_assoc]; exact hc2 (k * 3 + 1) _ ((bels_get HY.out 1 (by omega)).trans rfl)
        have d2 : w.cell? ⟨b2, o2 + k * 3 + 2, none⟩ = some (.int .i64 y.port) := by rw [Nat.add_assoc]; exact hc2 (k * 3 + 2) _ ((bels_get HY.out 2 (by omega)).trans rfl)
        have t1 := HXY.out
        clear hc1 hc2
        go_wp2_with fail
        go_quiet (fail)
        go_wp2_with fail
        go_ret
        exact ⟨HE.out, m + nq, by rw [World.drewN_drewN]⟩
end Go.Proofs.Ytcpekijgjnnfoaa.Sp
