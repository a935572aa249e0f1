/-
  What the functions of package credit do: contracts.
-/
import Derived.Test.YtidgmoeimgjggaaProg
import Derived.Test.YtidgmoeimgjggaaMem
import Derived.Deep.QuietTactic
import Derived.BigQuiet
import Derived.Outline
namespace Go.Proofs.Ytidgmoeimgjggaa.Credit
open Go.RowKit Go.Proofs.YtidgmoeimgjggaaW.PrintWords Go.Proofs.Ytidgmoeimgjggaa.Xm

/-- 'within'. -/
def wi (x n : Int) : Int := (IntKind.u64.wrap x) % n
theorem wi_bd (x n : Int) (h : 1 ≤ n) : 0 ≤ wi x n ∧ wi x n < n := ⟨Int.emod_nonneg _ (by omega), Int.emod_lt_of_pos _ (by omega)⟩

set_option maxHeartbeats 400000 in
theorem within_any (x n : Int) (w : World) (h1 : 1 ≤ n) (h2 : n ≤ 1000000000000000) :
    Calls Try.prog 11 #[.int .i64 x, .int .i64 n] w fun e w' => e = .returned (.int .i64 (wi x n)) ∧ w = w' := by
  have hk : IntKind.u64.wrap n = n := by rw [IntKind.wrap_u64]; omega
  have hx : 0 ≤ IntKind.u64.wrap x := by rw [IntKind.wrap_u64]; omega
  have hb := wi_bd x n h1
  have e1 : wrap64 (Int.tmod (IntKind.u64.wrap x) n) = wi x n := by
    rw [Int.tmod_eq_emod_of_nonneg hx]; unfold wrap64; simp only [wi] at *; omega
  have hz : ((IntKind.u64.wrap n) == 0) = false := by rw [hk]; simp; omega
  have E1 := Lib.hid e1
  clear e1 hk hx hb
  go_enter Try.func11, Try.ntmps11
  go_wp2
  go_ret
  exact ⟨by rw [← E1.out]; rfl, rfl⟩

/-- The receiving end: its capacity, the bytes that came in, the bytes that were taken. -/
def IsGiver (w : World) (g : Nat) (room inn taken : Int) : Prop := Blk w g #[.int .i64 room, .int .i64 inn, .int .i64 taken] 70
/-- The sending end. -/
def IsTaker (w : World) (g : Nat) (credit sent : Int) : Prop := Blk w g #[.int .i64 credit, .int .i64 sent] 72

theorem giver_cells {w : World} {g : Nat} {a b c : Int} (h : IsGiver w g a b c) :
    w.cell? ⟨g, 0, none⟩ = some (.int .i64 a) ∧ w.cell? ⟨g, 1, none⟩ = some (.int .i64 b) ∧ w.cell? ⟨g, 2, none⟩ = some (.int .i64 c) ∧ w.frozen? ⟨g, 1, none⟩ = false ∧ w.frozen? ⟨g, 2, none⟩ = false :=
  ⟨(Blk.cell h 0).trans rfl, (Blk.cell h 1).trans rfl, (Blk.cell h 2).trans rfl, Blk.frozen h 1, Blk.frozen h 2⟩
theorem taker_cells {w : World} {g : Nat} {a b : Int} (h : IsTaker w g a b) :
    w.cell? ⟨g, 0, none⟩ = some (.int .i64 a) ∧ w.cell? ⟨g, 1, none⟩ = some (.int .i64 b) ∧ w.frozen? ⟨g, 0, none⟩ = false ∧ w.frozen? ⟨g, 1, none⟩ = false :=
  ⟨(Blk.cell h 0).trans rfl, (Blk.cell h 1).trans rfl, Blk.frozen h 0, Blk.frozen h 1⟩

set_option maxHeartbeats 400000 in
theorem newGiver_any (room : Int) (w : World) (h1 : 1 ≤ room) (h2 : room ≤ 1000000) :
    Calls Try.prog 13 #[.int .i64 room] w fun e w' => e = .returned (.tuple #[.pointer (some ⟨w.heap.size, 0, none⟩), .int .i64 0]) ∧ w' = w.alloc (.cells #[.int .i64 room, .int .i64 0, .int .i64 0] 70) := by
  go_enter Try.func13, Try.ntmps13
  go_wp2
  go_ret2
  exact ⟨rfl, rfl⟩

set_option maxHeartbeats 400000 in
theorem newTaker_any (w : World) :
    Calls Try.prog 14 #[] w fun e w' => e = .returned (.pointer (some ⟨w.heap.size, 0, none⟩)) ∧ w' = w.alloc (.cells #[.int .i64 0, .int .i64 0] 72) := by
  go_enter Try.func14, Try.ntmps14
  go_wp2
  go_ret
  exact ⟨rfl, rfl⟩

def BigN (x : Int) : Prop := -1000000000000 ≤ x ∧ x ≤ 1000000000000

set_option maxHeartbeats 400000 in
theorem grant_any (g : Nat) (a b c : Int) (w : World) (h : IsGiver w g a b c) (hc : 0 ≤ c) (hc2 : c ≤ 1000000000) (ha : 0 ≤ a) (ha2 : a ≤ 1000000000) :
    Calls Try.prog 18 #[.pointer (some ⟨g, 0, none⟩)] w fun e w' => e = .returned (.int .i64 (c + a)) ∧ ∃ n, w' = w.drewN n := by
  obtain ⟨c0, c1, c2, f1, f2⟩ := giver_cells h
  clear h
  go_enter Try.func18, Try.ntmps18
  go_wp2
  go_quiet (fail)
  go_wp2
  go_ret
  exact ⟨rfl, _, rfl⟩

set_option maxHeartbeats 400000 in
theorem in_any (g : Nat) (a b c n : Int) (w : World) (h : IsGiver w g a b c) (hc : 0 ≤ c) (hc2 : c ≤ 1000000000) (ha : 0 ≤ a) (ha2 : a ≤ 1000000000) (hb : 0 ≤ b) (hb2 : b ≤ 1000000000) (hn : 0 ≤ n) (hn2 : n ≤ c + a - b) :
    Calls Try.prog 16 #[.pointer (some ⟨g, 0, none⟩), .int .i64 n] w fun e w' => e = .returned (.int .i64 0) ∧ IsGiver w' g a (b + n) c ∧ Only (· = g) w w' := by
  have hh := Lib.hid h
  obtain ⟨c0, c1, c2, f1, f2⟩ := giver_cells h
  clear h
  have hn0 : decide (n < 0) = false := by simp; omega
  go_enter Try.func16, Try.ntmps16
  go_wp2
  go_quiet ((go_at_call 18; exact Calls.quiet_of (grant_any g a b c _ (by exact hh.out) hc hc2 ha ha2)))
  go_wp2
  go_ret
  exact ⟨rfl, (Blk.drewN hh.out _).set 1 _, ((Only.refl _ _).drewN _).set1 1 _⟩

set_option maxHeartbeats 400000 in
theorem held_any (g : Nat) (a b c : Int) (w : World) (h : IsGiver w g a b c) (hb : 0 ≤ b) (hb2 : b ≤ 1000000000) (hc : 0 ≤ c) (hc2 : c ≤ 1000000000) :
    Calls Try.prog 20 #[.pointer (some ⟨g, 0, none⟩)] w fun e w' => e = .returned (.int .i64 (b - c)) ∧ ∃ n, w' = w.drewN n := by
  obtain ⟨c0, c1, c2, f1, f2⟩ := giver_cells h
  clear h
  go_enter Try.func20, Try.ntmps20
  go_wp2
  go_quiet (fail)
  go_wp2
  go_ret
  exact ⟨rfl, _, rfl⟩

set_option maxHeartbeats 400000 in
theorem take_any (g : Nat) (a b c n : Int) (w : World) (h : IsGiver w g a b c) (hb : 0 ≤ b) (hb2 : b ≤ 1000000000) (hc : 0 ≤ c) (hc2 : c ≤ b) (hn : 0 ≤ n) (hn2 : n ≤ 1000000000) :
    Calls Try.prog 17 #[.pointer (some ⟨g, 0, none⟩), .int .i64 n] w fun e w' => e = .returned (.tuple #[.int .i64 (min n (b - c)), .int .i64 0]) ∧ IsGiver w' g a b (c + min n (b - c)) ∧ Only (· = g) w w' := by
  have hh := Lib.hid h
  obtain ⟨c0, c1, c2, f1, f2⟩ := giver_cells h
  clear h
  have hn0 : decide (n < 0) = false := by simp; omega
  by_cases hm : n ≤ b - c
  · rw [show min n (b - c) = n by omega]
    go_enter Try.func17, Try.ntmps17
    go_wp2_with (go_at_call 20; refine (held_any g a b c _ (by exact hh.out) hb hb2 hc (by omega)).mono ?_; rintro e w' ⟨rfl, m, rfl⟩)
    go_ret2
    exact ⟨rfl, (Blk.drewN hh.out _).set 2 _, ((Only.refl _ _).drewN _).set1 2 _⟩
  · rw [show min n (b - c) = b - c by omega]
    go_enter Try.func17, Try.ntmps17
    go_wp2_with (go_at_call 20; refine (held_any g a b c _ (by exact hh.out) hb hb2 hc (by omega)).mono ?_; rintro e w' ⟨rfl, m, rfl⟩)
    go_ret2
    exact ⟨rfl, (Blk.drewN hh.out _).set 2 _, ((Only.refl _ _).drewN _).set1 2 _⟩

set_option maxHeartbeats 400000 in
theorem hear_any (g : Nat) (a b n : Int) (w : World) (h : IsTaker w g a b) (hn : 0 ≤ n) (hn2 : a ≤ n) :
    Calls Try.prog 19 #[.pointer (some ⟨g, 0, none⟩), .int .i64 n] w fun e w' => e = .returned (.int .i64 0) ∧ IsTaker w' g n b ∧ Only (· = g) w w' := by
  have hh := Lib.hid h
  obtain ⟨c0, c1, f0, f1⟩ := taker_cells h
  clear h
  have hn0 : decide (n < 0) = false := by simp; omega
  have hn1 : decide (n < a) = false := by simp; omega
  go_enter Try.func19, Try.ntmps19
  go_wp2
  go_ret
  exact ⟨rfl, Blk.set hh.out 0 _, (Only.refl _ _).set1 0 _⟩

set_option maxHeartbeats 400000 in
theorem send_any (g : Nat) (a b n : Int) (w : World) (h : IsTaker w g a b) (hn : 0 ≤ n) (hn2 : n ≤ 1000000000) (hb : 0 ≤ b) (hb2 : b ≤ a) (ha : a ≤ 1000000000) :
    Calls Try.prog 15 #[.pointer (some ⟨g, 0, none⟩), .int .i64 n] w fun e w' => e = .returned (.tuple #[.int .i64 (min n (a - b)), .int .i64 0]) ∧ IsTaker w' g a (b + min n (a - b)) ∧ Only (· = g) w w' := by
  have hh := Lib.hid h
  obtain ⟨c0, c1, f0, f1⟩ := taker_cells h
  clear h
  have hn0 : decide (n < 0) = false := by simp; omega
  by_cases hm : n ≤ a - b
  · rw [show min n (a - b) = n by omega]
    go_enter Try.func15, Try.ntmps15
    go_wp2
    go_quiet (fail)
    go_wp2
    go_ret2
    exact ⟨rfl, Blk.set (Blk.drewN hh.out _) 1 _, ((Only.refl _ _).drewN _).set1 1 _⟩
  · rw [show min n (a - b) = a - b by omega]
    go_enter Try.func15, Try.ntmps15
    go_wp2
    go_quiet (fail)
    go_wp2
    go_ret2
    exact ⟨rfl, Blk.set (Blk.drewN hh.out _) 1 _, ((Only.refl _ _).drewN _).set1 1 _⟩

set_option maxHeartbeats 400000 in
theorem sent_any (g : Nat) (a b : Int) (w : World) (h : IsTaker w g a b) :
    Calls Try.prog 21 #[.pointer (some ⟨g, 0, none⟩)] w fun e w' => e = .returned (.int .i64 b) ∧ w' = w := by
  obtain ⟨c0, c1, f0, f1⟩ := taker_cells h
  clear h
  go_enter Try.func21, Try.ntmps21
  go_wp2
  go_ret
  exact ⟨rfl, rfl⟩

set_option maxHeartbeats 400000 in
theorem creditWorks_any (w : World) :
    Calls Try.prog 12 #[] w fun e w' => e = .returned (.bool true) ∧ Below w.heap.size w w' := by
  go_enter Try.func12, Try.ntmps12
  go_wp2_with fail
  refine (newGiver_any _ _ (by omega) (by omega)).mono ?_
  rintro e w' ⟨rfl, rfl⟩
  have hg : IsGiver (w.alloc (.cells #[.int .i64 10, .int .i64 0, .int .i64 0] 70)) w.heap.size 10 0 0 := Blk.new _ _ _
  have HG := Lib.hid hg
  clear hg
  go_wp2_with fail
  refine (grant_any _ 10 0 0 _ HG.out (by omega) (by omega) (by omega) (by omega)).mono ?_
  rintro e w' ⟨rfl, m, rfl⟩
  go_wp2_with fail
  refine (newTaker_any _).mono ?_
  rintro e w' ⟨rfl, rfl⟩
  go_wp2_with fail
  go_ret
  exact ⟨rfl, below_alloc (pw_below_drewN (below_alloc (Below.refl _ _) _) _) _⟩
end Go.Proofs.Ytidgmoeimgjggaa.Credit
