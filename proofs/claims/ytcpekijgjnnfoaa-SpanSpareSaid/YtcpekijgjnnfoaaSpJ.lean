/-
  patchbaykeep1.open: its contract, with slices.Index and slices.Contains over ports.
-/
import Derived.Test.YtcpekijgjnnfoaaSpS
import Derived.Test.YtcpekijgjnnfoaaWEqStruct
import Derived.Test.YtcpekijgjnnfoaaSpE
import Derived.Test.YtcpekijgjnnfoaaSpT5
namespace Go.Proofs.Ytcpekijgjnnfoaa.Sp
open Go.RowKit Go.Proofs.YtcpekijgjnnfoaaW.PrintWords Go.Proofs.Ytcpekijgjnnfoaa.Xm

def opn (b p y0 y1 : Int) (y2 : Bool) : Bool := b == y0 && (p == y1 && (true == y2))
theorem eq_open (d : Nat) (w : World) (b p y0 y1 : Int) (y2 : Bool) :
    (Op.equalIn (d + 2) 32 (.agg #[.int .i64 b, .int .i64 p, .bool true]) (.agg #[.int .i64 y0, .int .i64 y1, .bool y2])).run Try.prog w = .ok (opn b p y0 y1 y2) w := by
  unfold opn
  refine eqA_of Try.underlying32 (by kernel_rfl) ?_
  refine eqf_cons (by rfl) (by go_simp; rfl) (by go_simp; rfl) (by go_simp) ?_
  refine eqf_cons (by rfl) (by go_simp; rfl) (by go_simp; rfl) (by go_simp) ?_
  exact eqf_last (by rfl) (by go_simp; rfl) (by go_simp; rfl) (by go_simp)
attribute [local go_sem high] eq_open
theorem opn_eq (b p : Int) (x : SPort) : opn b p x.bridge x.port x.isOpen = (x.bridge == b && x.port == p && x.isOpen) := by
  unfold opn
  rw [Bool.and_assoc, Bool.beq_comm (a := b), Bool.beq_comm (a := p)]
  cases x.isOpen <;> rfl
theorem open_yes {S : List SPort} {k : Nat} {x : SPort} {b p : Int} (h : S[k]? = some x) (ho : opn b p x.bridge x.port x.isOpen = true) : openB S b p = true := by
  rw [opn_eq] at ho
  exact List.any_eq_true.2 ⟨x, List.mem_of_getElem? h, ho⟩
theorem open_no {S : List SPort} {b p : Int} (h : ∀ j y, j < S.length → S[j]? = some y → opn b p y.bridge y.port y.isOpen = false) : openB S b p = false := by
  refine List.any_eq_false.2 fun x hx => ?_
  obtain ⟨j, hj⟩ := List.getElem?_of_mem hx
  have := h j x (List.getElem?_eq_some_iff.1 hj).1 hj
  rw [opn_eq] at this
  rw [this]
  simp
theorem oports_get {S : List SPort} {i : Nat} {x : SPort} (h : S[i]? = some x) (j : Nat) (hj : j < 3) : (portsV S)[i * 3 + j]? = (encP x)[j]? := flat_get encP 3 (fun _ => rfl) S i x h j hj
theorem oports_len (S : List SPort) : (portsV S).length = S.length * 3 := flat_len encP 3 (fun _ => rfl) S
def IdxRel (S : List SPort) (b p : Int) (i : Value) (w wr : World) : Prop :=
  ∃ k : Nat, k ≤ S.length ∧ i = .int .i64 k ∧ Hid (∀ j y, j < k → S[j]? = some y → opn b p y.bridge y.port y.isOpen = false) ∧ ∃ m, wr = w.drewN m
def IdxOut (S : List SPort) (b p : Int) (w w' : World) (e : Ending) : Prop := (∃ i : Int, e = .returned (.int .i64 i) ∧ decide (0 ≤ i) = openB S b p) ∧ Below w.heap.size w w'
set_option maxHeartbeats 1600000 in
theorem index_port (A : Option Addr) (c : Nat) (S : List SPort) (b p : Int) (w : World) (h : RowC w A (portsV S)) (hl : S.length ≤ 1000) :
    Calls Try.prog 37 #[.slice A S.length c, .agg #[.int .i64 b, .int .i64 p, .bool true]] w fun e w' => IdxOut S b p w w' e := by
  have hb0 := below_alloc (Below.refl w.heap.size w) (.cells #[.int .i64 b, .int .i64 p, .bool true] 32)
  have H := Lib.hid (h.below hb0)
  have hbx := Blk.new w #[.int .i64 b, .int .i64 p, .bool true] 32
  have HB0 := Lib.hid hb0
  clear h hb0
  go_enter Try.func37, Try.ntmps37
  go_wp2_with fail
  generalize w.alloc (.cells #[.int .i64 b, .int .i64 p, .bool true] 32) = w1 at *
  have v0 : w1.cell? ⟨w.heap.size, 0, none⟩ = some (.int .i64 b) := (Blk.cell hbx 0).trans rfl
  have v1 : w1.cell? ⟨w.heap.size, 1, none⟩ = some (.int .i64 p) := (Blk.cell hbx 1).trans rfl
  have v2 : w1.cell? ⟨w.heap.size, 2, none⟩ = some (.bool true) := (Blk.cell hbx 2).trans rfl
  clear hbx
  go_loopw [8] (fun i wr => IdxRel S b p i w1 wr) (fun i _ => S.length - (intOf i).toNat)
  case atStart => exact ⟨0, Nat.zero_le _, rfl, Lib.hid (fun j y hj => absurd hj (by omega)), 0, rfl⟩
  case round =>
    obtain ⟨k, hk, rfl, HN, m, rfl⟩ := hrel
    by_cases hlt : k < S.length
    · have hd : decide ((k : Int) < (S.length : Int)) = true := by simp; omega
      obtain ⟨b1, o1, rfl, _, hc1⟩ := H.out (by rw [oports_len]; omega)
      obtain ⟨x, hx⟩ : ∃ x, S[k]? = some x := ⟨S[k], List.getElem?_eq_getElem _⟩
      have c0 : w1.cell? ⟨b1, o1 + k * 3, none⟩ = some (.int .i64 x.bridge) := hc1 (k * 3) _ ((oports_get hx 0 (by omega)).trans rfl)
      have c1 : w1.cell? ⟨b1, o1 + k * 3 + 1, none⟩ = some (.int .i64 x.port) := by rw [Nat.add_assoc]; exact hc1 (k * 3 + 1) _ ((oports_get hx 1 (by omega)).trans rfl)
      have c2 : w1.cell? ⟨b1, o1 + k * 3 + 2, none⟩ = some (.bool x.isOpen) := by rw [Nat.add_assoc]; exact hc1 (k * 3 + 2) _ ((oports_get hx 2 (by omega)).trans rfl)
      have i0 : (0 : Int) ≤ (k : Int) := by omega
      have i1 : (k : Int) < (S.length : Int) := by omega
      have HX := Lib.hid hx
      clear hc1 hx
      obtain ⟨t, ht⟩ : ∃ t, opn b p x.bridge x.port x.isOpen = t := ⟨_, rfl⟩
      have HT := Lib.hid ht
      cases t with
      | true =>
        go_wp2_with fail
        go_quiet (fail)
        go_wp2_with fail
        go_ret
        exact ⟨⟨k, rfl, by rw [open_yes HX.out HT.out]; simp⟩, pw_below_drewN (pw_below_drewN HB0.out _) _⟩
      | false =>
        go_wp2_with fail
        go_quiet (fail)
        go_wp2_with fail
        refine ⟨⟨k + 1, hlt, by go_num, Lib.hid (fun j y hj hy => ?_), m + nq, rfl⟩, by simp [intOf]; omega⟩
        rcases Nat.lt_or_ge j k with h | h
        · exact HN.out j y h hy
        · obtain rfl : j = k := by omega
          obtain rfl : x = y := Option.some.inj (HX.out.symm.trans hy)
          exact HT.out
    · obtain rfl : k = S.length := by omega
      have hd : decide ((S.length : Int) < (S.length : Int)) = false := by simp
      go_wp2_with fail
      go_ret
      exact ⟨⟨-1, rfl, by rw [open_no HN.out]; rfl⟩, pw_below_drewN HB0.out m⟩
def OpenOut (S : List SPort) (b p : Int) (w w' : World) (e : Ending) : Prop := e = .returned (.bool (openB S b p)) ∧ Below w.heap.size w w'
set_option maxHeartbeats 800000 in
theorem contains_port (A : Option Addr) (c : Nat) (S : List SPort) (b p : Int) (w : World) (h : RowC w A (portsV S)) (hl : S.length ≤ 1000) :
    Calls Try.prog 28 #[.slice A S.length c, .agg #[.int .i64 b, .int .i64 p, .bool true]] w fun e w' => OpenOut S b p w w' e := by
  have hb0 := below_alloc (Below.refl w.heap.size w) (.cells #[.int .i64 b, .int .i64 p, .bool true] 32)
  have HIX := Lib.hid (index_port A c S b p _ (h.below hb0) hl)
  have HB0 := Lib.hid hb0
  clear h hl hb0
  go_enter Try.func28, Try.ntmps28
  go_wp2_with fail
  refine HIX.out.mono ?_
  rintro e w2 ⟨⟨i, rfl, hi⟩, hb⟩
  have hi' : decide (i ≥ 0) = openB S b p := hi
  have HB := Lib.hid (HB0.out.trans (hb.mono HB0.out.size))
  clear hb hi
  go_wp2_with fail
  go_ret
  exact ⟨rfl, HB.out⟩
set_option maxHeartbeats 800000 in
theorem open_any (A : Option Addr) (c : Nat) (S : List SPort) (b p : Int) (w : World) (h : RowC w A (portsV S)) (hl : S.length ≤ 1000) :
    Calls Try.prog 13 #[.slice A S.length c, .int .i64 b, .int .i64 p] w fun e w' => OpenOut S b p w w' e := by
  have HIX := Lib.hid (contains_port A c S b p w h hl)
  clear h hl
  go_enter Try.func13, Try.ntmps13
  go_wp2_with fail
  refine HIX.out.mono ?_
  rintro e w2 ⟨rfl, hb⟩
  have HB := Lib.hid hb
  clear hb
  go_wp2_with fail
  go_ret
  exact ⟨rfl, HB.out⟩
end Go.Proofs.Ytcpekijgjnnfoaa.Sp
