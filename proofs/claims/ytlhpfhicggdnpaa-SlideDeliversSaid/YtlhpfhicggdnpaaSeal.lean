/-
  crc.Seal, crc.Open.
-/
import Derived.Test.YtlhpfhicggdnpaaCrc
import Derived.Test.YtlhpfhicggdnpaaSl
import Derived.RegionTactic
import Derived.BigRegion
import Derived.Laws.IdiomStrings
import Derived.Lib.Strings
namespace Go.Proofs.Ytlhpfhicggdnpaa.Crc
open Go.RowKit Go.Proofs.YtlhpfhicggdnpaaW.PrintWords Go.Proofs.Ytlhpfhicggdnpaa.Xm Go.Proofs.Ytlhpfhicggdnpaa.CrcN

/-- The four bytes of a checksum. -/
def tailN (N : Nat) : List UInt8 := [UInt8.ofNat (N / 16777216), UInt8.ofNat (N / 65536 % 256), UInt8.ofNat (N / 256 % 256), UInt8.ofNat (N % 256)]
def tailB (N : Nat) : ByteArray := ⟨(tailN N).toArray⟩
/-- 'Seal'. -/
def sealB (s : ByteArray) : ByteArray := s ++ tailB (crcN s.data.toList)
theorem tailB_size (N : Nat) : (tailB N).size = 4 := rfl
theorem sealB_size (s : ByteArray) : (sealB s).size = s.size + 4 := by rw [sealB, ByteArray.size_append, tailB_size]
theorem sealB_list (s : ByteArray) : (sealB s).data.toList = s.data.toList ++ tailN (crcN s.data.toList) := by simp [sealB, tailB]

theorem tail_conv (w1 : World) (N : Nat) (hN : N < 4294967296) :
    (convert 44 9 (.slice (some ⟨w1.heap.size, 0, none⟩) 4 4)).run Try.prog (w1.alloc (.cells #[.int .u8 ((N : Int) / 16777216), .int .u8 ((N : Int) / 65536 % 256), .int .u8 ((N : Int) / 256 % 256), .int .u8 ((N : Int) % 256)] 5)) = .ok (.string (tailB N)) (w1.alloc (.cells #[.int .u8 ((N : Int) / 16777216), .int .u8 ((N : Int) / 65536 % 256), .int .u8 ((N : Int) / 256 % 256), .int .u8 ((N : Int) % 256)] 5)) := by
  refine run_convert_bytes_back _ 44 9 5 ⟨w1.heap.size, 0, none⟩ 4 (tailN N) Try.underlying44 Try.underlying5 Try.underlying9 ?_
  intro j hj
  have hh : tailN N = [UInt8.ofNat (N / 16777216), UInt8.ofNat (N / 65536 % 256), UInt8.ofNat (N / 256 % 256), UInt8.ofNat (N % 256)] := rfl
  rw [add_at]
  refine cell_new _ _ rfl _ _ _ _ ?_
  have hj4 : j < 4 := hj
  rcases (show j = 0 ∨ j = 1 ∨ j = 2 ∨ j = 3 by omega) with rfl | rfl | rfl | rfl <;> simp [hh] <;> omega

set_option maxHeartbeats 1000000 in
theorem seal_any (s : ByteArray) (w : World) (hs : s.size ≤ 140737488351232) :
    Calls Try.prog 23 #[.string s] w fun e w' => e = .returned (.string (sealB s)) ∧ Below w.heap.size w w' := by
  go_enter Try.func23, Try.ntmps23
  go_wp2_with fail
  refine (sum_any s _ (by omega)).mono ?_
  rintro e w1 ⟨rfl, hb1⟩
  have HB := Lib.hid hb1
  clear hb1
  have hlt := crcN_lt s.data.toList
  have hSB : sealB s = s ++ tailB (crcN s.data.toList) := rfl
  generalize crcN s.data.toList = N at *
  have hcv := tail_conv w1 N hlt
  have htz := tailB_size N
  have HSB := Lib.hid hSB
  clear hSB
  go_wp2_with fail
  go_ret
  exact ⟨by rw [HSB.out]; rfl, below_alloc HB.out _⟩

theorem str_same (a : ByteArray) : (a.toList == a.toList) = true := by simp
theorem str_diff {a b : ByteArray} (h : a ≠ b) : (a.toList == b.toList) = false := by
  rw [beq_eq_false_iff_ne]
  intro e
  rw [ByteArray.toList_eq, ByteArray.toList_eq] at e
  exact h (ByteArray.ext (Array.toList_inj.1 e))

/-- The part of s that 'Open' tries. -/
def front (s : ByteArray) : ByteArray := s.extract 0 (s.size - 4)
theorem front_seal (x : ByteArray) : front (sealB x) = x := by
  unfold front
  rw [sealB_size]
  apply ByteArray.ext
  apply Array.toList_inj.1
  rw [ByteArray.data_extract]
  simp [sealB]
  exact List.take_of_length_le (by simp)

set_option maxHeartbeats 1000000 in
theorem open_short (s : ByteArray) (w : World) (hs : s.size < 4) :
    Calls Try.prog 35 #[.string s] w fun e w' => e = .returned (.tuple #[.string ⟨#[]⟩, .int .i64 9]) ∧ w = w' := by
  go_enter Try.func35, Try.ntmps35
  go_wp2_with fail
  go_ret2
  exact ⟨rfl, rfl⟩

set_option maxHeartbeats 1000000 in
theorem open_of (s : ByteArray) (w : World) (hs : s.size ≤ 140737488351232) (x : ByteArray) (h : sealB x = s) :
    Calls Try.prog 35 #[.string s] w fun e w' => e = .returned (.tuple #[.string x, .int .i64 0]) ∧ Below w.heap.size w w' := by
  have hz := sealB_size x
  rw [h] at hz
  have hx : s.extract 0 x.size = x := by
    have := front_seal x
    rw [h] at this
    unfold front at this
    rw [hz, Nat.add_sub_cancel] at this
    exact this
  have t1 := str_same s
  have HH := Lib.hid h
  clear h
  go_enter Try.func35, Try.ntmps35
  go_wp2_with fail
  refine (seal_any x _ (by omega)).mono ?_
  rw [HH.out]
  rintro e w1 ⟨rfl, hb1⟩
  have HB := Lib.hid hb1
  clear hb1
  go_wp2_with fail
  go_ret2
  exact ⟨rfl, HB.out⟩

set_option maxHeartbeats 1000000 in
theorem open_bad (s : ByteArray) (w : World) (hs : s.size ≤ 140737488351232) (h4 : 4 ≤ s.size) (h : sealB (front s) ≠ s) :
    Calls Try.prog 35 #[.string s] w fun e w' => e = .returned (.tuple #[.string ⟨#[]⟩, .int .i64 8]) ∧ Below w.heap.size w w' := by
  obtain ⟨k, hk⟩ : ∃ k, s.size = k + 4 := ⟨s.size - 4, by omega⟩
  have hx : s.extract 0 k = front s := by unfold front; rw [hk, Nat.add_sub_cancel]
  have hfz : (front s).size = k := by unfold front; simp; omega
  have t1 := str_diff h
  clear h
  go_enter Try.func35, Try.ntmps35
  go_wp2_with fail
  refine (seal_any (front s) _ (by omega)).mono ?_
  rintro e w1 ⟨rfl, hb1⟩
  have HB := Lib.hid hb1
  clear hb1
  go_wp2_with fail
  go_ret2
  exact ⟨rfl, HB.out⟩
end Go.Proofs.Ytlhpfhicggdnpaa.Crc
