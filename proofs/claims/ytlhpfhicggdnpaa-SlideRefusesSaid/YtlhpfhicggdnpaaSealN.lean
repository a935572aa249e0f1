/-
  A sealed string, of which one byte is changed, is no sealed string: without Go.
-/
import Derived.Test.YtlhpfhicggdnpaaSeal
namespace Go.Proofs.Ytlhpfhicggdnpaa.Crc
open Go.RowKit Go.Proofs.Ytlhpfhicggdnpaa.CrcN

/-- Which byte's remainder begins with a byte. -/
def invT : List Nat := [0, 65, 195, 130, 134, 199, 69, 4, 77, 12, 142, 207, 203, 138, 8, 73, 154, 219, 89, 24, 28, 93, 223, 158, 215, 150, 20, 85, 81, 16, 146, 211, 117, 52, 182, 247, 243, 178, 48, 113, 56, 121, 251, 186, 190, 255, 125, 60, 239, 174, 44, 109, 105, 40, 170, 235, 162, 227, 97, 32, 36, 101, 231, 166, 234, 171, 41, 104, 108, 45, 175, 238, 167, 230, 100, 37, 33, 96, 226, 163, 112, 49, 179, 242, 246, 183, 53, 116, 61, 124, 254, 191, 187, 250, 120, 57, 159, 222, 92, 29, 25, 88, 218, 155, 210, 147, 17, 80, 84, 21, 151, 214, 5, 68, 198, 135, 131, 194, 64, 1, 72, 9, 139, 202, 206, 143, 13, 76, 149, 212, 86, 23, 19, 82, 208, 145, 216, 153, 27, 90, 94, 31, 157, 220, 15, 78, 204, 141, 137, 200, 74, 11, 66, 3, 129, 192, 196, 133, 7, 70, 224, 161, 35, 98, 102, 39, 165, 228, 173, 236, 110, 47, 43, 106, 232, 169, 122, 59, 185, 248, 252, 189, 63, 126, 55, 118, 244, 181, 177, 240, 114, 51, 127, 62, 188, 253, 249, 184, 58, 123, 50, 115, 241, 176, 180, 245, 119, 54, 229, 164, 38, 103, 99, 34, 160, 225, 168, 233, 107, 42, 46, 111, 237, 172, 10, 75, 201, 136, 140, 205, 79, 14, 71, 6, 132, 197, 193, 128, 2, 67, 144, 209, 83, 18, 22, 87, 213, 148, 221, 156, 30, 95, 91, 26, 152, 217]
theorem inv_all : ((List.range 256).all fun i => invT[(tab i) / 16777216]? == some i) = true := by kernel_rfl
theorem inv_tab (i : Nat) (h : i < 256) : invT[(tab i) / 16777216]? = some i := by
  have := List.all_eq_true.1 inv_all i (List.mem_range.2 h)
  simpa using this
theorem tab_inj (i j : Nat) (hi : i < 256) (hj : j < 256) (h : tab i / 16777216 = tab j / 16777216) : i = j := by
  have h1 := inv_tab i hi
  rw [h, inv_tab j hj] at h1
  injection h1 with h1
  exact h1.symm

theorem stepc_top (c b : Nat) (hc : c < 4294967296) : stepc c b / 16777216 = tab ((c % 256) ^^^ b) / 16777216 := by
  unfold stepc
  have h := @Nat.shiftRight_xor_distrib 24 (c / 256) (tab ((c % 256) ^^^ b))
  rw [Nat.shiftRight_eq_div_pow, Nat.shiftRight_eq_div_pow, Nat.shiftRight_eq_div_pow] at h
  rw [show (2 : Nat) ^ 24 = 16777216 from rfl] at h
  rw [h, show c / 256 / 16777216 = 0 by omega, Nat.zero_xor]
theorem xor_cancel {a b c : Nat} (h : a ^^^ b = a ^^^ c) : b = c := by
  have := congrArg (a ^^^ ·) h
  simpa [← Nat.xor_assoc] using this
theorem stepc_byte {c b b' : Nat} (hc : c < 4294967296) (hb : b < 256) (hb' : b' < 256) (h : stepc c b = stepc c b') : b = b' := by
  have h1 := congrArg (· / 16777216) h
  simp only [stepc_top c _ hc] at h1
  exact xor_cancel (tab_inj _ _ (xor_byte _ _ (by omega) hb) (xor_byte _ _ (by omega) hb') h1)
theorem stepc_state {c c' b : Nat} (hc : c < 4294967296) (hc' : c' < 4294967296) (hb : b < 256) (h : stepc c b = stepc c' b) : c = c' := by
  have h1 := congrArg (· / 16777216) h
  simp only [stepc_top _ _ hc, stepc_top _ _ hc'] at h1
  have h2 := tab_inj _ _ (xor_byte _ _ (by omega) hb) (xor_byte _ _ (by omega) hb) h1
  rw [Nat.xor_comm _ b, Nat.xor_comm _ b] at h2
  have h3 := xor_cancel h2
  have h4 := h
  unfold stepc at h4
  rw [h3, Nat.xor_comm, Nat.xor_comm (c' / 256)] at h4
  have h5 := xor_cancel h4
  omega
theorem fold_state (l : List UInt8) : ∀ c c', c < 4294967296 → c' < 4294967296 → l.foldl (fun c b => stepc c b.toNat) c = l.foldl (fun c b => stepc c b.toNat) c' → c = c' := by
  induction l with
  | nil => intro c c' _ _ h; exact h
  | cons b l ih =>
    intro c c' hc hc' h
    have hb := UInt8.toNat_lt b
    exact stepc_state hc hc' hb (ih _ _ (stepc_lt c _ hc hb) (stepc_lt c' _ hc' hb) h)
/-- One byte is another: the checksum is another. -/
theorem crcN_byte (p q : List UInt8) (b b' : UInt8) (h : crcN (p ++ b :: q) = crcN (p ++ b' :: q)) : b = b' := by
  unfold crcN at h
  rw [Nat.xor_comm, Nat.xor_comm (crcFold (p ++ b' :: q))] at h
  have h := xor_cancel h
  unfold crcFold at h
  rw [List.foldl_append, List.foldl_append, List.foldl_cons, List.foldl_cons] at h
  have hp := fold_lt p 4294967295 (by omega)
  have hb := UInt8.toNat_lt b
  have hb' := UInt8.toNat_lt b'
  have h := fold_state q _ _ (stepc_lt _ _ hp hb) (stepc_lt _ _ hp hb') h
  exact UInt8.toNat_inj.1 (stepc_byte hp hb hb' h)

theorem tailN_inj {N M : Nat} (hN : N < 4294967296) (hM : M < 4294967296) (h : tailN N = tailN M) : N = M := by
  unfold tailN at h
  injection h with h1 h
  injection h with h2 h
  injection h with h3 h
  injection h with h4 h
  have e1 := congrArg UInt8.toNat h1
  have e2 := congrArg UInt8.toNat h2
  have e3 := congrArg UInt8.toNat h3
  have e4 := congrArg UInt8.toNat h4
  simp only [UInt8.toNat_ofNat'] at e1 e2 e3 e4
  omega

/-- A sealed list, one byte of which is changed, is no sealed list. -/
theorem seal_changed (l : List UInt8) (i : Nat) (hi : i < l.length + 4) (b : UInt8) (hb : ((l ++ tailN (crcN l))[i]?) ≠ some b) (l' : List UInt8)
    (h : (l ++ tailN (crcN l)).set i b = l' ++ tailN (crcN l')) : False := by
  have ht : ∀ N, (tailN N).length = 4 := fun N => rfl
  have hlen : l'.length = l.length := by
    have := congrArg List.length h
    simp only [List.length_set, List.length_append, ht] at this
    omega
  by_cases hil : i < l.length
  · rw [List.set_append_left _ _ hil] at h
    obtain ⟨h1, h2⟩ := List.append_inj h (by simp [hlen])
    have h3 := tailN_inj (crcN_lt _) (crcN_lt _) h2
    have hl : l = l.take i ++ l[i] :: l.drop (i + 1) := by rw [List.getElem_cons_drop, List.take_append_drop]
    have hl' : l' = l.take i ++ b :: l.drop (i + 1) := by rw [← h1, List.set_eq_take_append_cons_drop, if_pos hil]
    have h4 : crcN (l.take i ++ l[i] :: l.drop (i + 1)) = crcN (l.take i ++ b :: l.drop (i + 1)) := by rw [← hl, ← hl']; exact h3
    have h5 := crcN_byte _ _ _ _ h4
    apply hb
    rw [List.getElem?_append_left hil, List.getElem?_eq_getElem hil, h5]
  · rw [List.set_append_right _ _ (by omega)] at h
    obtain ⟨h1, h2⟩ := List.append_inj h hlen.symm
    rw [← h1] at h2
    apply hb
    rw [List.getElem?_append_right (by omega), ← h2, List.getElem?_set_self (by rw [ht]; omega)]

/-- The string t, one byte of which is b. -/
def setB (t : ByteArray) (i : Nat) (b : UInt8) : ByteArray := ⟨(t.data.toList.set i b).toArray⟩
theorem setB_size (t : ByteArray) (i : Nat) (b : UInt8) : (setB t i b).size = t.size := by show (t.data.toList.set i b).toArray.size = t.data.size; simp
theorem seal_set (x : ByteArray) (i : Nat) (hi : i < x.size + 4) (b : UInt8) (hb : ((sealB x).data.toList)[i]? ≠ some b) : sealB (front (setB (sealB x) i b)) ≠ setB (sealB x) i b := by
  intro h
  have h1 := congrArg (fun s : ByteArray => s.data.toList) h
  simp only [sealB_list, setB] at h1
  rw [sealB_list] at hb
  exact seal_changed x.data.toList i (by simpa using hi) b hb _ h1.symm
end Go.Proofs.Ytlhpfhicggdnpaa.Crc
