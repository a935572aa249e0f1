/-
  CRC-32 on natural numbers, without Go.
-/
import Derived.Laws.BitsAllLaws
namespace Go.Proofs.Ytlhpfhicggdnpaa.CrcN

def half (c : Nat) : Nat := if c % 2 = 1 then (c / 2) ^^^ 3988292384 else c / 2
def halves : Nat → Nat → Nat
  | 0, c => c
  | k + 1, c => half (halves k c)
def tab (i : Nat) : Nat := halves 8 i
def stepc (c b : Nat) : Nat := (c / 256) ^^^ tab ((c % 256) ^^^ b)
def crcFold (l : List UInt8) : Nat := l.foldl (fun c b => stepc c b.toNat) 4294967295
def crcN (l : List UInt8) : Nat := (crcFold l) ^^^ 4294967295

theorem half_lt (c : Nat) (h : c < 4294967296) : half c < 4294967296 := by
  unfold half
  split
  · exact Nat.xor_lt_two_pow (n := 32) (by omega) (by omega)
  · omega
theorem halves_lt (k c : Nat) (h : c < 4294967296) : halves k c < 4294967296 := by
  induction k with
  | zero => exact h
  | succ k ih => exact half_lt _ ih
theorem tab_lt (i : Nat) (h : i < 4294967296) : tab i < 4294967296 := halves_lt 8 i h
theorem xor_byte (a b : Nat) (ha : a < 256) (hb : b < 256) : a ^^^ b < 256 := Nat.xor_lt_two_pow (n := 8) ha hb
theorem stepc_lt (c b : Nat) (h : c < 4294967296) (hb : b < 256) : stepc c b < 4294967296 := by
  unfold stepc
  refine Nat.xor_lt_two_pow (n := 32) (by omega) (tab_lt _ ?_)
  have := xor_byte (c % 256) b (by omega) hb
  omega
theorem fold_lt (l : List UInt8) : ∀ c, c < 4294967296 → l.foldl (fun c b => stepc c b.toNat) c < 4294967296 := by
  induction l with
  | nil => intro c h; exact h
  | cons b l ih => intro c h; exact ih _ (stepc_lt c b.toNat h (UInt8.toNat_lt b))
theorem crcFold_lt (l : List UInt8) : crcFold l < 4294967296 := fold_lt l _ (by omega)
theorem crcN_lt (l : List UInt8) : crcN l < 4294967296 := Nat.xor_lt_two_pow (n := 32) (crcFold_lt l) (by omega)
theorem crcFold_snoc (l : List UInt8) (b : UInt8) : crcFold (l ++ [b]) = stepc (crcFold l) b.toNat := by simp [crcFold]
end Go.Proofs.Ytlhpfhicggdnpaa.CrcN
