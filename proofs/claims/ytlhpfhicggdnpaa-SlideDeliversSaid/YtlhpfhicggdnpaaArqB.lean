/-
  The rounds of SlideDelivers, without the walk: what one frame and one acknowledgement do.
-/
import Derived.Test.YtlhpfhicggdnpaaArq
namespace Go.Proofs.Ytlhpfhicggdnpaa.Slide
open Go.RowKit Go.Proofs.YtlhpfhicggdnpaaW.PrintWords Go.Proofs.Ytlhpfhicggdnpaa.Xm Go.Proofs.Ytlhpfhicggdnpaa.CrcN Go.Proofs.Ytlhpfhicggdnpaa.Crc Go.Proofs.Ytlhpfhicggdnpaa.Within

/-- The acknowledgements of a round. -/
def AckOk (AK : List Nat) (a gn : Nat) : Prop := (∀ x ∈ AK, a ≤ x ∧ x ≤ gn) ∧ AK.Pairwise (· ≤ ·) ∧ (AK = [] ∨ AK.getLast? = some gn)
theorem AckOk.nil (a gn : Nat) : AckOk [] a gn := ⟨by simp, List.Pairwise.nil, .inl rfl⟩
theorem AckOk.push {AK : List Nat} {a gn gn' : Nat} (h : AckOk AK a gn) (h1 : a ≤ gn) (h2 : gn ≤ gn') : AckOk (AK ++ [gn']) a gn' := by
  obtain ⟨k1, k2, k3⟩ := h
  refine ⟨fun x hx => ?_, ?_, .inr (by simp)⟩
  · rw [List.mem_append, List.mem_singleton] at hx
    rcases hx with hx | rfl
    · have := k1 x hx; omega
    · omega
  · rw [List.pairwise_append]
    exact ⟨k2, List.pairwise_singleton _ _, fun x hx y hy => by rw [List.mem_singleton] at hy; have := k1 x hx; omega⟩
theorem AckOk.mono {AK : List Nat} {a gn : Nat} (h : AckOk AK a gn) {i j x y : Nat} (hij : i ≤ j) (hx : AK[i]? = some x) (hy : AK[j]? = some y) : x ≤ y := by
  by_cases e : i = j
  · subst e; rw [hx] at hy; injection hy with hy; omega
  · obtain ⟨hi, rfl⟩ := List.getElem?_eq_some_iff.1 hx
    obtain ⟨hj, rfl⟩ := List.getElem?_eq_some_iff.1 hy
    exact List.pairwise_iff_getElem.1 h.2.1 i j hi hj (by omega)

def ackB (mod x : Nat) : ByteArray := sealB (headB 65 (x % mod))

/-- The loop over the frames. -/
def FrRel (w0 : World) (B g h bu bl : Nat) (ls : ByteArray) (mod : Nat) (bods : List ByteArray) (a put used B2 ob : Nat) (hp : Option Obj) (lv : Value) (gv av iv : Value) (wr : World) : Prop :=
  ∃ (i gn : Nat) (AK : List Nat), iv = .int .i64 i ∧ i ≤ put - a ∧ a ≤ gn ∧ gn ≤ put ∧
    DW w0 wr B g h bu bl ls mod (a % mod) (outs bods a put) (put - a) (gn % mod) (used + i) lv gv (bods.take gn) ∧
    QRow wr B2 9 1 av AK.length (strs (AK.map (ackB mod))) ∧ Dis av gv ∧ gv.ownBlock ≠ some ob ∧ wr.heap[ob]? = hp ∧ B2 ≤ wr.heap.size ∧
    AckOk AK a gn ∧ AK.length ≤ i ∧ (ls.size ≤ used → AK.length = i ∧ a + i ≤ gn)
/-- The loop over the acknowledgements. -/
def AkRel (w0 : World) (B g h bu bl : Nat) (ls : ByteArray) (mod : Nat) (bods : List ByteArray) (a0 gn put used ab : Nat) (hp : Option Obj) (AK : List Nat) (gv : Value) (jv : Value) (wr : World) : Prop :=
  ∃ (j a : Nat) (lv : Value), jv = .int .i64 j ∧ j ≤ AK.length ∧ a0 ≤ a ∧ a ≤ gn ∧ (∀ i x, j ≤ i → AK[i]? = some x → a ≤ x) ∧
    DW w0 wr B g h bu bl ls mod (a % mod) (outs bods a put) (put - a) (gn % mod) (used + j) lv gv (bods.take gn) ∧ wr.heap[ab]? = hp ∧
    (ls.size ≤ used → 0 < j → AK[j - 1]? = some a)
end Go.Proofs.Ytlhpfhicggdnpaa.Slide
