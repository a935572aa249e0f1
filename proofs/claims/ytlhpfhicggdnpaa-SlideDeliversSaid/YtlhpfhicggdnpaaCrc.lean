/-
  Package crc: contracts of half, table, Sum.
-/
import Derived.Test.YtlhpfhicggdnpaaProg
import Derived.Test.YtlhpfhicggdnpaaMem
import Derived.Test.YtlhpfhicggdnpaaCrcN
import Derived.Deep.QuietTactic
import Derived.BigQuiet
import Derived.Outline
import Derived.IntWalk
import Derived.Deep.LoopGhost
namespace Go.Proofs.Ytlhpfhicggdnpaa.Crc
open Go.RowKit Go.Proofs.YtlhpfhicggdnpaaW.PrintWords Go.Proofs.Ytlhpfhicggdnpaa.Xm Go.Proofs.Ytlhpfhicggdnpaa.CrcN

set_option maxHeartbeats 400000 in
theorem half_any (c : Nat) (w : World) (h : c < 4294967296) :
    Calls Try.prog 39 #[.int .u32 (c : Int)] w fun e w' => e = .returned (.int .u32 ((half c : Nat) : Int)) ∧ w' = w := by
  have hand : bits BinOp.and IntKind.u32 (c : Int) 1 = ((c % 2 : Nat) : Int) := by
    rw [show (1 : Int) = ((1 : Nat) : Int) from rfl, u32_and_nat c 1 h (by omega), nat_mask1]
  by_cases h1 : c % 2 = 1
  · have t1 : (bits BinOp.and IntKind.u32 (c : Int) 1 == 1) = true := by rw [hand, h1]; rfl
    have hx : bits BinOp.xor IntKind.u32 ((c : Int) / 2) 3988292384 = ((half c : Nat) : Int) := by
      rw [show (c : Int) / 2 = ((c / 2 : Nat) : Int) by omega, show (3988292384 : Int) = ((3988292384 : Nat) : Int) from rfl, u32_xor_nat _ _ (by omega) (by omega)]
      simp [half, h1]
    have HX := Lib.hid hx
    clear hx hand
    go_enter Try.func39, Try.ntmps39
    go_wp2
    go_ret
    exact ⟨by rw [← HX.out]; rfl, rfl⟩
  · have t1 : (bits BinOp.and IntKind.u32 (c : Int) 1 == 1) = false := by rw [hand, beq_eq_false_iff_ne]; omega
    have hx : (c : Int) / 2 = ((half c : Nat) : Int) := by simp [half, h1]
    have HX := Lib.hid hx
    clear hx hand
    go_enter Try.func39, Try.ntmps39
    go_wp2
    go_ret
    exact ⟨by rw [← HX.out]; rfl, rfl⟩

/-- The first k rows of the table lie in the block. -/
def TabInv (w1 wr : World) (g k : Nat) : Prop := ∃ cur : Array Value, Blk wr g cur 70 ∧ cur.size = 256 ∧ (∀ j, j < k → cur[j]? = some (.int .u32 ((tab j : Nat) : Int))) ∧ (∀ j, k ≤ j → j < 256 → ∃ v, cur[j]? = some v) ∧ Only (· = g) w1 wr
def TabRel (w1 : World) (g : Nat) (i : Value) (wr : World) : Prop := ∃ k : Nat, k ≤ 256 ∧ i = .int .i64 k ∧ TabInv w1 wr g k
def InRel (k : Nat) (c j : Value) : Prop := ∃ n : Nat, n ≤ 8 ∧ j = .int .i64 n ∧ c = .int .u32 ((halves n k : Nat) : Int)

theorem zero_table : ∃ zs : Array Value, (∀ w : World, (zeroValue 70).run Try.prog w = .ok (.agg zs) w) ∧ zs.size = 256 ∧ ∀ j, j < 256 → ∃ v, zs[j]? = some v :=
  ⟨Array.replicate 256 (.int .u32 0), fun w => by kernel_rfl, by simp, fun j hj => ⟨.int .u32 0, by simp [hj]⟩⟩

def TabOut (w w' : World) (e : Ending) : Prop := (∃ cur : Array Value, e = .returned (.agg cur) ∧ cur.size = 256 ∧ (∀ j, j < 256 → cur[j]? = some (.int .u32 ((tab j : Nat) : Int)))) ∧ Below w.heap.size w w'
set_option maxHeartbeats 1000000 in
set_option maxRecDepth 100000 in
theorem table_any (w : World) :
    Calls Try.prog 38 #[] w fun e w' => TabOut w w' e := by
  obtain ⟨zs, hzr, hz2, hz3⟩ := zero_table
  have HZ2 := Lib.hid hz2
  have HZ3 := Lib.hid hz3
  clear hz2 hz3
  go_enter Try.func38, Try.ntmps38
  go_wp2_with fail
  clear hzr
  go_loopw [3] (fun i wr => TabRel w w.heap.size i wr) (fun i _ => 256 - (intOf i).toNat)
  case atStart => exact ⟨0, by omega, rfl, zs, Blk.new _ _ _, HZ2.out, fun j hj => absurd hj (by omega), fun j _ hj => HZ3.out j hj, (Only.refl _ _).alloc _⟩
  case round =>
    obtain ⟨k, hk, rfl, cur, hb, hs, h1, h2, ho⟩ := hrel
    have HB := Lib.hid hb
    have HS := Lib.hid hs
    have H1 := Lib.hid h1
    have H2 := Lib.hid h2
    have HO := Lib.hid ho
    clear hb hs h1 h2 ho
    by_cases hlt : k < 256
    · have hd : decide ((k : Int) < 256) = true := by simp; omega
      have hconv : IntKind.u32.wrap (k : Int) = (k : Int) := by rw [IntKind.wrap_u32']; omega
      go_wp2_with fail
      go_loop [2, 8] (fun c j => InRel k c j) (fun _ j => 8 - (intOf j).toNat)
      case atStart => exact ⟨0, by omega, rfl, rfl⟩
      case round =>
        obtain ⟨n, hn, rfl, rfl⟩ := hrel
        have hl := halves_lt n k (by omega)
        by_cases hn8 : n < 8
        · go_wp2_with (go_at_call 39; refine (half_any _ _ hl).mono ?_; rintro e w' ⟨rfl, rfl⟩)
          go_round
          case rel => exact ⟨n + 1, by omega, by go_num, rfl⟩
          case measure => simp [intOf]; omega
        · obtain rfl : n = 8 := by omega
          obtain ⟨v, hv⟩ := H2.out k (Nat.le_refl _) hlt
          have hc : wr.cell? ⟨w.heap.size, k, none⟩ = some v := (HB.out.cell k).trans hv
          have hf := HB.out.frozen k
          have hk0 : (0 : Int) ≤ (k : Int) := by omega
          have hk1 : (k : Int) < 256 := by omega
          clear hv
          go_wp2_with fail
          refine ⟨?_, by simp [intOf]; omega⟩
          have hk256 : k < cur.size := by rw [HS.out]; exact hlt
          refine ⟨k + 1, by omega, by go_num, cur.setIfInBounds k (.int .u32 ((tab k : Nat) : Int)), HB.out.set k _, by simp [HS.out], fun j hj => ?_, fun j h1 h2 => ?_, HO.out.set1 k _⟩
          · by_cases hjk : j = k
            · subst hjk; simp [hk256]
            · rw [Array.getElem?_setIfInBounds_ne (by omega)]; exact H1.out j (by omega)
          · obtain ⟨v, hv⟩ := H2.out j (by omega) h2
            exact ⟨v, by rw [Array.getElem?_setIfInBounds_ne (by omega)]; exact hv⟩
    · obtain rfl : k = 256 := by omega
      have hinfo : (Try.prog.info? 70).map (·.size) = some cur.size := by rw [HS.out]; kernel_rfl
      have HI := Lib.hid hinfo
      clear hinfo
      have hone : cur.all (·.oneCell') = true := by
        rw [Array.all_eq_true_iff_forall_mem]
        intro v hv
        obtain ⟨j, hj, rfl⟩ := Array.mem_iff_getElem.1 hv
        have := H1.out j (by have := HS.out; omega)
        rw [Array.getElem?_eq_getElem hj] at this
        injection this with this
        rw [this]
        rfl
      have HONE := Lib.hid hone
      clear hone
      go_wp2_with (first | (refine wpList_load_row rfl 70 _ rfl w.heap.size rfl 70 cur (0, 0) _ HB.out Try.underlying70 rfl HI.out ?_) | (refine wpList_store_row rfl 70 _ _ rfl w.heap.size cur rfl rfl 70 cur HB.out HI.out rfl HONE.out ?_))
      have hb2 : Blk (wr.setRow w.heap.size cur) w.heap.size cur 70 := setRow_heap wr w.heap.size cur cur 70 (0, 0) HB.out
      refine bodyPost_ret (results_cell_row (t := 70) (cs := cur) (fr := (0, 0)) rfl _ _ w.heap.size _ rfl hb2 Try.underlying70 rfl HI.out) rfl ?_
      refine ⟨⟨cur, rfl, HS.out, H1.out⟩, ?_⟩
      have h1 := HO.out.below (Nat.le_refl _) (fun k hk e => by omega)
      exact ⟨h1.os, h1.tape, h1.output, by have := h1.size; simpa using this, fun k hk => (setRow_other wr w.heap.size k cur (by omega)).trans (h1.block k hk)⟩

def SumRel (s : ByteArray) (c i : Value) : Prop := ∃ k : Nat, k ≤ s.size ∧ i = .int .i64 k ∧ c = .int .u32 ((crcFold (s.data.toList.take k) : Nat) : Int)
theorem take_snoc (s : ByteArray) (k : Nat) (h : k < s.size) : s.data.toList.take (k + 1) = s.data.toList.take k ++ [s[k]] := by
  rw [List.take_succ_eq_append_getElem (by simpa using h)]; rfl

set_option maxHeartbeats 1000000 in
set_option maxRecDepth 100000 in
theorem sum_any (s : ByteArray) (w : World) (hs : s.size ≤ 9223372036854775807) :
    Calls Try.prog 32 #[.string s] w fun e w' => e = .returned (.int .u32 ((crcN s.data.toList : Nat) : Int)) ∧ Below w.heap.size w w' := by
  obtain ⟨zs, hzr, hz2, hz3⟩ := zero_table
  have HZ2 := Lib.hid hz2
  clear hz2 hz3
  go_enter Try.func32, Try.ntmps32
  go_wp2_with fail
  refine (table_any _).mono ?_
  rintro e w1 ⟨⟨cur, rfl, hs1, hc1⟩, hb1⟩
  have HS := Lib.hid hs1
  have HC := Lib.hid hc1
  have HB := Lib.hid hb1
  have hone : cur.all (·.oneCell') = true := by
    rw [Array.all_eq_true_iff_forall_mem]
    intro v hv
    obtain ⟨j, hj, rfl⟩ := Array.mem_iff_getElem.1 hv
    have := hc1 j (by omega)
    rw [Array.getElem?_eq_getElem hj] at this
    injection this with this
    rw [this]
    rfl
  have HONE := Lib.hid hone
  have hinfo : (Try.prog.info? 70).map (·.size) = some cur.size := by rw [hs1]; kernel_rfl
  have HI := Lib.hid hinfo
  have HSZ := Lib.hid (show zs.size = cur.size by rw [HZ2.out, hs1])
  clear hs1 hc1 hb1 hone hinfo
  go_wp2_with (refine wpList_store_row rfl 70 _ _ rfl w1.heap.size cur rfl rfl 70 zs (heap_alloc_new w1 _) HI.out HSZ.out HONE.out ?_)
  clear hzr
  have hb2 : Blk ((w1.alloc (.cells zs 70)).setRow w1.heap.size cur) w1.heap.size cur 70 := setRow_heap _ _ zs cur _ (0, 0) (heap_alloc_new w1 _)
  have HB2 := Lib.hid hb2
  clear hb2
  go_loop [3, 9] (fun c i => SumRel s c i) (fun _ i => s.size - (intOf i).toNat)
  case atStart => exact ⟨0, by omega, rfl, rfl⟩
  case round =>
    obtain ⟨k, hk, rfl, rfl⟩ := hrel
    by_cases hlt : k < s.size
    · have hsn : crcFold (s.data.toList.take (k + 1)) = stepc (crcFold (s.data.toList.take k)) (s[k]).toNat := by rw [take_snoc s k hlt, crcFold_snoc]
      have hCl := crcFold_lt (s.data.toList.take k)
      have HSN := Lib.hid hsn
      clear hsn
      generalize hC : crcFold (s.data.toList.take k) = C at *
      have HCC := Lib.hid hC
      clear hC
      have hbl := UInt8.toNat_lt s[k]
      obtain ⟨ix, hix, hx1, hixl⟩ : ∃ ix : Nat, ix = (C % 256) ^^^ (s[k]).toNat ∧ bits BinOp.xor IntKind.u8 ((C : Int) % 256) ((s[k]).toNat : Int) = ((ix : Nat) : Int) ∧ ix < 256 :=
        ⟨_, rfl, by rw [show (C : Int) % 256 = ((C % 256 : Nat) : Int) by omega, u8_xor_nat _ _ (by omega) hbl], xor_byte _ _ (by omega) hbl⟩
      have htl := tab_lt ix (by omega)
      have hcell : ((w1.alloc (.cells zs 70)).setRow w1.heap.size cur).cell? ⟨w1.heap.size, ix, none⟩ = some (.int .u32 ((tab ix : Nat) : Int)) := (HB2.out.cell ix).trans (HC.out ix hixl)
      have hx2 : bits BinOp.xor IntKind.u32 ((C : Int) / 256) ((tab ix : Nat) : Int) = ((stepc C (s[k]).toNat : Nat) : Int) := by
        rw [show (C : Int) / 256 = ((C / 256 : Nat) : Int) by omega, u32_xor_nat _ _ (by omega) htl, hix]
        rfl
      clear hix
      generalize hT : tab ix = T at *
      generalize hN : stepc C (s[k]).toNat = N at *
      clear hT hN
      go_wp2_with fail
      refine ⟨?_, by simp [intOf]; omega⟩
      first | refine ⟨k + 1, ?_, ?_, ?_⟩ | ((repeat apply Exists.intro); refine ⟨⟨k + 1, ?_, ?_, ?_⟩, rfl⟩)
      · omega
      · go_num
      · rw [HSN.out]
    · obtain rfl : k = s.size := by omega
      have hsg : IntKind.u32.signed = false := rfl
      have hF := crcFold_lt s.data.toList
      have htl : s.data.toList.take s.size = s.data.toList := List.take_of_length_le (by simp)
      have hx3 : bits BinOp.xor IntKind.u32 IntKind.u32.max ((crcFold (s.data.toList.take s.size) : Nat) : Int) = ((crcN s.data.toList : Nat) : Int) := by
        rw [htl, show IntKind.u32.max = ((4294967295 : Nat) : Int) from rfl, u32_xor_nat _ _ (by omega) hF, Nat.xor_comm]
        rfl
      have HX3 := Lib.hid hx3
      clear htl hx3 hF
      go_wp2_with fail
      go_ret
      refine ⟨?_, ?_⟩
      · rw [← HX3.out]; rfl
      · exact below_setRow (below_alloc HB.out _) HB.out.size _
end Go.Proofs.Ytlhpfhicggdnpaa.Crc
