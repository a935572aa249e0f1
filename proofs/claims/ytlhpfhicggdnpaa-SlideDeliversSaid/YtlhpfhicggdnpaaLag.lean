/-
  Package lag: contracts.
-/
import Derived.Test.YtlhpfhicggdnpaaCrc
import Derived.Test.YtlhpfhicggdnpaaInts
import Derived.Test.YtlhpfhicggdnpaaLagN
namespace Go.Proofs.Ytlhpfhicggdnpaa.Lag
open Go.RowKit Go.Proofs.YtlhpfhicggdnpaaW.PrintWords Go.Proofs.Ytlhpfhicggdnpaa.Xm Go.Proofs.Ytlhpfhicggdnpaa.CrcN Go.Proofs.Ytlhpfhicggdnpaa.Crc Go.Proofs.Ytlhpfhicggdnpaa.Ints Go.Proofs.Ytlhpfhicggdnpaa.LagN

def wtI (c m : Int) : Int :=
  let x := bits BinOp.xor IntKind.u32 c ((m + 1) * 2654435761 % 4294967296)
  let y := bits BinOp.xor IntKind.u32 x (x / 65536) * 2246822507 % 4294967296
  let z := bits BinOp.xor IntKind.u32 y (y / 8192) * 3266489909 % 4294967296
  bits BinOp.xor IntKind.u32 z (z / 65536)
/-- The weight of a member for a flow. -/
def wt (s : ByteArray) (m : Int) : Int := wtI ((crcN s.data.toList : Nat) : Int) m

set_option maxHeartbeats 400000 in
theorem weight_any (m : Int) (s : ByteArray) (w : World) (hs : s.size ≤ 9223372036854775807) (h0 : 0 ≤ m) (h1 : m ≤ 65535) :
    Calls Try.prog 15 #[.int .i64 m, .string s] w fun e w' => e = .returned (.int .u32 (wt s m)) ∧ Below w.heap.size w w' := by
  have hc := crcN_lt s.data.toList
  have hw : ∀ c : Nat, crcN s.data.toList = c → wtI (c : Int) m = wt s m := fun c h => by rw [wt, h]
  go_enter Try.func15, Try.ntmps15
  go_wp2_with fail
  refine (sum_any s _ hs).mono ?_
  rintro e w' ⟨rfl, hb⟩
  generalize hcc : crcN s.data.toList = c at *
  have HW := Lib.hid (hw c rfl)
  have HB := Lib.hid hb
  clear hb hw hcc
  go_wp2_with fail
  go_ret
  exact ⟨by rw [← HW.out]; rfl, HB.out⟩

def ChkRel (n : Nat) (L : List Int) (i : Value) : Prop := ∃ k : Nat, k ≤ n ∧ i = .int .i64 k ∧ chkGo (L.take k) (L.drop k) = chkGo [] L

set_option maxHeartbeats 800000 in
theorem check_any (v : Value) (L : List Int) (w : World) (h : RInts w v L) :
    Calls Try.prog 30 #[v] w fun e w' => e = .returned (.int .i64 (chk L)) ∧ w' = w := by
  have H := Lib.hid h
  obtain ⟨A, c, rfl, h2, h3, h4, h5⟩ := h
  have H5 := Lib.hid h5
  clear h5 h4
  by_cases h8 : 8 < L.length
  · have hr : chk L = 2 := by simp [chk, h8]
    have HR := Lib.hid hr
    clear hr
    have h8' : (8 : Int) < (L.length : Int) := by omega
    go_enter Try.func30, Try.ntmps30
    go_wp2_with fail
    go_ret
    exact ⟨by rw [HR.out]; rfl, rfl⟩
  · have h8' : (L.length : Int) ≤ 8 := by omega
    obtain ⟨R, hR⟩ : ∃ R, chkGo [] L = R := ⟨_, rfl⟩
    have hr : chk L = if R ≠ 0 then R else if L.length = 0 then 4 else 0 := by simp [chk, h8, hR]
    have HR := Lib.hid hR
    have HC := Lib.hid hr
    clear hr hR
    go_enter Try.func30, Try.ntmps30
    go_wp2_with fail
    go_loop [10] (fun i => ChkRel L.length L i) (fun i => L.length - (intOf i).toNat)
    case atStart => exact ⟨0, by omega, rfl, by simp⟩
    case round =>
      obtain ⟨k, hk, rfl, hgo⟩ := hrel
      by_cases hlt : k < L.length
      · obtain ⟨m, hm⟩ : ∃ m, L[k]? = some m := ⟨L[k], by simp [hlt]⟩
        obtain ⟨b, off, rfl, _, hc⟩ := H5.out (by omega)
        have hcell := hc k m hm
        have hdrop : L.drop k = m :: L.drop (k + 1) := by
          rw [List.drop_eq_getElem_cons hlt]
          rw [List.getElem?_eq_getElem hlt] at hm
          injection hm with hm
          rw [hm]
        rw [hdrop, chkGo] at hgo
        have htake : L.take (k + 1) = L.take k ++ [m] := by rw [List.take_add_one, hm]; rfl
        have HT := Lib.hid htake
        have HM := Lib.hid hm
        clear hc hdrop htake hm
        by_cases hb : m < 0 ∨ 65535 < m
        · rw [if_pos hb, HR.out] at hgo
          have HG := Lib.hid hgo
          clear hgo
          rcases hb with hb | hb
          · have d1 : decide (m < 0) = true := by simpa using hb
            go_wp2_with fail
            go_ret
            exact ⟨by rw [HC.out, ← HG.out]; rfl, rfl⟩
          · have d1 : decide (m < 0) = false := by simp; omega
            have d2 : decide (65535 < m) = true := by simpa using hb
            go_wp2_with fail
            go_ret
            exact ⟨by rw [HC.out, ← HG.out]; rfl, rfl⟩
        · rw [if_neg hb] at hgo
          have d1 : decide (m < 0) = false := by simp; omega
          have d2 : decide (65535 < m) = false := by simp; omega
          have hlk : ((L.take k).length : Int) = (k : Int) := by simp; omega
          have HRT := Lib.hid (H.out.take (k := k) (by omega))
          by_cases hmem : m ∈ L.take k
          · rw [if_pos hmem, HR.out] at hgo
            have HG := Lib.hid hgo
            have HME := Lib.hid hmem
            clear hgo hlk hmem
            go_wp2_with fail
            refine (contains_any _ m (L.take k) _ HRT.out).mono ?_
            rw [show decide (m ∈ L.take k) = true from by simpa using HME.out]
            rintro e w' ⟨rfl, rfl⟩
            go_wp2_with fail
            go_ret
            exact ⟨by rw [HC.out, ← HG.out]; rfl, rfl⟩
          · rw [if_neg hmem] at hgo
            have HG := Lib.hid hgo
            have HME := Lib.hid hmem
            clear hgo hlk hmem
            go_wp2_with fail
            refine (contains_any _ m (L.take k) _ HRT.out).mono ?_
            rw [show decide (m ∈ L.take k) = false from by simpa using HME.out]
            rintro e w' ⟨rfl, rfl⟩
            go_wp2_with fail
            go_round
            case rel => exact ⟨k + 1, by omega, by go_num, by rw [HT.out]; exact HG.out⟩
            case measure => simp [intOf]; omega
      · obtain rfl : k = L.length := by omega
        rw [List.drop_length, HR.out, chkGo] at hgo
        have HG := Lib.hid hgo
        clear hgo
        by_cases h0 : L.length = 0
        · have hl0 : ((L.length : Int) == 0) = true := by rw [beq_iff_eq]; omega
          have HL0 := Lib.hid h0
          clear h0
          go_wp2_with fail
          go_ret
          exact ⟨by rw [HC.out, ← HG.out, if_neg (by simp), if_pos HL0.out]; rfl, rfl⟩
        · have hl0 : ((L.length : Int) == 0) = false := by rw [beq_eq_false_iff_ne]; omega
          have HL0 := Lib.hid h0
          clear h0
          go_wp2_with fail
          go_ret
          exact ⟨by rw [HC.out, ← HG.out, if_neg (by simp), if_neg HL0.out]; rfl, rfl⟩

def ChoRel (w : World) (f : Int → Int) (r : List Int) (R : Int) (b i : Value) (wr : World) : Prop :=
  ∃ (k : Nat) (x : Int), k ≤ r.length ∧ i = .int .i64 k ∧ b = .int .i64 x ∧ 0 ≤ x ∧ x ≤ 65535 ∧ best f x (r.drop k) = R ∧ Below w.heap.size w wr

set_option maxHeartbeats 1600000 in
theorem choose_any (v : Value) (L : List Int) (s : ByteArray) (w : World) (h : RInts w v L) (hs : s.size ≤ 9223372036854775807) (hp : 0 < L.length) (hl : ∀ x ∈ L, 0 ≤ x ∧ x ≤ 65535) :
    Calls Try.prog 31 #[v, .string s] w fun e w' => e = .returned (.int .i64 (pickM (wt s) L)) ∧ Below w.heap.size w w' := by
  have H := Lib.hid h
  have HL := Lib.hid hl
  obtain ⟨A, c, rfl, h2, h3, h4, h5⟩ := h
  obtain ⟨b, off, rfl, hblt, hc⟩ := h5 hp
  obtain ⟨x0, hx0⟩ : ∃ x, L[0]? = some x := ⟨L[0], by simp [hp]⟩
  have hcell : w.cell? ⟨b, off, none⟩ = some (.int .i64 x0) := hc 0 x0 hx0
  have hhead : L.headD 0 = x0 := by cases L with | nil => simp at hp | cons y r => simpa using hx0
  have hx0b := hl x0 (List.mem_of_getElem? hx0)
  obtain ⟨r, hr⟩ : ∃ r, L.drop 1 = r := ⟨_, rfl⟩
  have hrl : r.length = L.length - 1 := by rw [← hr]; simp
  have hrlt : r.length + 1 ≤ L.length := by omega
  have hR : pickM (wt s) L = best (wt s) x0 r := by rw [pickM, hhead, hr]
  obtain ⟨R, hRR⟩ : ∃ R, best (wt s) x0 r = R := ⟨_, rfl⟩
  have HR := Lib.hid (hR.trans hRR)
  have HRR := Lib.hid hRR
  have hmem : ∀ x ∈ r, 0 ≤ x ∧ x ≤ 65535 := fun x hx => hl x (List.mem_of_mem_drop (by rw [hr]; exact hx))
  have HMEM := Lib.hid hmem
  have hd := H.out.drop (k := 1) (by omega)
  have hrun : ∀ W : World, (Instr.slice 22 (.slice (some ⟨b, off, none⟩) L.length c) (some (.int .i64 1)) none none).run Try.prog W = .ok (.slice (if c = 1 then some ⟨b, off, none⟩ else (some (⟨b, off, none⟩ : Addr)).map (·.add (1 * 1))) (L.length - 1) (c - 1)) W := by
    have hinfo : (Try.prog.info? 3).map (fun i => (i.zero, i.size, i.bytes)) = some (some (.int .i64 0), 1, 8) := by kernel_rfl
    obtain ⟨i3, hi3, _, hz31, _⟩ := info_parts hinfo
    exact cut_from 22 3 .i64 Try.underlying22 hi3 1 hz31 (some ⟨b, off, none⟩) L.length c 1 (by omega) (by omega)
  obtain ⟨B, hB⟩ : ∃ B, (if c = 1 then some (⟨b, off, none⟩ : Addr) else (some (⟨b, off, none⟩ : Addr)).map (·.add (1 * 1))) = B := ⟨_, rfl⟩
  rw [hB, ← hrl] at hrun hd
  rw [hr] at hd
  have HD := Lib.hid hd
  clear hB hd hr hR hRR hhead hmem hc h5 h4 hx0 hl hrl
  go_enter Try.func31, Try.ntmps31
  go_wp2_with fail
  clear hrun hcell
  go_loopw [5, 16] (fun bb i wr => ChoRel w (wt s) r R bb i wr) (fun _ i _ => r.length - (intOf i).toNat)
  case atStart => exact ⟨0, x0, by omega, rfl, rfl, hx0b.1, hx0b.2, by simpa using HRR.out, Below.refl _ _⟩
  case round =>
    obtain ⟨k, x, hk, rfl, rfl, hx1, hx2, hbest, hbel⟩ := hrel
    have HBE := Lib.hid hbel
    clear hbel
    by_cases hlt : k < r.length
    · obtain ⟨m, hm⟩ : ∃ m, r[k]? = some m := ⟨r[k], by simp [hlt]⟩
      obtain ⟨A2, c2, he, _, _, _, h6⟩ := HD.out
      injection he with he1 he2 he3
      subst he1
      subst he3
      obtain ⟨b2, o2, rfl, hlt2, hc2⟩ := h6 (by omega)
      have hcell : wr.cell? ⟨b2, o2 + k, none⟩ = some (.int .i64 m) := (HBE.out.cell (p := ⟨b2, o2 + k, none⟩) hlt2).trans (hc2 k m hm)
      obtain ⟨m1, m2⟩ := HMEM.out m (List.mem_of_getElem? hm)
      have hdrop : r.drop k = m :: r.drop (k + 1) := by
        rw [List.drop_eq_getElem_cons hlt]
        rw [List.getElem?_eq_getElem hlt] at hm
        injection hm with hm
        rw [hm]
      rw [hdrop, best] at hbest
      have HBT := Lib.hid hbest
      clear hc2 h6 hm hdrop hbest
      go_wp2_with fail
      refine (weight_any m s _ hs m1 m2).mono ?_
      rintro e w2 ⟨rfl, hb2⟩
      have HB2 := Lib.hid hb2
      clear hb2
      go_wp2_with fail
      refine (weight_any x s _ hs hx1 hx2).mono ?_
      rintro e w3 ⟨rfl, hb3⟩
      have HB3 := Lib.hid hb3
      have HBB := Lib.hid ((HBE.out.trans (HB2.out.mono HBE.out.size)).trans (hb3.mono (Nat.le_trans HBE.out.size HB2.out.size)))
      clear hb3 hcell
      generalize hA : wt s m = A at *
      generalize hBv : wt s x = Bx at *
      have HA := Lib.hid hA
      have HBX := Lib.hid hBv
      clear hA hBv
      by_cases hp1 : Bx < A
      · have d1 : decide (Bx < A) = true := by simpa using hp1
        have hpr : Pref (wt s) m x := by unfold Pref; rw [HA.out, HBX.out]; exact .inl hp1
        have HPR := Lib.hid hpr
        clear hpr
        go_wp2_with fail
        refine ⟨?_, by simp [intOf]; omega⟩
        first | refine ⟨k + 1, m, ?_, ?_, ?_, ?_, ?_, ?_, ?_⟩ | ((repeat apply Exists.intro); refine ⟨⟨k + 1, m, ?_, ?_, ?_, ?_, ?_, ?_, ?_⟩, rfl⟩)
        · omega
        · go_num
        · rfl
        · omega
        · omega
        · have := HBT.out; rw [if_pos HPR.out] at this; exact this
        · exact HBB.out
      · have d1 : decide (Bx < A) = false := by simpa using hp1
        by_cases hp2 : A = Bx
        · have d2 : (A == Bx) = true := by rw [beq_iff_eq]; exact hp2
          by_cases hp3 : m < x
          · have d3 : decide (m < x) = true := by simpa using hp3
            have hpr : Pref (wt s) m x := by unfold Pref; rw [HA.out, HBX.out]; exact .inr ⟨hp2, hp3⟩
            have HPR := Lib.hid hpr
            clear hpr hp2
            go_wp2_with fail
            refine ⟨?_, by simp [intOf]; omega⟩
            first | refine ⟨k + 1, m, ?_, ?_, ?_, ?_, ?_, ?_, ?_⟩ | ((repeat apply Exists.intro); refine ⟨⟨k + 1, m, ?_, ?_, ?_, ?_, ?_, ?_, ?_⟩, rfl⟩)
            · omega
            · go_num
            · rfl
            · omega
            · omega
            · have := HBT.out; rw [if_pos HPR.out] at this; exact this
            · exact HBB.out
          · have d3 : decide (m < x) = false := by simpa using hp3
            have hpr : ¬ Pref (wt s) m x := by unfold Pref; rw [HA.out, HBX.out]; omega
            have HPR := Lib.hid hpr
            clear hpr hp2
            go_wp2_with fail
            refine ⟨?_, by simp [intOf]; omega⟩
            first | refine ⟨k + 1, x, ?_, ?_, ?_, ?_, ?_, ?_, ?_⟩ | ((repeat apply Exists.intro); refine ⟨⟨k + 1, x, ?_, ?_, ?_, ?_, ?_, ?_, ?_⟩, rfl⟩)
            · omega
            · go_num
            · rfl
            · omega
            · omega
            · have := HBT.out; rw [if_neg HPR.out] at this; exact this
            · exact HBB.out
        · have d2 : (A == Bx) = false := by rw [beq_eq_false_iff_ne]; exact hp2
          have hpr : ¬ Pref (wt s) m x := by unfold Pref; rw [HA.out, HBX.out]; omega
          have HPR := Lib.hid hpr
          clear hpr
          go_wp2_with fail
          refine ⟨?_, by simp [intOf]; omega⟩
          first | refine ⟨k + 1, x, ?_, ?_, ?_, ?_, ?_, ?_, ?_⟩ | ((repeat apply Exists.intro); refine ⟨⟨k + 1, x, ?_, ?_, ?_, ?_, ?_, ?_, ?_⟩, rfl⟩)
          · omega
          · go_num
          · rfl
          · omega
          · omega
          · have := HBT.out; rw [if_neg HPR.out] at this; exact this
          · exact HBB.out
    · obtain rfl : k = r.length := by omega
      rw [List.drop_length, best] at hbest
      have HBT := Lib.hid hbest
      clear hbest
      go_wp2_with fail
      go_ret
      exact ⟨by rw [HR.out, ← HBT.out]; rfl, HBE.out⟩

/-- Choose: the code and the member. -/
def ChooseOut (w w' : World) (s : ByteArray) (L : List Int) (e : Ending) : Prop :=
  e = .returned (.tuple #[.int .i64 (if chk L = 0 then pickM (wt s) L else 0), .int .i64 (chk L)]) ∧ Below w.heap.size w w'
set_option maxHeartbeats 800000 in
theorem Choose_any (v : Value) (L : List Int) (s : ByteArray) (w : World) (h : RInts w v L) (hs : s.size ≤ 9223372036854775807) :
    Calls Try.prog 12 #[v, .string s] w fun e w' => ChooseOut w w' s L e := by
  have H := Lib.hid h
  obtain ⟨A, c, hv, _⟩ := h
  obtain ⟨C, hC⟩ : ∃ C, chk L = C := ⟨_, rfl⟩
  have HC := Lib.hid hC
  clear hC
  subst hv
  by_cases h0 : C = 0
  · subst h0
    have hch : (if chk L = 0 then pickM (wt s) L else 0) = pickM (wt s) L := if_pos HC.out
    have HCH := Lib.hid hch
    clear hch
    go_enter Try.func12, Try.ntmps12
    go_wp2_with fail
    refine (check_any _ L _ H.out).mono ?_
    rw [HC.out]
    rintro e w' ⟨rfl, rfl⟩
    go_wp2_with fail
    refine (choose_any _ L s _ H.out hs (chk_ok HC.out).2.1 (chk_ok HC.out).2.2.1).mono ?_
    rintro e w2 ⟨rfl, hb⟩
    have HB := Lib.hid hb
    clear hb
    go_wp2_with fail
    go_ret2
    exact ⟨by rw [HCH.out, HC.out]; rfl, HB.out⟩
  · have hch : (if chk L = 0 then pickM (wt s) L else 0) = 0 := if_neg (by rw [HC.out]; exact h0)
    have HCH := Lib.hid hch
    have t1 : (C != 0) = true := by simpa using h0
    clear hch
    go_enter Try.func12, Try.ntmps12
    go_wp2_with fail
    refine (check_any _ L _ H.out).mono ?_
    rw [HC.out]
    rintro e w' ⟨rfl, rfl⟩
    go_wp2_with fail
    go_ret2
    exact ⟨by rw [HCH.out, HC.out]; rfl, Below.refl _ _⟩
end Go.Proofs.Ytlhpfhicggdnpaa.Lag
