/-
  slices.Clone over strings; slide's Ack and In: contracts.
-/
import Derived.Test.YtlhpfhicggdnpaaSlide
namespace Go.Proofs.Ytlhpfhicggdnpaa.Slide
open Go.RowKit Go.Proofs.YtlhpfhicggdnpaaW.PrintWords Go.Proofs.Ytlhpfhicggdnpaa.Xm Go.Proofs.Ytlhpfhicggdnpaa.CrcN Go.Proofs.Ytlhpfhicggdnpaa.Crc

attribute [local go_sem] max2_ints min2_ints max_of2 min_of2

def SCloneOut (w w' : World) (L : List ByteArray) (e : Ending) : Prop := ∃ v, e = .returned v ∧ QRow w' w.heap.size 9 1 v L.length (strs L) ∧ Below w.heap.size w w'
theorem strs_len (L : List ByteArray) : (strs L).length = L.length := by simp [strs]

set_option maxHeartbeats 800000 in
theorem sclone_any (v : Value) (L : List ByteArray) (w : World) (h : QRow w 0 9 1 v L.length (strs L)) (hl : L.length ≤ 1000000) :
    Calls Try.prog 36 #[v] w fun e w' => SCloneOut w w' L e := by
  by_cases hp : 0 < L.length
  · obtain ⟨bl, off, c, rfl, _, hbl, hnc, hcm, hcells, _, cur, hcur⟩ := q_form h hp
    have HC := Lib.hid hcells
    clear hcells h
    have hne : ∀ W : World, (binOp .eql 23 (.slice (some ⟨bl, off, none⟩) L.length c) (.slice none 0 0)).run Try.prog W = .ok (.bool false) W := fun W =>
      Lib.run_eql_slice_nil (P := Try.prog) W 23 9 (some ⟨bl, off, none⟩) L.length c 0 0 Try.underlying23
    obtain ⟨i0, hi, hz0, hz1, hz2⟩ := info_parts info_str
    have HI := Lib.hid hi
    have HZ0 := Lib.hid hz0
    have HZ1 := Lib.hid hz1
    have HZ2 := Lib.hid hz2
    clear hi hz0 hz1 hz2
    go_enter Try.func36, Try.ntmps36
    go_wp2_with (at_builtin; go_loud (refine wpList_append_grows _ rfl (.tmp 5) (.tmp 6) 23 rfl 9 i0 (.string ⟨#[]⟩) 1 16 Try.underlying23 HI.out HZ0.out HZ1.out HZ2.out rfl (by decide) (some ⟨w.heap.size, 0, none⟩) 0 0 [] rfl (fun h => by cases h) rfl (fun _ _ j u hu => by simp at hu) ⟨bl, off, none⟩ L.length c (strs L) rfl ?hl ?hc ?h1 (by omega) ?b1 ?b2 ?next))
    case hl => simp [strs]
    case hc =>
      intro j u hu
      have hj : j < L.length := by have := (List.getElem?_eq_some_iff.1 hu).1; simpa [strs] using this
      rw [add_at]
      refine pw_cell_below (below_alloc (Below.refl _ _) _) ?_
      rw [HC.out j (by omega)]
      exact hu
    case h1 => intro u hu; simp [strs] at hu; obtain ⟨x, _, rfl⟩ := hu; rfl
    case b1 => unfold maxLen; omega
    case b2 => omega
    case next =>
      intro v2 w2 hown hg
      have HQ := Lib.hid (q_of_own hown)
      have HG := Lib.hid hg
      clear hown hg
      go_wp2_with fail
      go_ret
      refine ⟨v2, rfl, ?_, ?_⟩
      · have := q_lower HQ.out (show w.heap.size ≤ _ by simp)
        simpa using this
      · exact (below_alloc (Below.refl _ _) _).grown HG.out (by simp) (fun k hk => by cases hk)
  · obtain rfl : L = [] := List.eq_nil_of_length_eq_zero (by omega)
    obtain ⟨A, c, rfl, hc⟩ := q_slice h
    have hn : A = none → c = 0 := by
      intro hA
      rcases h.2 with ⟨_, A', he, _⟩ | ⟨g, off, cap, cur, he, _⟩
      · injection he
      · rw [hA] at he; injection he with he; cases he
    clear h hl hp
    simp only [List.length_nil] at *
    cases A with
    | none =>
      obtain rfl := hn rfl
      have hne : ∀ W : World, (binOp .eql 23 (.slice none 0 0) (.slice none 0 0)).run Try.prog W = .ok (.bool true) W := fun W =>
        Lib.run_eql_slice_nil (P := Try.prog) W 23 9 none 0 0 0 0 Try.underlying23
      go_enter Try.func36, Try.ntmps36
      go_wp2_with fail
      go_ret
      exact ⟨.slice none 0 0, rfl, by simpa [strs] using q_nil _ _ _ _, Below.refl _ _⟩
    | some ad =>
      have hne : ∀ W : World, (binOp .eql 23 (.slice (some ad) 0 c) (.slice none 0 0)).run Try.prog W = .ok (.bool false) W := fun W =>
        Lib.run_eql_slice_nil (P := Try.prog) W 23 9 (some ad) 0 c 0 0 Try.underlying23
      obtain ⟨i0, hi, _, _, _⟩ := info_parts info_str
      have HI := Lib.hid hi
      clear hi
      go_enter Try.func36, Try.ntmps36
      go_wp2_with (at_builtin; refine Lag.wpList_append_zero _ rfl (.tmp 5) (.tmp 6) 23 rfl 9 i0 Try.underlying23 HI.out (some ⟨w.heap.size, 0, none⟩) 0 0 rfl (Nat.le_refl _) (some ad) c rfl ?_)
      go_ret
      refine ⟨_, rfl, ?_, below_alloc (Below.refl _ _) _⟩
      exact ⟨by simp [strs], .inl ⟨rfl, _, rfl, fun a ha => by injection ha with ha; subst ha; exact ⟨Nat.le_refl _, _, heap_alloc_new w _⟩⟩⟩

set_option maxHeartbeats 800000 in
theorem ack_sum (g mod base due : Nat) (L : List ByteArray) (lv : Value) (w : World) (h : IsSnd w g mod base L due lv) (t : ByteArray) (ht : t.size ≤ 10000) (h4 : 4 ≤ t.size) (hbad : sealB (front t) ≠ t) :
    Calls Try.prog 22 #[.pointer (some ⟨g, 0, none⟩), .string t] w fun e w' => e = .returned (.int .i64 8) ∧ Below w.heap.size w w' := by
  go_enter Try.func22, Try.ntmps22
  go_wp2_with fail
  refine (open_bad t w (by omega) h4 hbad).mono ?_
  rintro e w1 ⟨rfl, hb1⟩
  have HB1 := Lib.hid hb1
  clear hb1
  go_wp2_with fail
  go_ret
  exact ⟨rfl, HB1.out⟩

theorem head0 (a b : Nat) (ha : a < 256) : ∀ h, ((headB a b)[0]'h).toNat = a := fun _ => by show (UInt8.ofNat a).toNat = a; simp; omega
theorem head1 (a b : Nat) (hb : b < 256) : ∀ h, ((headB a b)[1]'h).toNat = b := fun _ => by show (UInt8.ofNat b).toNat = b; simp; omega

set_option maxHeartbeats 800000 in
theorem ack_old (g mod base due : Nat) (L : List ByteArray) (lv : Value) (w : World) (h : IsSnd w g mod base L due lv) (m : Nat) (hm : m < mod) (hmod : mod ≤ 16) (hbm : base < mod) (n : Nat) (hn : n = (m + mod - base) % mod) (ho : n = 0 ∨ L.length < n) :
    Calls Try.prog 22 #[.pointer (some ⟨g, 0, none⟩), .string (sealB (headB 65 m))] w fun e w' => e = .returned (.int .i64 13) ∧ Below w.heap.size w w' := by
  obtain ⟨hb, hq⟩ := h
  obtain ⟨A, c, rfl, hc⟩ := q_slice hq
  have HB := Lib.hid hb
  have HQ := Lib.hid hq
  clear hb hq
  have hhs : (headB 65 m).size = 2 := rfl
  go_enter Try.func22, Try.ntmps22
  go_wp2_with fail
  refine (open_of _ w (by rw [sealB_size]; omega) (headB 65 m) rfl).mono ?_
  rintro e w1 ⟨rfl, hb1⟩
  have HB1 := Lib.hid hb1
  clear hb1
  have c0 : w1.cell? ⟨g, 0, none⟩ = some (.int .i64 mod) := (Blk.cell (blk_below HB.out HB1.out) 0).trans rfl
  have c1 : w1.cell? ⟨g, 1, none⟩ = some (.int .i64 base) := (Blk.cell (blk_below HB.out HB1.out) 1).trans rfl
  have c2 : w1.cell? ⟨g, 2, none⟩ = some (.slice A L.length c) := (Blk.cell (blk_below HB.out HB1.out) 2).trans rfl
  have hx0 := head0 65 m (by omega)
  have hx1 := head1 65 m (by omega)
  have hwm : IntKind.i64.wrap (m : Int) = (m : Int) := IntWalk.i64_in _ (by omega)
  have hnl : n < mod := by rw [hn]; exact Nat.mod_lt _ (by omega)
  have hw1 : IntKind.i64.wrap ((m : Int) - (base : Int)) = (m : Int) - (base : Int) := IntWalk.i64_in _ (by omega)
  have hw2 : IntKind.i64.wrap ((m : Int) - (base : Int) + (mod : Int)) = (m : Int) - (base : Int) + (mod : Int) := IntWalk.i64_in _ (by omega)
  have hw3 : Int.tmod ((m : Int) - (base : Int) + (mod : Int)) (mod : Int) = (n : Int) := by
    rw [Int.tmod_eq_emod_of_nonneg (by omega), hn, show (m : Int) - (base : Int) + (mod : Int) = ((m + mod - base : Nat) : Int) by omega]; simp
  have hw4 : IntKind.i64.wrap (n : Int) = (n : Int) := IntWalk.i64_in _ (by omega)
  have hm0 : ((mod : Int) == 0) = false := by simp; omega
  have HN := Lib.hid hn
  clear hn
  have hdm : decide ((mod : Int) ≤ (m : Int)) = false := by simp; omega
  go_wp2_with fail
  go_quiet (fail)
  go_wp2_with fail
  go_quiet (fail)
  rcases ho with rfl | ho
  · have he : (((0 : Nat) : Int) == 0) = true := rfl
    go_wp2_with fail
    go_ret
    exact ⟨rfl, pw_below_drewN HB1.out _⟩
  · have he : ((n : Int) == 0) = false := by simp; omega
    have hd : decide ((L.length : Int) < (n : Int)) = true := by simp; omega
    go_wp2_with fail
    go_ret
    exact ⟨rfl, pw_below_drewN HB1.out _⟩

/-- An acknowledgement was taken. -/
def AckOut (w w' : World) (g mod base : Nat) (L : List ByteArray) (due : Nat) : Prop := ∃ lv', IsSnd w' g mod base L due lv' ∧ (∀ k, lv'.ownBlock = some k → w.heap.size ≤ k) ∧ Only (· = g) w w'
set_option maxHeartbeats 800000 in
theorem ack_ok (g mod base due : Nat) (L : List ByteArray) (lv : Value) (w : World) (h : IsSnd w g mod base L due lv) (m : Nat) (hm : m < mod) (hmod : mod ≤ 16) (hbm : base < mod) (n : Nat) (hn : n = (m + mod - base) % mod) (ho : 0 < n) (ho2 : n ≤ L.length) (hL : L.length < mod) (hdu : due ≤ L.length) :
    Calls Try.prog 22 #[.pointer (some ⟨g, 0, none⟩), .string (sealB (headB 65 m))] w fun e w' => e = .returned (.int .i64 0) ∧ AckOut w w' g mod m (L.drop n) (due - n) := by
  obtain ⟨hb, hq⟩ := h
  obtain ⟨A, c, rfl, hc⟩ := q_slice hq
  obtain ⟨i0, hi, hz0, hz1, hz2⟩ := info_parts info_str
  obtain ⟨AA, hAA⟩ : ∃ AA, AA = (if c = n then A else A.map (·.add (n * 1))) := ⟨_, rfl⟩
  have hcut : ∀ W : World, (Instr.slice 23 (.slice A L.length c) (some (.int .i64 (n : Int))) none none).run Try.prog W = .ok (.slice AA (L.length - n) (c - n)) W := by
    intro W
    have := cut_from 23 9 .i64 Try.underlying23 hi 1 hz1 A L.length c (n : Int) (by omega) (by omega) W
    rw [Int.toNat_natCast, ← hAA] at this
    exact this
  have hqd := q_drop (k := n) hq (by omega)
  rw [← hAA] at hqd
  have f1 := hb.frozen 1
  have f2 := hb.frozen 2
  have f3 := hb.frozen 3
  have HB := Lib.hid hb
  have HQ := Lib.hid hq
  have HQD := Lib.hid hqd
  clear hb hq hi hz0 hz1 hz2 hAA hqd
  have hhs : (headB 65 m).size = 2 := rfl
  go_enter Try.func22, Try.ntmps22
  go_wp2_with fail
  refine (open_of _ w (by rw [sealB_size]; omega) (headB 65 m) rfl).mono ?_
  rintro e w1 ⟨rfl, hb1⟩
  have HB1 := Lib.hid hb1
  clear hb1
  have c0 : w1.cell? ⟨g, 0, none⟩ = some (.int .i64 mod) := (Blk.cell (blk_below HB.out HB1.out) 0).trans rfl
  have c1 : w1.cell? ⟨g, 1, none⟩ = some (.int .i64 base) := (Blk.cell (blk_below HB.out HB1.out) 1).trans rfl
  have c2 : w1.cell? ⟨g, 2, none⟩ = some (.slice A L.length c) := (Blk.cell (blk_below HB.out HB1.out) 2).trans rfl
  have hx0 := head0 65 m (by omega)
  have hx1 := head1 65 m (by omega)
  have hwm : IntKind.i64.wrap (m : Int) = (m : Int) := IntWalk.i64_in _ (by omega)
  have hnl : n < mod := by rw [hn]; exact Nat.mod_lt _ (by omega)
  have hw1 : IntKind.i64.wrap ((m : Int) - (base : Int)) = (m : Int) - (base : Int) := IntWalk.i64_in _ (by omega)
  have hw2 : IntKind.i64.wrap ((m : Int) - (base : Int) + (mod : Int)) = (m : Int) - (base : Int) + (mod : Int) := IntWalk.i64_in _ (by omega)
  have hw3 : Int.tmod ((m : Int) - (base : Int) + (mod : Int)) (mod : Int) = (n : Int) := by
    rw [Int.tmod_eq_emod_of_nonneg (by omega), hn, show (m : Int) - (base : Int) + (mod : Int) = ((m + mod - base : Nat) : Int) by omega]; simp
  have hw4 : IntKind.i64.wrap (n : Int) = (n : Int) := IntWalk.i64_in _ (by omega)
  have hm0 : ((mod : Int) == 0) = false := by simp; omega
  have HN := Lib.hid hn
  clear hn
  have hdm : decide ((mod : Int) ≤ (m : Int)) = false := by simp; omega
  go_wp2_with fail
  go_quiet (fail)
  generalize nq = nq1 at *
  go_wp2_with fail
  go_quiet (fail)
  have he : ((n : Int) == 0) = false := by simp; omega
  have hd : decide ((L.length : Int) < (n : Int)) = false := by simp; omega
  go_wp2_with fail
  have hl2 : (L.drop n).length = L.length - n := List.length_drop
  have hb1 := pw_below_drewN HB1.out (nq1 + nq)
  have hcl := sclone_any (.slice AA (L.length - n) (c - n)) (L.drop n) (w1.drewN (nq1 + nq)) (by
    rw [hl2]
    have := q_below HQD.out hb1
    simpa [strs] using this) (by omega)
  refine hcl.mono ?_
  rintro e w2 ⟨v2, rfl, hq2, hb2⟩
  obtain ⟨A2, cc2, rfl, _⟩ := q_slice hq2
  have b2 : Below w.heap.size w w2 := hb1.trans (hb2.mono (by have := hb1.size; simpa using this))
  have HQ2 := Lib.hid hq2
  have HBB2 := Lib.hid (blk_below HB.out b2)
  have HB2 := Lib.hid b2
  clear hcl hq2 hb1 hb2 b2 hcut c0 c1 c2 f1 f2 f3
  have d1 : w2.cell? ⟨g, 1, none⟩ = some (.int .i64 base) := (Blk.cell HBB2.out 1).trans rfl
  have d2 : w2.cell? ⟨g, 2, none⟩ = some (.slice A L.length c) := (Blk.cell HBB2.out 2).trans rfl
  have d3 : w2.cell? ⟨g, 3, none⟩ = some (.int .i64 due) := (Blk.cell HBB2.out 3).trans rfl
  have g1 := Blk.frozen HBB2.out 1
  have g2 := Blk.frozen HBB2.out 2
  have g3 := Blk.frozen HBB2.out 3
  have hwd : IntKind.i64.wrap ((due : Int) - (n : Int)) = (due : Int) - (n : Int) := IntWalk.i64_in _ (by omega)
  have hfin : ∀ D : Int, D = ((due - n : Nat) : Int) → AckOut w (((w2.setCell ⟨g, 2, none⟩ (.slice A2 (L.length - n) cc2)).setCell ⟨g, 1, none⟩ (.int .i64 (m : Int))).setCell ⟨g, 3, none⟩ (.int .i64 D)) g mod m (L.drop n) (due - n) := by
    rintro D rfl
    have hne : ∀ k, (Value.slice A2 (L.length - n) cc2).ownBlock = some k → k ≠ g := fun k hk => q_ne_blk HQ2.out HBB2.out (by decide) k (by rw [hl2]; exact hk)
    have k1 := ((HBB2.out.set 2 (.slice A2 (L.length - n) cc2)).set 1 (.int .i64 (m : Int))).set 3 (.int .i64 ((due - n : Nat) : Int))
    have hq := HQ2.out
    rw [hl2] at hq
    refine ⟨.slice A2 (L.length - n) cc2, ⟨k1, ?_⟩, fun k hk => ?_, (((Only.of_below HB2.out).set1 2 _).set1 1 _).set1 3 _⟩
    · rw [hl2]
      exact q_lower (q_far (q_far (q_far hq (p := ⟨g, 2, none⟩) hne _) (p := ⟨g, 1, none⟩) hne _) (p := ⟨g, 3, none⟩) hne _) (Nat.zero_le _)
    · have := (q_typed hq k hk).1
      have h2 := HB1.out.size
      simp at this
      omega
  have HF := Lib.hid hfin
  clear hfin
  go_wp2_with fail
  all_goals (go_ret; exact ⟨rfl, HF.out _ (by omega)⟩)
end Go.Proofs.Ytlhpfhicggdnpaa.Slide
