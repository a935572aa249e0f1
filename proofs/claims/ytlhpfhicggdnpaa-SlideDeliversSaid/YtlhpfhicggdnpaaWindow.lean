/-
  SlideWindow: the walk.
-/
import Derived.Test.YtlhpfhicggdnpaaSlideC
import Derived.Test.YtlhpfhicggdnpaaWithin
namespace Go.Proofs.Ytlhpfhicggdnpaa.Slide
open Go.RowKit Go.Proofs.YtlhpfhicggdnpaaW.PrintWords Go.Proofs.Ytlhpfhicggdnpaa.Xm Go.Proofs.Ytlhpfhicggdnpaa.CrcN Go.Proofs.Ytlhpfhicggdnpaa.Crc Go.Proofs.Ytlhpfhicggdnpaa.Within

attribute [local go_sem] max2_ints min2_ints max_of2 min_of2

theorem below_only {B : Nat} {S : Nat → Prop} {w w1 w2 : World} (h : Below B w w1) (o : Only S w1 w2) (hs : ∀ k, k < B → ¬ S k) (hB : B ≤ w1.heap.size) : Below B w w2 :=
  ⟨o.os.trans h.os, o.tape.trans h.tape, o.output.trans h.output, Nat.le_trans h.size o.size, fun k hk => (o.block k (Nat.lt_of_lt_of_le hk hB) (hs k hk)).trans (h.block k hk)⟩
/-- A sender that the call has made. -/
def SndAt (w0 w : World) (g mod base : Nat) (L : List ByteArray) (due : Nat) : Prop :=
  ∃ lv, IsSnd w g mod base L due lv ∧ (∀ k, lv.ownBlock = some k → w0.heap.size ≤ k) ∧ Below w0.heap.size w0 w ∧ w0.heap.size ≤ g
theorem SndAt.below {w0 w w' : World} {g mod base due : Nat} {L : List ByteArray} (h : SndAt w0 w g mod base L due) (b : Below w.heap.size w w') : SndAt w0 w' g mod base L due := by
  obtain ⟨lv, h1, h2, h3, h4⟩ := h
  exact ⟨lv, snd_below h1 b, h2, h3.trans (b.mono h3.size), h4⟩
theorem SndAt.drewN {w0 w : World} {g mod base due : Nat} {L : List ByteArray} (h : SndAt w0 w g mod base L due) (n : Nat) : SndAt w0 (w.drewN n) g mod base L due :=
  h.below (pw_below_drewN (Below.refl _ _) n)
theorem SndAt.alloc {w0 w : World} {g mod base due : Nat} {L : List ByteArray} (h : SndAt w0 w g mod base L due) (o : Obj) : SndAt w0 (w.alloc o) g mod base L due :=
  h.below (below_alloc (Below.refl _ _) o)
theorem SndAt.base {w0 w : World} {g mod base due : Nat} {L : List ByteArray} (h : SndAt w0 w g mod base L due) : Below w0.heap.size w0 w := h.choose_spec.2.2.1
theorem SndAt.new (w0 w : World) (b : Below w0.heap.size w0 w) (mod : Nat) : SndAt w0 (w.alloc (.cells #[.int .i64 mod, .int .i64 0, .slice none 0 0, .int .i64 0] 62)) w.heap.size mod 0 [] 0 :=
  ⟨.slice none 0 0, snd_new w mod, (fun k hk => by simp [Value.ownBlock] at hk), below_alloc b _, b.size⟩

theorem at_put {w0 : World} {g mod base due : Nat} {L : List ByteArray} {w : World} (h : SndAt w0 w g mod base L due) (s : ByteArray) (hs : s.size ≤ 1500) (hm : mod ≤ 16) (hL : L.length + 1 < mod) :
    Calls Try.prog 19 #[.pointer (some ⟨g, 0, none⟩), .string s] w fun e w' => e = .returned (.int .i64 0) ∧ SndAt w0 w' g mod base (L ++ [s]) due := by
  obtain ⟨lv, h1, h2, h3, h4⟩ := h
  refine (put_ok g mod base due L lv w h1 s hs hm hL).mono ?_
  rintro e w' ⟨rfl, lv', k1, k2, k3⟩
  refine ⟨rfl, lv', k1, fun k hk => ?_, below_only h3 k3 (fun k hk hor => hor.elim (fun e => by omega) (fun e => by have := h2 k e.symm; omega)) h3.size, h4⟩
  rcases k2 with e | ⟨b, e, hb⟩
  · exact h2 k (e ▸ hk)
  · rw [e] at hk; injection hk with hk; subst hk; exact Nat.le_trans h3.size hb
theorem at_busy {w0 : World} {g mod base due : Nat} {L : List ByteArray} {w : World} (h : SndAt w0 w g mod base L due) (s : ByteArray) (hs : s.size ≤ 1500) (hm : mod ≤ 16) (hL : L.length + 1 = mod) :
    Calls Try.prog 19 #[.pointer (some ⟨g, 0, none⟩), .string s] w fun e w' => e = .returned (.int .i64 15) ∧ SndAt w0 w' g mod base L due := by
  have h' := h
  obtain ⟨lv, h1, h2, h3, h4⟩ := h
  refine (put_busy g mod base due L lv w h1 s hs hm hL).mono ?_
  rintro e w' ⟨rfl, n, rfl⟩
  exact ⟨rfl, h'.drewN n⟩
theorem at_left {w0 : World} {g mod base due : Nat} {L : List ByteArray} {w : World} (h : SndAt w0 w g mod base L due) :
    Calls Try.prog 20 #[.pointer (some ⟨g, 0, none⟩)] w fun e w' => e = .returned (.int .i64 L.length) ∧ w = w' := by
  obtain ⟨lv, h1, h2, h3, h4⟩ := h
  exact left_any g mod base due L lv w h1
def AtOut (w0 w w' : World) (g mod base : Nat) (L : List ByteArray) (due : Nat) (e : Ending) : Prop :=
  ∃ A c, e = .returned (.slice A (L.length - due) c) ∧ QRow w' w.heap.size 9 1 (.slice A (L.length - due) c) (L.length - due) (strs (outL mod base L due)) ∧ SndAt w0 w' g mod base L L.length
theorem at_out {w0 : World} {g mod base due : Nat} {L : List ByteArray} {w : World} (h : SndAt w0 w g mod base L due) (hm : 2 ≤ mod) (hm2 : mod ≤ 16) (hb : base < mod) (hL : L.length < mod) (hd : due ≤ L.length) (hs : ∀ x ∈ L, x.size ≤ 1500) :
    Calls Try.prog 21 #[.pointer (some ⟨g, 0, none⟩)] w fun e w' => AtOut w0 w w' g mod base L due e := by
  obtain ⟨lv, h1, h2, h3, h4⟩ := h
  refine (out_any g mod base due L lv w h1 hm hm2 hb hL hd hs).mono ?_
  rintro e w' ⟨v, rfl, k1, k2, k3⟩
  obtain ⟨A, c, rfl, _⟩ := q_slice k1
  exact ⟨A, c, rfl, k1, lv, k2, h2, below_only h3 k3 (fun k hk e => by subst e; omega) h3.size, h4⟩
theorem at_ack {w0 : World} {g mod base due : Nat} {L : List ByteArray} {w : World} (h : SndAt w0 w g mod base L due) (m : Nat) (hm : m < mod) (hmod : mod ≤ 16) (hbm : base < mod) (n : Nat) (hn : n = (m + mod - base) % mod) (ho : 0 < n) (ho2 : n ≤ L.length) (hL : L.length < mod) (hd : due ≤ L.length) :
    Calls Try.prog 22 #[.pointer (some ⟨g, 0, none⟩), .string (sealB (headB 65 m))] w fun e w' => e = .returned (.int .i64 0) ∧ SndAt w0 w' g mod m (L.drop n) (due - n) := by
  obtain ⟨lv, h1, h2, h3, h4⟩ := h
  refine (ack_ok g mod base due L lv w h1 m hm hmod hbm n hn ho ho2 hL hd).mono ?_
  rintro e w' ⟨rfl, lv', k1, k2, k3⟩
  exact ⟨rfl, lv', k1, fun k hk => Nat.le_trans h3.size (k2 k hk), below_only h3 k3 (fun k hk e => by subst e; omega) h3.size, h4⟩
theorem at_old {w0 : World} {g mod base due : Nat} {L : List ByteArray} {w : World} (h : SndAt w0 w g mod base L due) (m : Nat) (hm : m < mod) (hmod : mod ≤ 16) (hbm : base < mod) (n : Nat) (hn : n = (m + mod - base) % mod) (ho : n = 0 ∨ L.length < n) :
    Calls Try.prog 22 #[.pointer (some ⟨g, 0, none⟩), .string (sealB (headB 65 m))] w fun e w' => e = .returned (.int .i64 13) ∧ SndAt w0 w' g mod base L due ∧ Below w.heap.size w w' := by
  have h' := h
  obtain ⟨lv, h1, h2, h3, h4⟩ := h
  exact (ack_old g mod base due L lv w h1 m hm hmod hbm n hn ho).mono (fun e w' ⟨a, b⟩ => ⟨a, h'.below b, b⟩)

theorem one_conv (b : Nat) (hb : b < 256) (g : Nat) (W : World) (h0 : W.cell? ⟨g, 0, none⟩ = some (.int .u8 (b : Int))) :
    (convert 44 9 (.slice (some ⟨g, 0, none⟩) 1 1)).run Try.prog W = .ok (.string ⟨#[UInt8.ofNat b]⟩) W := by
  refine run_convert_bytes_back _ 44 9 5 ⟨g, 0, none⟩ 1 [UInt8.ofNat b] Try.underlying44 Try.underlying5 Try.underlying9 ?_
  intro j hj
  have hj0 : j = 0 := by have : j < 1 := hj; omega
  subst hj0
  rw [add_at, h0]
  simp
  omega

theorem mod_of (a : Int) : ∃ mod : Nat, 8 + 8 * wi a 2 = (mod : Int) ∧ (mod = 8 ∨ mod = 16) := by
  have := wi_bd a 2 (by omega)
  rcases (show wi a 2 = 0 ∨ wi a 2 = 1 by omega) with h | h
  · exact ⟨8, by rw [h]; rfl, .inl rfl⟩
  · exact ⟨16, by rw [h]; rfl, .inr rfl⟩

def PutsRel (w0 : World) (g mod base : Nat) (L : List ByteArray) (s : ByteArray) (due n : Nat) (i : Value) (wr : World) : Prop := ∃ k : Nat, k ≤ n ∧ i = .int .i64 k ∧ SndAt w0 wr g mod base (L ++ List.replicate k s) due

set_option maxHeartbeats 1600000 in
set_option maxRecDepth 100000 in
theorem slideWindow_walk (a b : Int) (w : World) :
    Calls Try.prog 5 #[.int .i64 a, .int .i64 b] w fun e w' => e = .returned (.bool true) ∧ Below w.heap.size w w' := by
  obtain ⟨mod, hmod, hor⟩ := mod_of a
  have hm2 : 8 ≤ mod ∧ mod ≤ 16 := by omega
  obtain ⟨many, hmany, hml, hmu⟩ : ∃ many : Nat, 1 + wi b ((mod : Int) - 1) = (many : Int) ∧ 1 ≤ many ∧ many < mod := by
    have := wi_bd b ((mod : Int) - 1) (by omega)
    exact ⟨(1 + wi b ((mod : Int) - 1)).toNat, by omega, by omega, by omega⟩
  have hwb := wi_bd a 2 (by omega)
  have hwb2 := wi_bd b ((mod : Int) - 1) (by omega)
  go_enter Try.func5, Try.ntmps5
  go_wp2_with fail
  refine (within_any a 2 _ (by omega) (by omega)).mono ?_
  rintro e w' ⟨rfl, rfl⟩
  go_wp2_with fail
  refine (within_any b ((mod : Int) - 1) _ (by omega) (by omega)).mono ?_
  rintro e w' ⟨rfl, rfl⟩
  go_wp2_with fail
  refine (slideWorks_any _).mono ?_
  rintro e w1 ⟨rfl, hb1⟩
  have HB1 := Lib.hid hb1
  clear hb1
  go_wp2_with fail
  refine (newSender_any mod _ hor).mono ?_
  rintro e w2 ⟨rfl, rfl⟩
  have HS := Lib.hid (SndAt.new w w1 HB1.out mod)
  generalize hw2 : w1.alloc _ = w2 at *
  clear hw2
  generalize w1.heap.size = g at *
  go_wp2_with fail
  go_loopw [25] (fun i wr => PutsRel w g mod 0 [] ⟨#[120]⟩ 0 (mod - 1) i wr) (fun i _ => (mod - 1) - (intOf i).toNat)
  case atStart => exact ⟨0, by omega, rfl, HS.out⟩
  case round =>
    obtain ⟨k, hk, rfl, hs⟩ := hrel
    have HS2 := Lib.hid hs
    clear hs
    by_cases hlt : k < mod - 1
    · have hd : decide ((k : Int) < (mod : Int) - 1) = true := by simp; omega
      go_wp2_with fail
      refine (at_put HS2.out ⟨#[120]⟩ (by decide) (by omega) (by simp; omega)).mono ?_
      rintro e w3 ⟨rfl, hs3⟩
      have HS3 := Lib.hid hs3
      clear hs3
      go_wp2_with fail
      refine ⟨?_, by simp [intOf]; omega⟩
      refine ⟨k + 1, by omega, by go_num, ?_⟩
      have := HS3.out
      rw [List.append_assoc, ← List.replicate_succ'] at this
      exact this
    · obtain rfl : k = mod - 1 := by omega
      have hd : decide (((mod - 1 : Nat) : Int) < (mod : Int) - 1) = false := by simp; omega
      have hL : ([] ++ List.replicate (mod - 1) (⟨#[120]⟩ : ByteArray)).length = mod - 1 := by simp
      have hLe : ∀ x ∈ ([] ++ List.replicate (mod - 1) (⟨#[120]⟩ : ByteArray)), x.size ≤ 1500 := fun x hx => by
        simp at hx; rw [hx.2]; decide
      generalize [] ++ List.replicate (mod - 1) (⟨#[120]⟩ : ByteArray) = L at *
      have HLE := Lib.hid hLe
      clear hLe
      have hne1 : ((L.length : Int) != (mod : Int) - 1) = false := by rw [hL]; simp; omega
      go_wp2_with fail
      refine (at_busy HS2.out ⟨#[120]⟩ (by decide) (by omega) (by omega)).mono ?_
      rintro e w3 ⟨rfl, hs3⟩
      have HS3 := Lib.hid hs3
      clear hs3
      go_wp2_with fail
      refine (at_left HS3.out).mono ?_
      rintro e w3' ⟨rfl, rfl⟩
      go_wp2_with fail
      refine (at_out HS3.out (by omega) (by omega) (by omega) (by omega) (by omega) HLE.out).mono ?_
      rintro e w4 ⟨A4, c4, rfl, -, hs4⟩
      have HS4 := Lib.hid hs4
      clear hs4
      have hcv := one_conv many (by omega) w4.heap.size (w4.alloc (.cells #[.int .u8 (many : Int)] 5)) (cell_new w4 _ rfl _ _ 0 _ rfl)
      have hcat : (⟨#[65]⟩ : ByteArray) ++ ⟨#[UInt8.ofNat many]⟩ = headB 65 many := by
        apply ByteArray.ext
        apply Array.toList_inj.1
        simp [headB]
      go_wp2_with fail
      refine (seal_any (headB 65 many) _ (by show 2 ≤ _; omega)).mono ?_
      rintro e w5 ⟨rfl, hb5⟩
      have HS5 := Lib.hid ((HS4.out.alloc (.cells #[.int .u8 (many : Int)] 5)).below hb5)
      clear hb5 hcv
      go_wp2_with fail
      have hnn : many = (many + mod - 0) % mod := by rw [Nat.sub_zero, Nat.add_mod_right, Nat.mod_eq_of_lt hmu]
      refine (at_ack HS5.out many hmu (by omega) (by omega) many hnn (by omega) (by omega) (by omega) (by omega)).mono ?_
      rintro e w6 ⟨rfl, hs6⟩
      obtain ⟨M, hMM⟩ : ∃ M, M = L.drop many := ⟨_, rfl⟩
      have hM : M.length = mod - 1 - many := by rw [hMM, List.length_drop, hL]
      have hMe : ∀ x ∈ M, x.size ≤ 1500 := fun x hx => HLE.out x (List.mem_of_mem_drop (hMM ▸ hx))
      rw [← hMM, show L.length - many = M.length by rw [hM, hL]] at hs6
      have HS6 := Lib.hid hs6
      have HME := Lib.hid hMe
      have hMi : (M.length : Int) = (mod : Int) - 1 - (many : Int) := by omega
      have hneM : ((M.length : Int) != (mod : Int) - 1 - (many : Int)) = false := by rw [hMi]; simp
      have hM1 : M.length + many + 1 = mod := by omega
      clear hs6 hMe hMM hnn hM hMi
      go_wp2_with fail
      refine (at_left HS6.out).mono ?_
      rintro e w6' ⟨rfl, rfl⟩
      go_wp2_with fail
      go_loopw [68] (fun i wr => PutsRel w g mod many M ⟨#[121]⟩ M.length many i wr) (fun i _ => many - (intOf i).toNat)
      case atStart => exact ⟨0, by omega, rfl, by simpa using HS6.out⟩
      case round =>
        obtain ⟨k2, hk2, rfl, hs7⟩ := hrel
        have HS7 := Lib.hid hs7
        clear hs7
        by_cases hlt2 : k2 < many
        · have hd2 : decide ((k2 : Int) < (many : Int)) = true := by simp; omega
          go_wp2_with fail
          refine (at_put HS7.out ⟨#[121]⟩ (by decide) (by omega) (by simp; omega)).mono ?_
          rintro e w8 ⟨rfl, hs8⟩
          have HS8 := Lib.hid hs8
          clear hs8
          go_wp2_with fail
          refine ⟨?_, by simp [intOf]; omega⟩
          refine ⟨k2 + 1, by omega, by go_num, ?_⟩
          have := HS8.out
          rw [List.append_assoc, ← List.replicate_succ'] at this
          exact this
        · obtain rfl : k2 = many := by omega
          have hd2 : decide ((k2 : Int) < (k2 : Int)) = false := by simp
          have hL2 : (M ++ List.replicate k2 (⟨#[121]⟩ : ByteArray)).length = M.length + k2 := by simp
          have hLe2 : ∀ x ∈ M ++ List.replicate k2 (⟨#[121]⟩ : ByteArray), x.size ≤ 1500 := fun x hx => by
            rw [List.mem_append, List.mem_replicate] at hx
            rcases hx with hx | hx
            · exact HME.out x hx
            · rw [hx.2]; decide
          generalize M ++ List.replicate k2 (⟨#[121]⟩ : ByteArray) = N at *
          have HLE2 := Lib.hid hLe2
          clear hLe2
          go_wp2_with fail
          refine (at_busy HS7.out ⟨#[121]⟩ (by decide) (by omega) (by omega)).mono ?_
          rintro e w8 ⟨rfl, hs8⟩
          have HS8 := Lib.hid hs8
          clear hs8
          go_wp2_with fail
          refine (at_out HS8.out (by omega) (by omega) (by omega) (by omega) (by omega) HLE2.out).mono ?_
          rintro e w9 ⟨A9, c9, rfl, -, hs9⟩
          have HS9 := Lib.hid hs9.base
          clear hs9
          have hfin : N.length - M.length = k2 := by omega
          go_wp2_with fail
          go_ret
          exact ⟨rfl, HS9.out⟩

theorem slideWindow_row (w : World) (a : Int) (_ : (Lit.int .i64 a).wf = true) (b : Int) (_ : (Lit.int .i64 b).wf = true) :
    Calls Try.prog 5 #[.int .i64 a, .int .i64 b] w fun e w' => e = .returned (.bool true) ∧ Below w.heap.size w w' := slideWindow_walk a b w
end Go.Proofs.Ytlhpfhicggdnpaa.Slide
