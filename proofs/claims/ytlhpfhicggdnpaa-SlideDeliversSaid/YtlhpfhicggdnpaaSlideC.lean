/-
  slide's Receiver.In: contracts; slideWorks.
-/
import Derived.Test.YtlhpfhicggdnpaaSlideB
namespace Go.Proofs.Ytlhpfhicggdnpaa.Slide
open Go.RowKit Go.Proofs.YtlhpfhicggdnpaaW.PrintWords Go.Proofs.Ytlhpfhicggdnpaa.Xm Go.Proofs.Ytlhpfhicggdnpaa.CrcN Go.Proofs.Ytlhpfhicggdnpaa.Crc

attribute [local go_sem] max2_ints min2_ints max_of2 min_of2

theorem results_tmp4 {fn : Func} {t u v x : Tmp} (h : fn.results = #[.tmp t, .tmp u, .tmp v, .tmp x]) (tmps : Array Value) (P : Program) (w : World) :
    (results fn tmps).run P w = .ok (.tuple #[tmps.getD t undef, tmps.getD u undef, tmps.getD v undef, tmps.getD x undef]) w := by
  simp [results, h]

set_option maxHeartbeats 800000 in
theorem in_sum (g : Nat) (w : World) (t : ByteArray) (ht : t.size ≤ 10000) (h4 : 4 ≤ t.size) (hbad : sealB (front t) ≠ t) :
    Calls Try.prog 25 #[.pointer (some ⟨g, 0, none⟩), .string t] w fun e w' => e = .returned (.tuple #[.string ⟨#[]⟩, .bool false, .string ⟨#[]⟩, .int .i64 8]) ∧ Below w.heap.size w w' := by
  go_enter Try.func25, Try.ntmps25
  go_wp2_with fail
  refine (open_bad t w (by omega) h4 hbad).mono ?_
  rintro e w1 ⟨rfl, hb1⟩
  have HB1 := Lib.hid hb1
  clear hb1
  go_wp2_with fail
  refine bodyPost_ret (results_tmp4 rfl _ _ _) rfl ?_
  exact ⟨rfl, HB1.out⟩

theorem app0 (a b : Nat) (s : ByteArray) (ha : a < 256) : ∀ h, ((headB a b ++ s)[0]'h).toNat = a := fun h => by
  rw [ByteArray.getElem_append_left (show 0 < (headB a b).size from Nat.zero_lt_succ 1)]
  exact head0 a b ha _
theorem app1 (a b : Nat) (s : ByteArray) (hb : b < 256) : ∀ h, ((headB a b ++ s)[1]'h).toNat = b := fun h => by
  rw [ByteArray.getElem_append_left (show 1 < (headB a b).size from Nat.lt_succ_self 1)]
  exact head1 a b hb _
theorem app_rest (a b : Nat) (s : ByteArray) : (headB a b ++ s).extract 2 (s.size + 2) = s := by
  apply ByteArray.ext
  apply Array.toList_inj.1
  rw [ByteArray.data_extract]
  simp [headB]
  exact List.take_of_length_le (by simp)

/-- A frame came in. -/
def InOut (w w' : World) (g mod next : Nat) : Prop := IsRcv w' g mod next ∧ Only (· = g) w w'
set_option maxHeartbeats 800000 in
theorem in_fresh (g mod next : Nat) (w : World) (h : IsRcv w g mod next) (hm : 2 ≤ mod) (hm2 : mod ≤ 16) (hn : next < mod) (s : ByteArray) (hs : s.size ≤ 1500) :
    Calls Try.prog 25 #[.pointer (some ⟨g, 0, none⟩), .string (sealB (headB 68 next ++ s))] w fun e w' => e = .returned (.tuple #[.string s, .bool true, .string (sealB (headB 65 ((next + 1) % mod))), .int .i64 0]) ∧ InOut w w' g mod ((next + 1) % mod) := by
  have HB := Lib.hid h
  clear h
  obtain ⟨r, hr⟩ : ∃ r : Nat, r = (next + 1) % mod := ⟨_, rfl⟩
  rw [← hr]
  have hrl : r < mod := by rw [hr]; exact Nat.mod_lt _ (by omega)
  have hw1 : IntKind.i64.wrap ((next : Int) + 1) = (next : Int) + 1 := IntWalk.i64_in _ (by omega)
  have hw2 : Int.tmod ((next : Int) + 1) (mod : Int) = (r : Int) := by rw [Int.tmod_eq_emod_of_nonneg (by omega), hr]; simp
  have hw3 : IntKind.i64.wrap (r : Int) = (r : Int) := IntWalk.i64_in _ (by omega)
  have hw4 : IntKind.u8.wrap (r : Int) = (r : Int) := by rw [IntKind.wrap_u8]; omega
  have hm0 : ((mod : Int) == 0) = false := by simp; omega
  have HR := Lib.hid hr
  clear hr
  have hxs : (headB 68 next ++ s).size = s.size + 2 := by rw [ByteArray.size_append]; show 2 + s.size = _; omega
  have hx0 := app0 68 next s (by omega)
  have hx1 := app1 68 next s (by omega)
  have hxr := app_rest 68 next s
  generalize hx : headB 68 next ++ s = x at *
  go_enter Try.func25, Try.ntmps25
  go_wp2_with fail
  refine (open_of _ w (by rw [sealB_size]; omega) x rfl).mono ?_
  rintro e w1 ⟨rfl, hb1⟩
  have HB1 := Lib.hid hb1
  clear hb1
  have c0 : w1.cell? ⟨g, 0, none⟩ = some (.int .i64 mod) := (Blk.cell (blk_below HB.out HB1.out) 0).trans rfl
  have c1 : w1.cell? ⟨g, 1, none⟩ = some (.int .i64 next) := (Blk.cell (blk_below HB.out HB1.out) 1).trans rfl
  have f1 := Blk.frozen (blk_below HB.out HB1.out) 1
  have hwm : IntKind.i64.wrap (next : Int) = (next : Int) := IntWalk.i64_in _ (by omega)
  have hz1 : decide ((s.size : Int) + 2 < 2) = false := by simp; omega
  have hz2 : decide (1502 < (s.size : Int) + 2) = false := by simp; omega
  have hdm : decide ((mod : Int) ≤ (next : Int)) = false := by simp; omega
  go_wp2_with fail
  go_quiet (fail)
  generalize nq = nq1 at *
  go_wp2_with fail
  go_quiet (fail)
  generalize nq = nq2 at *
  have hee : ((next : Int) == (next : Int)) = true := by simp
  go_wp2_with fail
  go_region
  have hcv : (convert 44 9 (.slice (some ⟨w1.heap.size, 0, none⟩) 2 2)).run Try.prog (((w1.drewN (nq1 + nq2 + 1)).setCell ⟨g, 1, none⟩ (.int .i64 (r : Int))).alloc (.cells #[.int .u8 65, .int .u8 (r : Int)] 5)) = .ok (.string (headB 65 r)) (((w1.drewN (nq1 + nq2 + 1)).setCell ⟨g, 1, none⟩ (.int .i64 (r : Int))).alloc (.cells #[.int .u8 65, .int .u8 (r : Int)] 5)) :=
    head_conv 65 r (by omega) (by omega) w1.heap.size _ (cell_new _ _ (by simp [World.setCell]) _ _ 0 _ rfl) (cell_new _ _ (by simp [World.setCell]) _ _ 1 _ rfl)
  go_wp2_with fail
  refine (seal_any (headB 65 r) _ (by show 2 ≤ _; omega)).mono ?_
  rintro e w2 ⟨rfl, hb2⟩
  have HB2 := Lib.hid hb2
  clear hb2
  go_wp2_with fail
  try simp only [Exit.inBlock, Exit.then]
  refine bodyPost_ret (results_tmp4 rfl _ _ _) rfl ?_
  have k1 := ((Blk.drewN (blk_below HB.out HB1.out) (nq1 + nq2 + 1)).set 1 (.int .i64 (r : Int))).alloc (.cells #[.int .u8 65, .int .u8 (r : Int)] 5)
  have k2 := (((Only.of_below (S := (· = g)) HB1.out).drewN (nq1 + nq2 + 1)).set1 1 (.int .i64 (r : Int))).alloc (.cells #[.int .u8 65, .int .u8 (r : Int)] 5)
  exact ⟨rfl, blk_below k1 HB2.out, k2.step (Only.of_below (S := fun _ => False) HB2.out) (fun _ _ h => h.elim)⟩

set_option maxHeartbeats 800000 in
theorem in_stale (g mod next m : Nat) (w : World) (h : IsRcv w g mod next) (hm : 2 ≤ mod) (hm2 : mod ≤ 16) (hn : next < mod) (hml : m < mod) (hne : m ≠ next) (s : ByteArray) (hs : s.size ≤ 1500) :
    Calls Try.prog 25 #[.pointer (some ⟨g, 0, none⟩), .string (sealB (headB 68 m ++ s))] w fun e w' => e = .returned (.tuple #[.string ⟨#[]⟩, .bool false, .string (sealB (headB 65 next)), .int .i64 0]) ∧ Below w.heap.size w w' := by
  have HB := Lib.hid h
  clear h
  have hw4 : IntKind.u8.wrap (next : Int) = (next : Int) := by rw [IntKind.wrap_u8]; omega
  have hxs : (headB 68 m ++ s).size = s.size + 2 := by rw [ByteArray.size_append]; show 2 + s.size = _; omega
  have hx0 := app0 68 m s (by omega)
  have hx1 := app1 68 m s (by omega)
  generalize hx : headB 68 m ++ s = x at *
  go_enter Try.func25, Try.ntmps25
  go_wp2_with fail
  refine (open_of _ w (by rw [sealB_size]; omega) x rfl).mono ?_
  rintro e w1 ⟨rfl, hb1⟩
  have HB1 := Lib.hid hb1
  clear hb1
  have c0 : w1.cell? ⟨g, 0, none⟩ = some (.int .i64 mod) := (Blk.cell (blk_below HB.out HB1.out) 0).trans rfl
  have c1 : w1.cell? ⟨g, 1, none⟩ = some (.int .i64 next) := (Blk.cell (blk_below HB.out HB1.out) 1).trans rfl
  have hwm : IntKind.i64.wrap (m : Int) = (m : Int) := IntWalk.i64_in _ (by omega)
  have hz1 : decide ((s.size : Int) + 2 < 2) = false := by simp; omega
  have hz2 : decide (1502 < (s.size : Int) + 2) = false := by simp; omega
  have hdm : decide ((mod : Int) ≤ (m : Int)) = false := by simp; omega
  go_wp2_with fail
  go_quiet (fail)
  generalize nq = nq1 at *
  go_wp2_with fail
  go_quiet (fail)
  generalize nq = nq2 at *
  have hee : ((m : Int) == (next : Int)) = false := by simp; omega
  have hcv : (convert 44 9 (.slice (some ⟨w1.heap.size, 0, none⟩) 2 2)).run Try.prog ((w1.drewN (nq1 + nq2)).alloc (.cells #[.int .u8 65, .int .u8 (next : Int)] 5)) = .ok (.string (headB 65 next)) ((w1.drewN (nq1 + nq2)).alloc (.cells #[.int .u8 65, .int .u8 (next : Int)] 5)) :=
    head_conv 65 next (by omega) (by omega) w1.heap.size _ (cell_new _ _ (by simp) _ _ 0 _ rfl) (cell_new _ _ (by simp) _ _ 1 _ rfl)
  go_wp2_with fail
  refine (seal_any (headB 65 next) _ (by show 2 ≤ _; omega)).mono ?_
  rintro e w2 ⟨rfl, hb2⟩
  have HB2 := Lib.hid hb2
  clear hb2
  go_wp2_with fail
  try simp only [Exit.inBlock, Exit.then]
  refine bodyPost_ret (results_tmp4 rfl _ _ _) rfl ?_
  have k2 := below_alloc (pw_below_drewN HB1.out (nq1 + nq2)) (.cells #[.int .u8 65, .int .u8 (next : Int)] 5)
  exact ⟨rfl, k2.trans (HB2.out.mono k2.size)⟩

theorem outL_one (mod base : Nat) (s : ByteArray) : outL mod base [s] 0 = [frameB mod base s] := by simp [outL, List.range']

theorem snd_new (w : World) (mod : Nat) : IsSnd (w.alloc (.cells #[.int .i64 mod, .int .i64 0, .slice none 0 0, .int .i64 0] 62)) w.heap.size mod 0 [] 0 (.slice none 0 0) :=
  ⟨Blk.new _ _ _, by simpa [strs] using q_nil _ _ _ _⟩
theorem rcv_new (w : World) (mod : Nat) : IsRcv (w.alloc (.cells #[.int .i64 mod, .int .i64 0] 67)) w.heap.size mod 0 := Blk.new _ _ _
theorem snd_alloc {w : World} {g mod base due : Nat} {L : List ByteArray} {lv : Value} (h : IsSnd w g mod base L due lv) (o : Obj) : IsSnd (w.alloc o) g mod base L due lv := ⟨h.1.alloc o, q_alloc h.2 o⟩
theorem snd_below {w w' : World} {g mod base due : Nat} {L : List ByteArray} {lv : Value} (h : IsSnd w g mod base L due lv) (b : Below w.heap.size w w') : IsSnd w' g mod base L due lv := ⟨blk_below h.1 b, q_below h.2 b⟩
theorem snd_lt {w : World} {g mod base due : Nat} {L : List ByteArray} {lv : Value} (h : IsSnd w g mod base L due lv) : g < w.heap.size := h.1.lt

set_option maxHeartbeats 800000 in
theorem slideWorks_any (w : World) :
    Calls Try.prog 17 #[] w fun e w' => e = .returned (.bool true) ∧ Below w.heap.size w w' := by
  go_enter Try.func17, Try.ntmps17
  go_wp2_with fail
  refine (newSender_any 8 _ (.inl rfl)).mono ?_
  rintro e w' ⟨rfl, rfl⟩
  have HS := Lib.hid (snd_new w 8)
  have HB := Lib.hid (below_alloc (Below.refl w.heap.size w) (.cells #[.int .i64 (8 : Nat), .int .i64 0, .slice none 0 0, .int .i64 0] 62))
  generalize hw1 : w.alloc _ = w1 at *
  have hs1 : w1.heap.size = w.heap.size + 1 := by rw [← hw1]; simp
  clear hw1
  go_wp2_with fail
  refine (newReceiver_any 8 _ (.inl rfl)).mono ?_
  rintro e w' ⟨rfl, rfl⟩
  have HS2 := Lib.hid (snd_alloc HS.out (.cells #[.int .i64 (8 : Nat), .int .i64 0] 67))
  have HB2 := Lib.hid (below_alloc HB.out (.cells #[.int .i64 (8 : Nat), .int .i64 0] 67))
  generalize hw2 : w1.alloc _ = w2 at *
  have hs2 : w2.heap.size = w.heap.size + 2 := by rw [← hw2]; simp; omega
  clear hw2
  go_wp2_with fail
  refine (put_ok w.heap.size 8 0 0 [] (.slice none 0 0) _ HS2.out ⟨#[120]⟩ (by decide) (by omega) (by decide)).mono ?_
  rintro e w3 ⟨rfl, lv3, hs3, -, ho3⟩
  have HS3 := Lib.hid hs3
  have HO3 := Lib.hid ho3
  clear hs3 ho3
  go_wp2_with fail
  refine (out_any w.heap.size 8 0 0 [⟨#[120]⟩] lv3 _ HS3.out (by omega) (by omega) (by omega) (by decide) (by decide) (by decide)).mono ?_
  rintro e w4 ⟨v4, rfl, hq4, -, ho4⟩
  obtain ⟨A4, c4, rfl, _⟩ := q_slice hq4
  have HO4 := Lib.hid ho4
  clear ho4 hq4
  go_wp2_with fail
  go_ret
  refine ⟨rfl, ?_⟩
  have k1 := (Only.of_below (S := fun k => w.heap.size ≤ k) HB2.out).step HO3.out (fun i _ h => h.elim (fun h => by subst h; exact Nat.le_refl _) (fun h => by cases h))
  exact (k1.step HO4.out (fun i _ h => by subst h; exact Nat.le_refl _)).below (Nat.le_refl _) (fun k hk h => by omega)
end Go.Proofs.Ytlhpfhicggdnpaa.Slide
