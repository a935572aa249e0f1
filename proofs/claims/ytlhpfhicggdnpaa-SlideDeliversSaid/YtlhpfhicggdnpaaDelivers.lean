/-
  SlideDelivers: the walk.
-/
import Derived.Test.YtlhpfhicggdnpaaArqB
import Derived.Test.YtlhpfhicggdnpaaOpenI
import Derived.StillTail
import Derived.StillTailTactics
import Derived.Deep.CutRange
namespace Go.Proofs.Ytlhpfhicggdnpaa.Slide
open Go.RowKit Go.Proofs.YtlhpfhicggdnpaaW.PrintWords Go.Proofs.Ytlhpfhicggdnpaa.Xm Go.Proofs.Ytlhpfhicggdnpaa.CrcN Go.Proofs.Ytlhpfhicggdnpaa.Crc Go.Proofs.Ytlhpfhicggdnpaa.Within Go.Proofs.Ytlhpfhicggdnpaa.Xo

attribute [local go_sem] max2_ints min2_ints max_of2 min_of2

def LostOut (w w' : World) (bu used : Nat) (ls : ByteArray) (e : Ending) : Prop := ∃ b, e = .returned (.bool b) ∧ (ls.size ≤ used → b = false) ∧ Blk w' bu #[.int .i64 ((used + 1 : Nat) : Int)] 3 ∧ Only (· = bu) w w'
set_option maxHeartbeats 400000 in
theorem lost_any (bu bl used : Nat) (ls : ByteArray) (w : World) (hu : Blk w bu #[.int .i64 (used : Int)] 3) (hl : Blk w bl #[.string ls] 9) (hne : bl ≠ bu) (h1 : used ≤ 1000000000) (h2 : ls.size ≤ 1000000000) :
    Calls Try.prog 26 #[.pointer (some ⟨bu, 0, none⟩), .pointer (some ⟨bl, 0, none⟩)] w fun e w' => LostOut w w' bu used ls e := by
  have c0 : w.cell? ⟨bu, 0, none⟩ = some (.int .i64 (used : Int)) := (hu.cell 0).trans rfl
  have f0 := hu.frozen 0
  have d0 : w.cell? ⟨bl, 0, none⟩ = some (.string ls) := (hl.cell 0).trans rfl
  have d1 : (w.setCell ⟨bu, 0, none⟩ (.int .i64 ((used : Int) + 1))).cell? ⟨bl, 0, none⟩ = some (.string ls) := ((Blk.far hl (p := ⟨bu, 0, none⟩) hne _).cell 0).trans rfl
  have HU := Lib.hid hu
  clear hu hl
  by_cases hlt : used < ls.size
  · have hd : decide ((used : Int) + 1 ≤ (ls.size : Int)) = true := by simp; omega
    have hw : IntKind.i64.wrap ((used : Int) + 1 - 1) = (used : Int) := by rw [Int.add_sub_cancel]; exact IntWalk.i64_in _ (by omega)
    go_enter Try.func26, Try.ntmps26
    go_wp2_with fail
    go_ret
    refine ⟨_, rfl, fun h => absurd h (by omega), ?_, (Only.refl _ _).set1 0 _⟩
    have := HU.out.set 0 (.int .i64 ((used : Int) + 1))
    simpa using this
  · have hd : decide ((used : Int) + 1 ≤ (ls.size : Int)) = false := by simp; omega
    go_enter Try.func26, Try.ntmps26
    go_wp2_with fail
    go_ret
    refine ⟨_, rfl, fun _ => rfl, ?_, (Only.refl _ _).set1 0 _⟩
    have := HU.out.set 0 (.int .i64 ((used : Int) + 1))
    simpa using this

/-- 'cut(s, n)' at a known result. -/
def cutB (n : Nat) (s : ByteArray) : ByteArray := ⟨(s.data.toList.take n).toArray⟩
theorem cutB_size (n : Nat) (s : ByteArray) : (cutB n s).size ≤ n := by
  show (s.data.toList.take n).toArray.size ≤ n
  simp
  omega
theorem cutB_any (n : Nat) (s : ByteArray) (w : World) (hn : n ≤ 1000000) (hs : s.size ≤ 9223372036854775807) :
    Calls Try.prog 13 #[.string s, .int .i64 (n : Int)] w fun e w' => e = .returned (.string (cutB n s)) ∧ w' = w := by
  refine (Lag.cut_any s n w (by omega) (by omega) (by omega)).mono ?_
  rintro e w' ⟨⟨t, rfl, _, _, h⟩, rfl⟩
  refine ⟨?_, rfl⟩
  congr 2
  apply ByteArray.ext
  apply Array.toList_inj.1
  rw [h]
  rfl

theorem in_new {mod : Nat} (hm : mod = 8 ∨ mod = 16) (h gn : Nat) (w : World) (hr : IsRcv w h mod (gn % mod)) (y : ByteArray) (hy : y.size ≤ 1500) :
    Calls Try.prog 25 #[.pointer (some ⟨h, 0, none⟩), .string (sealB (headB 68 (gn % mod) ++ y))] w fun e w' => e = .returned (.tuple #[.string y, .bool true, .string (ackB mod (gn + 1)), .int .i64 0]) ∧ InOut w w' h mod ((gn + 1) % mod) := by
  have h0 : gn % mod < mod := Nat.mod_lt _ (by omega)
  have := in_fresh h mod (gn % mod) w hr (by omega) (by omega) h0 y hy
  rw [succ_mod' hm] at this
  exact this
theorem in_dup {mod : Nat} (hm : mod = 8 ∨ mod = 16) (h gn f : Nat) (w : World) (hr : IsRcv w h mod (gn % mod)) (y : ByteArray) (hy : y.size ≤ 1500) (hne : f % mod ≠ gn % mod) :
    Calls Try.prog 25 #[.pointer (some ⟨h, 0, none⟩), .string (sealB (headB 68 (f % mod) ++ y))] w fun e w' => e = .returned (.tuple #[.string ⟨#[]⟩, .bool false, .string (ackB mod gn), .int .i64 0]) ∧ Below w.heap.size w w' :=
  in_stale h mod (gn % mod) (f % mod) w hr (by omega) (by omega) (Nat.mod_lt _ (by omega)) (Nat.mod_lt _ (by omega)) hne y hy

theorem quiet_add_same {P : Program} {f : FuncId} {args : Array Value} {w : World} {a n : Nat} {v : Value} (h : Calls P f args (w.drewN (a + n)) fun e w' => e = .returned v ∧ w' = w.drewN (a + n)) :
    Calls P f args (w.drewN (a + n)) fun e w'' => e = .returned v ∧ ∃ m, w'' = w.drewN (a + m) := h.mono fun _ _ ⟨he, hm⟩ => ⟨he, n, hm⟩

theorem ack_new {mod : Nat} (hm : mod = 8 ∨ mod = 16) {bods : List ByteArray} {a x p : Nat} (g : Nat) (lv : Value) (w : World) (hs : IsSnd w g mod (a % mod) (outs bods a p) (p - a) lv) (h1 : a < x) (h2 : x ≤ p) (h3 : p ≤ a + (mod - 1)) (hp : p ≤ bods.length) :
    Calls Try.prog 22 #[.pointer (some ⟨g, 0, none⟩), .string (ackB mod x)] w fun e w' => e = .returned (.int .i64 0) ∧ AckOut w w' g mod (x % mod) (outs bods x p) (p - x) := by
  have hl := outs_len (a := a) hp
  have h0 : x % mod < mod := Nat.mod_lt _ (by omega)
  have h0' : a % mod < mod := Nat.mod_lt _ (by omega)
  have := ack_ok g mod (a % mod) (p - a) (outs bods a p) lv w hs (x % mod) h0 (by omega) h0' (x - a) (ack_dist hm (by omega) (by omega)).symm (by omega) (by omega) (by omega) (by omega)
  rw [outs_ack (by omega), show p - a - (x - a) = p - x by omega] at this
  exact this
theorem ack_dup {mod : Nat} (hm : mod = 8 ∨ mod = 16) {bods : List ByteArray} {a p : Nat} (g : Nat) (lv : Value) (w : World) (hs : IsSnd w g mod (a % mod) (outs bods a p) (p - a) lv) :
    Calls Try.prog 22 #[.pointer (some ⟨g, 0, none⟩), .string (ackB mod a)] w fun e w' => e = .returned (.int .i64 13) ∧ Below w.heap.size w w' := by
  have h0 : a % mod < mod := Nat.mod_lt _ (by omega)
  refine ack_old g mod (a % mod) (p - a) (outs bods a p) lv w hs (a % mod) h0 (by omega) h0 0 ?_ (.inl rfl)
  have := ack_dist hm (Nat.le_refl a) (show a ≤ a + (mod - 1) by omega)
  rw [this]
  omega

/-- The head of the great loop. -/
def MainRel (w0 : World) (B g h bu bl mod n : Nat) (ls : ByteArray) (bods : List ByteArray) (gv putv turnv : Value) (wr : World) : Prop :=
  ∃ (a gn put used turn : Nat) (lv : Value), putv = .int .i64 put ∧ turnv = .int .i64 turn ∧ a ≤ gn ∧ gn ≤ put ∧ put ≤ n ∧ put ≤ a + (mod - 1) ∧ used ≤ 30 * turn ∧
    (turn ≤ min used ls.size + a ∨ (a = n ∧ turn ≤ ls.size + 40)) ∧ DW w0 wr B g h bu bl ls mod (a % mod) (outs bods a put) 0 (gn % mod) used lv gv (bods.take gn)

/-- The loop that puts bodies. -/
def PutRel (w0 : World) (B g h bu bl : Nat) (ls : ByteArray) (mod n : Nat) (bods : List ByteArray) (a put gn used : Nat) (gv : Value) (putv : Value) (wr : World) : Prop :=
  ∃ (p : Nat) (lv : Value), putv = .int .i64 p ∧ put ≤ p ∧ p ≤ n ∧ p ≤ a + (mod - 1) ∧ DW w0 wr B g h bu bl ls mod (a % mod) (outs bods a p) 0 (gn % mod) used lv gv (bods.take gn)
def PutCut (w0 : World) (B g h bu bl : Nat) (ls : ByteArray) (mod n : Nat) (bods : List ByteArray) (a p gn used : Nat) (gv : Value) (b : Value) (wr : World) : Prop :=
  (∃ lv, b = .bool true ∧ p + 1 ≤ n ∧ p + 1 ≤ a + (mod - 1) ∧ DW w0 wr B g h bu bl ls mod (a % mod) (outs bods a (p + 1)) 0 (gn % mod) used lv gv (bods.take gn)) ∨
  (∃ lv, b = .bool false ∧ (p = n ∨ p = a + (mod - 1)) ∧ DW w0 wr B g h bu bl ls mod (a % mod) (outs bods a p) 0 (gn % mod) used lv gv (bods.take gn))

set_option maxHeartbeats 3200000 in
set_option maxRecDepth 100000 in
theorem slideDelivers_walk (a : Int) (v : Value) (S : List ByteArray) (ls0 : ByteArray) (w : World) (hS : RStrs w v S) (hls : ls0.size ≤ 140737488351232) :
    Calls Try.prog 7 #[.int .i64 a, v, .string ls0] w fun e w' => e = .returned (.bool true) ∧ Below w.heap.size w w' := by
  obtain ⟨mod, hmod, hor⟩ := mod_of a
  have hm2 : 8 ≤ mod ∧ mod ≤ 16 := by omega
  have hwb := wi_bd a 2 (by omega)
  obtain ⟨A, c, rfl, hlc, hc, hAc, hcell, hsz⟩ := hS
  obtain ⟨n, hn, hn30, hnl, hnS⟩ : ∃ n : Nat, (if 30 < (S.length : Int) then 30 else (S.length : Int)) = (n : Int) ∧ n ≤ 30 ∧ n ≤ S.length ∧ n = min 30 S.length := by
    refine ⟨min 30 S.length, ?_, by omega, by omega, rfl⟩
    split <;> omega
  have HNS := Lib.hid hnS
  clear hnS
  have HCELL := Lib.hid hcell
  have HSZ := Lib.hid hsz
  clear hcell hsz
  go_enter Try.func7, Try.ntmps7
  go_wp2_with fail
  refine (within_any a 2 _ (by omega) (by omega)).mono ?_
  rintro e w' ⟨rfl, rfl⟩
  go_wp2_with fail
  obtain ⟨ls, hlsd⟩ : ∃ ls, ls = cutB 200 ls0 := ⟨_, rfl⟩
  have hls2 : ls.size ≤ 200 := by rw [hlsd]; exact cutB_size _ _
  have hcutc := fun W => cutB_any 200 ls0 W (by omega) (by omega)
  rw [← hlsd] at hcutc
  obtain ⟨i0, hi, _, _, _⟩ := info_parts info_str
  have hslc : ∀ W : World, (Instr.slice 23 (.slice A S.length c) none (some (.int .i64 (n : Int))) none).run Try.prog W = .ok (.slice A n c) W := by
    intro W
    have := cut_to 23 9 .i64 Try.underlying23 hi A S.length c (n : Int) (by omega) (by omega) hlc W
    rw [Int.toNat_natCast] at this
    exact this
  have k0 : (w.alloc (.cells #[.string ls0] 9)).cell? ⟨w.heap.size, 0, none⟩ = some (.string ls0) := cell_new _ _ rfl _ _ _ _ rfl
  clear hi hlsd
  have HB1 := Lib.hid (below_alloc (Below.refl w.heap.size w) (.cells #[.string ls0] 9))
  have HBL := Lib.hid (Blk.new w #[.string ls0] 9)
  have hs1 : (w.alloc (.cells #[.string ls0] 9)).heap.size = w.heap.size + 1 := by simp
  generalize w.alloc (.cells #[.string ls0] 9) = w1 at *
  refine wp_region_still_tail 7 (by kernel_rfl) (by kernel_rfl) ?_
  simp only [List.take_succ_cons, List.take_zero, List.drop_succ_cons, List.drop_zero]
  repeat (first | still_call (hcutc _) | still_step)
  refine wpStill_nil ?_
  change wpList _ _ _ _ _ w1.drew
  have f0 := HBL.out.frozen 0
  have HB2 := Lib.hid (show Below w.heap.size w ((w1.setCell ⟨w.heap.size, 0, none⟩ (.string ls)).drew) from below_drew (HB1.out.setCell (p := ⟨w.heap.size, 0, none⟩) (Nat.le_refl _) _))
  have HBL2 := Lib.hid (show Blk ((w1.setCell ⟨w.heap.size, 0, none⟩ (.string ls)).drew) w.heap.size #[.string ls] 9 from Blk.drew (Blk.set HBL.out 0 (.string ls)))
  have hs2 : ((w1.setCell ⟨w.heap.size, 0, none⟩ (.string ls)).drew).heap.size = w.heap.size + 1 := by simpa [World.setCell] using hs1
  go_wp2_with fail
  generalize (w1.setCell ⟨w.heap.size, 0, none⟩ (.string ls)).drew = w2 at *
  clear k0 f0 HB1 HBL hs1
  refine (slideWorks_any _).mono ?_
  rintro e w3 ⟨rfl, hb3⟩
  have HB3 := Lib.hid (HB2.out.trans (hb3.mono HB2.out.size))
  have HBL3 := Lib.hid (blk_below HBL2.out hb3)
  have hs3 : w.heap.size < w3.heap.size := by have := hb3.size; omega
  clear hb3 HB2 HBL2 hs2
  go_wp2_with fail
  refine (newSender_any mod _ hor).mono ?_
  rintro e w4 ⟨rfl, rfl⟩
  go_wp2_with fail
  refine (newReceiver_any mod _ hor).mono ?_
  rintro e w5 ⟨rfl, rfl⟩
  go_wp2_with fail
  obtain ⟨bods, hbods⟩ : ∃ bods, bods = (S.take n).map (cutB 100) := ⟨_, rfl⟩
  have hbl : bods.length = n := by rw [hbods, List.length_map, List.length_take]; omega
  have hbs : ∀ x ∈ bods, x.size ≤ 100 := by
    intro x hx
    rw [hbods, List.mem_map] at hx
    obtain ⟨y, _, rfl⟩ := hx
    exact cutB_size _ _
  have hd0 : DW w (((w3.alloc (.cells #[.int .i64 mod, .int .i64 0, .slice none 0 0, .int .i64 0] 62)).alloc (.cells #[.int .i64 mod, .int .i64 0] 67)).alloc (.cells #[.int .i64 0] 3))
      (w3.heap.size + 3) w3.heap.size (w3.heap.size + 1) (w3.heap.size + 2) w.heap.size ls mod (0 % mod) (outs bods 0 0) 0 (0 % mod) 0 (.slice none 0 0) (.slice none 0 0) (bods.take 0) := by
    have hz : 0 % mod = 0 := Nat.zero_mod _
    rw [hz]
    refine ⟨⟨by omega, by omega, by omega, by omega, by omega, by omega, by omega, by omega, by omega, by omega, by omega, by omega, by omega⟩, ?_, (fun k hk => by simp [Value.ownBlock] at hk), ?_, ?_, ?_, ?_, (fun k hk => by simp [Value.ownBlock] at hk), ?_, ?_⟩
    · exact snd_alloc (snd_alloc (snd_new w3 mod) _) _
    · have := (rcv_new (w3.alloc (.cells #[.int .i64 mod, .int .i64 0, .slice none 0 0, .int .i64 0] 62)) mod).alloc (.cells #[.int .i64 0] 3)
      simpa [IsRcv] using this
    · have := Blk.new ((w3.alloc (.cells #[.int .i64 mod, .int .i64 0, .slice none 0 0, .int .i64 0] 62)).alloc (.cells #[.int .i64 mod, .int .i64 0] 67)) #[.int .i64 0] 3
      simpa using this
    · exact ((HBL3.out.alloc _).alloc _).alloc _
    · simpa [strs] using q_nil _ _ _ _
    · simp
    · exact below_alloc (below_alloc (below_alloc HB3.out _) _) _
  have HD0 := Lib.hid hd0
  have HBODS := Lib.hid hbods
  have HBS := Lib.hid hbs
  clear hd0 hbods hbs
  generalize (((w3.alloc (.cells #[.int .i64 mod, .int .i64 0, .slice none 0 0, .int .i64 0] 62)).alloc (.cells #[.int .i64 mod, .int .i64 0] 67)).alloc (.cells #[.int .i64 0] 3)) = w6 at *
  rw [show w3.heap.size + 1 + 1 = w3.heap.size + 2 from rfl]
  generalize w3.heap.size + 1 = h at *
  generalize w3.heap.size + 2 = bu at *
  generalize w3.heap.size + 3 = B at *
  generalize w3.heap.size = g at *
  clear hcutc hslc HBL3 HB3 hs3 hwb
  go_loopw [11, 13, 15] (fun gv putv turnv wr => MainRel w B g h bu w.heap.size mod n ls bods gv putv turnv wr) (fun _ _ t _ => ls.size + 300 - (intOf t).toNat)
  case atStart => exact ⟨0, 0, 0, 0, 0, .slice none 0 0, rfl, rfl, by omega, by omega, by omega, by omega, by omega, .inl (by omega), HD0.out⟩
  case round =>
    obtain ⟨a0, gn, put, used, turn, lv, rfl, rfl, h1, h2, h3, h4, h5, h6, hd⟩ := hrel
    have c5 : wr.cell? ⟨w.heap.size, 0, none⟩ = some (.string ls) := (Blk.cell hd.str 0).trans rfl
    obtain ⟨L, hL⟩ : ∃ L, L = outs bods a0 put := ⟨_, rfl⟩
    have hll : L.length = put - a0 := by rw [hL]; exact outs_len (by omega)
    have HD := Lib.hid hd
    rw [← hL] at hd
    have HDL := Lib.hid hd
    have HLL := Lib.hid hll
    have H6 := Lib.hid h6
    clear hd h6 hL hll
    by_cases hdone : ls.size + 10 ≤ turn ∧ put = a0 ∧ put = n
    · obtain ⟨ht, hpa, hpn⟩ := hdone
      have hgn : gn = n := by omega
      obtain rfl : L = [] := List.eq_nil_of_length_eq_zero (by have := HLL.out; omega)
      have hd1 : decide ((turn : Int) < (ls.size : Int) + 10) = false := by simp; omega
      have hd2 : decide ((0 : Int) < ((([] : List ByteArray).length : Nat) : Int)) = false := rfl
      have hd3 : decide ((put : Int) < (n : Int)) = false := by simp; omega
      have hd3' : decide (put < n) = false := by simp; omega
      have hG : bods.take gn = bods := List.take_of_length_le (by omega)
      have hq := HD.out.got
      rw [hG] at hq
      obtain ⟨GA, gc, rfl, -⟩ := q_slice hq
      rw [hbl] at hq
      have HQ := Lib.hid hq
      have HOLD := Lib.hid HD.out.old
      rw [hbl]
      clear hG hq hpa hpn hgn
      go_wp2_with fail
      refine (left_any g _ _ _ [] lv _ HDL.out.snd).mono ?_
      rintro e w' ⟨rfl, rfl⟩
      go_wp2_with fail
      clear hd1 hd2 hd3 hd3' c5
      go_loopw [26, 152] (fun xv i wx => (∃ nd, wx = wr.drewN nd) ∧ ∃ k : Nat, i = .int .i64 k ∧ k ≤ n) (fun _ i _ => n - (intOf i).toNat)
      case atStart => exact ⟨⟨0, rfl⟩, 0, rfl, by omega⟩
      case round =>
        obtain ⟨⟨nd, rfl⟩, k, rfl, hk⟩ := hrel
        by_cases hkn : k < n
        · have hd5 : decide ((k : Int) < (n : Int)) = true := by simp; omega
          obtain ⟨x, hx⟩ : ∃ x, S[k]? = some x := ⟨S[k], by simp⟩
          obtain ⟨b0, o0, rfl, hb0, hcl⟩ := HCELL.out (by omega)
          have cx : wr.cell? ⟨b0, o0 + k, none⟩ = some (.string x) := pw_cell_below HOLD.out (hcl k x hx)
          have hxs := HSZ.out x (List.mem_of_getElem? hx)
          have hbp : bods[k]? = some (cutB 100 x) := by rw [HBODS.out, List.getElem?_map, List.getElem?_take, if_pos hkn, hx]; rfl
          obtain ⟨gb, go, gcap, he, _, _, _, _, hgc, _, _⟩ := q_form HQ.out (by omega)
          injection he with he1 he2 he3
          subst he1
          subst he3
          have cg : wr.cell? ⟨gb, go + k, none⟩ = some (.string (cutB 100 x)) := by
            rw [hgc k (by omega)]
            simp [strs, hbp]
          have hcutx := fun W => cutB_any 100 x W (by omega) hxs
          have hk0 : (0 : Int) ≤ (k : Int) := by omega
          have hk1 : (k : Int) < (n : Int) := by omega
          have HCUT := Lib.hid hcutx
          clear hcl hx hbp hgc hcutx
          generalize cutB 100 x = y at *
          go_wp2_with fail
          go_quiet ((go_at_call 13; exact quiet_add_same (HCUT.out _)))
          go_wp2_with fail
          exact ⟨⟨⟨nd + nq, rfl⟩, k + 1, by go_num, by omega⟩, by simp [intOf]; omega⟩
        · obtain rfl : k = n := by omega
          have hd5 : decide ((k : Int) < (k : Int)) = false := by simp
          go_wp2_with fail
          go_ret
          exact ⟨rfl, below_drewN HOLD.out nd⟩
    · go_upto_region 11 with (fail)
      go_cut [66] from 51 to 144 (fun s w' => s = .bool true ∧ w' = wr)
      case first =>
        have hls3 := HLL.out
        by_cases ht : turn < ls.size + 10
        · have hd1 : decide ((turn : Int) < (ls.size : Int) + 10) = true := by simp; omega
          clear hls3
          go_wp2_with fail
          go_meet
          exact ⟨rfl, rfl⟩
        · have hd1 : decide ((turn : Int) < (ls.size : Int) + 10) = false := by simp; omega
          by_cases hl : put = a0
          · obtain rfl : L = [] := List.eq_nil_of_length_eq_zero (by omega)
            have hd2 : decide ((0 : Int) < ((([] : List ByteArray).length : Nat) : Int)) = false := rfl
            have hpn : put < n := by omega
            have hd3 : decide ((put : Int) < (n : Int)) = true := by simp; omega
            clear hls3 hl
            go_wp2_with fail
            refine (left_any g _ _ _ [] lv _ HDL.out.snd).mono ?_
            rintro e w' ⟨rfl, rfl⟩
            go_wp2_with fail
            all_goals first | (go_meet; exact ⟨rfl, rfl⟩) | (exfalso; exact hLne (List.eq_nil_of_length_eq_zero (by omega)))
          · have hd2 : decide ((0 : Int) < (L.length : Int)) = true := by simp; omega
            have hLne : L ≠ [] := by rintro rfl; simp at hls3; omega
            clear hls3 hl
            go_wp2_with fail
            refine (left_any g _ _ _ L lv _ HDL.out.snd).mono ?_
            rintro e w' ⟨rfl, rfl⟩
            go_wp2_with fail
            all_goals first | (go_meet; exact ⟨rfl, rfl⟩) | (exfalso; exact hLne (List.eq_nil_of_length_eq_zero (by omega)))
      case rest =>
        obtain ⟨rfl, rfl⟩ := hcut
        have hd4 : decide ((ls.size : Int) + 200 < (turn : Int)) = false := by have := H6.out; simp; omega
        go_wp2_with fail
        clear hd4
        go_loopw [13] (fun p wx => PutRel w B g h bu w.heap.size ls mod n bods a0 put gn used u11 p wx) (fun p _ => n - (intOf p).toNat)
        case atStart => exact ⟨put, lv, rfl, Nat.le_refl _, h3, h4, HD.out⟩
        case round =>
          obtain ⟨p, lvp, rfl, p1, p2, p3, hdp⟩ := hrel
          have HDP := Lib.hid hdp
          have hpl : (outs bods a0 p).length = p - a0 := outs_len (by omega)
          have HPL := Lib.hid hpl
          clear hdp hpl
          go_upto_region 15 with (fail)
          go_cut [87] from 74 to 89 (fun s w' => PutCut w B g h bu w.heap.size ls mod n bods a0 p gn used u11 s w')
          case first =>
            by_cases hpn : p < n
            · have hd5 : decide ((p : Int) < (n : Int)) = true := by simp; omega
              obtain ⟨x, hx⟩ : ∃ x, S[p]? = some x := ⟨S[p], by simp⟩
              obtain ⟨b0, o0, rfl, hb0, hcl⟩ := HCELL.out (by omega)
              have cx : wr.cell? ⟨b0, o0 + p, none⟩ = some (.string x) := pw_cell_below HDP.out.old (hcl p x hx)
              have hxs := HSZ.out x (List.mem_of_getElem? hx)
              have hbp : bods[p]'(by omega) = cutB 100 x := by
                have : bods[p]? = some (cutB 100 x) := by rw [HBODS.out, List.getElem?_map, List.getElem?_take, if_pos hpn, hx]; rfl
                exact (List.getElem?_eq_some_iff.1 this).2
              have hys := cutB_size 100 x
              have HBP := Lib.hid hbp
              clear hcl hx hbp
              go_wp2_with fail
              refine (cutB_any 100 x _ (by omega) hxs).mono ?_
              rintro e w' ⟨rfl, rfl⟩
              by_cases hfull : p + 1 ≤ a0 + (mod - 1)
              · go_wp2_with fail
                refine (put_ok g mod (a0 % mod) 0 (outs bods a0 p) lvp _ HDP.out.snd (cutB 100 x) (by omega) (by omega) (by rw [HPL.out]; omega)).mono ?_
                rintro e w' ⟨rfl, hput⟩
                have HPUT := Lib.hid hput
                clear hput
                go_wp2_with fail
                go_meet
                obtain ⟨lv9, hd9⟩ := HDP.out.put HPUT.out
                rw [← HBP.out, outs_put (by omega) (by omega)] at hd9
                exact .inl ⟨lv9, rfl, by omega, by omega, hd9⟩
              · go_wp2_with fail
                refine (put_busy g mod (a0 % mod) 0 (outs bods a0 p) lvp _ HDP.out.snd (cutB 100 x) (by omega) (by omega) (by rw [HPL.out]; omega)).mono ?_
                rintro e w' ⟨rfl, nd, rfl⟩
                go_wp2_with fail
                go_meet
                exact .inr ⟨lvp, rfl, .inr (by omega), HDP.out.drewN nd⟩
            · have hd5 : decide ((p : Int) < (n : Int)) = false := by simp; omega
              go_wp2_with fail
              go_meet
              exact .inr ⟨lvp, rfl, .inl (by omega), HDP.out⟩
          case rest =>
            rcases hcut with ⟨lv2, rfl, p4, p5, hd2⟩ | ⟨lv2, rfl, p4, hd2⟩
            · have HD2 := Lib.hid hd2
              clear hd2
              go_wp2_with fail
              exact ⟨⟨p + 1, lv2, by go_num, by omega, p4, p5, HD2.out⟩, by simp [intOf]; omega⟩
            · obtain ⟨L2, hL2⟩ : ∃ L2, L2 = outs bods a0 p := ⟨_, rfl⟩
              obtain ⟨m, hm⟩ : ∃ m, m = p - a0 := ⟨_, rfl⟩
              have hl2 : L2.length = m := by rw [hL2, hm]; exact outs_len (by omega)
              have hml : m ≤ mod - 1 := by omega
              have hL2s : ∀ x ∈ L2, x.size ≤ 1500 := fun x hx => by have := HBS.out x (outs_mem (hL2 ▸ hx)); omega
              have hd2' := hd2
              rw [← hL2] at hd2'
              have HD2 := Lib.hid hd2
              have HD3 := Lib.hid hd2'
              have HL2 := Lib.hid hl2
              have HL2S := Lib.hid hL2s
              have HLD := Lib.hid hL2
              have HM := Lib.hid hm
              have hdl : decide ((mod : Int) - 1 < (L2.length : Int)) = false := by simp; omega
              clear hd2 hd2' hl2 hL2s hL2 hm
              go_wp2_with fail
              refine (left_any g _ _ _ L2 lv2 _ HD3.out.snd).mono ?_
              rintro e w' ⟨rfl, rfl⟩
              go_wp2_with fail
              refine (out_any g mod (a0 % mod) 0 L2 lv2 _ HD3.out.snd (by omega) (by omega) (Nat.mod_lt _ (by omega)) (by have := HL2.out; omega) (by omega) HL2S.out).mono ?_
              rintro e w7 ⟨v7, rfl, hq7, hs7, ho7⟩
              rw [Nat.sub_zero, HL2.out] at hq7
              rw [HL2.out] at hs7
              obtain ⟨A7, c7, rfl, -⟩ := q_slice hq7
              have HQ7 := Lib.hid hq7
              have HS7 := Lib.hid hs7
              have HO7 := Lib.hid ho7
              clear hq7 hs7 ho7
              have hB2 : B ≤ wc.heap.size := HD3.out.big
              have hob : ∃ ob oo, (0 < m → A7 = some ⟨ob, oo, none⟩ ∧ wc.heap.size ≤ ob ∧ ∀ j x, (outL mod (a0 % mod) L2 0)[j]? = some x → w7.cell? ⟨ob, oo + j, none⟩ = some (.string x)) ∧ u11.ownBlock ≠ some ob ∧ ob < w7.heap.size ∧ ob ≠ bu ∧ ob ≠ h := by
                have F := HD3.out.fix
                by_cases hm0 : 0 < m
                · obtain ⟨ob, oo, cp, he, h7, h8, _, _, h9, _, _⟩ := q_form HQ7.out hm0
                  injection he with he _ _
                  refine ⟨ob, oo, fun _ => ⟨he, h7, fun j x hx => ?_⟩, fun e => ?_, h8, ?_, ?_⟩
                  · have hjm : j < m := by
                      have := (List.getElem?_eq_some_iff.1 hx).1
                      rw [outL_len, HL2.out] at this
                      omega
                    rw [h9 j (by omega)]
                    simp [strs, hx]
                  · have := q_lt HD3.out.got ob e; omega
                  · have := F.uB; omega
                  · have := F.hB; omega
                · exact ⟨g, 0, fun h => absurd h hm0, fun e => by have := HD3.out.gotB g e; have := F.gB; omega, by have := HO7.out.size; have := F.gB; omega, F.gu, F.gh⟩
              obtain ⟨ob, oo, hob1, hob2, hob3, hob4, hob5⟩ := hob
              have hd7 : DW w w7 B g h bu w.heap.size ls mod (a0 % mod) (outs bods a0 p) (p - a0) (gn % mod) (used + 0) lv2 u11 (bods.take gn) := by
                have := HD2.out.sent HO7.out (L' := outs bods a0 p) (due' := p - a0) (lv' := lv2) (by have := HS7.out; rw [HLD.out, HM.out] at this; exact this) (.inl rfl)
                exact this
              have HD7 := Lib.hid hd7
              have HOB1 := Lib.hid hob1
              have HOB2 := Lib.hid hob2
              have HU := Lib.hid (show used ≤ 30 * turn from h5)
              obtain ⟨hp, hhp⟩ : ∃ hp, w7.heap[ob]? = hp := ⟨_, rfl⟩
              obtain ⟨B2, hB2e⟩ : ∃ B2, B2 = w7.heap.size := ⟨_, rfl⟩
              have HHP := Lib.hid hhp
              have HB2E := Lib.hid hB2e
              clear hd7 hob1 hob2 hhp hB2e
              go_wp2_with fail
              go_loopw [11, 16, 98] (fun gv av iv wr => FrRel w B g h bu w.heap.size ls mod bods a0 p used B2 ob hp lv2 gv av iv wr) (fun _ _ iv _ => m - (intOf iv).toNat)
              case atStart =>
                exact ⟨0, gn, [], rfl, Nat.zero_le _, h1, by omega, HD7.out, by simpa [strs] using q_nil _ _ _ _, fun k hk => by simp [Value.ownBlock] at hk, HOB2.out, HHP.out, by rw [HB2E.out]; exact Nat.le_refl _, AckOk.nil _ _, Nat.le_refl _, fun _ => ⟨rfl, by omega⟩⟩
              case round =>
                obtain ⟨i, gn1, AK, rfl, r1, r2, r3, rd, rq, rdis, rgo, rhp, rB2, rak, rln, rlo⟩ := hrel
                have hmp := HM.out
                have hbub : bu < w7.heap.size := by have := HD7.out.fix.uB; have := HD7.out.big; omega
                have hhb : h < w7.heap.size := by have := HD7.out.fix.hB; have := HD7.out.big; omega
                have hBB : B ≤ w7.heap.size := HD7.out.big
                have RD := Lib.hid rd
                have RQ := Lib.hid rq
                have RDIS := Lib.hid rdis
                have RGO := Lib.hid rgo
                have RHP := Lib.hid rhp
                have RAK := Lib.hid rak
                have RLO := Lib.hid rlo
                have hwrS : w7.heap.size ≤ wr.heap.size := by have := HB2E.out; omega
                clear rd rq rdis rgo rhp rak rlo
                by_cases him : i < m
                · have hdi : decide ((i : Int) < (m : Int)) = true := by simp; omega
                  obtain ⟨rfl, hobB, hcl⟩ := HOB1.out (by omega)
                  have hidx : a0 + i < bods.length := by omega
                  obtain ⟨y, hy⟩ : ∃ y, y = bods[a0 + i]'hidx := ⟨_, rfl⟩
                  have hys : y.size ≤ 1500 := by have := HBS.out y (by rw [hy]; exact List.getElem_mem _); omega
                  obtain ⟨t, ht⟩ : ∃ t, t = sealB (headB 68 ((a0 + i) % mod) ++ y) := ⟨_, rfl⟩
                  have hfr : (outL mod (a0 % mod) L2 0)[i]? = some t := by
                    rw [HLD.out, ht, hy]
                    exact outL_at hor (by omega) (by omega)
                  have cx : wr.cell? ⟨ob, oo + i, none⟩ = some (.string t) := by
                    rw [World.cell?_of_block (RHP.out.trans HHP.out.symm)]
                    exact hcl i _ hfr
                  have hk0 : (0 : Int) ≤ (i : Int) := by omega
                  have hk1 : (i : Int) < (m : Int) := by omega
                  have HT := Lib.hid ht
                  have HY := Lib.hid hy
                  have HMP := Lib.hid hmp
                  clear hcl hfr ht hy hmp
                  go_wp2_with fail
                  refine (lost_any bu w.heap.size (used + i) ls _ RD.out.cnt RD.out.str RD.out.fix.lu (by have := HU.out; have := H6.out; omega) (by omega)).mono ?_
                  rintro e w8 ⟨b, rfl, hb, hcb, ho8⟩
                  have hd8 := RD.out.count ho8 (used + i + 1) hcb
                  have hq8 := ho8.row RQ.out (fun k hk e => by have := (q_typed RQ.out k hk).1; have := HB2E.out; omega)
                  have hp8 : w8.heap[ob]? = hp := (ho8.block ob (by omega) hob4).trans RHP.out
                  have hs8 : w7.heap.size ≤ w8.heap.size := Nat.le_trans hwrS ho8.size
                  have HD8 := Lib.hid hd8
                  have HQ8 := Lib.hid hq8
                  have HP8 := Lib.hid hp8
                  have HB8 := Lib.hid hb
                  clear hd8 hq8 hp8 hcb ho8 hb cx
                  cases b with
                  | true =>
                    have hlt : ¬ ls.size ≤ used + i := fun h => by have := HB8.out h; cases this
                    go_wp2_with fail
                    refine ⟨⟨i + 1, gn1, AK, by go_num, by omega, r2, r3, HD8.out, HQ8.out, RDIS.out, RGO.out, HP8.out, by have := HB2E.out; omega, RAK.out, by omega, fun h => absurd h (by omega)⟩, by simp [intOf]; omega⟩
                  | false =>
                    by_cases hf : a0 + i = gn1
                    · obtain ⟨ak, hak⟩ : ∃ ak, ak = ackB mod (gn1 + 1) := ⟨_, rfl⟩
                      have hin := fun W hr => in_new hor h gn1 W hr y hys
                      rw [← hak, ← hf, ← HT.out] at hin
                      have HIN := Lib.hid hin
                      have HAKE := Lib.hid (show [Value.string ak] = strs ([gn1 + 1].map (ackB mod)) by rw [hak]; rfl)
                      have HF := Lib.hid hf
                      clear hin hak hf
                      go_wp2_with fail
                      refine (HIN.out _ (by rw [HF.out]; exact HD8.out.rcv)).mono ?_
                      rintro e w9 ⟨rfl, hr9, ho9⟩
                      rw [HF.out] at hr9
                      have hd9 := HD8.out.moved ho9 _ hr9
                      have hq9 := ho9.row HQ8.out (fun k hk e => by have := (q_typed HQ8.out k hk).1; have := HB2E.out; omega)
                      have hp9 : w9.heap[ob]? = hp := (ho9.block ob (by omega) hob5).trans HP8.out
                      have hs9 : w7.heap.size ≤ w9.heap.size := Nat.le_trans hs8 ho9.size
                      have HD9 := Lib.hid hd9
                      have HQ9 := Lib.hid hq9
                      have HP9 := Lib.hid hp9
                      clear hr9 ho9 hd9 hq9 hp9
                      go_wp2_with (at_builtin; refine wpList_append_q w9 B rfl (.tmp 115) (.tmp 117) 23 9 (.string ⟨#[]⟩) 1 16 rfl Try.underlying23 info_str rfl (by decide) _ (bods.take gn1).length (strs (bods.take gn1)) rfl ?hq 1 [.string y] ?hx rfl ?h1 (by decide) ?h63 ?hby ?hba ?next)
                      case hq => exact HD9.out.got
                      case hx => rfl
                      case h1 => intro u hu; simp at hu; rw [hu]; rfl
                      case h63 => unfold maxLen; rw [List.length_take]; omega
                      case hby => rw [List.length_take]; omega
                      case hba => omega
                      case next =>
                        intro gv2 wa hqa hga hba
                        have hga' := Only.of_grown hga
                        have hda : DW w wa B g h bu w.heap.size ls mod (a0 % mod) (outs bods a0 p) (p - a0) ((gn1 + 1) % mod) (used + i + 1) lv2 gv2 (bods.take (gn1 + 1)) := by
                          refine HD9.out.gain hga ?_ hba
                          have hyy := HY.out
                          have e1 : bods.take (gn1 + 1) = bods.take gn1 ++ [y] := by
                            rw [List.take_succ_eq_append_getElem (by have := HF.out; omega), hyy]
                            congr 2
                            simp only [HF.out]
                          rw [e1, List.length_append]
                          simpa [strs, hbl] using hqa
                        have hqb := hga'.row HQ9.out (fun k hk e => RDIS.out k hk e.symm)
                        have hpb : wa.heap[ob]? = hp := (hga'.block ob (by omega) (fun e => RGO.out e.symm)).trans HP9.out
                        have hdis2 : Dis _ gv2 := (RDIS.out.symm.grow hba (fun k hk => q_lt HQ9.out k hk)).symm
                        have hgo2 : gv2.ownBlock ≠ some ob := by
                          intro e
                          rcases hba with h1 | ⟨b1, h1, h2⟩
                          · exact RGO.out (h1 ▸ e)
                          · rw [h1] at e; injection e with e; omega
                        have waS : w7.heap.size ≤ wa.heap.size := Nat.le_trans hs9 hga.size
                        have waO : ob < wa.heap.size := by omega
                        have HDa := Lib.hid hda
                        have HQb := Lib.hid hqb
                        have HPb := Lib.hid hpb
                        have HDIS2 := Lib.hid hdis2
                        have HGO2 := Lib.hid hgo2
                        have hf := HF.out
                        clear hqa hga hba hga' hda hqb hpb hdis2 hgo2
                        go_wp2_with (at_builtin; refine wpList_append_q wa B2 rfl (.tmp 119) (.tmp 121) 23 9 (.string ⟨#[]⟩) 1 16 rfl Try.underlying23 info_str rfl (by decide) _ AK.length (strs (AK.map (ackB mod))) rfl ?hq1 1 [.string ak] ?hx1 rfl ?h11 (by decide) ?h631 ?hby1 ?hba1 ?next1)
                        case hq1 => exact HQb.out
                        case hx1 => rfl
                        case h11 => intro u hu; simp at hu; rw [hu]; rfl
                        case h631 => unfold maxLen; omega
                        case hby1 => omega
                        case hba1 => exact Nat.le_trans (Nat.le_of_eq HB2E.out) (waS)
                        case next1 =>
                          intro av2 wz hqz hgz hbz
                          have hfin : FrRel w B g h bu w.heap.size ls mod bods a0 p used B2 ob hp lv2 gv2 av2 (.int .i64 ((i + 1 : Nat) : Int)) wz := by
                            have hlvB : ∀ k, lv2.ownBlock = some k → k < w7.heap.size := fun k hk => q_lt HD7.out.snd.2 k hk
                            refine ⟨i + 1, (gn1 + 1), AK ++ [(gn1 + 1)], rfl, by omega, by omega, by omega, ?_, ?_, ?_, HGO2.out, ?_, ?_, ?_, ?_, ?_⟩
                            · exact HDa.out.aside hgz (fun k hk => ⟨by have := (q_typed HQb.out k hk).1; have := HB2E.out; omega, fun e => by have := (q_typed HQb.out k hk).1; have := hlvB k e; have := HB2E.out; omega, HDIS2.out k hk⟩)
                            · rw [List.map_append, List.length_append]
                              have := hqz
                              rw [HAKE.out] at this
                              simpa [strs] using this
                            · exact Dis.grow HDIS2.out hbz (fun k hk => q_lt HDa.out.got k hk)
                            · exact ((Only.of_grown hgz).block ob waO (fun e => by have := (q_typed HQb.out ob e.symm).1; have := HB2E.out; omega)).trans HPb.out
                            · have := hgz.size; have := HB2E.out; have := waS; omega
                            · exact RAK.out.push r2 (by omega)
                            · rw [List.length_append]; exact Nat.succ_le_succ rln
                            · intro hle
                              obtain ⟨y1, y2⟩ := RLO.out hle
                              refine ⟨by rw [List.length_append, y1]; rfl, by omega⟩
                          have HFIN := Lib.hid hfin
                          clear hfin hqz hgz hbz
                          go_wp2_with fail
                          exact ⟨HFIN.out, by simp [intOf]; omega⟩
                    · obtain ⟨ak, hak⟩ : ∃ ak, ak = ackB mod gn1 := ⟨_, rfl⟩
                      have hne : (a0 + i) % mod ≠ gn1 % mod := fun e => hf ((fresh_iff hor r2 r3 (by omega) (by omega) (by omega)).1 e)
                      have hin := fun W hr => in_dup hor h gn1 (a0 + i) W hr y hys hne
                      rw [← hak, ← HT.out] at hin
                      have HIN := Lib.hid hin
                      have HAKE := Lib.hid (show [Value.string ak] = strs ([gn1].map (ackB mod)) by rw [hak]; rfl)
                      clear hin hak hne
                      go_wp2_with fail
                      refine (HIN.out _ HD8.out.rcv).mono ?_
                      rintro e wa ⟨rfl, hb9⟩
                      have hda := HD8.out.below hb9
                      have hqb := q_below HQ8.out hb9
                      have hpb : wa.heap[ob]? = hp := (hb9.block ob (by omega)).trans HP8.out
                      have waS : w7.heap.size ≤ wa.heap.size := Nat.le_trans hs8 hb9.size
                      have waO : ob < wa.heap.size := by omega
                      have HDa := Lib.hid hda
                      have HQb := Lib.hid hqb
                      have HPb := Lib.hid hpb
                      clear hb9 hda hqb hpb
                      go_wp2_with (at_builtin; refine wpList_append_q wa B2 rfl (.tmp 119) (.tmp 121) 23 9 (.string ⟨#[]⟩) 1 16 rfl Try.underlying23 info_str rfl (by decide) _ AK.length (strs (AK.map (ackB mod))) rfl ?hq2 1 [.string ak] ?hx2 rfl ?h12 (by decide) ?h632 ?hby2 ?hba2 ?next2)
                      case hq2 => exact HQb.out
                      case hx2 => rfl
                      case h12 => intro u hu; simp at hu; rw [hu]; rfl
                      case h632 => unfold maxLen; omega
                      case hby2 => omega
                      case hba2 => exact Nat.le_trans (Nat.le_of_eq HB2E.out) (waS)
                      case next2 =>
                        intro av2 wz hqz hgz hbz
                        have hfin : FrRel w B g h bu w.heap.size ls mod bods a0 p used B2 ob hp lv2 u11 av2 (.int .i64 ((i + 1 : Nat) : Int)) wz := by
                          have hlvB : ∀ k, lv2.ownBlock = some k → k < w7.heap.size := fun k hk => q_lt HD7.out.snd.2 k hk
                          refine ⟨i + 1, gn1, AK ++ [gn1], rfl, by omega, by omega, by omega, ?_, ?_, ?_, RGO.out, ?_, ?_, ?_, ?_, ?_⟩
                          · exact HDa.out.aside hgz (fun k hk => ⟨by have := (q_typed HQb.out k hk).1; have := HB2E.out; omega, fun e => by have := (q_typed HQb.out k hk).1; have := hlvB k e; have := HB2E.out; omega, RDIS.out k hk⟩)
                          · rw [List.map_append, List.length_append]
                            have := hqz
                            rw [HAKE.out] at this
                            simpa [strs] using this
                          · exact Dis.grow RDIS.out hbz (fun k hk => q_lt HDa.out.got k hk)
                          · exact ((Only.of_grown hgz).block ob waO (fun e => by have := (q_typed HQb.out ob e.symm).1; have := HB2E.out; omega)).trans HPb.out
                          · have := hgz.size; have := HB2E.out; have := waS; omega
                          · exact RAK.out.push r2 (by omega)
                          · rw [List.length_append]; exact Nat.succ_le_succ rln
                          · intro hle
                            obtain ⟨y1, y2⟩ := RLO.out hle
                            refine ⟨by rw [List.length_append, y1]; rfl, by omega⟩
                        have HFIN := Lib.hid hfin
                        clear hfin hqz hgz hbz
                        go_wp2_with fail
                        exact ⟨HFIN.out, by simp [intOf]; omega⟩
                · obtain rfl : i = m := by omega
                  have hdi : decide ((i : Int) < (i : Int)) = false := by simp
                  obtain ⟨A8, c8, rfl, -⟩ := q_slice RQ.out
                  obtain ⟨q, hq⟩ : ∃ q, AK.length = q := ⟨_, rfl⟩
                  have hrq := RQ.out
                  rw [hq] at hrq rln
                  rw [hq]
                  have hob8 : ∃ ab ao, (0 < q → A8 = some ⟨ab, ao, none⟩ ∧ ∀ j x, AK[j]? = some x → wr.cell? ⟨ab, ao + j, none⟩ = some (.string (ackB mod x))) ∧ ab < wr.heap.size ∧ ab ≠ bu ∧ ab ≠ g := by
                    by_cases hq0 : 0 < q
                    · obtain ⟨ab, ao, cp, he, h7, h8, _, _, h9, _, _⟩ := q_form hrq hq0
                      injection he with he _ _
                      have hgb : g < w7.heap.size := by have := HD7.out.fix.gB; omega
                      have hb2 := HB2E.out
                      refine ⟨ab, ao, fun _ => ⟨he, fun j x hx => ?_⟩, h8, by omega, by omega⟩
                      have hjm : j < q := by have := (List.getElem?_eq_some_iff.1 hx).1; omega
                      rw [h9 j (by omega)]
                      simp [strs, hx]
                    · exact ⟨h, 0, fun h => absurd h hq0, by omega, HD7.out.fix.hu, Ne.symm HD7.out.fix.gh⟩
                  obtain ⟨ab, ao, hab1, hab2, hab3, hab4⟩ := hob8
                  have habl : ∀ W : World, W.heap[ab]? = wr.heap[ab]? → ab < W.heap.size := by
                    intro W h
                    rw [Array.getElem?_eq_getElem hab2] at h
                    exact (Array.getElem?_eq_some_iff.1 h).1
                  obtain ⟨hpa, hhpa⟩ : ∃ hpa, wr.heap[ab]? = hpa := ⟨_, rfl⟩
                  rw [hhpa] at habl
                  have HABL := Lib.hid habl
                  have HAB1 := Lib.hid hab1
                  have HHPA := Lib.hid hhpa
                  have HQQ := Lib.hid hq
                  have HMP := Lib.hid hmp
                  clear habl hab1 hhpa hq hrq hmp
                  go_wp2_with fail
                  go_loopw [126] (fun jv wx => AkRel w B g h bu w.heap.size ls mod bods a0 gn1 p (used + i) ab hpa AK u11 jv wx) (fun jv _ => q - (intOf jv).toNat)
                  case atStart => exact ⟨0, a0, lv2, rfl, Nat.zero_le _, Nat.le_refl _, r2, fun i x _ hx => (RAK.out.1 x (List.mem_of_getElem? hx)).1, RD.out, HHPA.out, fun _ h => absurd h (by omega)⟩
                  case round =>
                    obtain ⟨j, a1, lv3, rfl, j1, j2, j3, j4, jd, jp, jl⟩ := hrel
                    have hjA : j ≤ q := by have := HQQ.out; omega
                    have JD := Lib.hid jd
                    have JP := Lib.hid jp
                    have JL := Lib.hid jl
                    have J4 := Lib.hid j4
                    have J1 := Lib.hid j1
                    clear jd jp jl j4 j1
                    by_cases hjq : j < q
                    · have hdj : decide ((j : Int) < (q : Int)) = true := by simp; omega
                      obtain ⟨x, hx⟩ : ∃ x, AK[j]? = some x := ⟨AK[j]'(by have := HQQ.out; omega), List.getElem?_eq_getElem _⟩
                      obtain ⟨rfl, hcl⟩ := HAB1.out (by omega)
                      obtain ⟨t, ht⟩ : ∃ t, t = ackB mod x := ⟨_, rfl⟩
                      have cx : wr.cell? ⟨ab, ao + j, none⟩ = some (.string t) := by
                        rw [World.cell?_of_block (JP.out.trans HHPA.out.symm), ht]
                        exact hcl j _ hx
                      have x1 : a1 ≤ x := J4.out j x (Nat.le_refl _) hx
                      have x2 : x ≤ gn1 := (RAK.out.1 x (List.mem_of_getElem? hx)).2
                      have hk0 : (0 : Int) ≤ (j : Int) := by omega
                      have hk1 : (j : Int) < (q : Int) := by omega
                      have HT := Lib.hid ht
                      have HX := Lib.hid hx
                      have HJQ := Lib.hid (show j + 1 ≤ AK.length by have := HQQ.out; omega)
                      clear hcl ht hx
                      go_wp2_with fail
                      refine (lost_any bu w.heap.size (used + i + j) ls _ JD.out.cnt JD.out.str JD.out.fix.lu (by have := HU.out; have := H6.out; omega) (by omega)).mono ?_
                      rintro e w8 ⟨b, rfl, hb, hcb, ho8⟩
                      have hd8 := JD.out.count ho8 (used + i + j + 1) hcb
                      have hp8 : w8.heap[ab]? = hpa := (ho8.block ab (HABL.out _ JP.out) hab3).trans JP.out
                      have HD8 := Lib.hid hd8
                      have HP8 := Lib.hid hp8
                      have HB8 := Lib.hid hb
                      clear hd8 hp8 hcb ho8 hb cx
                      cases b with
                      | true =>
                        have hlt : ¬ ls.size ≤ used + i + j := fun h => by have := HB8.out h; cases this
                        go_wp2_with fail
                        exact ⟨⟨j + 1, a1, lv3, by go_num, HJQ.out, j2, j3, fun i x h => J4.out i x (by omega), HD8.out, HP8.out, fun h => absurd h (by omega)⟩, by simp [intOf]; omega⟩
                      | false =>
                        by_cases hxa : x = a1
                        · have hin := fun W hs => ack_dup hor (bods := bods) (a := a1) (p := p) g lv3 W hs
                          rw [← hxa, ← HT.out, hxa] at hin
                          have HIN := Lib.hid hin
                          have HXA := Lib.hid hxa
                          clear hin hxa
                          go_wp2_with fail
                          refine (HIN.out _ HD8.out.snd).mono ?_
                          rintro e w9 ⟨rfl, hb9⟩
                          have hd9 := HD8.out.below hb9
                          have hp9 : w9.heap[ab]? = hpa := (hb9.block ab (HABL.out _ HP8.out)).trans HP8.out
                          have HD9 := Lib.hid hd9
                          have HP9 := Lib.hid hp9
                          clear hb9 hd9 hp9
                          go_wp2_with fail
                          exact ⟨⟨j + 1, a1, lv3, by go_num, HJQ.out, j2, j3, fun i x h => J4.out i x (by omega), HD9.out, HP9.out, fun _ _ => by rw [Nat.add_sub_cancel, HX.out, HXA.out]⟩, by simp [intOf]; omega⟩
                        · have hin := fun W hs => ack_new hor (bods := bods) (a := a1) (p := p) (x := x) g lv3 W hs (by omega) (by omega) (by omega) (by omega)
                          rw [← HT.out] at hin
                          have HIN := Lib.hid hin
                          clear hin
                          go_wp2_with fail
                          refine (HIN.out _ HD8.out.snd).mono ?_
                          rintro e w9 ⟨rfl, lv4, hs9, hl9, ho9⟩
                          have hd9 := HD8.out.sent ho9 hs9 (.inr hl9)
                          have hp9 : w9.heap[ab]? = hpa := (ho9.block ab (HABL.out _ HP8.out) hab4).trans HP8.out
                          have HD9 := Lib.hid hd9
                          have HP9 := Lib.hid hp9
                          clear hs9 hl9 ho9 hd9 hp9
                          go_wp2_with fail
                          exact ⟨⟨j + 1, x, lv4, by go_num, HJQ.out, by omega, x2, fun i y h hy => RAK.out.mono (show j ≤ i by omega) HX.out hy, HD9.out, HP9.out, fun _ _ => by rw [Nat.add_sub_cancel, HX.out]⟩, by simp [intOf]; omega⟩
                    · obtain rfl : j = q := by omega
                      have hdj : decide ((j : Int) < (j : Int)) = false := by simp
                      go_wp2_with fail
                      refine (again_any g _ _ _ _ _ _ JD.out.snd).mono ?_
                      rintro e w8 ⟨rfl, hs8, ho8⟩
                      have hd8 := JD.out.sent ho8 hs8 (.inl rfl)
                      have HD8 := Lib.hid hd8
                      clear hs8 ho8 hd8
                      have hturn : turn ≤ 400 := by have := H6.out; omega
                      go_wp2_with fail
                      have hu := HU.out
                      have hmp := HM.out
                      refine ⟨⟨a1, gn1, p, used + i + j, turn + 1, lv3, rfl, by go_num, j3, r3, p2, by omega, by omega, ?_, HD8.out⟩, ?_⟩
                      · have h6 := H6.out
                        by_cases hi0 : i = 0
                        · right; omega
                        · left
                          by_cases hle : ls.size ≤ used
                          · obtain ⟨e1, e2⟩ := RLO.out hle
                            have hqq := HQQ.out
                            have e3 := JL.out (by omega) (by omega)
                            have e4 : a1 = gn1 := by
                              rcases RAK.out.2.2 with h | h
                              · rw [h] at e1; simp at e1; omega
                              · rw [List.getLast?_eq_getElem?, hqq, e3] at h
                                injection h
                            omega
                          · omega
                      · have h6 := H6.out
                        simp [intOf]
                        omega

theorem slideDelivers_row (w : World) (a : Int) (_ : (Lit.int .i64 a).wf = true) (v : Value) (h : IsStrList w v) (ls : ByteArray) (hls : ls.size ≤ 140737488351232) :
    Calls Try.prog 7 #[.int .i64 a, v, .string ls] w fun e w' => e = .returned (.bool true) ∧ Below w.heap.size w w' := by
  obtain ⟨S, hS⟩ := h
  exact slideDelivers_walk a v S ls w hS hls
end Go.Proofs.Ytlhpfhicggdnpaa.Slide
