/-
  The law CreditSafe, walked.
-/
import Derived.Test.YtidgmoeimgjggaaCredit
import Derived.Test.YtidgmoeimgjggaaOpen
import Derived.Deep.LoopGhost
namespace Go.Proofs.Ytidgmoeimgjggaa.Credit
open Go.RowKit Go.Proofs.YtidgmoeimgjggaaW.PrintWords Go.Proofs.Ytidgmoeimgjggaa.Xm Go.Proofs.Ytidgmoeimgjggaa.Xo

attribute [local go_sem] max2_ints min2_ints max_of2 min_of2

theorem info_slice : (Try.prog.info? 31).map (fun i => (i.zero, i.size, i.bytes)) = some (some (.slice none 0 0), 1, 24) := by kernel_rfl
theorem info_int : (Try.prog.info? 3).map (fun i => (i.zero, i.size, i.bytes)) = some (some (.int .i64 0), 1, 8) := by kernel_rfl

/-- A slice whose first two cells are ints, where it has two. -/
def El (w : World) (u : Value) : Prop := ∃ (A : Option Addr) (n c : Nat), u = .slice A n c ∧ n ≤ 9223372036854775807 ∧ (2 ≤ n → ∃ b off x y, A = some ⟨b, off, none⟩ ∧ b < w.heap.size ∧ w.cell? ⟨b, off, none⟩ = some (.int .i64 x) ∧ w.cell? ⟨b, off + 1, none⟩ = some (.int .i64 y))
theorem el_nil (w : World) : El w (.slice none 0 0) := ⟨none, 0, 0, rfl, by omega, fun h => absurd h (by omega)⟩
theorem el_ints {w : World} {u : Value} (h : IsInts w u) : El w u := by
  obtain ⟨A, n, c, Z, rfl, hn, hc, _, hz⟩ := h
  refine ⟨A, n, c, rfl, by unfold maxLen at hc; omega, fun h2 => ?_⟩
  obtain ⟨b, off, rfl, hb, hh⟩ := hz (by omega)
  exact ⟨b, off, _, _, rfl, hb, hh 0 (by omega), hh 1 (by omega)⟩
theorem el_all {w : World} {V : Nat → Value} {k : Nat} (h : ∀ i, i < k → IsInts w (V i)) : ∀ i, i < k + 1 → ∃ u, ((List.range k).map V ++ [.slice none 0 0])[i]? = some u ∧ El w u := by
  intro i hi
  by_cases hk : i < k
  · refine ⟨V i, ?_, el_ints (h i hk)⟩
    rw [List.getElem?_append_left (by simp; omega)]
    simp [hk]
  · obtain rfl : i = k := by omega
    refine ⟨.slice none 0 0, ?_, el_nil w⟩
    rw [List.getElem?_append_right (by simp)]
    simp
theorem within_q (x n : Int) (w : World) (h1 : 1 ≤ n) (h2 : n ≤ 1000000000000000) :
    Calls Try.prog 11 #[.int .i64 x, .int .i64 n] w fun e w' => e = .returned (.int .i64 (wi x n)) ∧ w' = w := (within_any x n w h1 h2).mono fun _ _ ⟨h, k⟩ => ⟨h, k.symm⟩

def SafeInv (w1 wr : World) (bb : Nat) (cur : Array Value) (room : Int) (n : Nat) (way got news : Value) : Prop :=
  ∃ (wy inn tk cr snt : Int) (N : List Int), way = .int .i64 wy ∧ got = .int .i64 tk ∧ IsGiver wr w1.heap.size (1 + room) inn tk ∧ IsTaker wr (w1.heap.size + 1) cr snt ∧ Blk wr bb cur 31 ∧
    QRow wr w1.heap.size 3 1 news N.length (nums .i64 N) ∧ N.length ≤ n ∧ Only (fun k => w1.heap.size ≤ k) w1 wr ∧
    (0 ≤ wy ∧ 0 ≤ tk ∧ tk ≤ inn ∧ wy + inn = snt ∧ snt ≤ cr ∧ cr ≤ tk + (1 + room) ∧ snt ≤ 60 * n) ∧ (∀ x, x ∈ N → cr ≤ x ∧ x ≤ tk + (1 + room)) ∧ N.Pairwise (· ≤ ·)
def SafeRel (w1 : World) (bb : Nat) (cur : Array Value) (room : Int) (k : Nat) (way got news i : Value) (wr : World) : Prop := ∃ n : Nat, n ≤ k + 1 ∧ i = .int .i64 n ∧ SafeInv w1 wr bb cur room n way got news

set_option maxHeartbeats 2000000 in
set_option maxRecDepth 100000 in
theorem creditSafe_walk (a : Int) (ao : Option Addr) (len cap : Nat) (V : Nat → Value) (w : World) (hlc : len ≤ cap) (hcm : cap ≤ 9223372036854775807) (hre : cap * 24 ≤ 140737488351232) (hno : ao = none → cap = 0) (hc : Cells w ao len V) (hv : ∀ i, i < len → IsInts w (V i)) :
    Calls Try.prog 3 #[.int .i64 a, .slice ao len cap] w fun e w' => e = .returned (.bool true) ∧ Below w.heap.size w w' := by
  obtain ⟨r1, r2⟩ := wi_bd a 50 (by omega)
  have HC := Lib.hid hc
  have HV := Lib.hid hv
  have HN := Lib.hid hno
  clear hc hv hno
  obtain ⟨k, hk1, hk2, hmin⟩ : ∃ k : Nat, k ≤ len ∧ k ≤ 80 ∧ (if (80 : Int) < (len : Int) then (80 : Int) else (len : Int)) = (k : Int) := by
    by_cases h : (80 : Int) < (len : Int)
    · exact ⟨80, by omega, by omega, by rw [if_pos h]; rfl⟩
    · exact ⟨len, by omega, by omega, by rw [if_neg h]⟩
  obtain ⟨i0, hi, hz0, hz1, hz2⟩ := info_parts info_slice
  have HI := Lib.hid hi
  have HZ0 := Lib.hid hz0
  have HZ1 := Lib.hid hz1
  have HZ2 := Lib.hid hz2
  clear hi hz0 hz1 hz2
  go_enter Try.func3, Try.ntmps3
  go_wp2_with (go_at_call 11; refine (within_any _ _ _ (by omega) (by omega)).mono ?_; rintro e w' ⟨rfl, rfl⟩)
  generalize wi a 50 = room at *
  refine (creditWorks_any _).mono ?_
  rintro e w1 ⟨rfl, hB⟩
  have HB := Lib.hid hB
  clear hB
  go_wp2_with fail
  refine (newGiver_any _ _ (by omega) (by omega)).mono ?_
  rintro e w' ⟨rfl, rfl⟩
  go_wp2_with fail
  refine (newTaker_any _).mono ?_
  rintro e w' ⟨rfl, rfl⟩
  have hnone : ao = none → k = 0 ∧ k = 0 := fun h => by have := HN.out h; omega
  have HNO := Lib.hid hnone
  clear hnone
  go_wp2_with (at_builtin; refine wpList_append_grows _ rfl (.tmp 40) (.tmp 41) 22 rfl 31 i0 (.slice none 0 0) 1 24 Try.underlying22 HI.out HZ0.out HZ1.out HZ2.out rfl (by decide) ao k k ((List.range k).map V) rfl HNO.out ?lo ?olds ⟨w1.heap.size + 1 + 1, 0, none⟩ 1 1 [.slice none 0 0] rfl rfl ?c1 ?c2 (by omega) ?b1 ?b2 ?grow)
  case lo => simp
  case olds =>
    intro b hb j u hu
    have hjk : j < k := by have := (List.getElem?_eq_some_iff.1 hu).1; simpa using this
    simp [hjk] at hu
    subst hu
    obtain ⟨b', off, he, hlt, hcell⟩ := HC.out (by omega)
    rw [hb] at he
    injection he with he
    subst he
    have h1 := hcell j (by omega)
    rw [add_at]
    exact pw_cell_below (below_alloc (below_alloc (below_alloc HB.out _) _) _) h1
  case c1 => intro j u hj; match j, hj with | 0, hj => simp at hj; subst hj; exact cell_new _ _ (by simp) _ _ 0 _ rfl
  case c2 => intro u hu; simp at hu; subst hu; rfl
  case b1 => unfold maxLen; omega
  case b2 => omega
  case grow =>
    intro v' w' hown hgrow
    obtain ⟨bb, cap', cur, rfl, hbb, hh, hcap', hmax', hsize, htake⟩ : ∃ bb cap' cur, v' = .slice (some ⟨bb, 0, none⟩) (k + 1) cap' ∧ w1.heap.size + 1 + 1 + 1 ≤ bb ∧ w'.heap[bb]? = some (.cells cur 31 (0, 0)) ∧ k + 1 ≤ cap' ∧ cap' ≤ maxLen ∧ cur.size = cap' * 1 ∧ cur.toList.take ((k + 1) * 1) = (List.range k).map V ++ [.slice none 0 0] := by
      rcases hown.2 with ⟨_, h⟩ | ⟨g, c, cur, h1, h2, h3, h4, h5, h6, h7⟩
      · omega
      · exact ⟨g, c, cur, h1, h2, h3, h4, h5, h6, h7⟩
    have hels : ∀ i, i < k + 1 → ∃ u, cur[i]? = some u ∧ El w u := by
      intro i hi
      obtain ⟨u, h1, h2⟩ := el_all (fun j hj => HV.out j (by omega)) i hi
      refine ⟨u, ?_, h2⟩
      rw [← htake, List.getElem?_take, if_pos (by omega)] at h1
      simpa using h1
    have HE := Lib.hid hels
    have inv0 : SafeInv w1 w' bb cur room 0 (.int .i64 0) (.int .i64 0) (.slice none 0 0) := by
      have hO : Only (fun k => w1.heap.size ≤ k) w1 w' := ((((Only.refl _ _).alloc _).alloc _).alloc _).grown hgrow (by intro k _ h; cases h)
      have hb1 := Blk.new w1 #[.int .i64 (1 + room), .int .i64 0, .int .i64 0] 70
      have hb2 := Blk.new (w1.alloc (.cells #[.int .i64 (1 + room), .int .i64 0, .int .i64 0] 70)) #[.int .i64 0, .int .i64 0] 72
      have e2 : (w1.alloc (.cells #[.int .i64 (1 + room), .int .i64 0, .int .i64 0] 70)).heap.size = w1.heap.size + 1 := by simp
      rw [e2] at hb2
      refine ⟨0, 0, 0, 0, 0, [], rfl, rfl, ?_, ?_, hh, q_nil _ _ _ _, by simp, hO, ⟨by omega, by omega, by omega, by omega, by omega, by omega, by omega⟩, by simp, .nil⟩
      · exact blk_grown (((hb1.alloc _).alloc _)) hgrow (by simp)
      · exact blk_grown (hb2.alloc _) hgrow (by simp)
    have I0 := Lib.hid inv0
    clear hown hgrow hh hsize htake hels inv0
    go_wp2_with fail
    go_loopw [8, 9, 10, 44] (fun way got news i wr => SafeRel w1 bb cur room k way got news i wr) (fun _ _ _ i _ => k + 1 - (intOf i).toNat)
    case atStart => exact ⟨0, by omega, rfl, I0.out⟩
    case round =>
      obtain ⟨n, hn, rfl, wy, inn, tk, cr, snt, N, rfl, rfl, hg, ht, hb, hq, hN, ho, ⟨b1, b2, b3, b4, b5, b6, b7⟩, hNx, hNs⟩ := hrel
      have HG := Lib.hid hg
      have HT := Lib.hid ht
      have HBB := Lib.hid hb
      have HQ := Lib.hid hq
      have HNL := Lib.hid hN
      have HO := Lib.hid ho
      have HNX := Lib.hid hNx
      have HNS := Lib.hid hNs
      have B4 := Lib.hid b4
      have b41 : wy + inn ≤ snt := by omega
      have b42 : snt ≤ wy + inn := by omega
      have hsz := ho.size
      clear hg ht hb hq hN ho hNx hNs b4
      by_cases hlt : n < k + 1
      · obtain ⟨u, hu, A, m, c, rfl, hm, h2⟩ := HE.out n hlt
        have hcell : wr.cell? ⟨bb, n, none⟩ = some (.slice A m c) := (Blk.cell HBB.out n).trans hu
        have hbw : Below w.heap.size w wr := HB.out.trans (HO.out.below HB.out.size (fun k hk e => by have := HB.out.size; omega))
        have HBW := Lib.hid hbw
        clear hbw
        by_cases h1 : 2 ≤ m
        · obtain ⟨b, off, x, y, rfl, hbs, hx, hy⟩ := h2 h1
          have cx : wr.cell? ⟨b, off, none⟩ = some (.int .i64 x) := (HBW.out.cell (p := ⟨b, off, none⟩) hbs).trans hx
          have cy : wr.cell? ⟨b, off + 1, none⟩ = some (.int .i64 y) := (HBW.out.cell (p := ⟨b, off + 1, none⟩) hbs).trans hy
          obtain ⟨k1, k2⟩ := wi_bd x 5 (by omega)
          obtain ⟨n1, n2⟩ := wi_bd y 60 (by omega)
          clear h2 hx hy hu
          go_wp2_with fail
          go_quiet ((go_at_call 11; exact Calls.quiet_of_same (within_q _ _ _ (by omega) (by omega))))
          generalize wi x 5 = kk at *
          generalize wi y 60 = nn at *
          clear hcell cx cy
          rcases (show kk = 0 ∨ kk = 1 ∨ kk = 2 ∨ kk = 3 ∨ kk = 4 by omega) with rfl | rfl | rfl | rfl | rfl
          · go_wp2_with fail
            refine (send_any _ cr snt nn _ (by exact HT.out) (by omega) (by omega) (by omega) (by omega) (by omega)).mono ?_
            rintro e w2 ⟨rfl, ht2, ho2⟩
            have m1 : min (nn) (cr - snt) ≤ nn := by omega
            have m2 : min (nn) (cr - snt) ≤ cr - snt := by omega
            have m3 : 0 ≤ min (nn) (cr - snt) := by omega
            generalize min (nn) (cr - snt) = mm at *
            have HTX := Lib.hid ht2
            have HO2 := Lib.hid ho2
            have HGX := Lib.hid (HO2.out.blk (Blk.drewN HG.out nq) (by simp))
            have HBX := Lib.hid (HO2.out.blk (Blk.drewN HBB.out nq) (fun h => blk_ne_blk HBB.out HT.out (by decide) h))
            have HQX := Lib.hid (HO2.out.row (q_drewN HQ.out nq) (fun k hk h => q_ne_blk HQ.out HT.out (by decide) k hk h))
            have HOX := Lib.hid ((HO.out.drewN nq).step HO2.out (by intro i hi h; omega))
            clear ht2 ho2
            have t1 : (snt + mm != (wy + mm) + (inn - (tk)) + (tk)) = false := by rw [bne_eq_false_iff_eq]; omega
            go_wp2_with fail
            refine (held_any _ (1 + room) (inn) (tk) _ (by exact HGX.out) (by omega) (by omega) (by omega) (by omega)).mono ?_
            rintro e w' ⟨rfl, q1, rfl⟩
            go_wp2_with fail
            refine (held_any _ (1 + room) (inn) (tk) _ (by exact HGX.out) (by omega) (by omega) (by omega) (by omega)).mono ?_
            rintro e w' ⟨rfl, q2, rfl⟩
            go_wp2_with fail
            refine (sent_any _ (cr) (snt + mm) _ (by exact HTX.out)).mono ?_
            rintro e w' ⟨rfl, rfl⟩
            go_wp2_with fail
            refine (held_any _ (1 + room) (inn) (tk) _ (by exact HGX.out) (by omega) (by omega) (by omega) (by omega)).mono ?_
            rintro e w' ⟨rfl, q3, rfl⟩
            go_wp2_with fail
            clear t1
            refine ⟨?_, by simp [intOf]; omega⟩
            first | refine ⟨n + 1, ?_, ?_, ?_⟩ | ((repeat apply Exists.intro); refine ⟨⟨n + 1, ?_, ?_, ?_⟩, rfl⟩)
            · omega
            · go_num
            · exact ⟨wy + mm, inn, tk, cr, snt + mm, N, rfl, rfl, HGX.out, HTX.out, HBX.out, HQX.out, by have := HNL.out; omega, HOX.out.drewN _, ⟨by omega, by omega, by omega, by have := B4.out; omega, by omega, by omega, by omega⟩, HNX.out, HNS.out⟩
          · obtain ⟨mm, m1, m2, m3, hmm⟩ : ∃ mm : Int, mm ≤ wy ∧ mm ≤ nn ∧ 0 ≤ mm ∧ (if wy < nn then wy else nn) = mm := by
              by_cases h : wy < nn
              · exact ⟨wy, by omega, by omega, by omega, by rw [if_pos h]⟩
              · exact ⟨nn, by omega, by omega, by omega, by rw [if_neg h]⟩
            go_wp2_with fail
            clear hmm
            refine (in_any _ (1 + room) inn tk mm _ (by exact HG.out) (by omega) (by omega) (by omega) (by omega) (by omega) (by omega) (by omega) (by omega)).mono ?_
            rintro e w2 ⟨rfl, hg2, ho2⟩
            have HGX := Lib.hid hg2
            have HO2 := Lib.hid ho2
            have HTX := Lib.hid (HO2.out.blk (Blk.drewN HT.out nq) (by simp))
            have HBX := Lib.hid (HO2.out.blk (Blk.drewN HBB.out nq) (fun h => blk_ne_blk HBB.out HG.out (by decide) h))
            have HQX := Lib.hid (HO2.out.row (q_drewN HQ.out nq) (fun k hk h => q_ne_blk HQ.out HG.out (by decide) k hk h))
            have HOX := Lib.hid ((HO.out.drewN nq).step HO2.out (by intro i hi h; omega))
            clear hg2 ho2
            have t1 : (snt != (wy - mm) + (inn + mm - (tk)) + (tk)) = false := by rw [bne_eq_false_iff_eq]; omega
            go_wp2_with fail
            refine (held_any _ (1 + room) (inn + mm) (tk) _ (by exact HGX.out) (by omega) (by omega) (by omega) (by omega)).mono ?_
            rintro e w' ⟨rfl, q1, rfl⟩
            go_wp2_with fail
            refine (held_any _ (1 + room) (inn + mm) (tk) _ (by exact HGX.out) (by omega) (by omega) (by omega) (by omega)).mono ?_
            rintro e w' ⟨rfl, q2, rfl⟩
            go_wp2_with fail
            refine (sent_any _ (cr) (snt) _ (by exact HTX.out)).mono ?_
            rintro e w' ⟨rfl, rfl⟩
            go_wp2_with fail
            refine (held_any _ (1 + room) (inn + mm) (tk) _ (by exact HGX.out) (by omega) (by omega) (by omega) (by omega)).mono ?_
            rintro e w' ⟨rfl, q3, rfl⟩
            go_wp2_with fail
            clear t1
            refine ⟨?_, by simp [intOf]; omega⟩
            first | refine ⟨n + 1, ?_, ?_, ?_⟩ | ((repeat apply Exists.intro); refine ⟨⟨n + 1, ?_, ?_, ?_⟩, rfl⟩)
            · omega
            · go_num
            · exact ⟨wy - mm, inn + mm, tk, cr, snt, N, rfl, rfl, HGX.out, HTX.out, HBX.out, HQX.out, by have := HNL.out; omega, HOX.out.drewN _, ⟨by omega, by omega, by omega, by have := B4.out; omega, by omega, by omega, by omega⟩, HNX.out, HNS.out⟩
          · go_wp2_with fail
            refine (take_any _ (1 + room) inn tk nn _ (by exact HG.out) (by omega) (by omega) (by omega) (by omega) (by omega) (by omega)).mono ?_
            rintro e w2 ⟨rfl, hg2, ho2⟩
            have m1 : min nn (inn - tk) ≤ nn := by omega
            have m2 : min nn (inn - tk) ≤ inn - tk := by omega
            have m3 : 0 ≤ min nn (inn - tk) := by omega
            generalize min nn (inn - tk) = mm at *
            have HGX := Lib.hid hg2
            have HO2 := Lib.hid ho2
            have HTX := Lib.hid (HO2.out.blk (Blk.drewN HT.out nq) (by simp))
            have HBX := Lib.hid (HO2.out.blk (Blk.drewN HBB.out nq) (fun h => blk_ne_blk HBB.out HG.out (by decide) h))
            have HQX := Lib.hid (HO2.out.row (q_drewN HQ.out nq) (fun k hk h => q_ne_blk HQ.out HG.out (by decide) k hk h))
            have HOX := Lib.hid ((HO.out.drewN nq).step HO2.out (by intro i hi h; omega))
            clear hg2 ho2
            have t1 : (snt != wy + (inn - (tk + mm)) + (tk + mm)) = false := by rw [bne_eq_false_iff_eq]; omega
            go_wp2_with fail
            refine (held_any _ (1 + room) (inn) (tk + mm) _ (by exact HGX.out) (by omega) (by omega) (by omega) (by omega)).mono ?_
            rintro e w' ⟨rfl, q1, rfl⟩
            go_wp2_with fail
            refine (held_any _ (1 + room) (inn) (tk + mm) _ (by exact HGX.out) (by omega) (by omega) (by omega) (by omega)).mono ?_
            rintro e w' ⟨rfl, q2, rfl⟩
            go_wp2_with fail
            refine (sent_any _ (cr) (snt) _ (by exact HTX.out)).mono ?_
            rintro e w' ⟨rfl, rfl⟩
            go_wp2_with fail
            refine (held_any _ (1 + room) (inn) (tk + mm) _ (by exact HGX.out) (by omega) (by omega) (by omega) (by omega)).mono ?_
            rintro e w' ⟨rfl, q3, rfl⟩
            go_wp2_with fail
            clear t1
            refine ⟨?_, by simp [intOf]; omega⟩
            first | refine ⟨n + 1, ?_, ?_, ?_⟩ | ((repeat apply Exists.intro); refine ⟨⟨n + 1, ?_, ?_, ?_⟩, rfl⟩)
            · omega
            · go_num
            · exact ⟨wy, inn, tk + mm, cr, snt, N, rfl, rfl, HGX.out, HTX.out, HBX.out, HQX.out, by have := HNL.out; omega, HOX.out.drewN _, ⟨by omega, by omega, by omega, by have := B4.out; omega, by omega, by omega, by omega⟩, (fun x hx => by have := HNX.out x hx; omega), HNS.out⟩
          · go_wp2_with fail
            refine (grant_any _ (1 + room) inn tk _ (by exact HG.out) (by omega) (by omega) (by omega) (by omega)).mono ?_
            rintro e w2 ⟨rfl, q0, rfl⟩
            go_wp2_with (at_builtin; refine wpList_append_q (wr.drewN (nq + q0)) w1.heap.size rfl (.tmp 109) (.tmp 112) 31 3 (.int .i64 0) 1 8 rfl Try.underlying31 info_int rfl (by decide) _ N.length (nums .i64 N) rfl ?hq 1 [.int .i64 (tk + (1 + room))] rfl rfl ?h1 (by decide) ?h63 ?hby ?hba ?next)
            case hq => exact HQ.out
            case h1 => intro u hu; simp at hu; subst hu; rfl
            case h63 => have := HNL.out; unfold maxLen; omega
            case hby => have := HNL.out; omega
            case hba => have := HO.out.size; simpa using this
            case next =>
              intro v2 w2 hq2 hg2 _
              have HG2 := Lib.hid hg2
              have HQX := Lib.hid hq2
              have HGX := Lib.hid (blk_grown (Blk.drewN HG.out (nq + q0)) hg2 (fun h => q_ne_blk HQ.out HG.out (by decide) _ h.symm rfl))
              have HTX := Lib.hid (blk_grown (Blk.drewN HT.out (nq + q0)) hg2 (fun h => q_ne_blk HQ.out HT.out (by decide) _ h.symm rfl))
              have HBX := Lib.hid (blk_grown (Blk.drewN HBB.out (nq + q0)) hg2 (fun h => q_ne_blk HQ.out HBB.out (by decide) _ h.symm rfl))
              have HOX := Lib.hid ((HO.out.drewN (nq + q0)).grown hg2 (by intro i hi h; exact (q_typed HQ.out i h.symm).1))
              clear hq2 hg2
              have t1 : (snt != wy + (inn - (tk)) + (tk)) = false := by rw [bne_eq_false_iff_eq]; omega
              go_wp2_with fail
              refine (held_any _ (1 + room) (inn) (tk) _ (by exact HGX.out) (by omega) (by omega) (by omega) (by omega)).mono ?_
              rintro e w' ⟨rfl, q1, rfl⟩
              go_wp2_with fail
              refine (held_any _ (1 + room) (inn) (tk) _ (by exact HGX.out) (by omega) (by omega) (by omega) (by omega)).mono ?_
              rintro e w' ⟨rfl, q2, rfl⟩
              go_wp2_with fail
              refine (sent_any _ (cr) (snt) _ (by exact HTX.out)).mono ?_
              rintro e w' ⟨rfl, rfl⟩
              go_wp2_with fail
              refine (held_any _ (1 + room) (inn) (tk) _ (by exact HGX.out) (by omega) (by omega) (by omega) (by omega)).mono ?_
              rintro e w' ⟨rfl, q3, rfl⟩
              go_wp2_with fail
              clear t1
              refine ⟨?_, by simp [intOf]; omega⟩
              first | refine ⟨n + 1, ?_, ?_, ?_⟩ | ((repeat apply Exists.intro); refine ⟨⟨n + 1, ?_, ?_, ?_⟩, rfl⟩)
              · omega
              · go_num
              · exact ⟨wy, inn, tk, cr, snt, (N ++ [tk + (1 + room)]), rfl, rfl, HGX.out, HTX.out, HBX.out, (q_drewN (by simpa [nums] using HQX.out) _), by have := HNL.out; (simp; omega), HOX.out.drewN _, ⟨by omega, by omega, by omega, by have := B4.out; omega, by omega, by omega, by omega⟩, (fun x hx => by rcases List.mem_append.1 hx with h | h; exact HNX.out x h; simp at h; omega), (List.pairwise_append.2 ⟨HNS.out, by simp, fun x hx y hy => by have := HNX.out x hx; simp at hy; omega⟩)⟩
          · cases N with
            | nil =>
              obtain ⟨A', c', rfl, _⟩ := q_slice HQ.out
              simp only [List.length_nil] at *
              go_wp2_with fail
              have t1 : (snt != wy + (inn - (tk)) + (tk)) = false := by rw [bne_eq_false_iff_eq]; omega
              refine (held_any _ (1 + room) (inn) (tk) _ (by exact HG.out) (by omega) (by omega) (by omega) (by omega)).mono ?_
              rintro e w' ⟨rfl, q1, rfl⟩
              go_wp2_with fail
              refine (held_any _ (1 + room) (inn) (tk) _ (by exact HG.out) (by omega) (by omega) (by omega) (by omega)).mono ?_
              rintro e w' ⟨rfl, q2, rfl⟩
              go_wp2_with fail
              refine (sent_any _ (cr) (snt) _ (by exact HT.out)).mono ?_
              rintro e w' ⟨rfl, rfl⟩
              go_wp2_with fail
              refine (held_any _ (1 + room) (inn) (tk) _ (by exact HG.out) (by omega) (by omega) (by omega) (by omega)).mono ?_
              rintro e w' ⟨rfl, q3, rfl⟩
              go_wp2_with fail
              clear t1
              refine ⟨?_, by simp [intOf]; omega⟩
              first | refine ⟨n + 1, ?_, ?_, ?_⟩ | ((repeat apply Exists.intro); refine ⟨⟨n + 1, ?_, ?_, ?_⟩, rfl⟩)
              · omega
              · go_num
              · exact ⟨wy, inn, tk, cr, snt, [], rfl, rfl, HG.out, HT.out, HBB.out, HQ.out, by have := HNL.out; simp, HO.out.drewN _, ⟨by omega, by omega, by omega, by have := B4.out; omega, by omega, by omega, by omega⟩, HNX.out, HNS.out⟩
            | cons x N =>
              obtain ⟨hx1, hx2⟩ := HNX.out x (by simp)
              have hNl : N.length + 1 ≤ n := by have := HNL.out; simpa using this
              obtain ⟨gq, oq, cq, rfl, _, _, hcq, _, hcells, _, _⟩ := q_form HQ.out (by simp)
              have hc0 : wr.cell? ⟨gq, oq, none⟩ = some (.int .i64 x) := (hcells 0 (by simp)).trans rfl
              have hq2 := q_drop HQ.out (k := 1) (by simp)
              have hrun : ∀ W : World, (Instr.slice 31 (.slice (some ⟨gq, oq, none⟩) (N.length + 1) cq) (some (.int .i64 1)) none none).run Try.prog W = .ok (.slice (if cq = 1 then some ⟨gq, oq, none⟩ else (some (⟨gq, oq, none⟩ : Addr)).map (·.add (1 * 1))) (N.length + 1 - 1) (cq - 1)) W := by
                obtain ⟨i3, hi3, _, hz31, _⟩ := info_parts info_int
                exact cut_from 31 3 .i64 Try.underlying31 hi3 1 hz31 (some ⟨gq, oq, none⟩) (N.length + 1) cq 1 (by omega) (by omega)
              obtain ⟨v2, hv2⟩ : ∃ v2, Value.slice (if cq = 1 then some ⟨gq, oq, none⟩ else (some (⟨gq, oq, none⟩ : Addr)).map (·.add (1 * 1))) (N.length + 1 - 1) (cq - 1) = v2 := ⟨_, rfl⟩
              have hq3 : QRow wr w1.heap.size 3 1 v2 N.length (nums .i64 N) := by rw [← hv2]; simpa [nums] using hq2
              rw [hv2] at hrun
              have HQ3 := Lib.hid hq3
              clear hv2 hq2 hq3 hcells
              have hl0 : (0 : Int) < ((x :: N).length : Int) := by simp only [List.length_cons]; omega
              simp only [List.length_cons] at *
              go_wp2_with fail
              refine (hear_any _ cr snt x _ (by exact HT.out) (by omega) (by omega)).mono ?_
              rintro e w2 ⟨rfl, ht2, ho2⟩
              have HTX := Lib.hid ht2
              have HO2 := Lib.hid ho2
              have HGX := Lib.hid (HO2.out.blk (Blk.drewN HG.out nq) (by simp))
              have HBX := Lib.hid (HO2.out.blk (Blk.drewN HBB.out nq) (fun h => blk_ne_blk HBB.out HT.out (by decide) h))
              have HQX := Lib.hid (HO2.out.row (q_drewN HQ3.out nq) (fun k hk h => q_ne_blk HQ3.out HT.out (by decide) k hk h))
              have HOX := Lib.hid ((HO.out.drewN nq).step HO2.out (by intro i hi h; omega))
              clear ht2 ho2
              have t1 : (snt != wy + (inn - (tk)) + (tk)) = false := by rw [bne_eq_false_iff_eq]; omega
              go_wp2_with fail
              refine (held_any _ (1 + room) (inn) (tk) _ (by exact HGX.out) (by omega) (by omega) (by omega) (by omega)).mono ?_
              rintro e w' ⟨rfl, q1, rfl⟩
              go_wp2_with fail
              refine (held_any _ (1 + room) (inn) (tk) _ (by exact HGX.out) (by omega) (by omega) (by omega) (by omega)).mono ?_
              rintro e w' ⟨rfl, q2, rfl⟩
              go_wp2_with fail
              refine (sent_any _ (x) (snt) _ (by exact HTX.out)).mono ?_
              rintro e w' ⟨rfl, rfl⟩
              go_wp2_with fail
              refine (held_any _ (1 + room) (inn) (tk) _ (by exact HGX.out) (by omega) (by omega) (by omega) (by omega)).mono ?_
              rintro e w' ⟨rfl, q3, rfl⟩
              go_wp2_with fail
              clear t1
              refine ⟨?_, by simp [intOf]; omega⟩
              first | refine ⟨n + 1, ?_, ?_, ?_⟩ | ((repeat apply Exists.intro); refine ⟨⟨n + 1, ?_, ?_, ?_⟩, rfl⟩)
              · omega
              · go_num
              · exact ⟨wy, inn, tk, x, snt, N, rfl, rfl, HGX.out, HTX.out, HBX.out, HQX.out, by have := HNL.out; omega, HOX.out.drewN _, ⟨by omega, by omega, by omega, by have := B4.out; omega, by omega, by omega, by omega⟩, (fun y hy => by have h1 := (List.pairwise_cons.1 HNS.out).1 y hy; have h2 := HNX.out y (by simp [hy]); omega), (List.pairwise_cons.1 HNS.out).2⟩
        · go_wp2_with fail
          refine (send_any _ cr snt 0 _ (by exact HT.out) (by omega) (by omega) (by omega) (by omega) (by omega)).mono ?_
          rintro e w2 ⟨rfl, ht2, ho2⟩
          have m1 : min (0) (cr - snt) ≤ 0 := by omega
          have m2 : min (0) (cr - snt) ≤ cr - snt := by omega
          have m3 : 0 ≤ min (0) (cr - snt) := by omega
          generalize min (0) (cr - snt) = mm at *
          have HTX := Lib.hid ht2
          have HO2 := Lib.hid ho2
          have HGX := Lib.hid (HO2.out.blk (Blk.drewN HG.out 0) (by simp))
          have HBX := Lib.hid (HO2.out.blk (Blk.drewN HBB.out 0) (fun h => blk_ne_blk HBB.out HT.out (by decide) h))
          have HQX := Lib.hid (HO2.out.row (q_drewN HQ.out 0) (fun k hk h => q_ne_blk HQ.out HT.out (by decide) k hk h))
          have HOX := Lib.hid ((HO.out.drewN 0).step HO2.out (by intro i hi h; omega))
          clear ht2 ho2
          have t1 : (snt + mm != (wy + mm) + (inn - (tk)) + (tk)) = false := by rw [bne_eq_false_iff_eq]; omega
          go_wp2_with fail
          refine (held_any _ (1 + room) (inn) (tk) _ (by exact HGX.out) (by omega) (by omega) (by omega) (by omega)).mono ?_
          rintro e w' ⟨rfl, q1, rfl⟩
          go_wp2_with fail
          refine (held_any _ (1 + room) (inn) (tk) _ (by exact HGX.out) (by omega) (by omega) (by omega) (by omega)).mono ?_
          rintro e w' ⟨rfl, q2, rfl⟩
          go_wp2_with fail
          refine (sent_any _ (cr) (snt + mm) _ (by exact HTX.out)).mono ?_
          rintro e w' ⟨rfl, rfl⟩
          go_wp2_with fail
          refine (held_any _ (1 + room) (inn) (tk) _ (by exact HGX.out) (by omega) (by omega) (by omega) (by omega)).mono ?_
          rintro e w' ⟨rfl, q3, rfl⟩
          go_wp2_with fail
          clear t1
          refine ⟨?_, by simp [intOf]; omega⟩
          first | refine ⟨n + 1, ?_, ?_, ?_⟩ | ((repeat apply Exists.intro); refine ⟨⟨n + 1, ?_, ?_, ?_⟩, rfl⟩)
          · omega
          · go_num
          · exact ⟨wy + mm, inn, tk, cr, snt + mm, N, rfl, rfl, HGX.out, HTX.out, HBX.out, HQX.out, by have := HNL.out; omega, HOX.out.drewN _, ⟨by omega, by omega, by omega, by have := B4.out; omega, by omega, by omega, by omega⟩, HNX.out, HNS.out⟩
      · obtain rfl : n = k + 1 := by omega
        go_wp2_with fail
        refine (in_any _ (1 + room) inn tk wy _ (by exact HG.out) (by omega) (by omega) (by omega) (by omega) (by omega) (by omega) (by omega) (by omega)).mono ?_
        rintro e w2 ⟨rfl, hg2, ho2⟩
        have HGX := Lib.hid hg2
        have HO2 := Lib.hid ho2
        have HTX := Lib.hid (HO2.out.blk HT.out (by simp))
        clear hg2 ho2
        go_wp2_with fail
        refine (take_any _ (1 + room) (inn + wy) tk (1 + room) _ (by exact HGX.out) (by omega) (by omega) (by omega) (by omega) (by omega) (by omega)).mono ?_
        rw [show min (1 + room) (inn + wy - tk) = inn + wy - tk by omega]
        rintro e w3 ⟨rfl, hg3, ho3⟩
        have HO3 := Lib.hid ho3
        have HTY := Lib.hid (HO3.out.blk HTX.out (by simp))
        clear hg3 ho3
        go_wp2_with fail
        refine (sent_any _ cr snt _ (by exact HTY.out)).mono ?_
        rintro e w' ⟨rfl, rfl⟩
        have t1 : (tk + (inn + wy - tk) == snt) = true := by rw [beq_iff_eq]; omega
        go_wp2_with fail
        go_ret
        have h2 : Only (fun k => w1.heap.size ≤ k) w1 w2 := HO.out.step HO2.out (by intro i hi h; omega)
        have h3 : Only (fun k => w1.heap.size ≤ k) w1 w' := h2.step HO3.out (by intro i hi h; omega)
        exact ⟨rfl, HB.out.trans (h3.below HB.out.size (fun k hk e => by have := HB.out.size; omega))⟩
theorem creditSafe_row (w : World) (a : Int) (_ : (Lit.int .i64 a).wf = true) (v : Value) (h : IsRows w v) :
    Calls Try.prog 3 #[.int .i64 a, v] w fun e w' => e = .returned (.bool true) ∧ Below w.heap.size w w' := by
  obtain ⟨ao, len, cap, V, rfl, h1, h2, h3, h4, h5, h6⟩ := h
  exact creditSafe_walk a ao len cap V w h1 (by unfold maxLen at h2; omega) h3 h4 h5 h6
end Go.Proofs.Ytidgmoeimgjggaa.Credit
