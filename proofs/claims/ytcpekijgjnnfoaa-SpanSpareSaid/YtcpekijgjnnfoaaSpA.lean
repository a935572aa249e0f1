/-
  The small functions of package span, and of package cmp: contracts.
-/
import Derived.Test.YtcpekijgjnnfoaaMem
import Derived.Test.YtcpekijgjnnfoaaSpP
import Derived.Test.YtcpekijgjnnfoaaShelf
import Derived.StillTail
import Derived.StillTailTactics
import Derived.Deep.QuietTactic
import Derived.BigQuiet
import Derived.IntWalk
import Derived.Deep.LoopGhost
namespace Go.Proofs.Ytcpekijgjnnfoaa.Sp
open Go.RowKit Go.Proofs.YtcpekijgjnnfoaaW.PrintWords Go.Proofs.Ytcpekijgjnnfoaa.Xm

/-- A row of cells that can be read. -/
def RowC (w : World) (A : Option Addr) (xs : List Value) : Prop :=
  0 < xs.length → ∃ b off, A = some ⟨b, off, none⟩ ∧ b < w.heap.size ∧ ∀ j u, xs[j]? = some u → w.cell? ⟨b, off + j, none⟩ = some u
theorem RowC.below {w w' : World} {A : Option Addr} {xs : List Value} (h : RowC w A xs) (hb : Below w.heap.size w w') : RowC w' A xs := by
  intro hp
  obtain ⟨b, off, rfl, hl, hc⟩ := h hp
  exact ⟨b, off, rfl, Nat.lt_of_lt_of_le hl hb.size, fun j u hu => pw_cell_below hb (hc j u hu)⟩
theorem RowC.drew {w : World} {A : Option Addr} {xs : List Value} (h : RowC w A xs) : RowC w.drew A xs := h.below (below_drew (Below.refl _ _))
theorem RowC.new (w : World) (xs : List Value) (t : TypeId) : RowC (w.alloc (.cells xs.toArray t)) (some ⟨w.heap.size, 0, none⟩) xs := by
  intro _
  refine ⟨w.heap.size, 0, rfl, by simp, fun j u hu => ?_⟩
  rw [Nat.zero_add]
  exact cell_new _ _ rfl _ _ _ _ (by simpa using hu)
theorem blk_below {w wr : World} {g : Nat} {cs : Array Value} {t : TypeId} (h : Blk w g cs t) (b : Below w.heap.size w wr) : Blk wr g cs t := (b.block g (Blk.lt h)).trans h
def ints (L : List Int) : List Value := L.map (Value.int .i64)
theorem ints_len (L : List Int) : (ints L).length = L.length := by simp [ints]
theorem ints_get {L : List Int} {i : Nat} {x : Int} (h : L[i]? = some x) : (ints L)[i]? = some (.int .i64 x) := by simp [ints, h]

def OrRel (n : Nat) (L : List Int) (i : Value) : Prop := ∃ k : Nat, k ≤ n ∧ i = .int .i64 k ∧ orL (L.drop k) = orL L
set_option maxHeartbeats 800000 in
theorem or_any (A : Option Addr) (c : Nat) (L : List Int) (w : World) (h : RowC w A (ints L)) (hl : L.length ≤ 1000000) :
    Calls Try.prog 33 #[.slice A L.length c] w fun e w' => e = .returned (.int .i64 (orL L)) ∧ w' = w := by
  have H := Lib.hid h
  clear h
  go_enter Try.func33, Try.ntmps33
  go_wp2_with fail
  go_loop [5, 8] (fun _ i => OrRel L.length L i) (fun _ i => L.length - (intOf i).toNat)
  case atStart => exact ⟨0, Nat.zero_le _, rfl, rfl⟩
  case round =>
    obtain ⟨k, hk, rfl, ho⟩ := hrel
    have HO := Lib.hid ho
    clear ho
    by_cases hlt : k < L.length
    · have hd : decide ((k : Int) < (L.length : Int)) = true := by simp; omega
      obtain ⟨b, off, rfl, hb, hc⟩ := H.out (by rw [ints_len]; omega)
      obtain ⟨x, hx⟩ : ∃ x, L[k]? = some x := ⟨L[k], List.getElem?_eq_getElem _⟩
      have cx : w.cell? ⟨b, off + k, none⟩ = some (.int .i64 x) := hc k _ (ints_get hx)
      have hdr : L.drop k = x :: L.drop (k + 1) := by
        rw [List.drop_eq_getElem_cons hlt]
        have := (List.getElem?_eq_some_iff.1 hx).2
        rw [this]
      have HDR := Lib.hid hdr
      clear hc hx hdr
      by_cases h0 : x = 0
      · subst h0
        have hz : ((0 : Int) != 0) = false := rfl
        go_wp2_with fail
        refine ⟨⟨k + 1, hlt, by go_num, ?_⟩, by simp [intOf]; omega⟩
        rw [← HO.out, HDR.out]
        simp [orL]
      · have hz : (x != 0) = true := by simpa using h0
        have hres : orL L = x := by rw [← HO.out, HDR.out]; simp [orL, h0]
        have HRES := Lib.hid hres
        clear hres
        go_wp2_with fail
        go_ret
        exact ⟨by rw [HRES.out]; rfl, rfl⟩
    · obtain rfl : k = L.length := by omega
      have hd : decide ((L.length : Int) < (L.length : Int)) = false := by simp
      have hres : orL L = 0 := by rw [← HO.out]; simp [orL]
      have HRES := Lib.hid hres
      clear hres
      go_wp2_with fail
      go_ret
      exact ⟨by rw [HRES.out]; rfl, rfl⟩

def encE (x : End) : List Value := [.int .i64 x.bridge, .int .i64 x.port, .int .i64 x.peer, .int .i64 x.peerPort, .int .i64 x.cost]
def encV (x : Vec) : List Value := [.int .i64 x.root, .int .i64 x.cost, .int .i64 x.id, .int .i64 x.port]
theorem cmp_any (x y : Int) (w : World) : Calls Try.prog 34 #[.int .i64 x, .int .i64 y] w fun e w' => e = .returned (.int .i64 (cmpI x y)) ∧ w' = w := Try.cmp_Compare_int x y w

set_option maxHeartbeats 1600000 in
set_option maxRecDepth 100000 in
theorem order_any (x y : Vec) (w : World) :
    Calls Try.prog 35 #[.agg (encV x).toArray, .agg (encV y).toArray] w fun e w' => e = .returned (.int .i64 (cmpV x y)) ∧ Below w.heap.size w w' := by
  obtain ⟨x0, x1, x2, x3⟩ := x
  obtain ⟨y0, y1, y2, y3⟩ := y
  unfold encV
  have hbx := (Blk.new w #[.int .i64 x0, .int .i64 x1, .int .i64 x2, .int .i64 x3] 60).alloc (.cells #[.int .i64 y0, .int .i64 y1, .int .i64 y2, .int .i64 y3] 60)
  have hby0 := Blk.new (w.alloc (.cells #[.int .i64 x0, .int .i64 x1, .int .i64 x2, .int .i64 x3] 60)) #[.int .i64 y0, .int .i64 y1, .int .i64 y2, .int .i64 y3] 60
  have hby : Blk ((w.alloc (.cells #[.int .i64 x0, .int .i64 x1, .int .i64 x2, .int .i64 x3] 60)).alloc (.cells #[.int .i64 y0, .int .i64 y1, .int .i64 y2, .int .i64 y3] 60)) (w.heap.size + 1) #[.int .i64 y0, .int .i64 y1, .int .i64 y2, .int .i64 y3] 60 := by simpa using hby0
  have hb1 := below_alloc (below_alloc (Below.refl w.heap.size w) (.cells #[.int .i64 x0, .int .i64 x1, .int .i64 x2, .int .i64 x3] 60)) (.cells #[.int .i64 y0, .int .i64 y1, .int .i64 y2, .int .i64 y3] 60)
  have HB1 := Lib.hid hb1
  have HBX := Lib.hid hbx
  have HBY := Lib.hid hby
  clear hbx hby0 hby hb1
  go_enter Try.func35, Try.ntmps35
  go_wp2_with fail
  generalize (w.alloc (.cells #[.int .i64 x0, .int .i64 x1, .int .i64 x2, .int .i64 x3] 60)).alloc (.cells #[.int .i64 y0, .int .i64 y1, .int .i64 y2, .int .i64 y3] 60) = w1 at *
  have a0 : w1.cell? ⟨w.heap.size, 0, none⟩ = some (.int .i64 x0) := (Blk.cell HBX.out 0).trans rfl
  have a1 : w1.cell? ⟨w.heap.size, 1, none⟩ = some (.int .i64 x1) := (Blk.cell HBX.out 1).trans rfl
  have a2 : w1.cell? ⟨w.heap.size, 2, none⟩ = some (.int .i64 x2) := (Blk.cell HBX.out 2).trans rfl
  have a3 : w1.cell? ⟨w.heap.size, 3, none⟩ = some (.int .i64 x3) := (Blk.cell HBX.out 3).trans rfl
  have b0 : w1.cell? ⟨w.heap.size + 1, 0, none⟩ = some (.int .i64 y0) := (Blk.cell HBY.out 0).trans rfl
  have b1 : w1.cell? ⟨w.heap.size + 1, 1, none⟩ = some (.int .i64 y1) := (Blk.cell HBY.out 1).trans rfl
  have b2 : w1.cell? ⟨w.heap.size + 1, 2, none⟩ = some (.int .i64 y2) := (Blk.cell HBY.out 2).trans rfl
  have b3 : w1.cell? ⟨w.heap.size + 1, 3, none⟩ = some (.int .i64 y3) := (Blk.cell HBY.out 3).trans rfl
  refine wp_region_still_tail 20 (by kernel_rfl) (by kernel_rfl) ?_
  simp only [List.take_succ_cons, List.take_zero, List.drop_succ_cons, List.drop_zero]
  repeat (first | still_call (cmp_any _ _ _) | still_step)
  refine wpStill_nil ?_
  change wpList _ _ _ _ _ w1.drew
  go_wp2_with fail
  have hr : RowC ((w1.alloc (.cells (ints [cmpI x0 y0, cmpI x1 y1, cmpI x2 y2, cmpI x3 y3]).toArray 3)).drew) (some ⟨w1.heap.size, 0, none⟩) (ints [cmpI x0 y0, cmpI x1 y1, cmpI x2 y2, cmpI x3 y3]) := (RowC.new _ _ _).drew
  refine (or_any (some ⟨w1.heap.size, 0, none⟩) 4 [cmpI x0 y0, cmpI x1 y1, cmpI x2 y2, cmpI x3 y3] _ hr (by simp)).mono ?_
  rintro e w2 ⟨rfl, rfl⟩
  have HV := Lib.hid (show cmpV ⟨x0, x1, x2, x3⟩ ⟨y0, y1, y2, y3⟩ = orL [cmpI x0 y0, cmpI x1 y1, cmpI x2 y2, cmpI x3 y3] from rfl)
  clear hr
  generalize orL [cmpI x0 y0, cmpI x1 y1, cmpI x2 y2, cmpI x3 y3] = r at *
  go_wp2_with fail
  go_ret
  exact ⟨by rw [HV.out]; rfl, below_drew (below_alloc HB1.out _)⟩

set_option maxHeartbeats 800000 in
set_option maxRecDepth 100000 in
theorem better_any (x y : Vec) (w : World) :
    Calls Try.prog 25 #[.agg (encV x).toArray, .agg (encV y).toArray] w fun e w' => e = .returned (.bool (better x y)) ∧ Below w.heap.size w w' := by
  have ho := fun W => order_any x y W
  have HB := Lib.hid (show better x y = decide (cmpV x y < 0) from rfl)
  obtain ⟨r, hr⟩ : ∃ r, r = cmpV x y := ⟨_, rfl⟩
  rw [← hr] at ho
  have HO := Lib.hid ho
  have HR := Lib.hid hr
  clear ho hr
  obtain ⟨x0, x1, x2, x3⟩ := x
  obtain ⟨y0, y1, y2, y3⟩ := y
  unfold encV at *
  go_enter Try.func25, Try.ntmps25
  go_wp2_with fail
  refine (HO.out _).mono ?_
  rintro e w1 ⟨rfl, hb1⟩
  have HB1 := Lib.hid ((below_alloc (below_alloc (Below.refl w.heap.size w) (.cells #[.int .i64 x0, .int .i64 x1, .int .i64 x2, .int .i64 x3] 60)) (.cells #[.int .i64 y0, .int .i64 y1, .int .i64 y2, .int .i64 y3] 60)).trans (hb1.mono (by simp; omega)))
  clear hb1
  go_wp2_with fail
  go_ret
  exact ⟨by rw [HB.out, HR.out.symm]; rfl, HB1.out⟩

open Go.Shelf Go.Lib Go.Sort in
set_option maxHeartbeats 1600000 in
set_option maxRecDepth 100000 in
/-- The order of the ends, as 'ends' hands it to the sort. -/
theorem closure_any (x y : End) (W : World) :
    Calls Try.prog 32 #[.agg (encE x).toArray, .agg (encE y).toArray] W fun e w' => e = .returned (.int .i64 (cmpE x y)) ∧ ∃ q os', w' = grow (W.drewN q) os' := by
  obtain ⟨x0, x1, x2, x3, x4⟩ := x
  obtain ⟨y0, y1, y2, y3, y4⟩ := y
  unfold encE
  have hbx := (Blk.new W #[.int .i64 x0, .int .i64 x1, .int .i64 x2, .int .i64 x3, .int .i64 x4] 56).alloc (.cells #[.int .i64 y0, .int .i64 y1, .int .i64 y2, .int .i64 y3, .int .i64 y4] 56)
  have hby0 := Blk.new (W.alloc (.cells #[.int .i64 x0, .int .i64 x1, .int .i64 x2, .int .i64 x3, .int .i64 x4] 56)) #[.int .i64 y0, .int .i64 y1, .int .i64 y2, .int .i64 y3, .int .i64 y4] 56
  have hby : Blk ((W.alloc (.cells #[.int .i64 x0, .int .i64 x1, .int .i64 x2, .int .i64 x3, .int .i64 x4] 56)).alloc (.cells #[.int .i64 y0, .int .i64 y1, .int .i64 y2, .int .i64 y3, .int .i64 y4] 56)) (W.heap.size + 1) #[.int .i64 y0, .int .i64 y1, .int .i64 y2, .int .i64 y3, .int .i64 y4] 56 := by simpa using hby0
  have hgr : ∀ s : Obj, ((((W.alloc (.cells #[.int .i64 x0, .int .i64 x1, .int .i64 x2, .int .i64 x3, .int .i64 x4] 56)).alloc (.cells #[.int .i64 y0, .int .i64 y1, .int .i64 y2, .int .i64 y3, .int .i64 y4] 56)).alloc s).drew) = grow (W.drewN 1) (#[.cells #[.int .i64 x0, .int .i64 x1, .int .i64 x2, .int .i64 x3, .int .i64 x4] 56] ++ #[.cells #[.int .i64 y0, .int .i64 y1, .int .i64 y2, .int .i64 y3, .int .i64 y4] 56] ++ #[s]) := by
    intro s
    rw [alloc_eq_grow, alloc_eq_grow, alloc_eq_grow, grow_grow, grow_grow]
    rfl
  have HGR := Lib.hid hgr
  have HBX := Lib.hid hbx
  have HBY := Lib.hid hby
  clear hbx hby0 hby hgr
  go_enter Try.func32, Try.ntmps32
  go_wp2_with fail
  generalize (W.alloc (.cells #[.int .i64 x0, .int .i64 x1, .int .i64 x2, .int .i64 x3, .int .i64 x4] 56)).alloc (.cells #[.int .i64 y0, .int .i64 y1, .int .i64 y2, .int .i64 y3, .int .i64 y4] 56) = w1 at *
  have a0 : w1.cell? ⟨W.heap.size, 0, none⟩ = some (.int .i64 x0) := (Blk.cell HBX.out 0).trans rfl
  have a1 : w1.cell? ⟨W.heap.size, 1, none⟩ = some (.int .i64 x1) := (Blk.cell HBX.out 1).trans rfl
  have b0 : w1.cell? ⟨W.heap.size + 1, 0, none⟩ = some (.int .i64 y0) := (Blk.cell HBY.out 0).trans rfl
  have b1 : w1.cell? ⟨W.heap.size + 1, 1, none⟩ = some (.int .i64 y1) := (Blk.cell HBY.out 1).trans rfl
  refine wp_region_still_tail 10 (by kernel_rfl) (by kernel_rfl) ?_
  simp only [List.take_succ_cons, List.take_zero, List.drop_succ_cons, List.drop_zero]
  repeat (first | still_call (cmp_any _ _ _) | still_step)
  refine wpStill_nil ?_
  change wpList _ _ _ _ _ w1.drew
  go_wp2_with fail
  have hr : RowC ((w1.alloc (.cells (ints [cmpI x0 y0, cmpI x1 y1]).toArray 3)).drew) (some ⟨w1.heap.size, 0, none⟩) (ints [cmpI x0 y0, cmpI x1 y1]) := (RowC.new _ _ _).drew
  refine (or_any (some ⟨w1.heap.size, 0, none⟩) 2 [cmpI x0 y0, cmpI x1 y1] _ hr (by simp)).mono ?_
  rintro e w2 ⟨rfl, rfl⟩
  have HV := Lib.hid (show cmpE ⟨x0, x1, x2, x3, x4⟩ ⟨y0, y1, y2, y3, y4⟩ = orL [cmpI x0 y0, cmpI x1 y1] from rfl)
  clear hr
  generalize orL [cmpI x0 y0, cmpI x1 y1] = r at *
  go_wp2_with fail
  go_ret
  exact ⟨by rw [HV.out]; rfl, 1, _, HGR.out _⟩
end Go.Proofs.Ytcpekijgjnnfoaa.Sp
