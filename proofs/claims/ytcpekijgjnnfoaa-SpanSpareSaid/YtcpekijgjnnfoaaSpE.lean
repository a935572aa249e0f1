/-
  states: its contract.
-/
import Derived.Test.YtcpekijgjnnfoaaSpD
import Derived.Test.YtcpekijgjnnfoaaSpQ
import Derived.Test.YtcpekijgjnnfoaaSpR
import Derived.Deep.Light
namespace Go.Proofs.Ytcpekijgjnnfoaa.Sp
open Go.RowKit Go.Proofs.YtcpekijgjnnfoaaW.PrintWords Go.Proofs.Ytcpekijgjnnfoaa.Xm Go.Proofs.Ytcpekijgjnnfoaa.Rq Go.Sort

theorem bcell {W w1 : World} (hb : Below W.heap.size W w1) : (∀ b o, b < W.heap.size → w1.cell? ⟨b, o, none⟩ = W.cell? ⟨b, o, none⟩) ∧ (∀ b o, b < W.heap.size → w1.frozen? ⟨b, o, none⟩ = W.frozen? ⟨b, o, none⟩) :=
  ⟨fun b o h => hb.cell (p := ⟨b, o, none⟩) h, fun b o h => hb.frozen (p := ⟨b, o, none⟩) h⟩
theorem blk_to {w : World} {g : Nat} {cs cs' : Array Value} {t : TypeId} (h : Blk w g cs t) (e : cs = cs') : Blk w g cs' t := e ▸ h
theorem blk_new1 (w : World) (o : Obj) (cs : Array Value) (t : TypeId) : Blk ((w.alloc o).alloc (.cells cs t)) (w.heap.size + 1) cs t := by
  simpa using Blk.new (w.alloc o) cs t
/-- Two new vectors, in whatever order they came. -/
def TwoV (wx w' : World) (g1 g2 : Nat) (a b : Array Value) (t : TypeId) : Prop := Blk w' g1 a t ∧ Blk w' g2 b t ∧ Below wx.heap.size wx w'
theorem blk_set4 {w : World} {g : Nat} {z0 z1 z2 z3 : Value} {t : TypeId} (h : Blk w g #[z0, z1, z2, z3] t) (a b c d : Value) : Blk ((((w.setCell ⟨g, 0, none⟩ a).setCell ⟨g, 1, none⟩ b).setCell ⟨g, 2, none⟩ c).setCell ⟨g, 3, none⟩ d) g #[a, b, c, d] t :=
  blk_to ((((h.set 0 a).set 1 b).set 2 c).set 3 d) rfl
theorem blk_far4 {w : World} {g k : Nat} {cs : Array Value} {t : TypeId} (h : Blk w g cs t) (hne : g ≠ k) (a b c d : Value) : Blk ((((w.setCell ⟨k, 0, none⟩ a).setCell ⟨k, 1, none⟩ b).setCell ⟨k, 2, none⟩ c).setCell ⟨k, 3, none⟩ d) g cs t :=
  (((h.far hne a).far hne b).far hne c).far hne d
theorem two_new (wx w6 : World) (h : Below wx.heap.size wx w6) (a b : Array Value) (t : TypeId) : TwoV wx ((w6.alloc (.cells a t)).alloc (.cells b t)) w6.heap.size (w6.heap.size + 1) a b t :=
  ⟨(Blk.new _ _ _).alloc _, blk_new1 _ _ _ _, below_alloc (below_alloc h _) _⟩
theorem two_set_new {wx w6 : World} (h : Below wx.heap.size wx w6) {g : Nat} {z0 z1 z2 z3 : Value} {t : TypeId} (hg : Blk w6 g #[z0, z1, z2, z3] t) (hB : wx.heap.size ≤ g) (a b c d : Value) (e : Array Value) :
    TwoV wx (((((w6.setCell ⟨g, 0, none⟩ a).setCell ⟨g, 1, none⟩ b).setCell ⟨g, 2, none⟩ c).setCell ⟨g, 3, none⟩ d).alloc (.cells e t)) g w6.heap.size #[a, b, c, d] e t :=
  ⟨(blk_set4 hg a b c d).alloc _, by simpa [World.setCell] using Blk.new ((((w6.setCell ⟨g, 0, none⟩ a).setCell ⟨g, 1, none⟩ b).setCell ⟨g, 2, none⟩ c).setCell ⟨g, 3, none⟩ d) e t, below_alloc (below4 h hB _ _ _ _) _⟩
theorem two_set_set {wx w6 : World} (h : Below wx.heap.size wx w6) {g k : Nat} {z0 z1 z2 z3 y0 y1 y2 y3 : Value} {t : TypeId} (hg : Blk w6 g #[z0, z1, z2, z3] t) (hk : Blk w6 k #[y0, y1, y2, y3] t) (hne : g ≠ k) (hB : wx.heap.size ≤ g) (hB2 : wx.heap.size ≤ k) (a b c d a' b' c' d' : Value) :
    TwoV wx ((((((((w6.setCell ⟨g, 0, none⟩ a).setCell ⟨g, 1, none⟩ b).setCell ⟨g, 2, none⟩ c).setCell ⟨g, 3, none⟩ d).setCell ⟨k, 0, none⟩ a').setCell ⟨k, 1, none⟩ b').setCell ⟨k, 2, none⟩ c').setCell ⟨k, 3, none⟩ d') g k #[a, b, c, d] #[a', b', c', d'] t :=
  ⟨blk_far4 (blk_set4 hg a b c d) hne _ _ _ _, blk_set4 (blk_far4 hk (Ne.symm hne) a b c d) _ _ _ _, below4 (below4 h hB _ _ _ _) hB2 _ _ _ _⟩
theorem TwoV.turn {wx w' : World} {g1 g2 : Nat} {a b : Array Value} {t : TypeId} (h : TwoV wx w' g1 g2 a b t) : TwoV wx w' g2 g1 b a t := ⟨h.2.1, h.1, h.2.2⟩
theorem lt_ne_succ (a : Nat) : a ≠ a + 1 := by omega
theorem succ_ne (a : Nat) : a + 1 ≠ a := by omega
def encP (x : SPort) : List Value := [.int .i64 x.bridge, .int .i64 x.port, .bool x.isOpen]
def portsV (L : List SPort) : List Value := L.flatMap encP
theorem info_sport : (Try.prog.info? 32).map (fun i => (i.zero, i.size, i.bytes)) = some (some (.agg #[.int .i64 0, .int .i64 0, .bool false]), 3, 24) := by kernel_rfl
def StatesOut (w w' : World) (S : List SPort) (e : Ending) : Prop := ∃ A c, e = .returned (.slice A S.length c) ∧ QRow w' w.heap.size 32 3 (.slice A S.length c) S.length (portsV S) ∧ Below w.heap.size w w'
def StatesRel (w : World) (S : List SPort) (out i : Value) (wr : World) : Prop := ∃ k : Nat, k ≤ S.length ∧ i = .int .i64 k ∧ Below w.heap.size w wr ∧ QRow wr w.heap.size 32 3 out k (portsV (S.take k))

set_option maxHeartbeats 12800000 in
set_option maxRecDepth 100000 in
theorem states_any (Ai Al An Ae : Option Addr) (m ci cl cn ce : Nat) (ids : List Int) (N : List Bel) (E : List End) (w : World) (hi : RowC w Ai (ints ids)) (hN : RowC w An (bels N)) (hE : RowC w Ae (endsV E)) (hlen : N.length = ids.length) (hn : InNet ids.length E) (hel : E.length ≤ 1000) :
    Calls Try.prog 26 #[.agg #[.slice Ai ids.length ci, .slice Al m cl], .slice Ae E.length ce, .slice An N.length cn] w fun e w' => StatesOut w w' (statesL ids N E) e := by
  have hsl : (statesL ids N E).length = E.length := by simp [statesL]
  have HI := Lib.hid hi
  have HN := Lib.hid hN
  have HE := Lib.hid hE
  have HLEN := Lib.hid hlen
  have HNET := Lib.hid hn
  have HSL := Lib.hid hsl
  have hb0 := below_alloc (Below.refl w.heap.size w) (.cells #[.slice Ai ids.length ci, .slice Al m cl] 25)
  have hbn0 := Blk.new w #[.slice Ai ids.length ci, .slice Al m cl] 25
  have HB0 := Lib.hid hb0
  have HBN0 := Lib.hid hbn0
  have HSZ := Lib.hid (show (w.alloc (.cells #[.slice Ai ids.length ci, .slice Al m cl] 25)).heap.size = w.heap.size + 1 by simp)
  have hs0 : w.heap.size < (w.alloc (.cells #[.slice Ai ids.length ci, .slice Al m cl] 25)).heap.size := hbn0.lt
  clear hi hN hE hlen hn hb0 hbn0 hsl
  go_enter Try.func26, Try.ntmps26
  go_wp2_with fail
  generalize w.alloc (.cells #[.slice Ai ids.length ci, .slice Al m cl] 25) = w1 at *
  go_loopw [7, 14] (fun out i wr => StatesRel w (statesL ids N E) out i wr ∧ Below w1.heap.size w1 wr) (fun _ i _ => E.length - (intOf i).toNat)
  case atStart => exact ⟨⟨0, Nat.zero_le _, rfl, HB0.out, by simpa [portsV] using q_nil _ _ _ _⟩, Below.refl _ _⟩
  case round =>
    obtain ⟨⟨k, hk, rfl, hb, hq⟩, hb1⟩ := hrel
    have hk' : k ≤ E.length := by have := HSL.out; omega
    have HB := Lib.hid hb
    have HB1 := Lib.hid hb1
    have HQ := Lib.hid hq
    clear hb hq hk hb1
    by_cases hlt : k < E.length
    · have hd : decide ((k : Int) < (E.length : Int)) = true := by simp; omega
      obtain ⟨b, off, rfl, hbl, hc⟩ := HE.out (by rw [endsV_len]; omega)
      obtain ⟨x, hx⟩ : ∃ x, E[k]? = some x := ⟨E[k], List.getElem?_eq_getElem _⟩
      obtain ⟨n1, n2, n3, n4⟩ := HNET.out x (List.mem_of_getElem? hx)
      obtain ⟨st, hst⟩ : ∃ st, st = stateOf ids N x := ⟨_, rfl⟩
      have htk : portsV ((statesL ids N E).take (k + 1)) = portsV ((statesL ids N E).take k) ++ encP st := by
        rw [List.take_add_one, statesL, List.getElem?_map, hx, hst]
        simp [portsV]
      have HST := Lib.hid hst
      clear hst
      obtain ⟨xb, xp, yb, yp, xc⟩ := x
      simp only at n1 n2 n3 n4
      obtain ⟨bi, rfl⟩ := Int.eq_ofNat_of_zero_le n1
      obtain ⟨pi, rfl⟩ := Int.eq_ofNat_of_zero_le n3
      have hbi : bi < ids.length := by omega
      have hpi : pi < ids.length := by omega
      have cell : ∀ j u, (encE ⟨(bi : Int), xp, (pi : Int), yp, xc⟩)[j]? = some u → wr.cell? ⟨b, off + (k * 5 + j), none⟩ = some u := by
        intro j u hu
        have hj : j < 5 := by have := (List.getElem?_eq_some_iff.1 hu).1; simpa [encE] using this
        exact pw_cell_below HB.out (hc (k * 5 + j) u ((endsV_get hx j hj).trans hu))
      have c0 : wr.cell? ⟨b, off + k * 5, none⟩ = some (.int .i64 (bi : Int)) := cell 0 _ rfl
      have c1 : wr.cell? ⟨b, off + k * 5 + 1, none⟩ = some (.int .i64 xp) := by rw [Nat.add_assoc]; exact cell 1 _ rfl
      have c2 : wr.cell? ⟨b, off + k * 5 + 2, none⟩ = some (.int .i64 (pi : Int)) := by rw [Nat.add_assoc]; exact cell 2 _ rfl
      have c3 : wr.cell? ⟨b, off + k * 5 + 3, none⟩ = some (.int .i64 yp) := by rw [Nat.add_assoc]; exact cell 3 _ rfl
      have c4 : wr.cell? ⟨b, off + k * 5 + 4, none⟩ = some (.int .i64 xc) := by rw [Nat.add_assoc]; exact cell 4 _ rfl
      have HTK := Lib.hid htk
      have HX := Lib.hid hx
      have hws := HB.out.size
      clear hc hx htk cell n1 n2 n3 n4
      go_upto_region 5 with (fail)
      have hbx := below_alloc (Below.refl wr.heap.size wr) (.cells #[.int .i64 (bi : Int), .int .i64 xp, .int .i64 (pi : Int), .int .i64 yp, .int .i64 xc] 56)
      have hex := Blk.new wr #[.int .i64 (bi : Int), .int .i64 xp, .int .i64 (pi : Int), .int .i64 yp, .int .i64 xc] 56
      have hnx := blk_below (blk_below HBN0.out HB1.out) hbx
      have hqx := q_below HQ.out hbx
      have HBX := Lib.hid hbx
      have HEX := Lib.hid hex
      have HNX := Lib.hid hnx
      have HQX := Lib.hid hqx
      have hzx : wr.heap.size < (wr.alloc (.cells #[.int .i64 (bi : Int), .int .i64 xp, .int .i64 (pi : Int), .int .i64 yp, .int .i64 xc] 56)).heap.size := hex.lt
      clear hbx hex hnx hqx c0 c1 c2 c3 c4
      generalize wr.alloc (.cells #[.int .i64 (bi : Int), .int .i64 xp, .int .i64 (pi : Int), .int .i64 yp, .int .i64 xc] 56) = wx at *
      have HBW := Lib.hid (HB.out.trans (HBX.out.mono hws))
      obtain ⟨own, hown⟩ : ∃ v, v = vecOf ids N bi xp := ⟨_, rfl⟩
      obtain ⟨oth, hoth⟩ : ∃ v, v = vecOf ids N pi yp := ⟨_, rfl⟩
      have ha1 := fun W (hW : Below wx.heap.size wx W) => announced_any Ai Al An m ci cl cn ids N bi xp W (HI.out.below (HBW.out.trans (hW.mono HBW.out.size))) (HN.out.below (HBW.out.trans (hW.mono HBW.out.size))) hbi (by have := HLEN.out; omega)
      have ha2 := fun W (hW : Below wx.heap.size wx W) => announced_any Ai Al An m ci cl cn ids N pi yp W (HI.out.below (HBW.out.trans (hW.mono HBW.out.size))) (HN.out.below (HBW.out.trans (hW.mono HBW.out.size))) hpi (by have := HLEN.out; omega)
      rw [← hown] at ha1
      rw [← hoth] at ha2
      have HOWN := Lib.hid hown
      have HOTH := Lib.hid hoth
      clear hown hoth
      obtain ⟨o0, o1, o2', o3⟩ := own
      obtain ⟨q0, q1, q2, q3⟩ := oth
      unfold encV at ha1 ha2
      have HA1 := Lib.hid ha1
      have HA2 := Lib.hid ha2
      clear ha1 ha2
      have d0 : wx.cell? ⟨w.heap.size, 0, none⟩ = some (.slice Ai ids.length ci) := (Blk.cell HNX.out 0).trans rfl
      have d1 : wx.cell? ⟨w.heap.size, 1, none⟩ = some (.slice Al m cl) := (Blk.cell HNX.out 1).trans rfl
      have e0 : wx.cell? ⟨wr.heap.size, 0, none⟩ = some (.int .i64 (bi : Int)) := (Blk.cell HEX.out 0).trans rfl
      have e1 : wx.cell? ⟨wr.heap.size, 1, none⟩ = some (.int .i64 xp) := (Blk.cell HEX.out 1).trans rfl
      have e2 : wx.cell? ⟨wr.heap.size, 2, none⟩ = some (.int .i64 (pi : Int)) := (Blk.cell HEX.out 2).trans rfl
      have e3 : wx.cell? ⟨wr.heap.size, 3, none⟩ = some (.int .i64 yp) := (Blk.cell HEX.out 3).trans rfl
      have hkeep : ∀ W, Below wx.heap.size wx W → (W.cell? ⟨w.heap.size, 0, none⟩ = some (.slice Ai ids.length ci) ∧ W.cell? ⟨w.heap.size, 1, none⟩ = some (.slice Al m cl) ∧ W.cell? ⟨wr.heap.size, 0, none⟩ = some (.int .i64 (bi : Int)) ∧ W.cell? ⟨wr.heap.size, 1, none⟩ = some (.int .i64 xp) ∧ W.cell? ⟨wr.heap.size, 2, none⟩ = some (.int .i64 (pi : Int)) ∧ W.cell? ⟨wr.heap.size, 3, none⟩ = some (.int .i64 yp)) :=
        fun W hW => ⟨pw_cell_below hW d0, pw_cell_below hW d1, pw_cell_below hW e0, pw_cell_below hW e1, pw_cell_below hW e2, pw_cell_below hW e3⟩
      have HK := Lib.hid hkeep
      clear hkeep
      go_cut [10, 11, 14] from 14 to 54 (fun p q i w' => i = .int .i64 (k : Int) ∧ ∃ g1 g2, p = .pointer (some ⟨g1, 0, none⟩) ∧ q = .pointer (some ⟨g2, 0, none⟩) ∧ TwoV wx w' g1 g2 #[.int .i64 o0, .int .i64 o1, .int .i64 o2', .int .i64 o3] #[.int .i64 q0, .int .i64 q1, .int .i64 q2, .int .i64 q3] 60)
      case first =>
        refine wp_region_noPanic ?_
        go_region_held_law (fun W => W.cell? ⟨w.heap.size, 0, none⟩ = some (.slice Ai ids.length ci) ∧ W.cell? ⟨w.heap.size, 1, none⟩ = some (.slice Al m cl) ∧ W.cell? ⟨wr.heap.size, 0, none⟩ = some (.int .i64 (bi : Int)) ∧ W.cell? ⟨wr.heap.size, 1, none⟩ = some (.int .i64 xp) ∧ W.cell? ⟨wr.heap.size, 2, none⟩ = some (.int .i64 (pi : Int)) ∧ W.cell? ⟨wr.heap.size, 3, none⟩ = some (.int .i64 yp))
          (first | (refine HK.out _ ?_; repeat (first | with_reducible refine Below.setCell ?_ ?_ _ | with_reducible refine below_alloc ?_ _ | with_reducible refine below_drew ?_ | with_reducible assumption | with_reducible exact Below.refl _ _ | (dsimp only; omega))))
          (first
            | (go_at_call 24; (with_reducible refine (HA1.out _ ?_).mono ?_)
               · repeat (first | with_reducible refine Below.setCell ?_ ?_ _ | with_reducible refine below_alloc ?_ _ | with_reducible refine below_drew ?_ | with_reducible assumption | with_reducible exact Below.refl _ _ | (dsimp only; omega))
               rintro e w5 ⟨rfl, hb5⟩
               have hx5 : Below wx.heap.size wx w5 := by
                 refine Below.trans ?_ (hb5.mono ?_)
                 · repeat (first | with_reducible refine Below.setCell ?_ ?_ _ | with_reducible refine below_alloc ?_ _ | with_reducible refine below_drew ?_ | with_reducible assumption | with_reducible exact Below.refl _ _ | (dsimp only; omega))
                 · (first | exact Nat.le_refl _ | omega | (simp; done) | (simp; omega))
               try (
                 have k0 : Blk w5 wx.heap.size #[.int .i64 0, .int .i64 0, .int .i64 0, .int .i64 0] 60 := blk_below (by first | exact Blk.new _ _ _ | exact (Blk.new _ _ _).alloc _ | exact Blk.drew (Blk.new _ _ _) | exact Blk.drew ((Blk.new _ _ _).alloc _)) hb5
                 have k0lt := Blk.lt k0
                 have k0f0 := Blk.frozen k0 0
                 have k0f1 := Blk.frozen k0 1
                 have k0f2 := Blk.frozen k0 2
                 have k0f3 := Blk.frozen k0 3
                 have k0m0 : w5.cell? ⟨wx.heap.size, 0, none⟩ = some (.int .i64 0) := (Blk.cell k0 0).trans rfl
                 have k0m1 : w5.cell? ⟨wx.heap.size, 1, none⟩ = some (.int .i64 0) := (Blk.cell k0 1).trans rfl
                 have k0m2 : w5.cell? ⟨wx.heap.size, 2, none⟩ = some (.int .i64 0) := (Blk.cell k0 2).trans rfl
                 have k0m3 : w5.cell? ⟨wx.heap.size, 3, none⟩ = some (.int .i64 0) := (Blk.cell k0 3).trans rfl)
               try (
                 have k1 : Blk w5 (wx.heap.size + 1) #[.int .i64 0, .int .i64 0, .int .i64 0, .int .i64 0] 60 := blk_below (by first | exact (by simpa using Blk.new (wx.alloc (.cells #[.int .i64 0, .int .i64 0, .int .i64 0, .int .i64 0] 60)) #[.int .i64 0, .int .i64 0, .int .i64 0, .int .i64 0] 60) | exact Blk.drew (by simpa using Blk.new (wx.alloc (.cells #[.int .i64 0, .int .i64 0, .int .i64 0, .int .i64 0] 60)) #[.int .i64 0, .int .i64 0, .int .i64 0, .int .i64 0] 60)) hb5
                 have k1lt := Blk.lt k1
                 have k1f0 := Blk.frozen k1 0
                 have k1f1 := Blk.frozen k1 1
                 have k1f2 := Blk.frozen k1 2
                 have k1f3 := Blk.frozen k1 3
                 have k1m0 : w5.cell? ⟨(wx.heap.size + 1), 0, none⟩ = some (.int .i64 0) := (Blk.cell k1 0).trans rfl
                 have k1m1 : w5.cell? ⟨(wx.heap.size + 1), 1, none⟩ = some (.int .i64 0) := (Blk.cell k1 1).trans rfl
                 have k1m2 : w5.cell? ⟨(wx.heap.size + 1), 2, none⟩ = some (.int .i64 0) := (Blk.cell k1 2).trans rfl
                 have k1m3 : w5.cell? ⟨(wx.heap.size + 1), 3, none⟩ = some (.int .i64 0) := (Blk.cell k1 3).trans rfl)
               have hz5 := hb5.size
               have hy5 := hx5.size
               clear hb5)
            | (go_at_call 24; (with_reducible refine (HA2.out _ ?_).mono ?_)
               · repeat (first | with_reducible refine Below.setCell ?_ ?_ _ | with_reducible refine below_alloc ?_ _ | with_reducible refine below_drew ?_ | with_reducible assumption | with_reducible exact Below.refl _ _ | (dsimp only; omega))
               rintro e w6 ⟨rfl, hb6⟩
               have hx6 : Below wx.heap.size wx w6 := by
                 refine Below.trans ?_ (hb6.mono ?_)
                 · repeat (first | with_reducible refine Below.setCell ?_ ?_ _ | with_reducible refine below_alloc ?_ _ | with_reducible refine below_drew ?_ | with_reducible assumption | with_reducible exact Below.refl _ _ | (dsimp only; omega))
                 · (first | exact Nat.le_refl _ | omega | (simp; done) | (simp; omega))
               try (
                 have l0 : Blk w6 wx.heap.size #[.int .i64 0, .int .i64 0, .int .i64 0, .int .i64 0] 60 := blk_below (by first | exact k0 | exact k0.alloc _ | exact (k0.alloc _).alloc _) hb6
                 have l0lt := Blk.lt l0
                 have l0f0 := Blk.frozen l0 0
                 have l0f1 := Blk.frozen l0 1
                 have l0f2 := Blk.frozen l0 2
                 have l0f3 := Blk.frozen l0 3
                 have l0m0 : w6.cell? ⟨wx.heap.size, 0, none⟩ = some (.int .i64 0) := (Blk.cell l0 0).trans rfl
                 have l0m1 : w6.cell? ⟨wx.heap.size, 1, none⟩ = some (.int .i64 0) := (Blk.cell l0 1).trans rfl
                 have l0m2 : w6.cell? ⟨wx.heap.size, 2, none⟩ = some (.int .i64 0) := (Blk.cell l0 2).trans rfl
                 have l0m3 : w6.cell? ⟨wx.heap.size, 3, none⟩ = some (.int .i64 0) := (Blk.cell l0 3).trans rfl)
               try (
                 have l1 : Blk w6 (wx.heap.size + 1) #[.int .i64 0, .int .i64 0, .int .i64 0, .int .i64 0] 60 := blk_below (by first | exact k1 | exact k1.alloc _) hb6
                 have l1lt := Blk.lt l1
                 have l1f0 := Blk.frozen l1 0
                 have l1f1 := Blk.frozen l1 1
                 have l1f2 := Blk.frozen l1 2
                 have l1f3 := Blk.frozen l1 3
                 have l1m0 : w6.cell? ⟨(wx.heap.size + 1), 0, none⟩ = some (.int .i64 0) := (Blk.cell l1 0).trans rfl
                 have l1m1 : w6.cell? ⟨(wx.heap.size + 1), 1, none⟩ = some (.int .i64 0) := (Blk.cell l1 1).trans rfl
                 have l1m2 : w6.cell? ⟨(wx.heap.size + 1), 2, none⟩ = some (.int .i64 0) := (Blk.cell l1 2).trans rfl
                 have l1m3 : w6.cell? ⟨(wx.heap.size + 1), 3, none⟩ = some (.int .i64 0) := (Blk.cell l1 3).trans rfl)
               try (
                 have l2 : Blk w6 w5.heap.size #[.int .i64 0, .int .i64 0, .int .i64 0, .int .i64 0] 60 := blk_below (by first | exact Blk.new _ _ _ | exact (Blk.new _ _ _).alloc _) hb6
                 have l2lt := Blk.lt l2
                 have l2f0 := Blk.frozen l2 0
                 have l2f1 := Blk.frozen l2 1
                 have l2f2 := Blk.frozen l2 2
                 have l2f3 := Blk.frozen l2 3
                 have l2m0 : w6.cell? ⟨w5.heap.size, 0, none⟩ = some (.int .i64 0) := (Blk.cell l2 0).trans rfl
                 have l2m1 : w6.cell? ⟨w5.heap.size, 1, none⟩ = some (.int .i64 0) := (Blk.cell l2 1).trans rfl
                 have l2m2 : w6.cell? ⟨w5.heap.size, 2, none⟩ = some (.int .i64 0) := (Blk.cell l2 2).trans rfl
                 have l2m3 : w6.cell? ⟨w5.heap.size, 3, none⟩ = some (.int .i64 0) := (Blk.cell l2 3).trans rfl)
               try (
                 have l3 : Blk w6 (w5.heap.size + 1) #[.int .i64 0, .int .i64 0, .int .i64 0, .int .i64 0] 60 := blk_below (by first | exact (by simpa using Blk.new (w5.alloc (.cells #[.int .i64 0, .int .i64 0, .int .i64 0, .int .i64 0] 60)) #[.int .i64 0, .int .i64 0, .int .i64 0, .int .i64 0] 60)) hb6
                 have l3lt := Blk.lt l3
                 have l3f0 := Blk.frozen l3 0
                 have l3f1 := Blk.frozen l3 1
                 have l3f2 := Blk.frozen l3 2
                 have l3f3 := Blk.frozen l3 3
                 have l3m0 : w6.cell? ⟨(w5.heap.size + 1), 0, none⟩ = some (.int .i64 0) := (Blk.cell l3 0).trans rfl
                 have l3m1 : w6.cell? ⟨(w5.heap.size + 1), 1, none⟩ = some (.int .i64 0) := (Blk.cell l3 1).trans rfl
                 have l3m2 : w6.cell? ⟨(w5.heap.size + 1), 2, none⟩ = some (.int .i64 0) := (Blk.cell l3 2).trans rfl
                 have l3m3 : w6.cell? ⟨(w5.heap.size + 1), 3, none⟩ = some (.int .i64 0) := (Blk.cell l3 3).trans rfl)
               have hz6 := hb6.size
               have hy6 := hx6.size
               clear hb6))
        all_goals (
             refine NoPanic.normal ?_
             clear HK HA1 HA2 HNX HQX HBX HEX HOWN HOTH HX HTK HST HI HN HE HLEN HNET HB0 HBN0 HSL HB HB1 HQ HBW d0 d1 e0 e1 e2 e3
             go_wp2_with fail
             go_meet
             go_light
             refine ⟨rfl, _, _, rfl, rfl, ?_⟩
             first
               | with_reducible apply two_new wx w6 hx6
               | (with_reducible apply TwoV.turn; with_reducible apply two_new wx w6 hx6)
               | with_reducible apply two_set_set hx6 l2 l3 (lt_ne_succ _) hy5 (Nat.le_succ_of_le hy5)
               | with_reducible apply two_set_set hx6 l3 l2 (succ_ne _) (Nat.le_succ_of_le hy5) hy5
               | with_reducible apply two_set_set hx6 l0 l2 (Nat.ne_of_lt k0lt) (Nat.le_refl _) hy5
               | with_reducible apply two_set_set hx6 l2 l0 (Nat.ne_of_gt k0lt) hy5 (Nat.le_refl _)
               | with_reducible apply two_set_set hx6 l0 l1 (lt_ne_succ _) (Nat.le_refl _) (Nat.le_succ _)
               | with_reducible apply two_set_set hx6 l1 l0 (succ_ne _) (Nat.le_succ _) (Nat.le_refl _)
               | with_reducible apply two_set_new hx6 l2 hy5
               | (with_reducible apply TwoV.turn; with_reducible apply two_set_new hx6 l2 hy5)
               | with_reducible apply two_set_new hx6 l0 (Nat.le_refl _)
               | (with_reducible apply TwoV.turn; with_reducible apply two_set_new hx6 l0 (Nat.le_refl _))
               | fail)
      case rest =>
        obtain ⟨rfl, g1, g2, rfl, rfl, ht1, ht2, ht3⟩ := hcut
        have hzc := ht3.size
        obtain ⟨b2, o2, rfl, hbl2, hc2⟩ := HN.out (by rw [bels_len]; have := HLEN.out; omega)
        obtain ⟨n, hn⟩ : ∃ n, N[bi]? = some n := ⟨N[bi]'(by have := HLEN.out; omega), List.getElem?_eq_getElem _⟩
        have HBC := Lib.hid (HBW.out.trans (ht3.mono HBW.out.size))
        have n2 : wc.cell? ⟨b2, o2 + bi * 3 + 2, none⟩ = some (.int .i64 n.port) := by
          rw [Nat.add_assoc]
          exact pw_cell_below HBC.out (hc2 (bi * 3 + 2) _ ((bels_get hn 2 (by omega)).trans rfl))
        have hbel : belAt N (bi : Int) = n := by simp [belAt, List.getD_eq_getElem?_getD, hn]
        have HEXC := Lib.hid (blk_below HEX.out ht3)
        have HQC := Lib.hid (q_below HQX.out ht3)
        have HB1C := Lib.hid (HB1.out.trans ((HBX.out.trans (ht3.mono HBX.out.size)).mono HB1.out.size))
        have HT1 := Lib.hid ht1
        have HT2 := Lib.hid ht2
        have x0 : wc.cell? ⟨wr.heap.size, 0, none⟩ = some (.int .i64 (bi : Int)) := (Blk.cell HEXC.out 0).trans rfl
        have x1 : wc.cell? ⟨wr.heap.size, 1, none⟩ = some (.int .i64 xp) := (Blk.cell HEXC.out 1).trans rfl
        have own := HOWN.out
        have oth := HOTH.out
        have hst : st = ⟨(bi : Int), xp, n.port == xp || better ⟨o0, o1, o2', o3⟩ ⟨q0, q1, q2, q3⟩⟩ := by
          rw [HST.out]
          unfold stateOf vecAt
          rw [hbel]
          show (⟨(bi : Int), xp, n.port == xp || better (vecOf ids N (bi : Int).toNat xp) (vecOf ids N (pi : Int).toNat yp)⟩ : SPort) = _
          rw [Int.toNat_natCast, Int.toNat_natCast, ← own, ← oth]
        have HSTN := Lib.hid hst
        have j0 : (0 : Int) ≤ (bi : Int) := by omega
        have j1 : (bi : Int) < (N.length : Int) := by have := HLEN.out; omega
        have hqt := fun q hq => (q_typed HQC.out q hq).1
        have HQT := Lib.hid hqt
        have hfinal : ∀ (v3 : Value) (w3 : World) (b : Bool), st.isOpen = b → QRow w3 w.heap.size 32 3 v3 (k + 1) (portsV ((statesL ids N E).take k) ++ [.int .i64 (bi : Int), .int .i64 xp, .bool b]) → Below w.heap.size w w3 → Below w1.heap.size w1 w3 →
            StatesRel w (statesL ids N E) v3 (.int .i64 ((k + 1 : Nat) : Int)) w3 ∧ Below w1.heap.size w1 w3 := by
          intro v3 w3 b hb hq h1 h2
          refine ⟨⟨k + 1, by have := HSL.out; omega, rfl, h1, ?_⟩, h2⟩
          rw [HTK.out]
          have hs := HSTN.out
          rw [hs] at hb
          rw [hs]
          simp only at hb
          simp only [encP]
          rw [hb]
          exact hq
        have HFIN := Lib.hid hfinal
        have ho1 : st.isOpen = (n.port == xp || better ⟨o0, o1, o2', o3⟩ ⟨q0, q1, q2, q3⟩) := by rw [hst]
        have HO1 := Lib.hid ho1
        have hzw : w.heap.size ≤ wc.heap.size := HBC.out.size
        have hkw : k ≤ 1000 := by omega
        have hbw2 : b2 < w.heap.size := hbl2
        have hx0 : wr.heap.size < wc.heap.size := (HEXC.out).lt
        have hb2c : b2 < wc.heap.size := by omega
        have hneb : ∀ q, u7.ownBlock = some q → w.heap.size ≤ q := fun q hq => HQT.out q hq
        have HNEB := Lib.hid hneb
        have HOWNB := Lib.hid (show ∀ q, u7.ownBlock = some q → w1.heap.size ≤ q from fun q hq => by
          have h1 := HNEB.out q hq
          have hne : q ≠ w.heap.size := q_ne_blk HQC.out (blk_below HNX.out ht3) (by decide) q hq
          have := HSZ.out
          omega)
        clear HST HX hst hfinal ho1 hneb hqt own oth hn hbel hc2 ht1 ht2 HNX HQX HK HA1 HA2 HBX HEX HOWN HOTH d0 d1 e0 e1 e2 e3
        go_upto_region 6 with (fail)
        have k0 := cell_regrown x0
        have k1 := cell_regrown x1
        have k2 := cell_regrown n2
        by_cases hpt : n.port = xp
        · have t1 : (n.port == xp) = true := by simpa using hpt
          have HOP := Lib.hid (show st.isOpen = true by rw [HO1.out, t1]; rfl)
          clear hpt
          refine region_move_below_tail 20 (by kernel_rfl) (by kernel_rfl) (.inl ⟨rfl, fun _ => rfl⟩) ?_
          simp only [Nat.reduceSub, List.take_succ_cons, List.take_zero, List.drop_succ_cons, List.drop_zero]
          change wpQuiet _ _ _ _ _ { tmps := _, defers := _ }
          repeat (first | go_big_quiet_step (fail) | quiet_step (fail))
          refine wpQuiet_nil ?_
          intro wq hw'
          have hbq : Below wc.heap.size wc wq := by
            obtain ⟨⟨dq, osq⟩, rfl⟩ := hw'
            exact below_regrown wc dq osq
          clear hw'
          have hzq : w.heap.size ≤ wq.heap.size := Nat.le_trans hzw hbq.size
          have HQ2 := Lib.hid (q_below HQC.out hbq)
          have HBQ := Lib.hid (HBC.out.trans (hbq.mono HBC.out.size))
          have HB1Q := Lib.hid (HB1C.out.trans (hbq.mono HB1C.out.size))
          have hz1 : w1.heap.size ≤ wq.heap.size := HB1Q.out.size
          clear hbq k0 k1 k2
          go_wp2_with (at_builtin; refine wpList_append_q wq w.heap.size rfl (.tmp 32) (.tmp 52) 27 32 (.agg #[.int .i64 0, .int .i64 0, .bool false]) 3 24 rfl Try.underlying27 info_sport rfl (by decide) u7 k (portsV ((statesL ids N E).take k)) rfl ?hqA 1 [.int .i64 (bi : Int), .int .i64 xp, .bool true] ?hxA rfl ?h1A (by decide) ?h63A ?hbyA ?hbaA ?nextA)
          case hqA => exact HQ2.out
          case hxA => rfl
          case h1A => intro u hu; simp at hu; rcases hu with rfl | rfl | rfl <;> rfl
          case h63A => unfold maxLen; omega
          case hbyA => omega
          case hbaA => exact hzq
          case nextA =>
            intro v3 w3 hq3 hg3 _
            have HQ3 := Lib.hid hq3
            have HB3 := Lib.hid (HBQ.out.grown hg3 hzq (fun q hq => HNEB.out q hq))
            have HB13 := Lib.hid (show Below w1.heap.size w1 w3 from HB1Q.out.grown hg3 hz1 (fun q hq => HOWNB.out q hq))
            clear hq3 hg3
            go_wp2_with fail
            refine NoPanic.normal ?_
            go_wp2_with fail
            have HF := HFIN.out v3 w3 _ HOP.out HQ3.out HB3.out HB13.out
            refine ⟨?_, by simp [intOf]; omega⟩
            first | exact HF | ((repeat apply Exists.intro); exact ⟨HF, rfl⟩)
        · have t1 : (n.port == xp) = false := by simpa using hpt
          have r0 : wc.cell? ⟨g1, 0, none⟩ = some (.int .i64 o0) := (Blk.cell HT1.out 0).trans rfl
          have r1 : wc.cell? ⟨g1, 1, none⟩ = some (.int .i64 o1) := (Blk.cell HT1.out 1).trans rfl
          have r2 : wc.cell? ⟨g1, 2, none⟩ = some (.int .i64 o2') := (Blk.cell HT1.out 2).trans rfl
          have r3 : wc.cell? ⟨g1, 3, none⟩ = some (.int .i64 o3) := (Blk.cell HT1.out 3).trans rfl
          have s0 : wc.cell? ⟨g2, 0, none⟩ = some (.int .i64 q0) := (Blk.cell HT2.out 0).trans rfl
          have s1 : wc.cell? ⟨g2, 1, none⟩ = some (.int .i64 q1) := (Blk.cell HT2.out 1).trans rfl
          have s2 : wc.cell? ⟨g2, 2, none⟩ = some (.int .i64 q2) := (Blk.cell HT2.out 2).trans rfl
          have s3 : wc.cell? ⟨g2, 3, none⟩ = some (.int .i64 q3) := (Blk.cell HT2.out 3).trans rfl
          have k3 := cell_regrown r0
          have k4 := cell_regrown r1
          have k5 := cell_regrown r2
          have k6 := cell_regrown r3
          have k7 := cell_regrown s0
          have k8 := cell_regrown s1
          have k9 := cell_regrown s2
          have k10 := cell_regrown s3
          have hB := fun W => better_any ⟨o0, o1, o2', o3⟩ ⟨q0, q1, q2, q3⟩ W
          obtain ⟨bt, hbt⟩ : ∃ bt, better ⟨o0, o1, o2', o3⟩ ⟨q0, q1, q2, q3⟩ = bt := ⟨_, rfl⟩
          have HOP := Lib.hid (show st.isOpen = bt by rw [HO1.out, t1, hbt]; rfl)
          rw [hbt] at hB
          unfold encV at hB
          have cB : ∀ d os, Calls Try.prog 25 #[.agg [.int .i64 o0, .int .i64 o1, .int .i64 o2', .int .i64 o3].toArray, .agg [.int .i64 q0, .int .i64 q1, .int .i64 q2, .int .i64 q3].toArray] (grow (redrawn wc d) os) fun e w'' => e = .returned (.bool bt) ∧ ∃ p : Regrown, w'' = grow (redrawn wc p.d) p.os :=
            fun d os => Calls.regrown_of (hB _)
          have CB := Lib.hid cB
          clear hpt hB hbt cB r0 r1 r2 r3 s0 s1 s2 s3
          refine region_move_below_tail 20 (by kernel_rfl) (by kernel_rfl) (.inl ⟨rfl, fun _ => rfl⟩) ?_
          simp only [Nat.reduceSub, List.take_succ_cons, List.take_zero, List.drop_succ_cons, List.drop_zero]
          change wpQuiet _ _ _ _ _ { tmps := _, defers := _ }
          repeat (first | go_big_quiet_step (exact CB.out _ _) | quiet_step (exact CB.out _ _))
          refine wpQuiet_nil ?_
          intro wq hw'
          have hbq : Below wc.heap.size wc wq := by
            obtain ⟨⟨dq, osq⟩, rfl⟩ := hw'
            exact below_regrown wc dq osq
          clear hw'
          have hzq : w.heap.size ≤ wq.heap.size := Nat.le_trans hzw hbq.size
          have HQ2 := Lib.hid (q_below HQC.out hbq)
          have HBQ := Lib.hid (HBC.out.trans (hbq.mono HBC.out.size))
          have HB1Q := Lib.hid (HB1C.out.trans (hbq.mono HB1C.out.size))
          have hz1 : w1.heap.size ≤ wq.heap.size := HB1Q.out.size
          clear hbq k0 k1 k2 k3 k4 k5 k6 k7 k8 k9 k10
          go_wp2_with (at_builtin; refine wpList_append_q wq w.heap.size rfl (.tmp 32) (.tmp 52) 27 32 (.agg #[.int .i64 0, .int .i64 0, .bool false]) 3 24 rfl Try.underlying27 info_sport rfl (by decide) u7 k (portsV ((statesL ids N E).take k)) rfl ?hqC 1 [.int .i64 (bi : Int), .int .i64 xp, .bool bt] ?hxC rfl ?h1C (by decide) ?h63C ?hbyC ?hbaC ?nextC)
          case hqC => exact HQ2.out
          case hxC => rfl
          case h1C => intro u hu; simp at hu; rcases hu with rfl | rfl | rfl <;> rfl
          case h63C => unfold maxLen; omega
          case hbyC => omega
          case hbaC => exact hzq
          case nextC =>
            intro v3 w3 hq3 hg3 _
            have HQ3 := Lib.hid hq3
            have HB3 := Lib.hid (HBQ.out.grown hg3 hzq (fun q hq => HNEB.out q hq))
            have HB13 := Lib.hid (show Below w1.heap.size w1 w3 from HB1Q.out.grown hg3 hz1 (fun q hq => HOWNB.out q hq))
            clear hq3 hg3
            go_wp2_with fail
            refine NoPanic.normal ?_
            go_wp2_with fail
            have HF := HFIN.out v3 w3 _ HOP.out HQ3.out HB3.out HB13.out
            refine ⟨?_, by simp [intOf]; omega⟩
            first | exact HF | ((repeat apply Exists.intro); exact ⟨HF, rfl⟩)
    · obtain rfl : k = E.length := by omega
      have hd : decide ((E.length : Int) < (E.length : Int)) = false := by simp
      obtain ⟨A, c, rfl, -⟩ := q_slice HQ.out
      have hq := HQ.out
      rw [List.take_of_length_le (Nat.le_of_eq HSL.out)] at hq
      have HF := Lib.hid (show StatesOut w wr (statesL ids N E) (.returned (.slice A E.length c)) from ⟨A, c, by rw [HSL.out], by rw [HSL.out]; exact hq, HB.out⟩)
      clear hq
      go_wp2_with fail
      go_ret
      exact HF.out
end Go.Proofs.Ytcpekijgjnnfoaa.Sp
