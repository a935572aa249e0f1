/-
  slices.Grow of nil, slices.Concat of two slices of ints.
-/
import Derived.Test.YtlhpfhicggdnpaaAdds
import Derived.Lib.AppendZeros
namespace Go.Proofs.Ytlhpfhicggdnpaa.Lag
open Go.RowKit Go.Proofs.YtlhpfhicggdnpaaW.PrintWords Go.Proofs.Ytlhpfhicggdnpaa.Xm Go.Proofs.Ytlhpfhicggdnpaa.Ints

def GrowOut (w w' : World) (e : Ending) : Prop := ∃ v, e = .returned v ∧ QRow w' w.heap.size 3 1 v 0 [] ∧ Below w.heap.size w w'
set_option maxHeartbeats 400000 in
theorem grow_any (n : Nat) (w : World) (h0 : 0 < n) (hn : n ≤ 1000) :
    Calls Try.prog 37 #[.slice none 0 0, .int .i64 (n : Int)] w fun e w' => GrowOut w w' e := by
  obtain ⟨i0, hi, hz0, hz1, hz2⟩ := info_parts info_int
  have hr := Lib.run_append_nil_zeros (P := Try.prog) w 22 3 22 3 i0 (.int .i64 0) .i64 .i64 Try.underlying22 Try.underlying3 hi hz0 n h0 (by omega) (by omega) (by rw [hz2]; omega)
  have hcap := grownCap_le_maxLen w n 0 3 (by unfold maxLen; omega)
  have hge := grownCap_ge w n 0 3
  generalize hc : grownCap w n 0 3 = C at *
  have hsz : (Builtin.zeroCells (Value.int .i64 0).cells n ++ Builtin.zeroCells (Value.int .i64 0).cells (C - n)).size = C * 1 := by
    simp [Array.size_append, size_zeroCells, Value.cells]; omega
  generalize hcs : Builtin.zeroCells (Value.int .i64 0).cells n ++ Builtin.zeroCells (Value.int .i64 0).cells (C - n) = cs at *
  have HR := Lib.hid hr
  have HS := Lib.hid hsz
  have HC := Lib.hid hcap
  have hC1 : (n : Int) ≤ (C : Int) := by omega
  have hC2 : (C : Int) ≤ 9223372036854775807 := by unfold maxLen at hcap; omega
  clear hr hsz hcap hc hcs hi hz0 hz1 hz2
  go_enter Try.func37, Try.ntmps37
  go_wp2_with (at_builtin; refine Lib.wpList_append_run _ rfl (.tmp 20) (.tmp 21) 22 3 rfl (.slice none 0 0) (.int .i64 (n : Int)) rfl rfl _ _ HR.out ?_)
  go_ret
  refine ⟨_, rfl, ?_, below_alloc ((Below.refl _ _).drew) _⟩
  exact q_of_own (World.ownsRow_made (w.drew) cs C (Nat.le_refl _) HC.out HS.out)

section
variable {P : Program} {ops : Array Oper} {rest : List Oper} {o : Oper} {a : Act} {Q : Exit → Act → World → Prop}
/-- 'append(v, xs...)' onto an own row of ints. -/
theorem wpList_append_rints (W : World) (base : Nat) (hgd : o.guard = none) (s x : Operand) (t e : TypeId)
    (ho : o.op = .call { callee := .builtin .append, args := #[s, x], argTypes := #[t, t] })
    (ht : P.underlying t = some (.slice e)) (hinfo : (P.info? e).map (fun i => (i.zero, i.size, i.bytes)) = some (some (.int .i64 0), 1, 8))
    (v : Value) (L : List Int) (hs : a.eval s = v) (hown : QRow W base e 1 v L.length (nums .i64 L))
    (vx : Value) (M : List Int) (hx : a.eval x = vx) (hM : RInts W vx M) (h63 : L.length + M.length ≤ 1000000) (hbase : base ≤ W.heap.size)
    (h : ∀ v' w', QRow w' base e 1 v' (L ++ M).length (nums .i64 (L ++ M)) → W.grownBy w' v.ownBlock → wpList P ops Q rest (a.put o.dst v') w') :
    wpList P ops Q (o :: rest) a W := by
  obtain ⟨i, hi, hz0, hz1, hz2⟩ := info_parts hinfo
  obtain ⟨A, c, rfl, h2, h3, h4, h5⟩ := hM
  by_cases hp : 0 < M.length
  · obtain ⟨b, off, rfl, _, hc⟩ := h5 hp
    obtain ⟨v', w', hr, q2, q3, q4⟩ := q_append (P := P) W base t o.type e i (.int .i64 0) 1 8 ht hi hz0 hz1 hz2 rfl (by decide) v L.length (nums .i64 L) hown ⟨b, off, none⟩ M.length c (nums .i64 M) (by simp [nums])
      (fun j u hu => by
        have hj : j < M.length := by have := (List.getElem?_eq_some_iff.1 hu).1; simpa [nums] using this
        obtain ⟨y, hy⟩ : ∃ y, M[j]? = some y := ⟨M[j], by simp [hj]⟩
        simp [nums, hy] at hu
        subst hu
        rw [add_at]
        exact hc j y hy) (fun u hu => by simp [nums] at hu; obtain ⟨y, _, rfl⟩ := hu; rfl) hp (by unfold maxLen; omega) (by omega) hbase
    refine wpList_plain hgd fun K hK => ?_
    unfold Oper.wp execOp
    simp only [ho, resolve, invoke, builtin, Sem.run_bind, Sem.run_pure, Result.andThen_ok, List.map_toArray, List.map_cons, List.map_nil, hs, hx, hr]
    refine hK _ _ (h v' w' ?_ q3)
    rw [List.length_append, nums_append]
    exact q2
  · obtain rfl : M = [] := List.eq_nil_of_length_eq_zero (by omega)
    obtain ⟨B, k, rfl, hk⟩ := q_slice hown
    refine wpList_append_zero W hgd s x t ho e i ht hi B L.length k hs hk A c hx (h _ _ ?_ ⟨rfl, rfl, rfl, Nat.le_refl _, fun _ _ _ => rfl⟩)
    rw [List.append_nil]
    exact hown
end

/-- How much of two lists has come up behind k of them. -/
def catTo (L M : List Int) (k : Nat) : List Int := (if 1 ≤ k then L else []) ++ (if 2 ≤ k then M else [])
def Cat1 (L M : List Int) (size i : Value) : Prop := ∃ k : Nat, k ≤ 2 ∧ i = .int .i64 k ∧ size = .int .i64 ((catTo L M k).length : Int)
def Cat2 (w : World) (L M : List Int) (out i : Value) (wr : World) : Prop := ∃ k : Nat, k ≤ 2 ∧ i = .int .i64 k ∧ QRow wr w.heap.size 3 1 out (catTo L M k).length (nums .i64 (catTo L M k)) ∧ Below w.heap.size w wr
def CatOut (w w' : World) (L : List Int) (e : Ending) : Prop := ∃ v, e = .returned v ∧ QRow w' w.heap.size 3 1 v L.length (nums .i64 L) ∧ Below w.heap.size w w'

set_option maxHeartbeats 1600000 in
theorem concat_any (sb : Nat) (v1 v2 : Value) (L M : List Int) (w : World) (hsb : sb < w.heap.size) (hc0 : w.cell? ⟨sb, 0, none⟩ = some v1) (hc1 : w.cell? ⟨sb, 1, none⟩ = some v2)
    (h1 : RInts w v1 L) (h2 : RInts w v2 M) (hl : L.length ≤ 400) (hm : M.length ≤ 400) (hp : 0 < L.length + M.length) :
    Calls Try.prog 28 #[.slice (some ⟨sb, 0, none⟩) 2 2] w fun e w' => CatOut w w' (L ++ M) e := by
  have H1 := Lib.hid h1
  have H2 := Lib.hid h2
  obtain ⟨A1, k1, rfl, _, _, z1, y1⟩ := h1
  obtain ⟨A2, k2, rfl, _, _, z2, y2⟩ := h2
  clear y1 y2 z1 z2
  go_enter Try.func28, Try.ntmps28
  go_wp2_with fail
  go_loop [3, 11] (fun size i => Cat1 L M size i) (fun _ i => 2 - (intOf i).toNat)
  case atStart => exact ⟨0, by omega, rfl, rfl⟩
  case round =>
    obtain ⟨k, hk, rfl, rfl⟩ := hrel
    rcases (show k = 0 ∨ k = 1 ∨ k = 2 by omega) with rfl | rfl | rfl
    · have e0 : ((catTo L M 0).length : Int) = 0 := rfl
      rw [e0]
      clear e0
      go_wp2_with fail
      go_round
      case rel => exact ⟨1, by omega, by go_num, by simp [catTo]⟩
      case measure => simp [intOf]
    · have e0 : ((catTo L M 1).length : Int) = (L.length : Int) := by simp [catTo]
      rw [e0]
      clear e0
      go_wp2_with fail
      go_round
      case rel => exact ⟨2, by omega, by go_num, by simp [catTo]⟩
      case measure => simp [intOf]
    · obtain ⟨n, hn⟩ : ∃ n : Nat, n = (catTo L M 2).length := ⟨_, rfl⟩
      have hn2 : n = L.length + M.length := by rw [hn]; simp [catTo]
      have hn3 : 0 < n := by omega
      have hn4 : n ≤ 1000 := by omega
      rw [← hn]
      clear hn hn2
      go_wp2_with fail
      refine (grow_any n _ hn3 hn4).mono ?_
      rintro e w2 ⟨v, rfl, hq, hb⟩
      have HQ := Lib.hid hq
      have HB := Lib.hid hb
      clear hq hb
      go_wp2_with fail
      go_loopw [6, 27] (fun out i wr => Cat2 w L M out i wr) (fun _ i _ => 2 - (intOf i).toNat)
      case atStart => exact ⟨0, by omega, rfl, by simpa [catTo, nums] using HQ.out, HB.out⟩
      case round =>
        obtain ⟨k, hk, rfl, hq, hb⟩ := hrel
        have HQ3 := Lib.hid hq
        have HB3 := Lib.hid hb
        have hsz := hb.size
        clear hq hb
        rcases (show k = 0 ∨ k = 1 ∨ k = 2 by omega) with rfl | rfl | rfl
        · have hcell : wr.cell? ⟨sb, 0, none⟩ = some (.slice A1 L.length k1) := (HB3.out.cell (p := ⟨sb, 0, none⟩) hsb).trans hc0
          have HR := Lib.hid (H1.out.below HB3.out (Nat.le_refl _))
          go_wp2_with (at_builtin; refine wpList_append_rints wr w.heap.size rfl (.tmp 31) (.tmp 32) 22 3 rfl Try.underlying22 info_int _ (catTo L M 0) rfl HQ3.out _ L rfl HR.out ?hh ?hb ?next)
          case hh => simp [catTo]; omega
          case hb => exact hsz
          case next =>
            intro v' w' hq' hg'
            have HQ4 := Lib.hid hq'
            have HB4 := Lib.hid (HB3.out.grown hg' hsz (fun q hq => (q_typed HQ3.out q hq).1))
            clear hq' hg' hcell
            go_wp2_with fail
            refine ⟨?_, by simp [intOf]⟩
            first | refine ⟨1, ?_, ?_, ?_, ?_⟩ | ((repeat apply Exists.intro); refine ⟨⟨1, ?_, ?_, ?_, ?_⟩, rfl⟩)
            · omega
            · go_num
            · simpa [catTo] using HQ4.out
            · exact HB4.out
        · have hcell : wr.cell? ⟨sb, 1, none⟩ = some (.slice A2 M.length k2) := (HB3.out.cell (p := ⟨sb, 1, none⟩) hsb).trans hc1
          have HR := Lib.hid (H2.out.below HB3.out (Nat.le_refl _))
          go_wp2_with (at_builtin; refine wpList_append_rints wr w.heap.size rfl (.tmp 31) (.tmp 32) 22 3 rfl Try.underlying22 info_int _ (catTo L M 1) rfl HQ3.out _ M rfl HR.out ?hh ?hb ?next)
          case hh => simp [catTo]; omega
          case hb => exact hsz
          case next =>
            intro v' w' hq' hg'
            have HQ4 := Lib.hid hq'
            have HB4 := Lib.hid (HB3.out.grown hg' hsz (fun q hq => (q_typed HQ3.out q hq).1))
            clear hq' hg' hcell
            go_wp2_with fail
            refine ⟨?_, by simp [intOf]⟩
            first | refine ⟨2, ?_, ?_, ?_, ?_⟩ | ((repeat apply Exists.intro); refine ⟨⟨2, ?_, ?_, ?_, ?_⟩, rfl⟩)
            · omega
            · go_num
            · simpa [catTo] using HQ4.out
            · exact HB4.out
        · go_wp2_with fail
          go_ret
          exact ⟨_, rfl, by simpa [catTo] using HQ3.out, HB3.out⟩
end Go.Proofs.Ytlhpfhicggdnpaa.Lag
