/-
  slices.Clone over ints.
-/
import Derived.Test.YtidgmoeimgjggaaInts
import Derived.RegionTactic
import Derived.BigRegion
import Derived.Deep.AppendLies
import Derived.Lib.AppendZeros
namespace Go.Proofs.Ytidgmoeimgjggaa.IC
open Go.RowKit Go.Proofs.YtidgmoeimgjggaaW.PrintWords Go.Proofs.Ytidgmoeimgjggaa.Xm Go.Proofs.Ytidgmoeimgjggaa.Ints

theorem info_int : (Try.prog.info? 3).map (fun i => (i.zero, i.size, i.bytes)) = some (some (.int .i64 0), 1, 8) := by kernel_rfl
def CloneOut (w w' : World) (L : List Int) (e : Ending) : Prop := ∃ v, e = .returned v ∧ QRow w' w.heap.size 3 1 v L.length (nums .i64 L) ∧ Below w.heap.size w w'
set_option maxHeartbeats 800000 in
theorem clone_some (v : Value) (L : List Int) (w : World) (h : RInts w v L) (hl : L.length * 8 ≤ 140737488351232) (hp : 0 < L.length) :
    Calls Try.prog 39 #[v] w fun e w' => CloneOut w w' L e := by
  obtain ⟨A, c, rfl, h2, h3, h4, h5⟩ := h
  obtain ⟨b, off, rfl, hlt, hc⟩ := h5 hp
  have HC := Lib.hid hc
  clear hc h5
  have hne : ∀ W : World, (binOp .eql 31 (.slice (some ⟨b, off, none⟩) L.length c) (.slice none 0 0)).run Try.prog W = .ok (.bool false) W := fun W =>
    Lib.run_eql_slice_nil (P := Try.prog) W 31 3 (some ⟨b, off, none⟩) L.length c 0 0 Try.underlying31
  obtain ⟨i0, hi, hz0, hz1, hz2⟩ := info_parts info_int
  have HI := Lib.hid hi
  have HZ0 := Lib.hid hz0
  have HZ1 := Lib.hid hz1
  have HZ2 := Lib.hid hz2
  clear hi hz0 hz1 hz2
  go_enter Try.func39, Try.ntmps39
  go_wp2_with (at_builtin; go_loud (refine wpList_append_grows _ rfl (.tmp 5) (.tmp 6) 31 rfl 3 i0 (.int .i64 0) 1 8 Try.underlying31 HI.out HZ0.out HZ1.out HZ2.out rfl (by decide) (some ⟨w.heap.size, 0, none⟩) 0 0 [] rfl (fun h => by cases h) rfl (fun _ _ j u hu => by simp at hu) ⟨b, off, none⟩ L.length c (nums .i64 L) rfl ?hl ?hc ?h1 (by omega) ?b1 ?b2 ?next))
  case hl => simp [nums]
  case hc =>
    intro j u hu
    have hj : j < L.length := by have := (List.getElem?_eq_some_iff.1 hu).1; simpa [nums] using this
    obtain ⟨x, hx⟩ : ∃ x, L[j]? = some x := ⟨L[j], by simp [hj]⟩
    simp [nums, hx] at hu
    subst hu
    rw [add_at]
    exact pw_cell_below (below_alloc (Below.refl _ _) _) (HC.out j x hx)
  case h1 => intro u hu; simp [nums] at hu; obtain ⟨x, _, rfl⟩ := hu; rfl
  case b1 => unfold maxLen; omega
  case b2 => omega
  case next =>
    intro v2 w2 hown hg
    have HQ := Lib.hid (q_of_own hown)
    have HG := Lib.hid hg
    clear hown hg
    go_wp2_with fail
    go_ret
    refine ⟨v2, rfl, ?_, ?_⟩
    · have := q_lower HQ.out (show w.heap.size ≤ _ by simp)
      simpa using this
    · exact (below_alloc (Below.refl _ _) _).grown HG.out (by simp) (fun k hk => by cases hk)

/-- Nothing is appended. -/
theorem wpList_append_zero {P : Program} {ops : Array Oper} {rest : List Oper} {o : Oper} {a : Act} {Q : Exit → Act → World → Prop} (w : World)
    (hg : o.guard = none) (s x : Operand) (t : TypeId) (hop : o.op = Op.call { callee := Callee.builtin Builtin.append, args := #[s, x], argTypes := #[t, t] })
    (e : TypeId) (i : TypeInfo) (h1 : P.underlying t = some (.slice e)) (h2 : P.info? e = some i)
    (ao : Option Addr) (n cap : Nat) (hs : a.eval s = .slice ao n cap) (hnc : n ≤ cap) (bo : Option Addr) (c : Nat) (hx : a.eval x = .slice bo 0 c)
    (hK : wpList P ops Q rest (a.put o.dst (.slice ao n cap)) w) : wpList P ops Q (o :: rest) a w := by
  refine wpList_plain hg fun K hK' => ?_
  have hrun : (Builtin.append_ #[t, t] o.type #[.slice ao n cap, .slice bo 0 c]).run P w = .ok (.slice ao n cap) w := by
    cases ao <;> cases bo <;> simp [Builtin.append_, run_underlying h1, sizeOf, typeInfo, h2, Builtin.lenOf, Builtin.firstCells, hnc, storeCells, loadCells, loadCellsFrom]
  unfold Oper.wp
  simp [execOp, hop, resolve, invoke, builtin, hs, hx, hrun, Result.andThen]
  exact hK' _ _ hK

set_option maxHeartbeats 800000 in
theorem clone_any (v : Value) (L : List Int) (w : World) (h : RInts w v L) (hl : L.length * 8 ≤ 140737488351232) :
    Calls Try.prog 39 #[v] w fun e w' => CloneOut w w' L e := by
  by_cases hp : 0 < L.length
  · exact clone_some v L w h hl hp
  · obtain rfl : L = [] := List.eq_nil_of_length_eq_zero (by omega)
    obtain ⟨A, c, rfl, h2, h3, h4, h5⟩ := h
    clear h5 hl hp
    simp only [List.length_nil] at *
    cases A with
    | none =>
      obtain rfl := h4 rfl
      have hne : ∀ W : World, (binOp .eql 31 (.slice none 0 0) (.slice none 0 0)).run Try.prog W = .ok (.bool true) W := fun W =>
        Lib.run_eql_slice_nil (P := Try.prog) W 31 3 none 0 0 0 0 Try.underlying31
      go_enter Try.func39, Try.ntmps39
      go_wp2_with fail
      go_ret
      exact ⟨.slice none 0 0, rfl, by simpa [nums] using q_nil _ _ _ _, Below.refl _ _⟩
    | some ad =>
      have hne : ∀ W : World, (binOp .eql 31 (.slice (some ad) 0 c) (.slice none 0 0)).run Try.prog W = .ok (.bool false) W := fun W =>
        Lib.run_eql_slice_nil (P := Try.prog) W 31 3 (some ad) 0 c 0 0 Try.underlying31
      obtain ⟨i0, hi, _, _, _⟩ := info_parts info_int
      have HI := Lib.hid hi
      clear hi
      go_enter Try.func39, Try.ntmps39
      go_wp2_with (at_builtin; refine wpList_append_zero _ rfl (.tmp 5) (.tmp 6) 31 rfl 3 i0 Try.underlying31 HI.out (some ⟨w.heap.size, 0, none⟩) 0 0 rfl (Nat.le_refl _) (some ad) c rfl ?_)
      go_ret
      refine ⟨_, rfl, ?_, below_alloc (Below.refl _ _) _⟩
      exact ⟨by simp [nums], .inl ⟨rfl, _, rfl, fun a ha => by injection ha with ha; subst ha; exact ⟨Nat.le_refl _, _, heap_alloc_new w _⟩⟩⟩
end Go.Proofs.Ytidgmoeimgjggaa.IC
