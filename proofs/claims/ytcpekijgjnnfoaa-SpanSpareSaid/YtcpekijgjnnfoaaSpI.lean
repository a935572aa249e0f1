/-
  slices.Clone and slices.Reverse over links.
-/
import Derived.Test.YtcpekijgjnnfoaaSpQ
import Derived.Test.YtcpekijgjnnfoaaSpT5
import Derived.Test.YtcpekijgjnnfoaaInts
import Derived.Test.YtcpekijgjnnfoaaShelf
import Derived.RegionTactic
import Derived.BigRegion
import Derived.Deep.AppendLies
import Derived.Lib.AppendZeros
namespace Go.Proofs.Ytcpekijgjnnfoaa.Sp
open Go.RowKit Go.Proofs.YtcpekijgjnnfoaaW.PrintWords Go.Proofs.Ytcpekijgjnnfoaa.Xm Go.Proofs.Ytcpekijgjnnfoaa.Ints Go.Sort

instance : Inhabited Link := ⟨⟨0, 0, 0, 0, 0⟩⟩
/-- Nothing is appended. -/
theorem wpList_append_zero {P : Program} {ops : Array Oper} {rest : List Oper} {o : Oper} {a : Act} {Q : Exit → Act → World → Prop} (w : World)
    (hg : o.guard = none) (s x : Operand) (t : TypeId) (hop : o.op = Op.call { callee := Callee.builtin Builtin.append, args := #[s, x], argTypes := #[t, t] })
    (e : TypeId) (i : TypeInfo) (h1 : P.underlying t = some (.slice e)) (h2 : P.info? e = some i)
    (ao : Option Addr) (n cap : Nat) (hs : a.eval s = .slice ao n cap) (hnc : n ≤ cap) (bo : Option Addr) (c : Nat) (hx : a.eval x = .slice bo 0 c)
    (hK : wpList P ops Q rest (a.put o.dst (.slice ao n cap)) w) : wpList P ops Q (o :: rest) a w := by
  refine wpList_plain hg fun K hK' => ?_
  have hrun : (Builtin.append_ #[t, t] o.type #[.slice ao n cap, .slice bo 0 c]).run P w = .ok (.slice ao n cap) w := by
    cases ao <;> cases bo <;> simp [Builtin.append_, run_underlying h1, sizeOf, typeInfo, h2, Builtin.lenOf, Builtin.firstCells, hnc, storeCells, loadCells, loadCellsFrom]
  unfold Oper.wp
  simp [execOp, hop, resolve, invoke, builtin, hs, hx, hrun, Result.andThen]
  exact hK' _ _ hK
theorem info_link : (Try.prog.info? 37).map (fun i => (i.zero, i.size, i.bytes)) = some (some (.agg #[.int .i64 0, .int .i64 0, .int .i64 0, .int .i64 0, .int .i64 0]), 5, 40) := by kernel_rfl
def CloneOut (w w' : World) (L : List Link) (e : Ending) : Prop :=
  ∃ A c, e = .returned (.slice A L.length c) ∧ (0 < L.length → ∃ b off, A = some ⟨b, off, none⟩ ∧ w.heap.size ≤ b ∧ Row w' b off 37 (linksV L)) ∧ Below w.heap.size w w'
set_option maxHeartbeats 800000 in
theorem clone_links (A : Option Addr) (c : Nat) (L : List Link) (w : World) (h : RowC w A (linksV L)) (hn : A = none → c = 0) (hs : L.length * 40 ≤ 140737488351232) :
    Calls Try.prog 17 #[.slice A L.length c] w fun e w' => CloneOut w w' L e := by
  by_cases hp : 0 < L.length
  · obtain ⟨b, off, rfl, _, hc⟩ := h (by rw [linksV_len]; omega)
    obtain ⟨i0, hi, hz0, hz1, hz2⟩ := info_parts info_link
    refine (Try.slices_Clone i0 _ 5 40 hi hz0 hz1 hz2 rfl (by omega) Try.sizeOf37 b off L.length c (linksV L) w (linksV_len L) (by unfold maxLen; omega) (by omega) hc ?_).mono ?_
    · intro u hu
      simp only [linksV, List.mem_flatMap, encL] at hu
      obtain ⟨x, _, hu⟩ := hu
      simp at hu
      rcases hu with rfl | rfl | rfl | rfl | rfl <;> rfl
    · rintro e w' ⟨v', rfl, hown, -, hb⟩
      have hq := q_of_own hown
      obtain ⟨g, off', cap, rfl, _⟩ := q_form hq hp
      obtain ⟨g, off', he, hg, hr⟩ := Row.of_q hq hp
      exact ⟨_, cap, rfl, fun _ => ⟨g, off', he, hg, hr⟩, hb⟩
  · obtain rfl : L = [] := List.eq_nil_of_length_eq_zero (by omega)
    clear hp h hs
    simp only [List.length_nil] at *
    cases A with
    | none =>
      obtain rfl := hn rfl
      have hne : ∀ W : World, (binOp .eql 23 (.slice none 0 0) (.slice none 0 0)).run Try.prog W = .ok (.bool true) W := fun W =>
        Lib.run_eql_slice_nil (P := Try.prog) W 23 37 none 0 0 0 0 Try.underlying23
      clear hn
      go_enter Try.func17, Try.ntmps17
      go_wp2_with fail
      go_ret
      exact ⟨none, 0, rfl, fun h => absurd h (by simp), Below.refl _ _⟩
    | some ad =>
      have hne : ∀ W : World, (binOp .eql 23 (.slice (some ad) 0 c) (.slice none 0 0)).run Try.prog W = .ok (.bool false) W := fun W =>
        Lib.run_eql_slice_nil (P := Try.prog) W 23 37 (some ad) 0 c 0 0 Try.underlying23
      obtain ⟨i0, hi, _, _, _⟩ := info_parts info_link
      have HI := Lib.hid hi
      clear hi hn
      go_enter Try.func17, Try.ntmps17
      go_wp2_with (at_builtin; refine wpList_append_zero _ rfl (.tmp 5) (.tmp 6) 23 rfl 37 i0 Try.underlying23 HI.out (some ⟨w.heap.size, 0, none⟩) 0 0 rfl (Nat.le_refl _) (some ad) c rfl ?_)
      go_ret
      exact ⟨_, _, rfl, fun h => absurd h (by simp), below_alloc (Below.refl _ _) _⟩
theorem flat_listL (d : Array Link) (j : Nat) (h : j < d.size * 5) : (flatK encL 5 d)[j]! = ((linksV d.toList)[j]?).getD default := by
  rw [get_flatK _ _ _ _ h]
  have hi : j / 5 < d.size := by omega
  have hg := linksV_get (L := d.toList) (i := j / 5) (e := d[j / 5]!) (by simp [hi]) (j % 5) (by omega)
  rw [show j / 5 * 5 + j % 5 = j by omega] at hg
  rw [hg]
  simp [List.getElem!_eq_getElem?_getD]
theorem blk_map {w : World} {b : Nat} {cur : Array Value} {e : TypeId} (h : Blk w b cur e) (f : Array Value → Array Value) : Blk (mapBlock w b f) b (f cur) e := by
  show (w.heap.modify b (onCells f))[b]? = _
  rw [Array.getElem?_modify, if_pos rfl, show w.heap[b]? = _ from h]
  rfl
def RevOut (w w' : World) (b off : Nat) (L : List Link) (e : Ending) : Prop := e = .returned (.tuple #[]) ∧ Row w' b off 37 (linksV L.reverse) ∧ Below b w w' ∧ ∀ k, k ≠ b → w'.heap[k]? = w.heap[k]?
theorem reverse_links (w : World) (b off c : Nat) (L : List Link) (h : Row w b off 37 (linksV L)) (hs : L.length ≤ 9223372036854775807) :
    Calls Try.prog 20 #[.slice (some ⟨b, off, none⟩) L.length c] w fun e w' => RevOut w w' b off L e := by
  have hH : HoldsK encL 5 w b off L.toArray := by
    intro j hj
    have hj' : j < L.length * 5 := by simpa using hj
    refine ⟨?_, h.frozen _⟩
    have hlen : j < (linksV L).length := by rw [linksV_len]; exact hj'
    rw [h.cell (List.getElem?_eq_getElem hlen)]
    have := flat_listL L.toArray j (by simpa using hj')
    rw [show (flatK encL 5 L.toArray)[j]! = ((linksV L)[j]?).getD default from this, List.getElem?_eq_getElem hlen]
    rfl
  have hcon := Try.slices_Reverse 5 Try.isAgg37 Try.sizeOf37 encL (fun _ => rfl) (fun x v hv => by simp [encL] at hv; rcases hv with rfl | rfl | rfl | rfl | rfl <;> rfl) b off c L.toArray w hH (by simpa using hs)
  rw [List.size_toArray] at hcon
  refine hcon.mono ?_
  rintro e w' ⟨rfl, n, rfl⟩
  have hd : L.toArray.reverse.toList = L.reverse := by simp
  refine ⟨rfl, ?_, below_putRow (Below.refl b w) (Nat.le_refl _) off _ n, fun k hk => ?_⟩
  rotate_left
  · show (w.heap.modify b _)[k]? = _
    rw [Array.getElem?_modify, if_neg (Ne.symm hk)]
  obtain ⟨cur, hb, hc⟩ := h
  have hblk : Blk (putRowK encL 5 (Sort.ahead w n) b off L.toArray.reverse) b (putCells id off (flatK encL 5 L.toArray.reverse) cur) 37 := blk_map (w := Sort.ahead w n) hb _
  refine ⟨_, hblk, fun j u hu => ?_⟩
  have hjl : j < L.length * 5 := by
    have := (List.getElem?_eq_some_iff.1 hu).1
    rw [linksV_len] at this
    simpa using this
  have hget := cell?_putRow id (Sort.ahead w n) b off (flatK encL 5 L.toArray) (flatK encL 5 L.toArray.reverse) (show Holds id (Sort.ahead w n) b off _ from hH) (by simp) j (by simpa using hjl)
  have hget' : (putRowK encL 5 (Sort.ahead w n) b off L.toArray.reverse).cell? ⟨b, off + j, none⟩ = some ((flatK encL 5 L.toArray.reverse)[j]!) := hget
  rw [Blk.cell hblk, flat_listL _ j (by simpa using hjl), hd, hu] at hget'
  exact hget'
theorem reverse_none (w : World) (A : Option Addr) (c : Nat) : Calls Try.prog 20 #[.slice A 0 c] w fun e w' => e = .returned (.tuple #[]) ∧ w' = w := Try.slices_Reverse_empty (α := Link) A c w

/-- The links that are written lie in a block of the call's own. -/
def OwnRow (base : Nat) (w : World) (A : Option Addr) (M : List Link) : Prop := 0 < M.length → ∃ b off, A = some ⟨b, off, none⟩ ∧ base ≤ b ∧ Row w b off 37 (linksV M)
theorem OwnRow.rowC {base : Nat} {w : World} {A : Option Addr} {M : List Link} (h : OwnRow base w A M) : RowC w A (linksV M) := fun hp => by
  obtain ⟨b, off, rfl, _, hr⟩ := h (by rw [linksV_len] at hp; omega)
  exact hr.rowC hp
theorem OwnRow.below {base : Nat} {w w' : World} {A : Option Addr} {M : List Link} (h : OwnRow base w A M) (hb : Below w.heap.size w w') : OwnRow base w' A M := fun hp => by
  obtain ⟨b, off, e, hl, hr⟩ := h hp
  exact ⟨b, off, e, hl, hr.below hb⟩
def RevAny (base : Nat) (w w' : World) (A : Option Addr) (L : List Link) (e : Ending) : Prop :=
  e = .returned (.tuple #[]) ∧ OwnRow base w' A L.reverse ∧ Below base w w' ∧ ∀ k cs t, t ≠ 37 → Blk w k cs t → Blk w' k cs t
theorem reverse_any (base : Nat) (w : World) (A : Option Addr) (c : Nat) (L : List Link) (h : OwnRow base w A L) (hs : L.length ≤ 9223372036854775807) :
    Calls Try.prog 20 #[.slice A L.length c] w fun e w' => RevAny base w w' A L e := by
  by_cases hp : 0 < L.length
  · obtain ⟨b, off, rfl, hl, hr⟩ := h hp
    refine (reverse_links w b off c L hr hs).mono ?_
    rintro e w' ⟨rfl, hr', hb, ho⟩
    refine ⟨rfl, fun _ => ⟨b, off, rfl, hl, hr'⟩, hb.mono hl, fun k cs t ht hk => ?_⟩
    obtain ⟨cur, hbl, _⟩ := hr
    exact (ho k (blk_ne_blk hk hbl ht)).trans hk
  · obtain rfl : L = [] := List.eq_nil_of_length_eq_zero (by omega)
    refine (reverse_none w A c).mono ?_
    rintro e w' ⟨rfl, rfl⟩
    exact ⟨rfl, fun h => absurd h (by simp), Below.refl _ _, fun _ _ _ _ h => h⟩
/-- The first k of the reversed links turned. -/
def turnN (T : List Bool) (R : List Link) (k : Nat) : List Link := R.mapIdx fun i l => if i < k && T.getD i false then swapL l else l
theorem turnN_len (T : List Bool) (R : List Link) (k : Nat) : (turnN T R k).length = R.length := by simp [turnN]
theorem turnN_zero (T : List Bool) (R : List Link) : turnN T R 0 = R := by
  refine List.ext_getElem? fun i => ?_
  simp [turnN, List.getElem?_mapIdx]
theorem turnN_get {T : List Bool} {R : List Link} {k : Nat} {l : Link} (h : R[k]? = some l) : (turnN T R k)[k]? = some l := by
  simp [turnN, List.getElem?_mapIdx, h]
theorem turnN_step {T : List Bool} {R : List Link} {k : Nat} {l : Link} (h : R[k]? = some l) (ht : T.getD k false = true) : (turnN T R k).set k (swapL l) = turnN T R (k + 1) := by
  refine List.ext_getElem? fun i => ?_
  have hk : k < R.length := (List.getElem?_eq_some_iff.1 h).1
  rw [List.getElem?_set]
  by_cases e : k = i
  · subst e
    rw [if_pos rfl, turnN_len, if_pos hk]
    simp only [turnN, List.getElem?_mapIdx, h, Option.map_some]
    rw [ht]
    simp
  · rw [if_neg e]
    simp only [turnN, List.getElem?_mapIdx]
    have e1 : decide (i < k) = decide (i < k + 1) := by
      by_cases hi : i < k
      · rw [decide_eq_true hi, decide_eq_true (show i < k + 1 by omega)]
      · rw [decide_eq_false hi, decide_eq_false (show ¬ i < k + 1 by omega)]
    rw [e1]
theorem turnN_stay {T : List Bool} {R : List Link} {k : Nat} (ht : T.getD k false = false) : turnN T R k = turnN T R (k + 1) := by
  refine List.ext_getElem? fun i => ?_
  simp only [turnN, List.getElem?_mapIdx]
  by_cases e : i = k
  · subst e
    rw [ht]
    simp
  · have e1 : decide (i < k) = decide (i < k + 1) := by
      by_cases hi : i < k
      · rw [decide_eq_true hi, decide_eq_true (show i < k + 1 by omega)]
      · rw [decide_eq_false hi, decide_eq_false (show ¬ i < k + 1 by omega)]
    rw [e1]
theorem turnN_end (T : List Bool) (L : List Link) (k : Nat) (h : L.length ≤ k) : turnN T L.reverse k = turnedL T L := by
  refine List.ext_getElem? fun i => ?_
  simp only [turnN, turnedL, List.getElem?_mapIdx]
  by_cases hi : i < L.length
  · rw [decide_eq_true (show i < k by omega)]
    simp
  · rw [List.getElem?_eq_none (by simp; omega)]
    rfl
theorem flat_set5 {α : Type} (enc : α → List Value) (hk : ∀ x, ∃ a b c d e, enc x = [a, b, c, d, e]) : ∀ (L : List α) (i : Nat) (x : α) (a b c d e : Value), i < L.length → enc x = [a, b, c, d, e] →
    (((((L.flatMap enc).set (i * 5) a).set (i * 5 + 1) b).set (i * 5 + 2) c).set (i * 5 + 3) d).set (i * 5 + 4) e = (L.set i x).flatMap enc
  | [], i, _, _, _, _, _, _, h, _ => absurd h (by simp)
  | y :: L, 0, x, a, b, c, d, e, _, hx => by
    obtain ⟨a', b', c', d', e', hy⟩ := hk y
    simp [hy, hx]
  | y :: L, i + 1, x, a, b, c, d, e, h, hx => by
    obtain ⟨a', b', c', d', e', hy⟩ := hk y
    have ih := flat_set5 enc hk L i x a b c d e (by simpa using h) hx
    rw [List.set_cons_succ, List.flatMap_cons, List.flatMap_cons, ← ih, hy]
    rw [show (i + 1) * 5 = i * 5 + 5 by omega]
    simp only [show i * 5 + 5 + 1 = i * 5 + 1 + 5 by omega, show i * 5 + 5 + 2 = i * 5 + 2 + 5 by omega, show i * 5 + 5 + 3 = i * 5 + 3 + 5 by omega, show i * 5 + 5 + 4 = i * 5 + 4 + 5 by omega, List.cons_append, List.nil_append, List.set_cons_succ]
theorem row_link {w : World} {b off : Nat} {e : TypeId} {N : List Link} (h : Row w b off e (linksV N)) (i : Nat) (x : Link) (hi : i < N.length) :
    Row (((((w.setCell ⟨b, off + i * 5, none⟩ (.int .i64 x.a)).setCell ⟨b, off + i * 5 + 1, none⟩ (.int .i64 x.pa)).setCell ⟨b, off + i * 5 + 2, none⟩ (.int .i64 x.b)).setCell ⟨b, off + i * 5 + 3, none⟩ (.int .i64 x.pb)).setCell ⟨b, off + i * 5 + 4, none⟩ (.int .i64 x.cost)) b off e (linksV (N.set i x)) := by
  have h5 := ((((h.set (i * 5) (.int .i64 x.a)).set (i * 5 + 1) (.int .i64 x.pa)).set (i * 5 + 2) (.int .i64 x.b)).set (i * 5 + 3) (.int .i64 x.pb)).set (i * 5 + 4) (.int .i64 x.cost)
  have h6 := h5.to (show _ = linksV (N.set i x) from flat_set5 encL (fun _ => ⟨_, _, _, _, _, rfl⟩) N i x _ _ _ _ _ hi rfl)
  simpa only [Nat.add_assoc] using h6
end Go.Proofs.Ytcpekijgjnnfoaa.Sp
