/-
  start; ends: contracts.
-/
import Derived.Test.YtcpekijgjnnfoaaSpB
namespace Go.Proofs.Ytcpekijgjnnfoaa.Sp
open Go.RowKit Go.Proofs.YtcpekijgjnnfoaaW.PrintWords Go.Proofs.Ytcpekijgjnnfoaa.Xm

theorem q_below {w wr : World} {base n size : Nat} {e : TypeId} {v : Value} {xs : List Value} (h : QRow w base e size v n xs) (b : Below w.heap.size w wr) : QRow wr base e size v n xs := q_move h (fun k hk => b.block k (q_lt h k hk))
theorem RowC.of_q {w : World} {base : Nat} {e : TypeId} {size : Nat} {A : Option Addr} {n c : Nat} {xs : List Value} (h : QRow w base e size (.slice A n c) n xs) : RowC w A xs := by
  intro hp
  have hn : xs.length = n * size := h.1
  have h0 : 0 < n := by
    rcases Nat.eq_zero_or_pos n with h0 | h0
    · rw [h0, Nat.zero_mul] at hn; omega
    · exact h0
  obtain ⟨b, off, cap, he, _, hl, _, _, hc, _, _⟩ := q_form h h0
  injection he with he _ _
  refine ⟨b, off, he, hl, fun j u hu => ?_⟩
  have hj := (List.getElem?_eq_some_iff.1 hu).1
  rw [hc j (by omega)]
  exact hu

def StartOut (w w' : World) (ids : List Int) (e : Ending) : Prop := ∃ v, e = .returned v ∧ QRow w' w.heap.size 58 3 v ids.length (bels (startN ids)) ∧ Below w.heap.size w w'
def StartRel (w : World) (ids : List Int) (out i : Value) (wr : World) : Prop := ∃ k : Nat, k ≤ ids.length ∧ i = .int .i64 k ∧ Below w.heap.size w wr ∧ QRow wr w.heap.size 58 3 out k (bels (startN (ids.take k)))
set_option maxHeartbeats 800000 in
theorem start_any (Ai Al : Option Addr) (m ci cl : Nat) (ids : List Int) (w : World) (hi : RowC w Ai (ints ids)) (hl : ids.length ≤ 1000) :
    Calls Try.prog 23 #[.agg #[.slice Ai ids.length ci, .slice Al m cl]] w fun e w' => StartOut w w' ids e := by
  have HI := Lib.hid hi
  have hb0 := below_alloc (Below.refl w.heap.size w) (.cells #[.slice Ai ids.length ci, .slice Al m cl] 25)
  have HB0 := Lib.hid hb0
  clear hi hb0
  go_enter Try.func23, Try.ntmps23
  go_wp2_with fail
  generalize w.alloc (.cells #[.slice Ai ids.length ci, .slice Al m cl] 25) = w1 at *
  go_loopw [3, 9] (fun out i wr => StartRel w ids out i wr) (fun _ i _ => ids.length - (intOf i).toNat)
  case atStart => exact ⟨0, Nat.zero_le _, rfl, HB0.out, by simpa [bels, startN] using q_nil _ _ _ _⟩
  case round =>
    obtain ⟨k, hk, rfl, hb, hq⟩ := hrel
    have HB := Lib.hid hb
    have HQ := Lib.hid hq
    clear hb hq
    by_cases hlt : k < ids.length
    · have hd : decide ((k : Int) < (ids.length : Int)) = true := by simp; omega
      obtain ⟨b, off, rfl, hbl, hc⟩ := HI.out (by rw [ints_len]; omega)
      obtain ⟨x, hx⟩ : ∃ x, ids[k]? = some x := ⟨ids[k], List.getElem?_eq_getElem _⟩
      have cx : wr.cell? ⟨b, off + k, none⟩ = some (.int .i64 x) := pw_cell_below HB.out (hc k _ (ints_get hx))
      have htk : bels (startN (ids.take (k + 1))) = bels (startN (ids.take k)) ++ [.int .i64 x, .int .i64 0, .int .i64 (-1)] := by
        rw [List.take_add_one, hx]
        simp [bels, startN, encB]
      have HTK := Lib.hid htk
      have hws := HB.out.size
      clear hc hx htk
      go_wp2_with (at_builtin; refine wpList_append_q wr w.heap.size rfl (.tmp 13) (.tmp 16) 53 58 (.agg #[.int .i64 0, .int .i64 0, .int .i64 0]) 3 24 rfl Try.underlying53 info_bel rfl (by decide) _ k (bels (startN (ids.take k))) rfl ?hq 1 [.int .i64 x, .int .i64 0, .int .i64 (-1)] ?hx rfl ?h1 (by decide) ?h63 ?hby ?hba ?next)
      case hq => exact HQ.out
      case hx => rfl
      case h1 => intro u hu; simp at hu; rcases hu with rfl | rfl | rfl <;> rfl
      case h63 => unfold maxLen; omega
      case hby => omega
      case hba => exact hws
      case next =>
        intro v2 w2 hq2 hg2 _
        have hb2 : Below w.heap.size w w2 := HB.out.grown hg2 hws (fun q hq => (q_typed HQ.out q hq).1)
        have HB2 := Lib.hid hb2
        have HQ2 := Lib.hid hq2
        clear hq2 hg2 hb2
        go_wp2_with fail
        exact ⟨⟨k + 1, hlt, by go_num, HB2.out, by rw [HTK.out]; exact HQ2.out⟩, by simp [intOf]; omega⟩
    · obtain rfl : k = ids.length := by omega
      have hd : decide ((ids.length : Int) < (ids.length : Int)) = false := by simp
      go_wp2_with fail
      go_ret
      have := HQ.out
      rw [List.take_length] at this
      exact ⟨_, rfl, this, HB.out⟩

def encL (x : Link) : List Value := [.int .i64 x.a, .int .i64 x.pa, .int .i64 x.b, .int .i64 x.pb, .int .i64 x.cost]
def linksV (L : List Link) : List Value := L.flatMap encL
theorem linksV_len (L : List Link) : (linksV L).length = L.length * 5 := flat_len encL 5 (fun _ => rfl) L
theorem linksV_get {L : List Link} {i : Nat} {e : Link} (h : L[i]? = some e) (j : Nat) (hj : j < 5) : (linksV L)[i * 5 + j]? = (encL e)[j]? := flat_get encL 5 (fun _ => rfl) L i e h j hj
theorem info_end : (Try.prog.info? 56).map (fun i => (i.zero, i.size, i.bytes)) = some (some (.agg #[.int .i64 0, .int .i64 0, .int .i64 0, .int .i64 0, .int .i64 0]), 5, 40) := by kernel_rfl
def RawRel (w : World) (L : List Link) (out i : Value) (wr : World) : Prop := ∃ k : Nat, k ≤ L.length ∧ i = .int .i64 k ∧ Below w.heap.size w wr ∧ QRow wr w.heap.size 56 5 out (k * 2) (endsV (rawE (L.take k)))

open Go.Shelf Go.Lib Go.Sort
theorem ltE (x y : End) : ltOf cmpE x y = decide (x.bridge < y.bridge ∨ (x.bridge = y.bridge ∧ x.port < y.port)) := by
  unfold ltOf cmpE cmpI Lib.compareInt
  by_cases h1 : x.bridge < y.bridge
  · simp [h1, orL]
  · by_cases h2 : x.bridge > y.bridge
    · have : ¬ x.bridge = y.bridge := by omega
      simp [h1, h2, orL, this]
    · have : x.bridge = y.bridge := by omega
      by_cases h3 : x.port < y.port
      · simp [this, orL, h3]
      · by_cases h4 : x.port > y.port
        · simp [this, orL, h3, h4]
        · simp [this, orL, h3, h4]
theorem swoE : SWO (ltOf cmpE) where
  irrefl x := by rw [ltE]; simp
  trans x y z h1 h2 := by rw [ltE] at *; simp at *; omega
  ntrans x y z h1 h2 := by rw [ltE] at *; simp at *; omega
theorem flat_list (d : Array End) (j : Nat) (h : j < d.size * 5) : (flatK encE 5 d)[j]! = ((endsV d.toList)[j]?).getD default := by
  rw [get_flatK _ _ _ _ h]
  have hi : j / 5 < d.size := by omega
  have hg := endsV_get (L := d.toList) (i := j / 5) (e := d[j / 5]!) (by simp [hi]) (j % 5) (by omega)
  rw [show j / 5 * 5 + j % 5 = j by omega] at hg
  rw [hg]
  simp [List.getElem!_eq_getElem?_getD]
theorem below_growE (W : World) (os : Array Obj) : Below W.heap.size W (grow W os) := ⟨rfl, rfl, rfl, by simp [grow], fun k hk => by simp [grow, Array.getElem?_append_left hk]⟩
theorem below_putRow {B : Nat} {W w : World} {blk : Nat} (h : Below B W w) (hb : B ≤ blk) (off : Nat) (F : Array Value) (n : Nat) : Below B W (putRow id (Sort.ahead w n) blk off F) :=
  ⟨h.os, h.tape, h.output, by have := h.size; simpa [putRow, mapBlock, Sort.ahead] using this, fun k hk => by
    rw [← h.block k hk]
    simp only [putRow, mapBlock, Sort.ahead]
    rw [Array.getElem?_modify, if_neg (by omega)]⟩
/-- The ends in order. -/
def SortedE (E : List End) : Prop := E.Pairwise fun x y => ltOf cmpE y x = false
def SortOut (w w' : World) (base : Nat) (A : Option Addr) (L : List End) (e : Ending) : Prop := e = .returned (.tuple #[]) ∧ ∃ E, E.Perm L ∧ SortedE E ∧ RowC w' A (endsV E) ∧ Below base w w'
theorem sort_any (w : World) (base : Nat) (A : Option Addr) (n c : Nat) (L : List End) (hL : L.length = n) (h : QRow w base 56 5 (.slice A n c) n (endsV L)) (hn : n ≤ 1000000) (hbase : base ≤ w.heap.size) :
    Calls Try.prog 31 #[.slice A n c, .func (.func 32) #[] #[]] w fun e w' => SortOut w w' base A L e := by
  subst hL
  by_cases h0 : 0 < L.length
  · obtain ⟨blk, off, cap, he, hb, hl, _, _, hc, hf, cur, hcur⟩ := q_form h h0
    injection he with he1 he2 he3
    subst he1
    subst he3
    have eg : ∀ args w, (callFunc 32 args).run Try.prog w = .ok (.enter 32 args) w := enters_of Try.func32 (by kernel_rfl) rfl
    have hH : HoldsK encE 5 w blk off L.toArray := by
      intro j hj
      have hj' : j < L.length * 5 := by simpa using hj
      refine ⟨?_, hf _⟩
      rw [hc j hj']
      have := flat_list L.toArray j (by simpa using hj')
      rw [show (flatK encE 5 L.toArray)[j]! = ((endsV L)[j]?).getD default from this]
      have hlen : j < (endsV L).length := by rw [endsV_len]; exact hj'
      rw [List.getElem?_eq_getElem hlen]
      rfl
    have hcon := Try.slices_SortFunc 5 Try.isAgg56 Try.sizeOf56 encE (fun _ => rfl) (fun x v hv => by simp [encE] at hv; rcases hv with rfl | rfl | rfl | rfl | rfl <;> rfl) cmpE swoE 32 #[] blk off c L.toArray w eg
      (fun m os dk _ x y => by
        have := closure_any x y (sortWorldK encE 5 w blk off m dk os)
        simpa using this) hH hl (by simp; omega)
    refine (show Calls Try.prog 31 #[.slice (some ⟨blk, off, none⟩) L.length c, .func (.func 32) #[] #[]] w _ from by simpa using hcon).mono ?_
    rintro e w' ⟨rfl, d', hp, hs, n, os, rfl⟩
    obtain ⟨hsz, _, hperm⟩ := hp
    have hsz' : d'.size = L.length := by simpa using hsz
    refine ⟨rfl, d'.toList, ?_, ?_, ?_, ?_⟩
    · have := hperm
      rw [show d'.extract 0 L.length = d' from by rw [← hsz']; simp, show L.toArray.extract 0 L.length = L.toArray from by simp] at this
      simpa using this
    · refine List.pairwise_iff_getElem.2 fun i j hi hj hij => ?_
      have := hs i j (Nat.zero_le _) hij (by simpa [hsz'] using hj)
      rw [Array.length_toList] at hi hj
      rw [getElem!_pos d' j hj, getElem!_pos d' i hi] at this
      simpa using this
    · intro hp0
      refine ⟨blk, off, rfl, ?_, fun j u hu => ?_⟩
      · have := (below_growE (putRowK encE 5 (Sort.ahead w n) blk off d') os).size
        refine Nat.lt_of_lt_of_le ?_ this
        simpa [putRowK, putRow, mapBlock, Sort.ahead] using hl
      · have hjl : j < d'.toList.length * 5 := by have := (List.getElem?_eq_some_iff.1 hu).1; rwa [endsV_len] at this
        have hjd : j < d'.size * 5 := by simpa using hjl
        refine pw_cell_below (below_growE _ _) ?_
        have := cell?_putRow id (Sort.ahead w n) blk off (flatK encE 5 L.toArray) (flatK encE 5 d') (show Holds id (Sort.ahead w n) blk off _ from hH) (by simp [hsz']) j (by simpa using hjd)
        rw [show (putRowK encE 5 (Sort.ahead w n) blk off d').cell? ⟨blk, off + j, none⟩ = _ from this]
        rw [flat_list d' j hjd, hu]
        rfl
    · exact (below_putRow (Below.refl base w) hb off _ n).trans ((below_growE _ _).mono (by have := (below_putRow (Below.refl base w) hb off (flatK encE 5 d') n).size; exact Nat.le_trans hbase this))
  · obtain rfl : L = [] := List.eq_nil_of_length_eq_zero (by omega)
    refine (Try.slices_SortFunc_none (α := End) A c (.func (.func 32) #[] #[]) w).mono ?_
    rintro e w' ⟨rfl, rfl⟩
    exact ⟨rfl, [], List.Perm.refl _, List.Pairwise.nil, fun h => by simp [endsV] at h, Below.refl _ _⟩
end Go.Proofs.Ytcpekijgjnnfoaa.Sp
