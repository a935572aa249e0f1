/-
  What the functions of package learn do: contracts.
-/
import Derived.Test.YtidgmoeimgjggaaCredit
import Derived.Deep.LoopGhost
import Derived.IntWalk
namespace Go.Proofs.Ytidgmoeimgjggaa.Learn
open Go.RowKit Go.Proofs.YtidgmoeimgjggaaW.PrintWords Go.Proofs.Ytidgmoeimgjggaa.Xm

attribute [local go_sem] max2_ints min2_ints max_of2 min_of2

/-- Where a station was seen: link, port, time. -/
structure Ent where
  link : Int
  port : Int
  seen : Int
def enc (x : Ent) : List Value := [.int .i64 x.link, .int .i64 x.port, .int .i64 x.seen]
def encs (L : List Ent) : List Value := L.flatMap enc
theorem encs_length (L : List Ent) : (encs L).length = L.length * 3 := by
  induction L with
  | nil => rfl
  | cons x L ih => simp only [encs, List.flatMap_cons, List.length_append, List.length_cons] at *; rw [ih]; simp [enc]; omega
theorem encs_append (L M : List Ent) : encs (L ++ M) = encs L ++ encs M := by simp [encs]
theorem encs_get (L : List Ent) : ∀ (k : Nat) (x : Ent), L[k]? = some x → ∀ j, j < 3 → (encs L)[k * 3 + j]? = (enc x)[j]? := by
  induction L with
  | nil => intro k x h; simp at h
  | cons y L ih =>
    intro k x h j hj
    cases k with
    | zero =>
      simp at h
      subst h
      show (enc y ++ encs L)[0 * 3 + j]? = _
      rw [List.getElem?_append_left (by simp [enc]; omega)]
      simp
    | succ k =>
      have := ih k x (by simpa using h) j hj
      show (enc y ++ encs L)[(k + 1) * 3 + j]? = _
      rw [List.getElem?_append_right (by simp [enc]; omega), ← this]
      congr 1
      simp [enc]
      omega
theorem encs_drop (L : List Ent) : ∀ k, (encs L).drop (k * 3) = encs (L.drop k) := by
  induction L with
  | nil => intro k; simp [encs]
  | cons y L ih =>
    intro k
    cases k with
    | zero => simp
    | succ k =>
      show (enc y ++ encs L).drop ((k + 1) * 3) = encs (L.drop k)
      rw [← ih k, show (k + 1) * 3 = (enc y).length + k * 3 by simp [enc]; omega, List.drop_append]
      simp

/-- A table: its age, its capacity, the latest time, its entries. -/
def IsTable (w : World) (base g : Nat) (age room last : Int) (L : List Ent) : Prop :=
  ∃ lv, Blk w g #[.int .i64 age, .int .i64 room, .int .i64 last, lv] 75 ∧ QRow w base 78 3 lv L.length (encs L)

theorem info_ent : (Try.prog.info? 78).map (fun i => (i.zero, i.size, i.bytes)) = some (some (.agg #[.int .i64 0, .int .i64 0, .int .i64 0]), 3, 24) := by kernel_rfl

def freshB (now age : Int) (x : Ent) : Bool := decide (now - x.seen < age)
/-- Entries that have been seen at known times. -/
def Seen (now : Int) (L : List Ent) : Prop := ∀ x ∈ L, 0 ≤ x.seen ∧ x.seen ≤ now
def Fresh (w w' : World) (g : Nat) (age room now : Int) (L : List Ent) : Prop := IsTable w' w.heap.size g age room now (L.filter (freshB now age)) ∧ Only (· = g) w w'
def FRel (w : World) (B g : Nat) (age room now : Int) (lv : Value) (L : List Ent) (out i : Value) (wr : World) : Prop :=
  ∃ k : Nat, k ≤ L.length ∧ i = .int .i64 k ∧ Blk wr g #[.int .i64 age, .int .i64 room, .int .i64 now, lv] 75 ∧ Only (· = g) w wr ∧
    QRow wr w.heap.size 78 3 out ((L.take k).filter (freshB now age)).length (encs ((L.take k).filter (freshB now age)))

set_option maxHeartbeats 400000 in
theorem fresh_any (base g : Nat) (age room last now : Int) (L : List Ent) (w : World) (h : IsTable w base g age room last L) (hs : Seen now L) (hn0 : 0 ≤ now) (hn1 : now ≤ 1000000000) (hL : L.length ≤ 100000) :
    Calls Try.prog 37 #[.pointer (some ⟨g, 0, none⟩), .int .i64 now] w fun e w' => e = .returned (.tuple #[]) ∧ Fresh w w' g age room now L := by
  obtain ⟨lv, hb, hq⟩ := h
  obtain ⟨A, c, rfl, hc⟩ := q_slice hq
  have c0 : w.cell? ⟨g, 0, none⟩ = some (.int .i64 age) := (hb.cell 0).trans rfl
  have c2 : w.cell? ⟨g, 2, none⟩ = some (.int .i64 last) := (hb.cell 2).trans rfl
  have c3 : w.cell? ⟨g, 3, none⟩ = some (.slice A L.length c) := (hb.cell 3).trans rfl
  have f2 := hb.frozen 2
  have HBK := Lib.hid hb
  have HQ := Lib.hid hq
  have HS := Lib.hid hs
  clear hb hq hs
  go_enter Try.func37, Try.ntmps37
  go_wp2
  clear c0 c2 c3 f2
  go_loopw [4, 16] (fun out i wr => FRel w g g age room now (.slice A L.length c) L out i wr) (fun _ i _ => L.length - (intOf i).toNat)
  case atStart => exact ⟨0, by omega, rfl, HBK.out.set 2 _, (Only.refl _ _).set1 2 _, by simpa [encs] using q_nil _ _ _ _⟩
  case round =>
    obtain ⟨k, hk, rfl, hb, ho, hq⟩ := hrel
    have HB := Lib.hid hb
    have HO := Lib.hid ho
    have HR := Lib.hid hq
    have c0 : wr.cell? ⟨g, 0, none⟩ = some (.int .i64 age) := (hb.cell 0).trans rfl
    clear hb ho hq
    by_cases hlt : k < L.length
    · obtain ⟨b, off, cap, he, _, hbl, _, _, hcells, _, cur, hcur⟩ := q_form HQ.out (by omega)
      injection he with he1 he2 he3
      subst he1
      subst he3
      obtain ⟨x, hx⟩ : ∃ x, L[k]? = some x := ⟨L[k], by simp [hlt]⟩
      have hne : b ≠ g := blk_ne hcur HBK.out (by decide)
      have hcw : ∀ j, j < 3 → wr.cell? ⟨b, off + k * 3 + j, none⟩ = (enc x)[j]? := by
        intro j hj
        rw [World.cell?_of_block (HO.out.block b hbl hne), Nat.add_assoc, hcells (k * 3 + j) (by omega)]
        exact encs_get L k x hx j hj
      have d0 : wr.cell? ⟨b, off + k * 3, none⟩ = some (.int .i64 x.link) := (hcw 0 (by omega)).trans rfl
      have d1 : wr.cell? ⟨b, off + k * 3 + 1, none⟩ = some (.int .i64 x.port) := (hcw 1 (by omega)).trans rfl
      have d2 : wr.cell? ⟨b, off + k * 3 + 2, none⟩ = some (.int .i64 x.seen) := (hcw 2 (by omega)).trans rfl
      clear hcw hcells
      obtain ⟨s0, s1⟩ := HS.out x (List.mem_of_getElem? hx)
      have HX := Lib.hid hx
      clear hx
      have hgl : g < wr.heap.size := HB.out.lt
      have hwrap : IntKind.i64.wrap (now - x.seen) = now - x.seen := IntWalk.i64_in _ (by omega)
      by_cases hf : now - x.seen < age
      · have hdec : decide (now - x.seen < age) = true := by simpa using hf
        have hft : freshB now age x = true := by simp [freshB]; omega
        have htk : (L.take (k + 1)).filter (freshB now age) = (L.take k).filter (freshB now age) ++ [x] := by
          rw [List.take_add_one, HX.out]; simp [List.filter_append, hft]
        have HTK := Lib.hid htk
        have hle : ((L.take k).filter (freshB now age)).length ≤ k := Nat.le_trans (List.length_filter_le _ _) (by simp; omega)
        clear hft htk
        go_wp2
        go_quiet (fail)
        go_wp2_with (at_builtin; refine wpList_append_q ((wr.alloc (.cells #[.int .i64 x.link, .int .i64 x.port, .int .i64 x.seen] 78)).drewN nq) w.heap.size rfl (.tmp 29) (.tmp 31) 73 78 (.agg #[.int .i64 0, .int .i64 0, .int .i64 0]) 3 24 rfl Try.underlying73 info_ent rfl (by decide) _ ((L.take k).filter (freshB now age)).length (encs ((L.take k).filter (freshB now age))) rfl ?hq 1 (enc x) ?hx rfl ?h1 (by decide) ?h63 ?hby ?hba ?next)
        case hq => exact q_drewN (q_alloc HR.out _) _
        case hx => show Value.slice (some ⟨wr.heap.size + 1, 0, none⟩) 1 1 = _; simp
        case h1 => intro u hu; simp [enc] at hu; rcases hu with rfl | rfl | rfl <;> rfl
        case h63 => unfold maxLen; omega
        case hby => omega
        case hba => have := HO.out.size; simp; omega
        case next =>
          intro v2 w2 hq2 hg2 _
          have HQ2 := Lib.hid hq2
          have hne2 : ∀ q, (u4 : Value).ownBlock = some q → q ≠ g := fun q hq => q_ne_blk HR.out HB.out (by decide) q hq
          have HB2 := Lib.hid (blk_grown ((HB.out.alloc (.cells #[.int .i64 x.link, .int .i64 x.port, .int .i64 x.seen] 78)).drewN nq) hg2 (fun h => hne2 g h.symm rfl))
          have HO2 := Lib.hid (((HO.out.alloc (.cells #[.int .i64 x.link, .int .i64 x.port, .int .i64 x.seen] 78)).drewN nq).grown hg2 (fun q hq h => absurd (q_typed HR.out q h.symm).1 (by omega)))
          clear hq2 hg2 hne2
          go_wp2
          refine ⟨?_, by simp [intOf]; omega⟩
          first | refine ⟨k + 1, ?_, ?_, ?_, ?_, ?_⟩ | ((repeat apply Exists.intro); refine ⟨⟨k + 1, ?_, ?_, ?_, ?_, ?_⟩, rfl⟩)
          · omega
          · go_num
          · exact HB2.out
          · exact HO2.out
          · rw [HTK.out, List.length_append, encs_append]
            simpa [encs] using HQ2.out
      · have hdec : decide (now - x.seen < age) = false := by simpa using hf
        have hff : freshB now age x = false := by simp [freshB]; omega
        have htk : (L.take (k + 1)).filter (freshB now age) = (L.take k).filter (freshB now age) := by
          rw [List.take_add_one, HX.out]; simp [List.filter_append, hff]
        have HTK := Lib.hid htk
        clear hff htk
        go_wp2
        go_quiet (fail)
        go_wp2
        refine ⟨?_, by simp [intOf]; omega⟩
        first | refine ⟨k + 1, ?_, ?_, ?_, ?_, ?_⟩ | ((repeat apply Exists.intro); refine ⟨⟨k + 1, ?_, ?_, ?_, ?_, ?_⟩, rfl⟩)
        · omega
        · go_num
        · exact (HB.out.alloc _).drewN _
        · exact (HO.out.alloc _).drewN _
        · rw [HTK.out]; exact q_drewN (q_alloc HR.out _) _
    · obtain rfl : k = L.length := by omega
      obtain ⟨A4, c4, rfl, _⟩ := q_slice HR.out
      have f3 := HB.out.frozen 3
      have c3 : wr.cell? ⟨g, 3, none⟩ = some (.slice A L.length c) := (HB.out.cell 3).trans rfl
      go_wp2
      go_end0
      refine ⟨rfl, ⟨_, HB.out.set 3 _, ?_⟩, ?_⟩
      · have h1 := HR.out
        rw [List.take_length] at h1
        exact q_far h1 (fun k hk => q_ne_blk h1 HB.out (by decide) k hk) _
      · exact HO.out.set1 3 _

theorem first_split {α : Type} (p : α → Bool) (M : List α) : (∀ x ∈ M, p x = false) ∨ ∃ (i : Nat) (x : α), M[i]? = some x ∧ p x = true ∧ ∀ (j : Nat) (y : α), j < i → M[j]? = some y → p y = false := by
  induction M with
  | nil => exact .inl (by simp)
  | cons y M ih =>
    cases hy : p y with
    | true => exact .inr ⟨0, y, rfl, hy, fun j z hj => absurd hj (by omega)⟩
    | false =>
      rcases ih with h | ⟨i, x, h1, h2, h3⟩
      · exact .inl (by simp [hy]; exact h)
      · refine .inr ⟨i + 1, x, by simpa using h1, h2, fun j z hj hz => ?_⟩
        cases j with
        | zero => simp at hz; subst hz; exact hy
        | succ j => exact h3 j z (by omega) (by simpa using hz)

theorem ent_cells {w : World} {base : Nat} {A : Option Addr} {n c : Nat} {L : List Ent} (h : QRow w base 78 3 (.slice A n c) n (encs L)) {k : Nat} {x : Ent} (hx : L[k]? = some x) :
    ∃ b off, A = some ⟨b, off, none⟩ ∧ b < w.heap.size ∧ base ≤ b ∧ (∃ cur, w.heap[b]? = some (.cells cur 78 (0, 0))) ∧
      w.cell? ⟨b, off + k * 3, none⟩ = some (.int .i64 x.link) ∧ w.cell? ⟨b, off + k * 3 + 1, none⟩ = some (.int .i64 x.port) ∧ w.cell? ⟨b, off + k * 3 + 2, none⟩ = some (.int .i64 x.seen) := by
  have hk : k < L.length := (List.getElem?_eq_some_iff.1 hx).1
  have hn : n = L.length := by have := h.1; rw [encs_length] at this; omega
  obtain ⟨b, off, cap, he, hbase, hbl, _, _, hcells, _, hcur⟩ := q_form h (by omega)
  injection he with he1 he2 he3
  refine ⟨b, off, he1, hbl, hbase, hcur, ?_, ?_, ?_⟩
  · exact (hcells (k * 3) (by omega)).trans ((encs_get L k x hx 0 (by omega)).trans rfl)
  · rw [Nat.add_assoc]; exact (hcells (k * 3 + 1) (by omega)).trans ((encs_get L k x hx 1 (by omega)).trans rfl)
  · rw [Nat.add_assoc]; exact (hcells (k * 3 + 2) (by omega)).trans ((encs_get L k x hx 2 (by omega)).trans rfl)

set_option maxHeartbeats 400000 in
theorem at_any (base g : Nat) (age room last now : Int) (L : List Ent) (w : World) (h : IsTable w base g age room last L) (hn0 : 0 ≤ now) (hn1 : now ≤ 1000000000) (hl : last ≤ now) :
    Calls Try.prog 36 #[.pointer (some ⟨g, 0, none⟩), .int .i64 now] w fun e w' => e = .returned (.int .i64 0) ∧ ∃ n, w' = w.drewN n := by
  obtain ⟨lv, hb, hq⟩ := h
  have c2 : w.cell? ⟨g, 2, none⟩ = some (.int .i64 last) := (hb.cell 2).trans rfl
  clear hb hq
  have d0 : decide (now < 0) = false := by simp; omega
  have d1 : decide (1000000000 < now) = false := by simp; omega
  have d2 : decide (now < last) = false := by simp; omega
  go_enter Try.func36, Try.ntmps36
  go_wp2
  go_ret
  exact ⟨rfl, 0, rfl⟩

set_option maxHeartbeats 400000 in
theorem new_any (age room : Int) (w : World) (h1 : 1 ≤ age) (h2 : age ≤ 1000000000) (h3 : 1 ≤ room) (h4 : room ≤ 256) :
    Calls Try.prog 23 #[.int .i64 age, .int .i64 room] w fun e w' => e = .returned (.tuple #[.pointer (some ⟨w.heap.size, 0, none⟩), .int .i64 0]) ∧ w' = w.alloc (.cells #[.int .i64 age, .int .i64 room, .int .i64 0, .slice none 0 0] 75) := by
  go_enter Try.func23, Try.ntmps23
  go_wp2
  go_ret2
  exact ⟨rfl, rfl⟩

theorem isTable_new (w : World) (base : Nat) (age room : Int) : IsTable (w.alloc (.cells #[.int .i64 age, .int .i64 room, .int .i64 0, .slice none 0 0] 75)) base w.heap.size age room 0 [] :=
  ⟨_, Blk.new _ _ _, by simpa [encs] using q_nil _ _ _ _⟩
theorem IsTable.drewN {w : World} {base g : Nat} {age room last : Int} {L : List Ent} (h : IsTable w base g age room last L) (n : Nat) : IsTable (w.drewN n) base g age room last L := h
theorem IsTable.lt {w : World} {base g : Nat} {age room last : Int} {L : List Ent} (h : IsTable w base g age room last L) : g < w.heap.size := by obtain ⟨_, h, _⟩ := h; exact h.lt
theorem IsTable.lower {w : World} {base base' g : Nat} {age room last : Int} {L : List Ent} (h : IsTable w base g age room last L) (hb : base' ≤ base) : IsTable w base' g age room last L := by
  obtain ⟨lv, h1, h2⟩ := h
  exact ⟨lv, h1, q_lower h2 hb⟩
theorem IsTable.only {w w' : World} {S : Nat → Prop} {base g : Nat} {age room last : Int} {L : List Ent} (h : IsTable w base g age room last L) (ho : Only S w w') (hg : ¬ S g) (hs : ∀ k, base ≤ k → ¬ S k) : IsTable w' base g age room last L := by
  obtain ⟨lv, hb, hq⟩ := h
  exact ⟨lv, ho.blk hb hg, ho.row hq (fun k hk => hs k (q_typed hq k hk).1)⟩
theorem IsTable.below {w w' : World} {base g : Nat} {age room last : Int} {L : List Ent} (h : IsTable w base g age room last L) (hb : Below w.heap.size w w') : IsTable w' base g age room last L := by
  obtain ⟨lv, hb1, hq⟩ := h
  have ho : Only (fun _ => False) w w' := Only.of_below hb
  exact ⟨lv, ho.blk hb1 (fun h => h), ho.row hq (fun _ _ h => h)⟩

/-- After a call that looks: the entries that are fresh; and a number. -/
def Sized (w w' : World) (g : Nat) (age room now : Int) (L : List Ent) (e : Ending) : Prop :=
  e = .returned (.tuple #[.int .i64 ((L.filter (freshB now age)).length : Int), .int .i64 0]) ∧ Fresh w w' g age room now L

set_option maxHeartbeats 400000 in
theorem size_any (base g : Nat) (age room last now : Int) (L : List Ent) (w : World) (h : IsTable w base g age room last L) (hs : Seen now L) (hn0 : 0 ≤ now) (hn1 : now ≤ 1000000000) (hl : last ≤ now) (hL : L.length ≤ 100000) :
    Calls Try.prog 25 #[.pointer (some ⟨g, 0, none⟩), .int .i64 now] w fun e w' => Sized w w' g age room now L e := by
  have H := Lib.hid h
  have HS := Lib.hid hs
  clear h hs
  go_enter Try.func25, Try.ntmps25
  go_wp2_with fail
  refine (at_any base g age room last now L _ H.out hn0 hn1 hl).mono ?_
  rintro e w' ⟨rfl, m, rfl⟩
  go_wp2_with fail
  refine (fresh_any base g age room last now L _ (H.out.drewN m) HS.out hn0 hn1 hL).mono ?_
  rintro e w2 ⟨rfl, ht, ho⟩
  have HT := Lib.hid ht
  have HO := Lib.hid ho
  obtain ⟨lv, hb, hq⟩ := ht
  obtain ⟨A, c, rfl, hc⟩ := q_slice hq
  have c3 := hb.cell 3
  clear hb hq ho
  simp only [List.getElem?_toArray, List.getElem?_cons_succ, List.getElem?_cons_zero] at c3
  go_wp2_with fail
  go_ret2
  exact ⟨rfl, HT.out, ((Only.refl _ _).drewN m).trans HO.out⟩

def findP (M : List Ent) (link : Int) : Int × Bool := match M.find? (fun x => x.link == link) with | some x => (x.port, true) | none => (0, false)
theorem findP_none {M : List Ent} {link : Int} (h : ∀ x ∈ M, (x.link == link) = false) : findP M link = (0, false) := by
  have : M.find? (fun x => x.link == link) = none := List.find?_eq_none.2 (fun x hx => by simp [h x hx])
  simp [findP, this]
theorem findP_some {M : List Ent} {link : Int} : ∀ {i : Nat} {x : Ent}, M[i]? = some x → (x.link == link) = true → (∀ j y, j < i → M[j]? = some y → (y.link == link) = false) → findP M link = (x.port, true) := by
  induction M with
  | nil => intro i x h; simp at h
  | cons z M ih =>
    intro i x h1 h2 h3
    cases i with
    | zero => simp at h1; subst h1; simp [findP, List.find?, h2]
    | succ i =>
      have hz := h3 0 z (by omega) rfl
      have := ih (i := i) (x := x) (by simpa using h1) h2 (fun j y hj hy => h3 (j + 1) y (by omega) (by simpa using hy))
      simpa [findP, List.find?, hz] using this
def Found (w w' : World) (g : Nat) (age room now : Int) (M : List Ent) (link : Int) (e : Ending) : Prop :=
  e = .returned (.tuple #[.int .i64 (findP M link).1, .bool (findP M link).2, .int .i64 0]) ∧ IsTable w' w.heap.size g age room now M ∧ Only (· = g) w w'
def FindRel (w2 : World) (i0 : Nat) (i : Value) (wr : World) : Prop := ∃ k : Nat, k ≤ i0 ∧ i = .int .i64 k ∧ Below w2.heap.size w2 wr

set_option maxHeartbeats 800000 in
theorem find_any (base g : Nat) (age room last now link : Int) (L : List Ent) (w : World) (h : IsTable w base g age room last L) (hs : Seen now L) (hn0 : 0 ≤ now) (hn1 : now ≤ 1000000000) (hl : last ≤ now) (hL : L.length ≤ 100000) :
    Calls Try.prog 26 #[.pointer (some ⟨g, 0, none⟩), .int .i64 link, .int .i64 now] w fun e w' => Found w w' g age room now (L.filter (freshB now age)) link e := by
  have H := Lib.hid h
  have HS := Lib.hid hs
  clear h hs
  have hML : (L.filter (freshB now age)).length ≤ 100000 := Nat.le_trans (List.length_filter_le _ _) hL
  generalize hM : L.filter (freshB now age) = M at *
  have HM := Lib.hid hM
  clear hM
  rcases first_split (fun x : Ent => x.link == link) M with hnone | ⟨i, x, hx1, hx2, hx3⟩
  · have hP := findP_none hnone
    have HP := Lib.hid hP
    have HNO := Lib.hid hnone
    clear hP hnone
    go_enter Try.func26, Try.ntmps26
    go_wp2_with fail
    refine (at_any base g age room last now L _ H.out hn0 hn1 hl).mono ?_
    rintro e w' ⟨rfl, m, rfl⟩
    go_wp2_with fail
    refine (fresh_any base g age room last now L _ (H.out.drewN m) HS.out hn0 hn1 hL).mono ?_
    rintro e w2 ⟨rfl, ht, ho⟩
    rw [HM.out] at ht
    have HT := Lib.hid ht
    have HO := Lib.hid ho
    obtain ⟨lv, hb, hq⟩ := ht
    obtain ⟨A, c, rfl, hc⟩ := q_slice hq
    have c3 := hb.cell 3
    have HQ := Lib.hid hq
    clear hb hq ho
    simp only [List.getElem?_toArray, List.getElem?_cons_succ, List.getElem?_cons_zero] at c3
    go_wp2_with fail
    clear c3
    go_loopw [26] (fun i wr => FindRel w2 M.length i wr) (fun i _ => M.length - (intOf i).toNat)
    case atStart => exact ⟨0, by omega, rfl, Below.refl _ _⟩
    case round =>
      obtain ⟨k, hk, rfl, hbel⟩ := hrel
      have HB := Lib.hid hbel
      clear hbel
      by_cases hlt : k < M.length
      · obtain ⟨y, hy⟩ : ∃ y, M[k]? = some y := ⟨M[k], by simp [hlt]⟩
        have hne := HNO.out y (List.mem_of_getElem? hy)
        obtain ⟨b, off, rfl, hbl, _, _, e0, e1, e2⟩ := ent_cells HQ.out hy
        have d0 : wr.cell? ⟨b, off + k * 3, none⟩ = some (.int .i64 y.link) := (HB.out.cell (p := ⟨b, off + k * 3, none⟩) hbl).trans e0
        have d1 : wr.cell? ⟨b, off + k * 3 + 1, none⟩ = some (.int .i64 y.port) := (HB.out.cell (p := ⟨b, off + k * 3 + 1, none⟩) hbl).trans e1
        have d2 : wr.cell? ⟨b, off + k * 3 + 2, none⟩ = some (.int .i64 y.seen) := (HB.out.cell (p := ⟨b, off + k * 3 + 2, none⟩) hbl).trans e2
        clear e0 e1 e2 hy
        go_wp2
        refine ⟨?_, by simp [intOf]; omega⟩
        first | refine ⟨k + 1, ?_, ?_, ?_⟩ | ((repeat apply Exists.intro); refine ⟨⟨k + 1, ?_, ?_, ?_⟩, rfl⟩)
        · omega
        · go_num
        · exact below_alloc HB.out _
      · obtain rfl : k = M.length := by omega
        go_wp2
        go_ret3
        exact ⟨by rw [HP.out]; rfl, HT.out.below HB.out, (((Only.refl _ _).drewN m).trans HO.out).trans ((Only.of_below HB.out).mono (fun _ _ h => h))⟩
  · have hP := findP_some hx1 hx2 hx3
    have HP := Lib.hid hP
    have HNO := Lib.hid hx3
    have HX := Lib.hid hx1
    have hx2' : (x.link == link) = true := hx2
    clear hP hx3 hx1 hx2
    go_enter Try.func26, Try.ntmps26
    go_wp2_with fail
    refine (at_any base g age room last now L _ H.out hn0 hn1 hl).mono ?_
    rintro e w' ⟨rfl, m, rfl⟩
    go_wp2_with fail
    refine (fresh_any base g age room last now L _ (H.out.drewN m) HS.out hn0 hn1 hL).mono ?_
    rintro e w2 ⟨rfl, ht, ho⟩
    rw [HM.out] at ht
    have HT := Lib.hid ht
    have HO := Lib.hid ho
    obtain ⟨lv, hb, hq⟩ := ht
    obtain ⟨A, c, rfl, hc⟩ := q_slice hq
    have c3 := hb.cell 3
    have HQ := Lib.hid hq
    clear hb hq ho
    simp only [List.getElem?_toArray, List.getElem?_cons_succ, List.getElem?_cons_zero] at c3
    have hiM : i < M.length := (List.getElem?_eq_some_iff.1 HX.out).1
    go_wp2_with fail
    clear c3
    go_loopw [26] (fun q wr => FindRel w2 i q wr) (fun q _ => M.length - (intOf q).toNat)
    case atStart => exact ⟨0, by omega, rfl, Below.refl _ _⟩
    case round =>
      obtain ⟨k, hk, rfl, hbel⟩ := hrel
      have HB := Lib.hid hbel
      clear hbel
      by_cases hlt : k < i
      · obtain ⟨y, hy⟩ : ∃ y, M[k]? = some y := ⟨M[k]'(by omega), List.getElem?_eq_getElem (by omega)⟩
        have hne := HNO.out k y hlt hy
        obtain ⟨b, off, rfl, hbl, _, _, e0, e1, e2⟩ := ent_cells HQ.out hy
        have d0 : wr.cell? ⟨b, off + k * 3, none⟩ = some (.int .i64 y.link) := (HB.out.cell (p := ⟨b, off + k * 3, none⟩) hbl).trans e0
        have d1 : wr.cell? ⟨b, off + k * 3 + 1, none⟩ = some (.int .i64 y.port) := (HB.out.cell (p := ⟨b, off + k * 3 + 1, none⟩) hbl).trans e1
        have d2 : wr.cell? ⟨b, off + k * 3 + 2, none⟩ = some (.int .i64 y.seen) := (HB.out.cell (p := ⟨b, off + k * 3 + 2, none⟩) hbl).trans e2
        clear e0 e1 e2 hy hx2'
        go_wp2
        refine ⟨?_, by simp [intOf]; omega⟩
        first | refine ⟨k + 1, ?_, ?_, ?_⟩ | ((repeat apply Exists.intro); refine ⟨⟨k + 1, ?_, ?_, ?_⟩, rfl⟩)
        · omega
        · go_num
        · exact below_alloc HB.out _
      · obtain rfl : k = i := by omega
        obtain ⟨b, off, rfl, hbl, _, _, e0, e1, e2⟩ := ent_cells HQ.out HX.out
        have d0 : wr.cell? ⟨b, off + k * 3, none⟩ = some (.int .i64 x.link) := (HB.out.cell (p := ⟨b, off + k * 3, none⟩) hbl).trans e0
        have d1 : wr.cell? ⟨b, off + k * 3 + 1, none⟩ = some (.int .i64 x.port) := (HB.out.cell (p := ⟨b, off + k * 3 + 1, none⟩) hbl).trans e1
        have d2 : wr.cell? ⟨b, off + k * 3 + 2, none⟩ = some (.int .i64 x.seen) := (HB.out.cell (p := ⟨b, off + k * 3 + 2, none⟩) hbl).trans e2
        clear e0 e1 e2
        go_wp2
        go_ret3
        exact ⟨by rw [HP.out]; rfl, (HT.out.below HB.out).below (below_alloc (Below.refl _ _) _), ((((Only.refl _ _).drewN m).trans HO.out).trans ((Only.of_below HB.out).mono (fun _ _ h => h))).alloc _⟩

def portB (port : Int) (x : Ent) : Bool := x.port != port
def Dropped (w w' : World) (g : Nat) (age room last : Int) (L M : List Ent) (e : Ending) : Prop :=
  e = .returned (.int .i64 ((L.length : Int) - (M.length : Int))) ∧ IsTable w' w.heap.size g age room last M ∧ Only (· = g) w w'
def DRel (w : World) (g : Nat) (port : Int) (L : List Ent) (out i : Value) (wr : World) : Prop :=
  ∃ k : Nat, k ≤ L.length ∧ i = .int .i64 k ∧ Below w.heap.size w wr ∧
    QRow wr w.heap.size 78 3 out ((L.take k).filter (portB port)).length (encs ((L.take k).filter (portB port)))

set_option maxHeartbeats 800000 in
theorem drop_any (base g : Nat) (age room last port : Int) (L : List Ent) (w : World) (h : IsTable w base g age room last L) (hL : L.length ≤ 100000) :
    Calls Try.prog 27 #[.pointer (some ⟨g, 0, none⟩), .int .i64 port] w fun e w' => Dropped w w' g age room last L (L.filter (portB port)) e := by
  obtain ⟨lv, hb, hq⟩ := h
  obtain ⟨A, c, rfl, hc⟩ := q_slice hq
  have c3 : w.cell? ⟨g, 3, none⟩ = some (.slice A L.length c) := (hb.cell 3).trans rfl
  have HBK := Lib.hid hb
  have HQ := Lib.hid hq
  clear hb hq
  go_enter Try.func27, Try.ntmps27
  go_wp2
  clear c3
  go_loopw [5, 14] (fun out i wr => DRel w g port L out i wr) (fun _ i _ => L.length - (intOf i).toNat)
  case atStart => exact ⟨0, by omega, rfl, Below.refl _ _, by simpa [encs] using q_nil _ _ _ _⟩
  case round =>
    obtain ⟨k, hk, rfl, ho, hq⟩ := hrel
    have HO := Lib.hid ho
    have HR := Lib.hid hq
    have hsz := ho.size
    clear ho hq
    by_cases hlt : k < L.length
    · obtain ⟨x, hx⟩ : ∃ x, L[k]? = some x := ⟨L[k], by simp [hlt]⟩
      obtain ⟨b, off, rfl, hbl, _, _, e0, e1, e2⟩ := ent_cells HQ.out hx
      have d0 : wr.cell? ⟨b, off + k * 3, none⟩ = some (.int .i64 x.link) := (HO.out.cell (p := ⟨b, off + k * 3, none⟩) hbl).trans e0
      have d1 : wr.cell? ⟨b, off + k * 3 + 1, none⟩ = some (.int .i64 x.port) := (HO.out.cell (p := ⟨b, off + k * 3 + 1, none⟩) hbl).trans e1
      have d2 : wr.cell? ⟨b, off + k * 3 + 2, none⟩ = some (.int .i64 x.seen) := (HO.out.cell (p := ⟨b, off + k * 3 + 2, none⟩) hbl).trans e2
      clear e0 e1 e2
      have HX := Lib.hid hx
      clear hx
      cases hf : (x.port != port) with
      | true =>
        have htk : (L.take (k + 1)).filter (portB port) = (L.take k).filter (portB port) ++ [x] := by
          rw [List.take_add_one, HX.out]; simp [List.filter_append, portB, hf]
        have HTK := Lib.hid htk
        have hle : ((L.take k).filter (portB port)).length ≤ k := Nat.le_trans (List.length_filter_le _ _) (by simp; omega)
        clear htk
        go_wp2_with (at_builtin; refine wpList_append_q (wr.alloc (.cells #[.int .i64 x.link, .int .i64 x.port, .int .i64 x.seen] 78)) w.heap.size rfl (.tmp 22) (.tmp 24) 73 78 (.agg #[.int .i64 0, .int .i64 0, .int .i64 0]) 3 24 rfl Try.underlying73 info_ent rfl (by decide) _ ((L.take k).filter (portB port)).length (encs ((L.take k).filter (portB port))) rfl ?hq 1 (enc x) ?hx rfl ?h1 (by decide) ?h63 ?hby ?hba ?next)
        case hq => exact q_alloc HR.out _
        case hx => show Value.slice (some ⟨wr.heap.size + 1, 0, none⟩) 1 1 = _; simp
        case h1 => intro u hu; simp [enc] at hu; rcases hu with rfl | rfl | rfl <;> rfl
        case h63 => unfold maxLen; omega
        case hby => omega
        case hba => simp; omega
        case next =>
          intro v2 w2 hq2 hg2 _
          have HQ2 := Lib.hid hq2
          have HO2 := Lib.hid ((below_alloc HO.out (.cells #[.int .i64 x.link, .int .i64 x.port, .int .i64 x.seen] 78)).grown hg2 (by simp; omega) (fun q hq => (q_typed HR.out q hq).1))
          clear hq2 hg2
          go_wp2
          refine ⟨?_, by simp [intOf]; omega⟩
          first | refine ⟨k + 1, ?_, ?_, ?_, ?_⟩ | ((repeat apply Exists.intro); refine ⟨⟨k + 1, ?_, ?_, ?_, ?_⟩, rfl⟩)
          · omega
          · go_num
          · exact HO2.out
          · rw [HTK.out, List.length_append, encs_append]
            simpa [encs] using HQ2.out
      | false =>
        have htk : (L.take (k + 1)).filter (portB port) = (L.take k).filter (portB port) := by
          rw [List.take_add_one, HX.out]; simp [List.filter_append, portB, hf]
        have HTK := Lib.hid htk
        clear htk
        go_wp2
        refine ⟨?_, by simp [intOf]; omega⟩
        first | refine ⟨k + 1, ?_, ?_, ?_, ?_⟩ | ((repeat apply Exists.intro); refine ⟨⟨k + 1, ?_, ?_, ?_, ?_⟩, rfl⟩)
        · omega
        · go_num
        · exact below_alloc HO.out _
        · rw [HTK.out]; exact q_alloc HR.out _
    · obtain rfl : k = L.length := by omega
      obtain ⟨A4, c4, rfl, _⟩ := q_slice HR.out
      have hbk : Blk wr g #[.int .i64 age, .int .i64 room, .int .i64 last, .slice A L.length c] 75 := blk_grown HBK.out (grown_of_below HO.out none) (by simp)
      have HB2 := Lib.hid hbk
      have f3 := hbk.frozen 3
      have c3 : wr.cell? ⟨g, 3, none⟩ = some (.slice A L.length c) := (hbk.cell 3).trans rfl
      have hle : (L.filter (portB port)).length ≤ L.length := List.length_filter_le _ _
      have htl : L.take L.length = L := List.take_length
      have h1 := HR.out
      rw [htl] at h1
      have H1 := Lib.hid h1
      rw [htl] at *
      clear hbk h1 htl
      go_wp2
      go_ret
      refine ⟨rfl, ⟨_, HB2.out.set 3 _, ?_⟩, ?_⟩
      · exact q_far H1.out (fun k hk => q_ne_blk H1.out HB2.out (by decide) k hk) _
      · exact (Only.of_below HO.out).set1 3 _
end Go.Proofs.Ytidgmoeimgjggaa.Learn
