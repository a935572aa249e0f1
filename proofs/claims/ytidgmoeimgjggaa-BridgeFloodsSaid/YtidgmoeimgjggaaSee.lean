/-
  learn.Table.See: its contract.
-/
import Derived.Test.YtidgmoeimgjggaaLearn
import Derived.Deep.RegionLawGrows
namespace Go.Proofs.Ytidgmoeimgjggaa.Learn
open Go.RowKit Go.Proofs.YtidgmoeimgjggaaW.PrintWords Go.Proofs.Ytidgmoeimgjggaa.Xm

theorem step_append_zero {P : Program} {ops : Array Oper} {o : Oper} {a : Act} {w : World} {K : Act → World → Prop} {Q : Exit → Act → World → Prop} {E : Prop}
    (hg : o.guard = none) (s x : Operand) (t : TypeId) (hop : o.op = Op.call { callee := Callee.builtin Builtin.append, args := #[s, x], argTypes := #[t, t] })
    (e : TypeId) (i : TypeInfo) (h1 : P.underlying t = some (.slice e)) (h2 : P.info? e = some i)
    (ao : Option Addr) (n cap : Nat) (hs : a.eval s = .slice ao n cap) (hnc : n ≤ cap) (bo : Option Addr) (c : Nat) (hx : a.eval x = .slice bo 0 c)
    (hK : K (a.put o.dst (.slice ao n cap)) w) :
    if Region.wanted o (yielded ops a.tmps) = true then Oper.wp P o a w K Q else E := by
  have hw : Region.wanted o (yielded ops a.tmps) = true := by simp [Region.wanted, hg]
  rw [if_pos hw]
  have hrun : (Builtin.append_ #[t, t] o.type #[.slice ao n cap, .slice bo 0 c]).run P w = .ok (.slice ao n cap) w := by
    cases ao <;> cases bo <;> simp [Builtin.append_, run_underlying h1, sizeOf, typeInfo, h2, Builtin.lenOf, Builtin.firstCells, hnc, storeCells, loadCells, loadCellsFrom]
  unfold Oper.wp
  simp [execOp, hop, resolve, invoke, builtin, hs, hx, hrun, Result.andThen]
  exact hK

theorem pw_q_below {w w1 : World} {base n size : Nat} {e : TypeId} {v : Value} {xs : List Value} (h : QRow w base e size v n xs) (hb : Below w.heap.size w w1) : QRow w1 base e size v n xs :=
  q_move h (fun k hk => hb.block k (q_lt h k hk))

def linkB (link : Int) (x : Ent) : Bool := x.link == link
def room1 (room : Int) (M : List Ent) : List Ent := if (M.length : Int) = room then M.drop 1 else M
def seeL (M : List Ent) (link port now room : Int) : List Ent := room1 room (M.eraseP (linkB link)) ++ [⟨link, port, now⟩]
def Saw (w w' : World) (g : Nat) (age room now : Int) (M : List Ent) (e : Ending) : Prop :=
  e = .returned (.int .i64 0) ∧ IsTable w' w.heap.size g age room now M ∧ Only (· = g) w w'
def SRel (w2 : World) (i0 : Nat) (i : Value) (wr : World) : Prop := ∃ k : Nat, k ≤ i0 ∧ i = .int .i64 k ∧ Below w2.heap.size w2 wr
theorem eraseP_at {p : Ent → Bool} : ∀ {M : List Ent} {i : Nat} {x : Ent}, M[i]? = some x → p x = true → (∀ (j : Nat) (y : Ent), j < i → M[j]? = some y → p y = false) → M.eraseP p = M.take i ++ M.drop (i + 1)
  | [], i, x, h, _, _ => by simp at h
  | z :: M, 0, x, h, hp, _ => by simp at h; subst h; simp [hp]
  | z :: M, i + 1, x, h, hp, hj => by
    have hz := hj 0 z (by omega) rfl
    have ih := eraseP_at (M := M) (i := i) (by simpa using h) hp (fun j y h1 h2 => hj (j + 1) y (by omega) (by simpa using h2))
    simp [List.eraseP_cons, hz, ih]
theorem encs_take (L : List Ent) : ∀ k, k ≤ L.length → encs (L.take k) = (encs L).take (k * 3) := by
  intro k hk
  have h : encs L = encs (L.take k) ++ encs (L.drop k) := by rw [← encs_append, List.take_append_drop]
  rw [h, List.take_left' (by rw [encs_length]; simp; omega)]

set_option maxHeartbeats 1600000 in
set_option maxRecDepth 10000 in
theorem see_none_room (sb g : Nat) (age room last now link port : Int) (L : List Ent) (w : World) (h : IsTable w sb g age room last L) (hs : Seen now L) (hn0 : 0 ≤ now) (hn1 : now ≤ 1000000000) (hl : last ≤ now)
    (hr0 : 1 ≤ room) (hr1 : room ≤ 256) (hL : (L.length : Int) ≤ room) (hk0 : 0 ≤ link) (hk1 : link ≤ 281474976710655) (hk2 : (bits BinOp.and IntKind.i64 (link / 1099511627776) 1 == 1) = false) (hp0 : 0 ≤ port) (hp1 : port < 8)
    (M : List Ent) (hM : L.filter (freshB now age) = M) (hnone : ∀ x ∈ M, linkB link x = false) (hfull : ¬ (M.length : Int) = room) :
    Calls Try.prog 24 #[.pointer (some ⟨g, 0, none⟩), .int .i64 link, .int .i64 port, .int .i64 now] w fun e w' => Saw w w' g age room now (seeL M link port now room) e := by
  have H := Lib.hid h
  have HS := Lib.hid hs
  have hML : (M.length : Int) ≤ room := by rw [← hM]; have := List.length_filter_le (freshB now age) L; omega
  have HM := Lib.hid hM
  clear h hs hM
  have g0 : decide (link < 0) = false := by simp; omega
  have g1 : decide (281474976710655 < link) = false := by simp; omega
  have g2 : decide (port < 0) = false := by simp; omega
  have g3 : decide (8 ≤ port) = false := by simp; omega
  have hfin : seeL M link port now room = M ++ [⟨link, port, now⟩] := by
    have e1 : M.eraseP (linkB link) = M := List.eraseP_of_forall_not (fun x hx => by simp [hnone x hx])
    simp [seeL, room1, e1, hfull]
  have HF := Lib.hid hfin
  have HNO := Lib.hid hnone
  clear hnone hfin
  go_enter Try.func24, Try.ntmps24
  go_wp2_with fail
  clear g0 g1 g2 g3 hk2
  refine (at_any sb g age room last now L _ H.out hn0 hn1 hl).mono ?_
  rintro e w' ⟨rfl, m, rfl⟩
  go_wp2_with fail
  refine (fresh_any sb g age room last now L _ (H.out.drewN m) HS.out hn0 hn1 (by omega)).mono ?_
  rintro e w2 ⟨rfl, ht, ho⟩
  rw [HM.out] at ht
  have HO := Lib.hid ((((Only.refl (· = g) w).drewN m)).trans ho)
  obtain ⟨lv, hb, hq⟩ := ht
  obtain ⟨A, c, rfl, hc⟩ := q_slice hq
  have c3 := hb.cell 3
  have HQ : Hid (QRow w2 w.heap.size 78 3 (.slice A M.length c) M.length (encs M)) := Lib.hid hq
  have HB := Lib.hid hb
  have hsz2 : w.heap.size ≤ w2.heap.size := ho.size
  clear hb hq ho
  simp only [List.getElem?_toArray, List.getElem?_cons_succ, List.getElem?_cons_zero] at c3
  go_wp2_with fail
  clear c3
  go_loopw [46] (fun q wr => SRel w2 M.length q wr) (fun q _ => M.length - (intOf q).toNat)
  case atStart => exact ⟨0, by omega, rfl, Below.refl _ _⟩
  case round =>
    obtain ⟨k, hk, rfl, hbel⟩ := hrel
    have HBL := Lib.hid hbel
    have hszr := hbel.size
    clear hbel
    by_cases hlt : k < M.length
    · obtain ⟨y, hy⟩ : ∃ y, M[k]? = some y := ⟨M[k]'(by omega), List.getElem?_eq_getElem (by omega)⟩
      have hne : (y.link == link) = false := HNO.out y (List.mem_of_getElem? hy)
      obtain ⟨b, off, rfl, hbl, _, _, e0, e1, e2⟩ := ent_cells HQ.out hy
      have d0 : wr.cell? ⟨b, off + k * 3, none⟩ = some (.int .i64 y.link) := (HBL.out.cell (p := ⟨b, off + k * 3, none⟩) hbl).trans e0
      have d1 : wr.cell? ⟨b, off + k * 3 + 1, none⟩ = some (.int .i64 y.port) := (HBL.out.cell (p := ⟨b, off + k * 3 + 1, none⟩) hbl).trans e1
      have d2 : wr.cell? ⟨b, off + k * 3 + 2, none⟩ = some (.int .i64 y.seen) := (HBL.out.cell (p := ⟨b, off + k * 3 + 2, none⟩) hbl).trans e2
      clear e0 e1 e2 hy
      go_wp2
      refine ⟨?_, by simp [intOf]; omega⟩
      first | refine ⟨k + 1, ?_, ?_, ?_⟩ | ((repeat apply Exists.intro); refine ⟨⟨k + 1, ?_, ?_, ?_⟩, rfl⟩)
      · omega
      · go_num
      · exact below_alloc HBL.out _
    · obtain rfl : k = M.length := by omega
      have hb3 : Blk wr g #[.int .i64 age, .int .i64 room, .int .i64 now, .slice A M.length c] 75 := blk_grown HB.out (grown_of_below HBL.out none) (by simp)
      have hq3 := pw_q_below HQ.out HBL.out
      have HB3 := Lib.hid hb3
      have HQ3 := Lib.hid hq3
      have HO3 := Lib.hid (HO.out.trans ((Only.of_below HBL.out).mono (fun _ _ h => h)))
      have c1 : wr.cell? ⟨g, 1, none⟩ = some (.int .i64 room) := (hb3.cell 1).trans rfl
      have c3 : wr.cell? ⟨g, 3, none⟩ = some (.slice A M.length c) := (hb3.cell 3).trans rfl
      have f3 := hb3.frozen 3
      have hgl := hb3.lt
      clear hb3 hq3
      have t1 : ((M.length : Int) == room) = false := by simp; omega
      go_wp2_with fail
      go_quiet (fail)
      have HB4 := Lib.hid (Blk.drewN HB3.out nq)
      have HQ4 := Lib.hid (q_drewN HQ3.out nq)
      have HO4 := Lib.hid (HO3.out.drewN nq)
      go_wp2_with (at_builtin; go_loud (refine wpList_append_q (wr.drewN nq) w.heap.size rfl (.tmp 96) (.tmp 101) 73 78 (.agg #[.int .i64 0, .int .i64 0, .int .i64 0]) 3 24 rfl Try.underlying73 info_ent rfl (by decide) _ (M.length) (encs (M)) rfl ?hq 1 (enc ⟨link, port, now⟩) ?hx rfl ?h1 (by decide) ?h63 ?hby ?hba ?next))
      case hx => show Value.slice (some ⟨wr.heap.size, 0, none⟩) 1 1 = _; simp [World.setCell]
      case h1 => intro u hu; simp [enc] at hu; rcases hu with rfl | rfl | rfl <;> rfl
      case h63 => unfold maxLen; omega
      case hby => omega
      case hq => exact HQ4.out
      case hba => simp [World.setCell]; omega
      case next =>
        intro v2 w4 hq2 hg2 _
        have hb4 := blk_grown HB4.out hg2 (fun h => q_ne_blk HQ4.out HB4.out (by decide) _ h.symm rfl)
        have HB5 := Lib.hid hb4
        have f4 := blk_frozen hb4 3
        have c4 := blk_cell hb4 3
        obtain ⟨A5, c5, rfl, _⟩ := q_slice hq2
        have HQ5 := Lib.hid hq2
        have HG2 := Lib.hid hg2
        clear hq2 hg2 hb4
        simp only [List.getElem?_toArray, List.getElem?_cons_succ, List.getElem?_cons_zero] at c4
        go_wp2_with fail
        go_ret
        refine ⟨rfl, ⟨_, Blk.set HB5.out 3 _, ?_⟩, ?_⟩
        · have h5 : QRow w4 w.heap.size 78 3 (.slice A5 (M.length + 1) c5) (M.length + 1) (encs (M ++ [⟨link, port, now⟩])) := by
            rw [encs_append, show encs [(⟨link, port, now⟩ : Ent)] = enc ⟨link, port, now⟩ from by simp [encs]]
            exact q_lower HQ5.out (by first | exact Nat.le_refl _ | (simp [World.setCell]; omega) | omega)
          rw [HF.out, List.length_append, show ([⟨link, port, now⟩] : List Ent).length = 1 from rfl]
          exact q_far h5 (fun k hk => q_ne_blk h5 HB5.out (by decide) k hk) _
        · exact (HO4.out.grown HG2.out (fun q hq h => absurd (q_typed HQ4.out q h.symm).1 (by omega))).set1 3 _

set_option maxHeartbeats 1600000 in
set_option maxRecDepth 10000 in
theorem see_none_full (sb g : Nat) (age room last now link port : Int) (L : List Ent) (w : World) (h : IsTable w sb g age room last L) (hs : Seen now L) (hn0 : 0 ≤ now) (hn1 : now ≤ 1000000000) (hl : last ≤ now)
    (hr0 : 1 ≤ room) (hr1 : room ≤ 256) (hL : (L.length : Int) ≤ room) (hk0 : 0 ≤ link) (hk1 : link ≤ 281474976710655) (hk2 : (bits BinOp.and IntKind.i64 (link / 1099511627776) 1 == 1) = false) (hp0 : 0 ≤ port) (hp1 : port < 8)
    (M : List Ent) (hM : L.filter (freshB now age) = M) (hnone : ∀ x ∈ M, linkB link x = false) (hfull : (M.length : Int) = room) :
    Calls Try.prog 24 #[.pointer (some ⟨g, 0, none⟩), .int .i64 link, .int .i64 port, .int .i64 now] w fun e w' => Saw w w' g age room now (seeL M link port now room) e := by
  have H := Lib.hid h
  have HS := Lib.hid hs
  have hML : (M.length : Int) ≤ room := by rw [← hM]; have := List.length_filter_le (freshB now age) L; omega
  have HM := Lib.hid hM
  clear h hs hM
  have g0 : decide (link < 0) = false := by simp; omega
  have g1 : decide (281474976710655 < link) = false := by simp; omega
  have g2 : decide (port < 0) = false := by simp; omega
  have g3 : decide (8 ≤ port) = false := by simp; omega
  have hfin : seeL M link port now room = M.drop 1 ++ [⟨link, port, now⟩] := by
    have e1 : M.eraseP (linkB link) = M := List.eraseP_of_forall_not (fun x hx => by simp [hnone x hx])
    simp [seeL, room1, e1, hfull]
  have HF := Lib.hid hfin
  have HNO := Lib.hid hnone
  have hm1 : 1 ≤ M.length := by omega
  have t1 : ((M.length : Int) == room) = true := by simp; omega
  have hf1 : (M.length : Int) ≤ room := by omega
  have hf2 : room ≤ (M.length : Int) := by omega
  clear hnone hfin hfull
  go_enter Try.func24, Try.ntmps24
  go_wp2_with fail
  clear g0 g1 g2 g3 hk2
  refine (at_any sb g age room last now L _ H.out hn0 hn1 hl).mono ?_
  rintro e w' ⟨rfl, m, rfl⟩
  go_wp2_with fail
  refine (fresh_any sb g age room last now L _ (H.out.drewN m) HS.out hn0 hn1 (by omega)).mono ?_
  rintro e w2 ⟨rfl, ht, ho⟩
  rw [HM.out] at ht
  have HO := Lib.hid ((((Only.refl (· = g) w).drewN m)).trans ho)
  obtain ⟨lv, hb, hq⟩ := ht
  obtain ⟨A, c, rfl, hc⟩ := q_slice hq
  have c3 := hb.cell 3
  have HQ : Hid (QRow w2 w.heap.size 78 3 (.slice A M.length c) M.length (encs M)) := Lib.hid hq
  have HB := Lib.hid hb
  have hsz2 : w.heap.size ≤ w2.heap.size := ho.size
  clear hb hq ho
  simp only [List.getElem?_toArray, List.getElem?_cons_succ, List.getElem?_cons_zero] at c3
  go_wp2_with fail
  clear c3
  go_loopw [46] (fun q wr => SRel w2 M.length q wr) (fun q _ => M.length - (intOf q).toNat)
  case atStart => exact ⟨0, by omega, rfl, Below.refl _ _⟩
  case round =>
    obtain ⟨k, hk, rfl, hbel⟩ := hrel
    have HBL := Lib.hid hbel
    have hszr := hbel.size
    clear hbel
    by_cases hlt : k < M.length
    · obtain ⟨y, hy⟩ : ∃ y, M[k]? = some y := ⟨M[k]'(by omega), List.getElem?_eq_getElem (by omega)⟩
      have hne : (y.link == link) = false := HNO.out y (List.mem_of_getElem? hy)
      obtain ⟨b, off, rfl, hbl, _, _, e0, e1, e2⟩ := ent_cells HQ.out hy
      have d0 : wr.cell? ⟨b, off + k * 3, none⟩ = some (.int .i64 y.link) := (HBL.out.cell (p := ⟨b, off + k * 3, none⟩) hbl).trans e0
      have d1 : wr.cell? ⟨b, off + k * 3 + 1, none⟩ = some (.int .i64 y.port) := (HBL.out.cell (p := ⟨b, off + k * 3 + 1, none⟩) hbl).trans e1
      have d2 : wr.cell? ⟨b, off + k * 3 + 2, none⟩ = some (.int .i64 y.seen) := (HBL.out.cell (p := ⟨b, off + k * 3 + 2, none⟩) hbl).trans e2
      clear e0 e1 e2 hy
      go_wp2
      refine ⟨?_, by simp [intOf]; omega⟩
      first | refine ⟨k + 1, ?_, ?_, ?_⟩ | ((repeat apply Exists.intro); refine ⟨⟨k + 1, ?_, ?_, ?_⟩, rfl⟩)
      · omega
      · go_num
      · exact below_alloc HBL.out _
    · obtain rfl : k = M.length := by omega
      have hb3 : Blk wr g #[.int .i64 age, .int .i64 room, .int .i64 now, .slice A M.length c] 75 := blk_grown HB.out (grown_of_below HBL.out none) (by simp)
      have hq3 := pw_q_below HQ.out HBL.out
      have HB3 := Lib.hid hb3
      have HQ3 := Lib.hid hq3
      have HO3 := Lib.hid (HO.out.trans ((Only.of_below HBL.out).mono (fun _ _ h => h)))
      have c1 : wr.cell? ⟨g, 1, none⟩ = some (.int .i64 room) := (hb3.cell 1).trans rfl
      have c3 : wr.cell? ⟨g, 3, none⟩ = some (.slice A M.length c) := (hb3.cell 3).trans rfl
      have f3 := hb3.frozen 3
      have hgl := hb3.lt
      clear hb3 hq3
      obtain ⟨M1, hM1⟩ : ∃ M1, M.drop 1 = M1 := ⟨_, rfl⟩
      have hlen : M.length - 1 = M1.length := by rw [← hM1]; simp
      have hf := HF.out
      rw [hM1] at hf
      have HF := Lib.hid hf
      have hq4 := q_drop HQ3.out (k := 1) hm1
      have hrun : ∀ W : World, (Instr.slice 73 (.slice A M.length c) (some (.int .i64 1)) none none).run Try.prog W = .ok (.slice (if c = 1 then A else A.map (·.add (1 * 3))) (M.length - 1) (c - 1)) W := by
        obtain ⟨i3, hi3, _, hz31, _⟩ := info_parts info_ent
        exact cut_from 73 78 .i64 Try.underlying73 hi3 3 hz31 A M.length c 1 (by omega) (by omega)
      obtain ⟨B, hB⟩ : ∃ B, (if c = 1 then A else A.map (·.add (1 * 3))) = B := ⟨_, rfl⟩
      have e1 : (encs M).drop (1 * 3) = encs M1 := by rw [← hM1]; exact encs_drop M 1
      rw [hB, hlen] at hrun hq4
      rw [e1] at hq4
      have hl1 : M1.length + 1 ≤ M.length := by omega
      have HQ6 : Hid (QRow wr w.heap.size 78 3 (.slice B M1.length (c - 1)) M1.length (encs M1)) := Lib.hid (q_lower hq4 (by simp))
      clear hB hq4 hf hM1 hlen e1
      go_wp2_with fail
      go_quiet (fail)
      clear t1
      have hb4' : Blk ((wr.drewN nq).setCell ⟨g, 3, none⟩ (.slice B M1.length (c - 1))) g #[.int .i64 age, .int .i64 room, .int .i64 now, .slice B M1.length (c - 1)] 75 := by simpa using Blk.set (Blk.drewN HB3.out nq) 3 (.slice B M1.length (c - 1))
      have HB4 := Lib.hid hb4'
      clear hb4'
      have HQ4 := Lib.hid (q_far (q_drewN HQ6.out nq) (p := ⟨g, 3, none⟩) (fun k hk => q_ne_blk HQ6.out HB3.out (by decide) k hk) (.slice B M1.length (c - 1)))
      have HO4 := Lib.hid ((HO3.out.drewN nq).set1 3 (.slice B M1.length (c - 1)))
      go_wp2_with (at_builtin; go_loud (refine wpList_append_q ((wr.drewN nq).setCell ⟨g, 3, none⟩ (.slice B M1.length (c - 1))) w.heap.size rfl (.tmp 96) (.tmp 101) 73 78 (.agg #[.int .i64 0, .int .i64 0, .int .i64 0]) 3 24 rfl Try.underlying73 info_ent rfl (by decide) _ (M1.length) (encs (M1)) rfl ?hq 1 (enc ⟨link, port, now⟩) ?hx rfl ?h1 (by decide) ?h63 ?hby ?hba ?next))
      case hx => show Value.slice (some ⟨wr.heap.size, 0, none⟩) 1 1 = _; simp [World.setCell]
      case h1 => intro u hu; simp [enc] at hu; rcases hu with rfl | rfl | rfl <;> rfl
      case h63 => unfold maxLen; omega
      case hby => omega
      case hq => exact HQ4.out
      case hba => simp [World.setCell]; omega
      case next =>
        intro v2 w4 hq2 hg2 _
        have hb4 := blk_grown HB4.out hg2 (fun h => q_ne_blk HQ4.out HB4.out (by decide) _ h.symm rfl)
        have HB5 := Lib.hid hb4
        have f4 := blk_frozen hb4 3
        have c4 := blk_cell hb4 3
        obtain ⟨A5, c5, rfl, _⟩ := q_slice hq2
        have HQ5 := Lib.hid hq2
        have HG2 := Lib.hid hg2
        clear hq2 hg2 hb4
        simp only [List.getElem?_toArray, List.getElem?_cons_succ, List.getElem?_cons_zero] at c4
        go_wp2_with fail
        go_ret
        refine ⟨rfl, ⟨_, Blk.set HB5.out 3 _, ?_⟩, ?_⟩
        · have h5 : QRow w4 w.heap.size 78 3 (.slice A5 (M1.length + 1) c5) (M1.length + 1) (encs (M1 ++ [⟨link, port, now⟩])) := by
            rw [encs_append, show encs [(⟨link, port, now⟩ : Ent)] = enc ⟨link, port, now⟩ from by simp [encs]]
            exact q_lower HQ5.out (by first | exact Nat.le_refl _ | (simp [World.setCell]; omega) | omega)
          rw [HF.out, List.length_append, show ([⟨link, port, now⟩] : List Ent).length = 1 from rfl]
          exact q_far h5 (fun k hk => q_ne_blk h5 HB5.out (by decide) k hk) _
        · exact (HO4.out.grown HG2.out (fun q hq h => absurd (q_typed HQ4.out q h.symm).1 (by omega))).set1 3 _

set_option maxHeartbeats 1600000 in
set_option maxRecDepth 10000 in
theorem see_found_last (sb g : Nat) (age room last now link port : Int) (L : List Ent) (w : World) (h : IsTable w sb g age room last L) (hs : Seen now L) (hn0 : 0 ≤ now) (hn1 : now ≤ 1000000000) (hl : last ≤ now)
    (hr0 : 1 ≤ room) (hr1 : room ≤ 256) (hL : (L.length : Int) ≤ room) (hk0 : 0 ≤ link) (hk1 : link ≤ 281474976710655) (hk2 : (bits BinOp.and IntKind.i64 (link / 1099511627776) 1 == 1) = false) (hp0 : 0 ≤ port) (hp1 : port < 8)
    (M : List Ent) (hM : L.filter (freshB now age) = M) (i : Nat) (x : Ent) (hx1 : M[i]? = some x) (hx2 : linkB link x = true) (hx3 : ∀ (j : Nat) (y : Ent), j < i → M[j]? = some y → linkB link y = false) (hlast : i + 1 = M.length) :
    Calls Try.prog 24 #[.pointer (some ⟨g, 0, none⟩), .int .i64 link, .int .i64 port, .int .i64 now] w fun e w' => Saw w w' g age room now (seeL M link port now room) e := by
  have H := Lib.hid h
  have HS := Lib.hid hs
  have hML : (M.length : Int) ≤ room := by rw [← hM]; have := List.length_filter_le (freshB now age) L; omega
  have HM := Lib.hid hM
  clear h hs hM
  have g0 : decide (link < 0) = false := by simp; omega
  have g1 : decide (281474976710655 < link) = false := by simp; omega
  have g2 : decide (port < 0) = false := by simp; omega
  have g3 : decide (8 ≤ port) = false := by simp; omega
  have hiM : i < M.length := (List.getElem?_eq_some_iff.1 hx1).1
  have hfin : seeL M link port now room = M.take i ++ [⟨link, port, now⟩] := by
    have e1 : M.eraseP (linkB link) = M.take i ++ M.drop (i + 1) := eraseP_at hx1 hx2 hx3
    have e2 : (M.take i ++ M.drop (i + 1)).length = M.length - 1 := by simp; omega
    rw [seeL, e1, room1, if_neg (by omega)]
    rw [List.drop_eq_nil_of_le (by omega), List.append_nil]
  have HF := Lib.hid hfin
  have HNO := Lib.hid hx3
  have HX := Lib.hid hx1
  have hx2' : (x.link == link) = true := hx2
  have hl1 : M.length ≤ i + 1 := by omega
  clear hlast hx1 hx2 hx3 hfin
  go_enter Try.func24, Try.ntmps24
  go_wp2_with fail
  clear g0 g1 g2 g3 hk2
  refine (at_any sb g age room last now L _ H.out hn0 hn1 hl).mono ?_
  rintro e w' ⟨rfl, m, rfl⟩
  go_wp2_with fail
  refine (fresh_any sb g age room last now L _ (H.out.drewN m) HS.out hn0 hn1 (by omega)).mono ?_
  rintro e w2 ⟨rfl, ht, ho⟩
  rw [HM.out] at ht
  have HO := Lib.hid ((((Only.refl (· = g) w).drewN m)).trans ho)
  obtain ⟨lv, hb, hq⟩ := ht
  obtain ⟨A, c, rfl, hc⟩ := q_slice hq
  have c3 := hb.cell 3
  have HQ : Hid (QRow w2 w.heap.size 78 3 (.slice A M.length c) M.length (encs M)) := Lib.hid hq
  have HB := Lib.hid hb
  have hsz2 : w.heap.size ≤ w2.heap.size := ho.size
  clear hb hq ho
  simp only [List.getElem?_toArray, List.getElem?_cons_succ, List.getElem?_cons_zero] at c3
  go_wp2_with fail
  clear c3
  go_loopw [46] (fun q wr => SRel w2 i q wr) (fun q _ => M.length - (intOf q).toNat)
  case atStart => exact ⟨0, by omega, rfl, Below.refl _ _⟩
  case round =>
    obtain ⟨k, hk, rfl, hbel⟩ := hrel
    have HBL := Lib.hid hbel
    have hszr := hbel.size
    clear hbel
    by_cases hlt : k < i
    · obtain ⟨y, hy⟩ : ∃ y, M[k]? = some y := ⟨M[k]'(by omega), List.getElem?_eq_getElem (by omega)⟩
      have hne : (y.link == link) = false := HNO.out k y hlt hy
      obtain ⟨b, off, rfl, hbl, _, _, e0, e1, e2⟩ := ent_cells HQ.out hy
      have d0 : wr.cell? ⟨b, off + k * 3, none⟩ = some (.int .i64 y.link) := (HBL.out.cell (p := ⟨b, off + k * 3, none⟩) hbl).trans e0
      have d1 : wr.cell? ⟨b, off + k * 3 + 1, none⟩ = some (.int .i64 y.port) := (HBL.out.cell (p := ⟨b, off + k * 3 + 1, none⟩) hbl).trans e1
      have d2 : wr.cell? ⟨b, off + k * 3 + 2, none⟩ = some (.int .i64 y.seen) := (HBL.out.cell (p := ⟨b, off + k * 3 + 2, none⟩) hbl).trans e2
      clear e0 e1 e2 hy
      go_wp2
      refine ⟨?_, by simp [intOf]; omega⟩
      first | refine ⟨k + 1, ?_, ?_, ?_⟩ | ((repeat apply Exists.intro); refine ⟨⟨k + 1, ?_, ?_, ?_⟩, rfl⟩)
      · omega
      · go_num
      · exact below_alloc HBL.out _
    · obtain rfl : k = i := by omega
      have hb3 : Blk wr g #[.int .i64 age, .int .i64 room, .int .i64 now, .slice A M.length c] 75 := blk_grown HB.out (grown_of_below HBL.out none) (by simp)
      have hq3 := pw_q_below HQ.out HBL.out
      have HB3 := Lib.hid hb3
      have HQ3 := Lib.hid hq3
      have HO3 := Lib.hid (HO.out.trans ((Only.of_below HBL.out).mono (fun _ _ h => h)))
      have c1 : wr.cell? ⟨g, 1, none⟩ = some (.int .i64 room) := (hb3.cell 1).trans rfl
      have c3 : wr.cell? ⟨g, 3, none⟩ = some (.slice A M.length c) := (hb3.cell 3).trans rfl
      have f3 := hb3.frozen 3
      have hgl := hb3.lt
      clear hb3 hq3
      have t1 : ((k : Int) == room) = false := by simp; omega
      obtain ⟨b, off, rfl, hbl, _, _, e0, e1, e2⟩ := ent_cells HQ.out HX.out
      have d0 : wr.cell? ⟨b, off + k * 3, none⟩ = some (.int .i64 x.link) := (HBL.out.cell (p := ⟨b, off + k * 3, none⟩) hbl).trans e0
      have d1 : wr.cell? ⟨b, off + k * 3 + 1, none⟩ = some (.int .i64 x.port) := (HBL.out.cell (p := ⟨b, off + k * 3 + 1, none⟩) hbl).trans e1
      have d2 : wr.cell? ⟨b, off + k * 3 + 2, none⟩ = some (.int .i64 x.seen) := (HBL.out.cell (p := ⟨b, off + k * 3 + 2, none⟩) hbl).trans e2
      clear e0 e1 e2
      have hwr : IntKind.i64.wrap ((k : Int) + 1) = (k : Int) + 1 := IntWalk.i64_in _ (by omega)
      have hp0 : (0 : Int) ≤ (k : Int) + 1 := by omega
      have hp1 : (k : Int) + 1 ≤ (M.length : Int) := by omega
      have hp2 : ((k : Int) + 1).toNat = k + 1 := by omega
      have hrun : ∀ W : World, (Instr.slice 73 (.slice (some ⟨b, off, none⟩) M.length c) (some (.int .i64 ((k : Int) + 1))) none none).run Try.prog W = .ok (.slice (if c = k + 1 then some ⟨b, off, none⟩ else (some (⟨b, off, none⟩ : Addr)).map (·.add ((k + 1) * 3))) (M.length - (k + 1)) (c - (k + 1))) W := by
        obtain ⟨i3, hi3, _, hz31, _⟩ := info_parts info_ent
        have h := cut_from 73 78 .i64 Try.underlying73 hi3 3 hz31 (some ⟨b, off, none⟩) M.length c ((k : Int) + 1) (by omega) (by omega)
        rw [hp2] at h
        exact h
      obtain ⟨i0, hi, hz0, hz1, hz2⟩ := info_parts info_ent
      have hrun2 := cut_upto (P := Try.prog) 73 78 .i64 Try.underlying73 hi (some ⟨b, off, none⟩) M.length c k (by omega)
      have HI := Lib.hid hi
      have HZ0 := Lib.hid hz0
      have HZ1 := Lib.hid hz1
      have HZ2 := Lib.hid hz2
      clear hi hz0 hz1 hz2
      obtain ⟨B, hB⟩ : ∃ B, (if c = k + 1 then some (⟨b, off, none⟩ : Addr) else (some (⟨b, off, none⟩ : Addr)).map (·.add ((k + 1) * 3))) = B := ⟨_, rfl⟩
      have hz : M.length - (k + 1) = 0 := by omega
      rw [hB, hz] at hrun
      clear hB hz
      go_wp2_with fail
      go_region_law (refine step_append_zero rfl (.tmp 62) (.tmp 69) 73 rfl 78 i0 Try.underlying73 HI.out (some ⟨b, off, none⟩) k k (by simp [Act.eval, Act.put]) (Nat.le_refl _) B (c - (k + 1)) (by simp [Act.eval, Act.put]) ?_)
      all_goals go_wp2_with fail
      all_goals go_quiet (fail)
      all_goals clear t1
      all_goals
        have hb4' : Blk (((wr.setCell ⟨g, 3, none⟩ (.slice (some ⟨b, off, none⟩) k k)).alloc (.cells #[.int .i64 x.link, .int .i64 x.port, .int .i64 x.seen] 78)).drewN (1 + nq)) g #[.int .i64 age, .int .i64 room, .int .i64 now, .slice (some ⟨b, off, none⟩) k k] 75 := by
          have := ((Blk.set HB3.out 3 (.slice (some ⟨b, off, none⟩) k k)).alloc (.cells #[.int .i64 x.link, .int .i64 x.port, .int .i64 x.seen] 78)).drewN (1 + nq)
          simpa using this
        have HB4 := Lib.hid hb4'
        clear hb4'
        have HO4 := Lib.hid ((((HO3.out.set1 3 (.slice (some ⟨b, off, none⟩) k k)).alloc (.cells #[.int .i64 x.link, .int .i64 x.port, .int .i64 x.seen] 78)).drewN (1 + nq)))
        have hold : ∀ b', some (⟨b, off, none⟩ : Addr) = some b' → ∀ j u, (encs (M.take k))[j]? = some u → (((wr.setCell ⟨g, 3, none⟩ (.slice (some ⟨b, off, none⟩) k k)).alloc (.cells #[.int .i64 x.link, .int .i64 x.port, .int .i64 x.seen] 78)).drewN (1 + nq)).cell? (b'.add j) = some u := by
          intro b' hb' j u hu
          injection hb' with hb'
          subst hb'
          have hj : j < k * 3 := by have := (List.getElem?_eq_some_iff.1 hu).1; rw [encs_length] at this; simp at this; omega
          rw [encs_take M k (by omega), List.getElem?_take, if_pos hj] at hu
          obtain ⟨ad, he, hcell⟩ := q_cells HQ3.out (by omega)
          injection he with he
          subst he
          have h1 := hcell j u hu
          have hbg : b ≠ g := q_ne_blk HQ3.out HB3.out (by decide) b rfl
          rw [add_at] at h1 ⊢
          have h2 : (wr.setCell ⟨g, 3, none⟩ (.slice (some ⟨b, off, none⟩) k k)).cell? ⟨b, off + j, none⟩ = some u := (World.cell?_of_block (Below.heap_setCell wr ⟨g, 3, none⟩ _ b hbg)).trans h1
          exact pw_cell_below (below_alloc (Below.refl _ _) _) h2
        have HOLD := Lib.hid hold
        clear hold
        go_wp2_with (at_builtin; go_loud (refine wpList_append_grow_new ((((wr.setCell ⟨g, 3, none⟩ (.slice (some ⟨b, off, none⟩) k k)).alloc (.cells #[.int .i64 x.link, .int .i64 x.port, .int .i64 x.seen] 78)).drewN (1 + nq))) rfl (.tmp 96) (.tmp 101) 73 78 (.agg #[.int .i64 0, .int .i64 0, .int .i64 0]) 3 24 rfl Try.underlying73 info_ent rfl (by decide) (some ⟨b, off, none⟩) (k) (k) (encs (M.take k)) rfl (fun h => by cases h) ?hlo ?holds 1 (enc ⟨link, port, now⟩) ?hx rfl ?h1 (by omega) ?h63 ?hby ?next))
        case hx => show Value.slice (some ⟨wr.heap.size + 1, 0, none⟩) 1 1 = _; simp [World.setCell]
        case h1 => intro u hu; simp [enc] at hu; rcases hu with rfl | rfl | rfl <;> rfl
        case h63 => unfold maxLen; omega
        case hby => omega
        case hlo => rw [encs_length]; simp; omega
        case holds => exact HOLD.out
        case next =>
          intro v2 w4 hq2 hg2 
          have hb4 := blk_grown HB4.out hg2 (by simp)
          have HB5 := Lib.hid hb4
          have f4 := blk_frozen hb4 3
          have c4 := blk_cell hb4 3
          obtain ⟨A5, c5, rfl, _⟩ := q_slice hq2
          have HQ5 := Lib.hid hq2
          have HG2 := Lib.hid hg2
          clear hq2 hg2 hb4
          simp only [List.getElem?_toArray, List.getElem?_cons_succ, List.getElem?_cons_zero] at c4
          go_wp2_with fail
          go_ret
          refine ⟨rfl, ⟨_, Blk.set HB5.out 3 _, ?_⟩, ?_⟩
          · have h5 : QRow w4 w.heap.size 78 3 (.slice A5 (k + 1) c5) (k + 1) (encs (M.take k ++ [⟨link, port, now⟩])) := by
              rw [encs_append, show encs [(⟨link, port, now⟩ : Ent)] = enc ⟨link, port, now⟩ from by simp [encs]]
              exact q_lower HQ5.out (by first | exact Nat.le_refl _ | (simp [World.setCell]; omega) | omega)
            rw [HF.out, List.length_append, show ([⟨link, port, now⟩] : List Ent).length = 1 from rfl, show (M.take k).length = k by simp; omega]
            exact q_far h5 (fun k hk => q_ne_blk h5 HB5.out (by decide) k hk) _
          · exact (HO4.out.grown HG2.out (fun q hq h => by cases h)).set1 3 _

set_option maxHeartbeats 1600000 in
set_option maxRecDepth 10000 in
theorem see_found_more (sb g : Nat) (age room last now link port : Int) (L : List Ent) (w : World) (h : IsTable w sb g age room last L) (hs : Seen now L) (hn0 : 0 ≤ now) (hn1 : now ≤ 1000000000) (hl : last ≤ now)
    (hr0 : 1 ≤ room) (hr1 : room ≤ 256) (hL : (L.length : Int) ≤ room) (hk0 : 0 ≤ link) (hk1 : link ≤ 281474976710655) (hk2 : (bits BinOp.and IntKind.i64 (link / 1099511627776) 1 == 1) = false) (hp0 : 0 ≤ port) (hp1 : port < 8)
    (M : List Ent) (hM : L.filter (freshB now age) = M) (i : Nat) (x : Ent) (hx1 : M[i]? = some x) (hx2 : linkB link x = true) (hx3 : ∀ (j : Nat) (y : Ent), j < i → M[j]? = some y → linkB link y = false) (hlast : i + 1 < M.length) :
    Calls Try.prog 24 #[.pointer (some ⟨g, 0, none⟩), .int .i64 link, .int .i64 port, .int .i64 now] w fun e w' => Saw w w' g age room now (seeL M link port now room) e := by
  have H := Lib.hid h
  have HS := Lib.hid hs
  have hML : (M.length : Int) ≤ room := by rw [← hM]; have := List.length_filter_le (freshB now age) L; omega
  have HM := Lib.hid hM
  clear h hs hM
  have g0 : decide (link < 0) = false := by simp; omega
  have g1 : decide (281474976710655 < link) = false := by simp; omega
  have g2 : decide (port < 0) = false := by simp; omega
  have g3 : decide (8 ≤ port) = false := by simp; omega
  have hiM : i < M.length := (List.getElem?_eq_some_iff.1 hx1).1
  have hfin : seeL M link port now room = (M.take i ++ M.drop (i + 1)) ++ [⟨link, port, now⟩] := by
    have e1 : M.eraseP (linkB link) = M.take i ++ M.drop (i + 1) := eraseP_at hx1 hx2 hx3
    have e2 : (M.take i ++ M.drop (i + 1)).length = M.length - 1 := by simp; omega
    rw [seeL, e1, room1, if_neg (by omega)]
    
  have HF := Lib.hid hfin
  have HNO := Lib.hid hx3
  have HX := Lib.hid hx1
  have hx2' : (x.link == link) = true := hx2
  have hl1 : i + 1 < M.length := hlast
  clear hlast hx1 hx2 hx3 hfin
  go_enter Try.func24, Try.ntmps24
  go_wp2_with fail
  clear g0 g1 g2 g3 hk2
  refine (at_any sb g age room last now L _ H.out hn0 hn1 hl).mono ?_
  rintro e w' ⟨rfl, m, rfl⟩
  go_wp2_with fail
  refine (fresh_any sb g age room last now L _ (H.out.drewN m) HS.out hn0 hn1 (by omega)).mono ?_
  rintro e w2 ⟨rfl, ht, ho⟩
  rw [HM.out] at ht
  have HO := Lib.hid ((((Only.refl (· = g) w).drewN m)).trans ho)
  obtain ⟨lv, hb, hq⟩ := ht
  obtain ⟨A, c, rfl, hc⟩ := q_slice hq
  have c3 := hb.cell 3
  have HQ : Hid (QRow w2 w.heap.size 78 3 (.slice A M.length c) M.length (encs M)) := Lib.hid hq
  have HB := Lib.hid hb
  have hsz2 : w.heap.size ≤ w2.heap.size := ho.size
  clear hb hq ho
  simp only [List.getElem?_toArray, List.getElem?_cons_succ, List.getElem?_cons_zero] at c3
  go_wp2_with fail
  clear c3
  go_loopw [46] (fun q wr => SRel w2 i q wr) (fun q _ => M.length - (intOf q).toNat)
  case atStart => exact ⟨0, by omega, rfl, Below.refl _ _⟩
  case round =>
    obtain ⟨k, hk, rfl, hbel⟩ := hrel
    have HBL := Lib.hid hbel
    have hszr := hbel.size
    clear hbel
    by_cases hlt : k < i
    · obtain ⟨y, hy⟩ : ∃ y, M[k]? = some y := ⟨M[k]'(by omega), List.getElem?_eq_getElem (by omega)⟩
      have hne : (y.link == link) = false := HNO.out k y hlt hy
      obtain ⟨b, off, rfl, hbl, _, _, e0, e1, e2⟩ := ent_cells HQ.out hy
      have d0 : wr.cell? ⟨b, off + k * 3, none⟩ = some (.int .i64 y.link) := (HBL.out.cell (p := ⟨b, off + k * 3, none⟩) hbl).trans e0
      have d1 : wr.cell? ⟨b, off + k * 3 + 1, none⟩ = some (.int .i64 y.port) := (HBL.out.cell (p := ⟨b, off + k * 3 + 1, none⟩) hbl).trans e1
      have d2 : wr.cell? ⟨b, off + k * 3 + 2, none⟩ = some (.int .i64 y.seen) := (HBL.out.cell (p := ⟨b, off + k * 3 + 2, none⟩) hbl).trans e2
      clear e0 e1 e2 hy
      go_wp2
      refine ⟨?_, by simp [intOf]; omega⟩
      first | refine ⟨k + 1, ?_, ?_, ?_⟩ | ((repeat apply Exists.intro); refine ⟨⟨k + 1, ?_, ?_, ?_⟩, rfl⟩)
      · omega
      · go_num
      · exact below_alloc HBL.out _
    · obtain rfl : k = i := by omega
      have hb3 : Blk wr g #[.int .i64 age, .int .i64 room, .int .i64 now, .slice A M.length c] 75 := blk_grown HB.out (grown_of_below HBL.out none) (by simp)
      have hq3 := pw_q_below HQ.out HBL.out
      have HB3 := Lib.hid hb3
      have HQ3 := Lib.hid hq3
      have HO3 := Lib.hid (HO.out.trans ((Only.of_below HBL.out).mono (fun _ _ h => h)))
      have c1 : wr.cell? ⟨g, 1, none⟩ = some (.int .i64 room) := (hb3.cell 1).trans rfl
      have c3 : wr.cell? ⟨g, 3, none⟩ = some (.slice A M.length c) := (hb3.cell 3).trans rfl
      have f3 := hb3.frozen 3
      have hgl := hb3.lt
      clear hb3 hq3
      have t1 : ((k : Int) == room) = false := by simp; omega
      obtain ⟨b, off, rfl, hbl, _, _, e0, e1, e2⟩ := ent_cells HQ.out HX.out
      have d0 : wr.cell? ⟨b, off + k * 3, none⟩ = some (.int .i64 x.link) := (HBL.out.cell (p := ⟨b, off + k * 3, none⟩) hbl).trans e0
      have d1 : wr.cell? ⟨b, off + k * 3 + 1, none⟩ = some (.int .i64 x.port) := (HBL.out.cell (p := ⟨b, off + k * 3 + 1, none⟩) hbl).trans e1
      have d2 : wr.cell? ⟨b, off + k * 3 + 2, none⟩ = some (.int .i64 x.seen) := (HBL.out.cell (p := ⟨b, off + k * 3 + 2, none⟩) hbl).trans e2
      clear e0 e1 e2
      have hwr : IntKind.i64.wrap ((k : Int) + 1) = (k : Int) + 1 := IntWalk.i64_in _ (by omega)
      have hp0 : (0 : Int) ≤ (k : Int) + 1 := by omega
      have hp1 : (k : Int) + 1 ≤ (M.length : Int) := by omega
      have hp2 : ((k : Int) + 1).toNat = k + 1 := by omega
      have hrun : ∀ W : World, (Instr.slice 73 (.slice (some ⟨b, off, none⟩) M.length c) (some (.int .i64 ((k : Int) + 1))) none none).run Try.prog W = .ok (.slice (if c = k + 1 then some ⟨b, off, none⟩ else (some (⟨b, off, none⟩ : Addr)).map (·.add ((k + 1) * 3))) (M.length - (k + 1)) (c - (k + 1))) W := by
        obtain ⟨i3, hi3, _, hz31, _⟩ := info_parts info_ent
        have h := cut_from 73 78 .i64 Try.underlying73 hi3 3 hz31 (some ⟨b, off, none⟩) M.length c ((k : Int) + 1) (by omega) (by omega)
        rw [hp2] at h
        exact h
      obtain ⟨i0, hi, hz0, hz1, hz2⟩ := info_parts info_ent
      have hrun2 := cut_upto (P := Try.prog) 73 78 .i64 Try.underlying73 hi (some ⟨b, off, none⟩) M.length c k (by omega)
      have HI := Lib.hid hi
      have HZ0 := Lib.hid hz0
      have HZ1 := Lib.hid hz1
      have HZ2 := Lib.hid hz2
      clear hi hz0 hz1 hz2
      obtain ⟨M1, hM1⟩ : ∃ M1, M.take k ++ M.drop (k + 1) = M1 := ⟨_, rfl⟩
      have hl2 : k + (M.length - (k + 1)) = M1.length := by rw [← hM1]; simp; omega
      have hl3 : M1.length + 1 ≤ M.length := by omega
      have t1 : ((M1.length : Int) == room) = false := by simp; omega
      have hf := HF.out
      rw [hM1] at hf
      have HF := Lib.hid hf
      have hne : ¬ c = k + 1 := by omega
      rw [if_neg hne, Option.map_some, add_at] at hrun
      have hbg : b ≠ g := q_ne_blk HQ3.out HB3.out (by decide) b rfl
      have hall : ∀ j u, (encs M)[j]? = some u → ((wr.alloc (.cells #[.int .i64 x.link, .int .i64 x.port, .int .i64 x.seen] 78)).drew).cell? ⟨b, off + j, none⟩ = some u := by
        intro j u hu
        obtain ⟨ad, he, hcell⟩ := q_cells HQ3.out (by omega)
        injection he with he
        subst he
        have h1 := hcell j u hu
        rw [add_at] at h1
        exact pw_cell_below (below_alloc (Below.refl _ _) _) h1
      have S1 := Lib.hid (show (encs (M.take k)).length = k * 3 by rw [encs_length]; simp; omega)
      have S2 : Hid (∀ b', some (⟨b, off, none⟩ : Addr) = some b' → ∀ j u, (encs (M.take k))[j]? = some u → ((wr.alloc (.cells #[.int .i64 x.link, .int .i64 x.port, .int .i64 x.seen] 78)).drew).cell? (b'.add j) = some u) := by
        intro b' hb' j u hu
        injection hb' with hb'
        subst hb'
        have hj : j < k * 3 := by have := (List.getElem?_eq_some_iff.1 hu).1; rw [encs_length] at this; simp at this; omega
        rw [encs_take M k (by omega), List.getElem?_take, if_pos hj] at hu
        rw [add_at]
        exact hall j u hu
      have S3 := Lib.hid (show (encs (M.drop (k + 1))).length = (M.length - (k + 1)) * 3 by rw [encs_length]; simp)
      have S4 : Hid (∀ j u, (encs (M.drop (k + 1)))[j]? = some u → ((wr.alloc (.cells #[.int .i64 x.link, .int .i64 x.port, .int .i64 x.seen] 78)).drew).cell? ((⟨b, off + (k + 1) * 3, none⟩ : Addr).add j) = some u) := by
        intro j u hu
        rw [← encs_drop, List.getElem?_drop] at hu
        rw [add_at, Nat.add_assoc]
        exact hall _ u hu
      have S5 : Hid (∀ u ∈ encs (M.drop (k + 1)), u.oneCell' = true) := by
        intro u hu
        obtain ⟨y, _, hy⟩ := List.mem_flatMap.1 hu
        simp [enc] at hy
        rcases hy with rfl | rfl | rfl <;> rfl
      have AG : Hid (∀ v9 w9, w9.ownsRow ((wr.alloc (.cells #[.int .i64 x.link, .int .i64 x.port, .int .i64 x.seen] 78)).drew).heap.size 78 3 v9 (k + (M.length - (k + 1))) (encs (M.take k) ++ encs (M.drop (k + 1))) → ((wr.alloc (.cells #[.int .i64 x.link, .int .i64 x.port, .int .i64 x.seen] 78)).drew).grownBy w9 none →
          ∃ bb cap9, v9 = .slice (some ⟨bb, 0, none⟩) M1.length cap9 ∧ QRow w9 w.heap.size 78 3 v9 M1.length (encs M1) ∧ Blk w9 g #[.int .i64 age, .int .i64 room, .int .i64 now, .slice (some ⟨b, off, none⟩) M.length c] 75 ∧ Only (· = g) w w9) := by
        intro v9 w9 hown hgr
        rw [hl2, ← encs_append, hM1] at hown
        have hq9 := q_lower (q_of_own hown) (show w.heap.size ≤ ((wr.alloc (.cells #[.int .i64 x.link, .int .i64 x.port, .int .i64 x.seen] 78)).drew).heap.size by simp; omega)
        obtain ⟨bb, cap9, h1⟩ : ∃ bb cap9, v9 = .slice (some ⟨bb, 0, none⟩) M1.length cap9 := by
          rcases hown.2 with ⟨_, h⟩ | ⟨bb, cap9, cur, h1, _⟩
          · omega
          · exact ⟨bb, cap9, h1⟩
        exact ⟨bb, cap9, h1, hq9, blk_grown ((HB3.out.alloc (.cells #[.int .i64 x.link, .int .i64 x.port, .int .i64 x.seen] 78)).drew) hgr (by simp), ((HO3.out.alloc (.cells #[.int .i64 x.link, .int .i64 x.port, .int .i64 x.seen] 78)).drew).grown hgr (fun q _ h => by cases h)⟩
      clear hall hf hM1 hne
      go_wp2_with fail
      go_region_law (refine step_append_grows rfl (.tmp 62) (.tmp 69) 73 rfl 78 i0 (.agg #[.int .i64 0, .int .i64 0, .int .i64 0]) 3 24 Try.underlying73 HI.out HZ0.out HZ1.out HZ2.out rfl (by decide) (some ⟨b, off, none⟩) k k (encs (M.take k)) (by simp [Act.eval, Act.put]) (fun h => by cases h) S1.out S2.out ⟨b, off + (k + 1) * 3, none⟩ (M.length - (k + 1)) (c - (k + 1)) (encs (M.drop (k + 1))) (by simp [Act.eval, Act.put]) S3.out S4.out S5.out (by omega) (by unfold maxLen; omega) (by omega) ?_; intro v9 w9 hown hgr; obtain ⟨bb, cap9, rfl, hq9, hb9, ho9⟩ := AG.out v9 w9 hown hgr; have HQ9 := Lib.hid hq9; have HB9 := Lib.hid hb9; have HO9 := Lib.hid ho9; have k1 := (hb9.cell 1).trans rfl; have k3 := (hb9.cell 3).trans rfl; have kf := hb9.frozen 3; clear hown hgr hq9 hb9 ho9)
      all_goals go_wp2_with fail
      all_goals go_quiet (fail)
      all_goals
        clear t1
        have hb4' : Blk ((w9.setCell ⟨g, 3, none⟩ (.slice (some ⟨bb, 0, none⟩) M1.length cap9)).drewN nq) g #[.int .i64 age, .int .i64 room, .int .i64 now, (.slice (some ⟨bb, 0, none⟩) M1.length cap9)] 75 := by
          simpa using (Blk.set HB9.out 3 (.slice (some ⟨bb, 0, none⟩) M1.length cap9)).drewN nq
        have HB4 := Lib.hid hb4'
        clear hb4'
        have HO4 := Lib.hid ((HO9.out.set1 3 (.slice (some ⟨bb, 0, none⟩) M1.length cap9)).drewN nq)
        have HQ4 : Hid (QRow ((w9.setCell ⟨g, 3, none⟩ (.slice (some ⟨bb, 0, none⟩) M1.length cap9)).drewN nq) w.heap.size 78 3 (.slice (some ⟨bb, 0, none⟩) M1.length cap9) M1.length (encs M1)) := q_drewN (q_far HQ9.out (p := ⟨g, 3, none⟩) (fun q hq => q_ne_blk HQ9.out HB9.out (by decide) q hq) (.slice (some ⟨bb, 0, none⟩) M1.length cap9)) nq
        have hs9 : w.heap.size ≤ w9.heap.size := HO9.out.size
        go_wp2_with (at_builtin; go_loud (refine wpList_append_q ((w9.setCell ⟨g, 3, none⟩ (.slice (some ⟨bb, 0, none⟩) M1.length cap9)).drewN nq) w.heap.size rfl (.tmp 96) (.tmp 101) 73 78 (.agg #[.int .i64 0, .int .i64 0, .int .i64 0]) 3 24 rfl Try.underlying73 info_ent rfl (by decide) _ (M1.length) (encs (M1)) rfl ?hq 1 (enc ⟨link, port, now⟩) ?hx rfl ?h1 (by decide) ?h63 ?hby ?hba ?next))
        case hx => show Value.slice (some ⟨w9.heap.size, 0, none⟩) 1 1 = _; simp [World.setCell]
        case h1 => intro u hu; simp [enc] at hu; rcases hu with rfl | rfl | rfl <;> rfl
        case h63 => unfold maxLen; omega
        case hby => omega
        case hq => exact HQ4.out
        case hba => simp [World.setCell]; omega
        case next =>
          intro v2 w4 hq2 hg2 _
          have hb4 := blk_grown HB4.out hg2 (fun h => q_ne_blk HQ4.out HB4.out (by decide) _ h.symm rfl)
          have HB5 := Lib.hid hb4
          have f4 := blk_frozen hb4 3
          have c4 := blk_cell hb4 3
          obtain ⟨A5, c5, rfl, _⟩ := q_slice hq2
          have HQ5 := Lib.hid hq2
          have HG2 := Lib.hid hg2
          clear hq2 hg2 hb4
          simp only [List.getElem?_toArray, List.getElem?_cons_succ, List.getElem?_cons_zero] at c4
          go_wp2_with fail
          go_ret
          refine ⟨rfl, ⟨_, Blk.set HB5.out 3 _, ?_⟩, ?_⟩
          · have h5 : QRow w4 w.heap.size 78 3 (.slice A5 (M1.length + 1) c5) (M1.length + 1) (encs (M1 ++ [⟨link, port, now⟩])) := by
              rw [encs_append, show encs [(⟨link, port, now⟩ : Ent)] = enc ⟨link, port, now⟩ from by simp [encs]]
              exact q_lower HQ5.out (by first | exact Nat.le_refl _ | (simp [World.setCell]; omega) | omega)
            rw [HF.out, List.length_append, show ([⟨link, port, now⟩] : List Ent).length = 1 from rfl]
            exact q_far h5 (fun k hk => q_ne_blk h5 HB5.out (by decide) k hk) _
          · exact (HO4.out.grown HG2.out (fun q hq h => absurd (q_typed HQ4.out q h.symm).1 (by omega))).set1 3 _


theorem see_any (sb g : Nat) (age room last now link port : Int) (L : List Ent) (w : World) (h : IsTable w sb g age room last L) (hs : Seen now L) (hn0 : 0 ≤ now) (hn1 : now ≤ 1000000000) (hl : last ≤ now)
    (hr0 : 1 ≤ room) (hr1 : room ≤ 256) (hL : (L.length : Int) ≤ room) (hk0 : 0 ≤ link) (hk1 : link ≤ 281474976710655) (hk2 : (bits BinOp.and IntKind.i64 (link / 1099511627776) 1 == 1) = false) (hp0 : 0 ≤ port) (hp1 : port < 8) :
    Calls Try.prog 24 #[.pointer (some ⟨g, 0, none⟩), .int .i64 link, .int .i64 port, .int .i64 now] w fun e w' => Saw w w' g age room now (seeL (L.filter (freshB now age)) link port now room) e := by
  rcases first_split (linkB link) (L.filter (freshB now age)) with hnone | ⟨i, x, hx1, hx2, hx3⟩
  · by_cases hf : ((L.filter (freshB now age)).length : Int) = room
    · exact see_none_full sb g age room last now link port L w h hs hn0 hn1 hl hr0 hr1 hL hk0 hk1 hk2 hp0 hp1 _ rfl hnone hf
    · exact see_none_room sb g age room last now link port L w h hs hn0 hn1 hl hr0 hr1 hL hk0 hk1 hk2 hp0 hp1 _ rfl hnone hf
  · have hi := (List.getElem?_eq_some_iff.1 hx1).1
    by_cases hf : i + 1 = (L.filter (freshB now age)).length
    · exact see_found_last sb g age room last now link port L w h hs hn0 hn1 hl hr0 hr1 hL hk0 hk1 hk2 hp0 hp1 _ rfl i x hx1 hx2 hx3 hf
    · exact see_found_more sb g age room last now link port L w h hs hn0 hn1 hl hr0 hr1 hL hk0 hk1 hk2 hp0 hp1 _ rfl i x hx1 hx2 hx3 (by omega)
end Go.Proofs.Ytidgmoeimgjggaa.Learn
