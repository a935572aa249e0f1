/-
  The law LearnMoves, walked; and learnWorks.
-/
import Derived.Test.YtidgmoeimgjggaaSee
namespace Go.Proofs.Ytidgmoeimgjggaa.Learn
open Go.RowKit Go.Proofs.YtidgmoeimgjggaaW.PrintWords Go.Proofs.Ytidgmoeimgjggaa.Xm Go.Proofs.Ytidgmoeimgjggaa.Credit

theorem link_small (link : Int) (h0 : 0 ≤ link) (h1 : link < 1099511627776) : (bits BinOp.and IntKind.i64 (link / 1099511627776) 1 == 1) = false := by
  rw [show link / 1099511627776 = 0 by omega]
  decide

theorem freshB_of {now age : Int} {x : Ent} (h : now - x.seen < age) : freshB now age x = true := by simp [freshB, h]
theorem freshB_no {now age : Int} {x : Ent} (h : ¬ now - x.seen < age) : freshB now age x = false := by simp [freshB, h]

set_option maxHeartbeats 800000 in
theorem learnWorks_any (w : World) :
    Calls Try.prog 22 #[] w fun e w' => e = .returned (.bool true) ∧ Below w.heap.size w w' := by
  go_enter Try.func22, Try.ntmps22
  go_wp2_with fail
  refine (new_any 9 9 _ (by omega) (by omega) (by omega) (by omega)).mono ?_
  rintro e w' ⟨rfl, rfl⟩
  have HT := Lib.hid (isTable_new w 0 9 9)
  go_wp2_with fail
  refine (see_any 0 w.heap.size 9 9 0 0 5 1 [] _ HT.out (fun x hx => by simp at hx) (by omega) (by omega) (by omega) (by omega) (by omega) (by simp) (by omega) (by omega) (link_small 5 (by omega) (by omega)) (by omega) (by omega)).mono ?_
  rw [show seeL (([] : List Ent).filter (freshB 0 9)) 5 1 0 9 = [⟨5, 1, 0⟩] from rfl]
  rintro e w2 ⟨rfl, ht, ho⟩
  have HT2 := Lib.hid (ht.lower (Nat.zero_le _))
  have HO2 := Lib.hid ho
  clear ht ho
  go_wp2_with fail
  refine (find_any 0 w.heap.size 9 9 0 8 5 [⟨5, 1, 0⟩] _ HT2.out (fun x hx => by simp at hx; subst hx; simp) (by omega) (by omega) (by omega) (by simp)).mono ?_
  rw [show ([⟨5, 1, 0⟩] : List Ent).filter (freshB 8 9) = [⟨5, 1, 0⟩] from rfl]
  rintro e w3 ⟨he, ht, ho⟩
  rw [show findP [⟨5, 1, 0⟩] 5 = (1, true) from rfl] at he
  subst he
  have HO3 := Lib.hid ho
  clear ht ho
  go_wp2_with fail
  go_ret
  have h1 : Only (· = w.heap.size) w w3 := (((Only.refl _ _).alloc _).trans HO2.out).trans HO3.out
  exact ⟨rfl, h1.below (Nat.le_refl _) (fun k hk e => by omega)⟩

set_option maxHeartbeats 1600000 in
theorem learnMoves_walk (a b c : Int) (w : World) :
    Calls Try.prog 7 #[.int .i64 a, .int .i64 b, .int .i64 c] w fun e w' => e = .returned (.bool true) ∧ Below w.heap.size w w' := by
  obtain ⟨a1, a2⟩ := wi_bd a 1000 (by omega)
  obtain ⟨b1, b2⟩ := wi_bd b 8 (by omega)
  obtain ⟨c1, c2⟩ := wi_bd c 8 (by omega)
  go_enter Try.func7, Try.ntmps7
  go_wp2_with (go_at_call 11; refine (within_any _ _ _ (by omega) (by omega)).mono ?_; rintro e w' ⟨rfl, rfl⟩)
  generalize wi a 1000 = link at *
  generalize wi b 8 = p at *
  generalize wi c 8 = q at *
  refine (learnWorks_any _).mono ?_
  rintro e w1 ⟨rfl, hB⟩
  have HB := Lib.hid hB
  clear hB
  go_wp2_with fail
  refine (new_any 9 9 _ (by omega) (by omega) (by omega) (by omega)).mono ?_
  rintro e w' ⟨rfl, rfl⟩
  have HT := Lib.hid (isTable_new w1 0 9 9)
  go_wp2_with fail
  refine (see_any 0 w1.heap.size 9 9 0 3 link p [] _ HT.out (fun x hx => by simp at hx) (by omega) (by omega) (by omega) (by omega) (by omega) (by simp) (by omega) (by omega) (link_small link (by omega) (by omega)) (by omega) (by omega)).mono ?_
  rw [show seeL (([] : List Ent).filter (freshB 3 9)) link p 3 9 = [⟨link, p, 3⟩] from rfl]
  rintro e w2 ⟨rfl, ht, ho⟩
  have HT2 := Lib.hid (ht.lower (Nat.zero_le _))
  have HO2 := Lib.hid ho
  clear ht ho
  go_wp2_with fail
  refine (see_any 0 w1.heap.size 9 9 3 4 link q [⟨link, p, 3⟩] _ HT2.out (fun x hx => by simp at hx; subst hx; simp) (by omega) (by omega) (by omega) (by omega) (by omega) (by simp) (by omega) (by omega) (link_small link (by omega) (by omega)) (by omega) (by omega)).mono ?_
  rw [show seeL (([⟨link, p, 3⟩] : List Ent).filter (freshB 4 9)) link q 4 9 = [⟨link, q, 4⟩] from by
    simp [freshB, seeL, List.eraseP_cons, linkB, room1]]
  rintro e w3 ⟨rfl, ht, ho⟩
  have HT3 := Lib.hid (ht.lower (Nat.zero_le _))
  have HO3 := Lib.hid ho
  clear ht ho
  go_wp2_with fail
  refine (size_any 0 w1.heap.size 9 9 4 4 [⟨link, q, 4⟩] _ HT3.out (fun x hx => by simp at hx; subst hx; simp) (by omega) (by omega) (by omega) (by simp)).mono ?_
  rintro e w4 ⟨he, ht, ho⟩
  rw [show ([⟨link, q, 4⟩] : List Ent).filter (freshB 4 9) = [⟨link, q, 4⟩] from by simp [freshB]] at he ht
  rw [show ((([⟨link, q, 4⟩] : List Ent).length : Nat) : Int) = 1 from rfl] at he
  subst he
  have HT4 := Lib.hid (ht.lower (Nat.zero_le _))
  have HO4 := Lib.hid ho
  clear ht ho
  go_wp2_with fail
  refine (find_any 0 w1.heap.size 9 9 4 12 link [⟨link, q, 4⟩] _ HT4.out (fun x hx => by simp at hx; subst hx; simp) (by omega) (by omega) (by omega) (by simp)).mono ?_
  rw [show ([⟨link, q, 4⟩] : List Ent).filter (freshB 12 9) = [⟨link, q, 4⟩] from by simp [freshB]]
  rintro e w5 ⟨he, ht, ho⟩
  rw [show findP [⟨link, q, 4⟩] link = (q, true) from by simp [findP]] at he
  subst he
  have HT5 := Lib.hid (ht.lower (Nat.zero_le _))
  have HO5 := Lib.hid ho
  clear ht ho
  have h5 : Only (· = w1.heap.size) w1 w5 := ((((((Only.refl _ _).alloc _).trans HO2.out).trans HO3.out).trans HO4.out).trans HO5.out)
  have H5 := Lib.hid h5
  clear h5
  by_cases hpq : p = q
  · subst hpq
    go_wp2_with fail
    refine (drop_any 0 w1.heap.size 9 9 12 p [⟨link, p, 4⟩] _ HT5.out (by simp)).mono ?_
    rintro e w6 ⟨he, ht, ho⟩
    rw [show ([⟨link, p, 4⟩] : List Ent).filter (portB p) = [] from by simp [portB]] at he
    rw [show ((([⟨link, p, 4⟩] : List Ent).length : Int) - (([] : List Ent).length : Int)) = 1 from rfl] at he
    subst he
    have HO6 := Lib.hid ho
    clear ht ho
    go_wp2_with fail
    go_ret
    exact ⟨rfl, HB.out.trans ((H5.out.trans HO6.out).below HB.out.size (fun k hk e => by have := HB.out.size; omega))⟩
  · have t1 : (p != q) = true := by simp; omega
    go_wp2_with fail
    refine (drop_any 0 w1.heap.size 9 9 12 p [⟨link, q, 4⟩] _ HT5.out (by simp)).mono ?_
    rintro e w6 ⟨he, ht, ho⟩
    rw [show ([⟨link, q, 4⟩] : List Ent).filter (portB p) = [⟨link, q, 4⟩] from by simp [portB]; omega] at he ht
    rw [show ((([⟨link, q, 4⟩] : List Ent).length : Int) - (([⟨link, q, 4⟩] : List Ent).length : Int)) = 0 from rfl] at he
    subst he
    have HT6 := Lib.hid (ht.lower (Nat.zero_le _))
    have HO6 := Lib.hid ho
    clear ht ho
    go_wp2_with fail
    refine (drop_any 0 w1.heap.size 9 9 12 q [⟨link, q, 4⟩] _ HT6.out (by simp)).mono ?_
    rintro e w7 ⟨he, ht, ho⟩
    rw [show ([⟨link, q, 4⟩] : List Ent).filter (portB q) = [] from by simp [portB]] at he
    rw [show ((([⟨link, q, 4⟩] : List Ent).length : Int) - (([] : List Ent).length : Int)) = 1 from rfl] at he
    subst he
    have HO7 := Lib.hid ho
    clear ht ho
    go_wp2_with fail
    go_ret
    exact ⟨rfl, HB.out.trans (((H5.out.trans HO6.out).trans HO7.out).below HB.out.size (fun k hk e => by have := HB.out.size; omega))⟩

theorem learnMoves_row (w : World) (a : Int) (_ : (Lit.int .i64 a).wf = true) (b : Int) (_ : (Lit.int .i64 b).wf = true) (c : Int) (_ : (Lit.int .i64 c).wf = true) :
    Calls Try.prog 7 #[.int .i64 a, .int .i64 b, .int .i64 c] w fun e w' => e = .returned (.bool true) ∧ Below w.heap.size w w' := learnMoves_walk a b c w
end Go.Proofs.Ytidgmoeimgjggaa.Learn
