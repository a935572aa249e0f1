/-
  BridgeForgets: the walk.
-/
import Derived.Test.YtidgmoeimgjggaaBrLearns
namespace Go.Proofs.Ytidgmoeimgjggaa.Br
open Go.RowKit Go.Proofs.YtidgmoeimgjggaaW.PrintWords Go.Proofs.Ytidgmoeimgjggaa.Xm Go.Proofs.Ytidgmoeimgjggaa.Learn Go.Proofs.Ytidgmoeimgjggaa.Ints Go.Proofs.Ytidgmoeimgjggaa.Credit Go.Proofs.Ytidgmoeimgjggaa.Xo

def SwAny (w0 w w' : World) (tg g bb pb po pc bc : Nat) (P : List Port) (B : List Bool) (age : Int) (e : Ending) : Prop :=
  ∃ (u : Value) (x : Int) (M : List Ent), (∀ y ∈ M, 0 ≤ y.seen ∧ y.seen ≤ 1) ∧ M.length ≤ 2 ∧ e = .returned (.tuple #[u, .int .i64 x]) ∧ Sw w0 w' tg g bb pb po pc bc P B age 8 1 M ∧ Only (· = tg) w w'

set_option maxHeartbeats 1600000 in
set_option maxRecDepth 100000 in
theorem bridgeForgets_walk (w : World) (v : Value) (P : List Port) (hv : RPorts w v P) (a b d : Int) :
    Calls Try.prog 9 #[v, .int .i64 a, .int .i64 b, .int .i64 d] w fun e w' => e = .returned (.bool true) ∧ Below w.heap.size w w' := by
  have hv' := hv
  obtain ⟨A, cp, rfl, -, -, -⟩ := hv'
  have HV := Lib.hid hv
  clear hv
  have hag := wi_bd d 50 (by omega)
  go_enter Try.func9, Try.ntmps9
  go_wp2_with fail
  refine (bridgeWorks_any _).mono ?_
  rintro e w1 ⟨rfl, hb1⟩
  have HB1 := Lib.hid hb1
  have HV1 := Lib.hid (RPorts.below HV.out hb1)
  clear hb1
  go_wp2_with fail
  refine (within_any d 50 _ (by omega) (by omega)).mono ?_
  rintro e w' ⟨rfl, rfl⟩
  generalize wi d 50 = ag at *
  go_wp2_with fail
  refine (bnew_any _ P (1 + ag) 8 _ HV1.out (by omega) (by omega) (by omega) (by omega)).mono ?_
  rintro e w2 (⟨x, hx, rfl, hb2, -⟩ | ⟨tg, g, bb, pb, po, pc, bc, rfl, hbr, htb, hb2, htg, -⟩)
  · have hxb : (x != 0) = true := by simpa using hx
    have HB2 := Lib.hid (HB1.out.trans (hb2.mono HB1.out.size))
    clear hb2 hx
    go_wp2_with fail
    go_ret
    exact ⟨rfl, HB2.out⟩
  · have hn1 := hbr.n1
    have hn8 := hbr.n8
    have hsw : Sw w w2 tg g bb pb po pc bc P (List.replicate P.length false) (1 + ag) 8 0 [] := ⟨hbr, htb, HB1.out.trans (hb2.mono HB1.out.size), by have := HB1.out.size; omega⟩
    have HS2 := Lib.hid hsw
    clear hbr htb hb2 hsw htg
    obtain ⟨pn, hpn, hpl⟩ := wi_nat a P.length hn1
    obtain ⟨qn, hqn, hql⟩ := wi_nat b P.length hn1
    have hc1 := fun W => within_any a (P.length : Int) W (by omega) (by omega)
    have hc2 := fun W => within_any b (P.length : Int) W (by omega) (by omega)
    rw [hpn] at hc1
    rw [hqn] at hc2
    have HC1 := Lib.hid hc1
    have HC2 := Lib.hid hc2
    clear hc1 hc2 hpn hqn
    go_wp2_with fail
    refine (HC1.out _).mono ?_
    rintro e w' ⟨rfl, rfl⟩
    go_wp2_with fail
    refine (HC2.out _).mono ?_
    rintro e w' ⟨rfl, rfl⟩
    obtain ⟨q0, hq0⟩ : ∃ p, P[qn]? = some p := ⟨P[qn], List.getElem?_eq_getElem _⟩
    have hbq : (List.replicate P.length false)[qn]? = some false := by simp [hql]
    have hx1 : (⟨1, 2, 0, 0, ⟨#[]⟩⟩ : Fr).chk = 0 := chk_zero (by simp) (by simp) (by simp) (by simp) rfl rfl rfl
    have hx2 : (⟨2, 1, 0, 0, ⟨#[]⟩⟩ : Fr).chk = 0 := chk_zero (by simp) (by simp) (by simp) (by simp) rfl rfl rfl
    obtain ⟨r1, hr1⟩ := in_ans q0 ⟨1, 2, 0, 0, ⟨#[]⟩⟩
    obtain ⟨m1, hm1⟩ := outs_ans P r1.1 ⟨1, 2, 0, 0, ⟨#[]⟩⟩
    have hs2' := HS2.out.below (below_alloc (Below.refl _ _) (.cells #[.int .i64 1, .int .i64 2, .int .i64 0, .int .i64 0, .string ⟨#[]⟩] 55))
    have hf2 := Blk.new w2 #[.int .i64 1, .int .i64 2, .int .i64 0, .int .i64 0, .string ⟨#[]⟩] 55
    have htl := HS2.out.2.1.lt
    by_cases hd1 : r1.2 = 0
    · have hok := sw_ok hs2' qn q0 hq0 ⟨1, 2, 0, 0, ⟨#[]⟩⟩ 0 hx1 (fun x hx => by simp at hx) (by omega) (by omega) (by omega) (by simp) ⟨by omega, by omega⟩ r1 hr1 false hbq ⟨hd1, rfl⟩ (by simp) m1 hm1
      have hL : seeL (List.filter (freshB 0 (1 + ag)) []) (⟨1, 2, 0, 0, ⟨#[]⟩⟩ : Fr).src (qn : Int) 0 8 = [⟨2, qn, 0⟩] := by simp [seeL, room1]
      have hfp : findP (List.filter (freshB 0 (1 + ag)) []) (⟨1, 2, 0, 0, ⟨#[]⟩⟩ : Fr).dst = (0, false) := by simp [findP]
      rw [hL, hfp] at hok
      simp only at hok
      obtain ⟨O, hO⟩ : ∃ O, O = outsL qn (List.replicate P.length false) false 0 m1 P.length := ⟨_, rfl⟩
      have hOl : O.length ≤ 8 := by rw [hO]; exact Nat.le_trans (outsL_le _ _ _ _ _ _) hn8
      rw [← hO] at hok
      have HOK := Lib.hid hok
      have HOe := Lib.hid hO
      have HF2 := Lib.hid hf2
      have HQ0 := Lib.hid hq0
      have HBQ := Lib.hid hbq
      have HR1 := Lib.hid hr1
      have HM1 := Lib.hid hm1
      have HD1 := Lib.hid hd1
      have HX1 := Lib.hid hx1
      have HX2 := Lib.hid hx2
      clear hok hL hfp hO hf2 hs2' hq0 hbq hr1 hm1 hd1 hx1 hx2
      go_wp2_with fail
      refine HOK.out.mono ?_
      rintro e w3 ⟨A3, c3, rfl, hq3, hs3, ho3⟩
      have HF3 := Lib.hid (ho3.blk HF2.out (by omega))
      have hany : Calls Try.prog 30 #[.pointer (some ⟨g, 0, none⟩), .int .i64 pn, (⟨2, 1, 0, 0, ⟨#[]⟩⟩ : Fr).val, .int .i64 1] w3 fun e w' => SwAny w w3 w' tg g bb pb po pc bc P (List.replicate P.length false) (1 + ag) e := by
        have hse : Seen 1 [(⟨2, qn, 0⟩ : Ent)] := fun x hx => by simp at hx; subst hx; simp
        refine (sw_any hs3 pn hpl ⟨2, 1, 0, 0, ⟨#[]⟩⟩ 1 HX2.out hse (by omega) (by omega) (by omega) (by simp) ⟨by omega, by omega⟩ (by simp)).mono ?_
        rintro e w4 ⟨u, x, M, hM, rfl, h1, h2⟩
        have hfl : ∀ y ∈ List.filter (freshB 1 (1 + ag)) [(⟨2, qn, 0⟩ : Ent)], y = ⟨2, qn, 0⟩ := fun y hy => by simpa using (List.mem_filter.1 hy).1
        have hfle : (List.filter (freshB 1 (1 + ag)) [(⟨2, qn, 0⟩ : Ent)]).length ≤ 1 := List.length_filter_le _ _
        refine ⟨u, x, M, ?_, ?_, rfl, h1, h2⟩
        · rcases hM with rfl | rfl
          · intro y hy; rw [hfl y hy]; simp
          · intro y hy
            unfold seeL at hy
            rw [List.mem_append, List.mem_singleton] at hy
            rcases hy with hy | rfl
            · have : y ∈ List.filter (freshB 1 (1 + ag)) [(⟨2, qn, 0⟩ : Ent)] := by
                unfold room1 at hy
                split at hy
                · exact List.mem_of_mem_eraseP (List.mem_of_mem_drop hy)
                · exact List.mem_of_mem_eraseP hy
              rw [hfl y this]; simp
            · simp
        · rcases hM with rfl | rfl
          · omega
          · unfold seeL
            rw [List.length_append]
            have h1 : (room1 8 (List.eraseP (linkB 1) (List.filter (freshB 1 (1 + ag)) [(⟨2, qn, 0⟩ : Ent)]))).length ≤ 1 := by
              have he := List.length_eraseP_le (p := linkB 1) (l := List.filter (freshB 1 (1 + ag)) [(⟨2, qn, 0⟩ : Ent)])
              unfold room1
              split
              · rw [List.length_drop]; omega
              · omega
            simp only [List.length_singleton]
            omega
      have HANY := Lib.hid hany
      have HQ3 := Lib.hid hq3
      have hs3s : w2.heap.size + 1 ≤ w3.heap.size := by have := ho3.size; simpa using this
      clear hany hq3 hs3 ho3
      go_wp2_with fail
      refine HANY.out.mono ?_
      rintro e w4 ⟨u4, x4, M4, hM4, hM4l, rfl, hs4, ho4⟩
      have HQ4 := Lib.hid (ho4.row HQ3.out (fun q hq e => by have := (q_typed HQ3.out q hq).1; simp at this; omega))
      have HF4 := Lib.hid (ho4.blk HF3.out (by omega))
      have hem : List.filter (freshB (1 + (1 + ag)) (1 + ag)) M4 = [] := by
        rw [List.filter_eq_nil_iff]
        intro y hy
        have := hM4 y hy
        rw [freshB_no (by omega)]
        simp
      have hok := sw_ok hs4 qn q0 HQ0.out ⟨1, 2, 0, 0, ⟨#[]⟩⟩ (1 + (1 + ag)) HX1.out (fun y hy => by have := hM4 y hy; omega) (by omega) (by omega) (by omega) (by omega) ⟨by omega, by omega⟩ r1 HR1.out false HBQ.out ⟨HD1.out, rfl⟩ (by simp) m1 HM1.out
      have hfp : findP ([] : List Ent) (⟨1, 2, 0, 0, ⟨#[]⟩⟩ : Fr).dst = (0, false) := by simp [findP]
      rw [hem, hfp] at hok
      simp only at hok
      rw [← HOe.out] at hok
      have HOK4 := Lib.hid hok
      have hs4s := ho4.size
      have d0 : w4.cell? ⟨w2.heap.size, 0, none⟩ = some (.int .i64 1) := (Blk.cell HF4.out 0).trans rfl
      have d1 : w4.cell? ⟨w2.heap.size, 1, none⟩ = some (.int .i64 2) := (Blk.cell HF4.out 1).trans rfl
      have d2 : w4.cell? ⟨w2.heap.size, 2, none⟩ = some (.int .i64 0) := (Blk.cell HF4.out 2).trans rfl
      have d3 : w4.cell? ⟨w2.heap.size, 3, none⟩ = some (.int .i64 0) := (Blk.cell HF4.out 3).trans rfl
      have d4 : w4.cell? ⟨w2.heap.size, 4, none⟩ = some (.string ⟨#[]⟩) := (Blk.cell HF4.out 4).trans rfl
      clear hok hem hfp hM4 hM4l hs4 ho4
      go_wp2_with fail
      refine HOK4.out.mono ?_
      rintro e w5 ⟨A5, c5, rfl, hq5, hs5, ho5⟩
      have hq4 := ho5.row HQ4.out (fun q hq e => by have := (q_typed HQ4.out q hq).1; simp at this; omega)
      rw [natv_nums] at hq4 hq5
      obtain ⟨hr5, -, hl5⟩ := RowOf.of_q (n := O.length) hq5
      obtain ⟨hr4, -, hl4⟩ := RowOf.of_q (n := O.length) hq4
      have heq := equal_any (O.map fun (j : Nat) => (j : Int)) (by simp; omega) w5 A5 A3 c5 c3 hr5 hr4 hl5 hl4
      rw [List.length_map] at heq
      have HEQ := Lib.hid heq
      have HB5 := Lib.hid hs5.2.2.1
      clear hq4 hq5 hr4 hr5 hl4 hl5 heq hs5 ho5 d0 d1 d2 d3 d4
      go_wp2_with fail
      refine HEQ.out.mono ?_
      rintro e w6 ⟨rfl, hb6⟩
      have HB6 := Lib.hid (HB5.out.trans (hb6.mono HB5.out.size))
      clear hb6
      go_wp2_with fail
      go_ret
      exact ⟨rfl, HB6.out⟩
    · have hok := sw_deny hs2' qn q0 hq0 ⟨1, 2, 0, 0, ⟨#[]⟩⟩ 0 hx1 (fun x hx => by simp at hx) (by omega) (by omega) (by omega) (by simp) ⟨by omega, by omega⟩ r1 hr1 false hbq (.inl hd1)
      have HOK := Lib.hid hok
      clear hok hf2 hs2' hq0 hbq hr1 hm1 hd1 hx1 hx2
      go_wp2_with fail
      refine HOK.out.mono ?_
      rintro e w3 ⟨rfl, hs3, -⟩
      have hb3 := Lib.hid hs3.2.2.1
      clear hs3
      go_wp2_with fail
      go_ret
      exact ⟨rfl, hb3.out⟩

theorem bridgeForgets_row (w : World) (v : Value) (h : IsPorts w v) (a : Int) (_ : (Lit.int .i64 a).wf = true) (b : Int) (_ : (Lit.int .i64 b).wf = true) (c : Int) (_ : (Lit.int .i64 c).wf = true) :
    Calls Try.prog 9 #[v, .int .i64 a, .int .i64 b, .int .i64 c] w fun e w' => e = .returned (.bool true) ∧ Below w.heap.size w w' := by
  obtain ⟨P, hP⟩ := h
  exact bridgeForgets_walk w v P hP a b c
end Go.Proofs.Ytidgmoeimgjggaa.Br
