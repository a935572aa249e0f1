/-
  BridgeLearns: the walk.
-/
import Derived.Test.YtidgmoeimgjggaaBrS
namespace Go.Proofs.Ytidgmoeimgjggaa.Br
open Go.RowKit Go.Proofs.YtidgmoeimgjggaaW.PrintWords Go.Proofs.Ytidgmoeimgjggaa.Xm Go.Proofs.Ytidgmoeimgjggaa.Learn Go.Proofs.Ytidgmoeimgjggaa.Ints Go.Proofs.Ytidgmoeimgjggaa.Credit Go.Proofs.Ytidgmoeimgjggaa.Xo

theorem wi_nat (x : Int) (n : Nat) (h : 1 ≤ n) : ∃ k : Nat, wi x n = (k : Int) ∧ k < n := by
  have := wi_bd x n (by omega)
  exact ⟨(wi x n).toNat, by omega, by omega⟩

set_option maxHeartbeats 1600000 in
set_option maxRecDepth 100000 in
theorem bridgeLearns_walk (w : World) (v : Value) (P : List Port) (hv : RPorts w v P) (a b c d : Int) :
    Calls Try.prog 8 #[v, .int .i64 a, .int .i64 b, .int .i64 c, .int .i64 d] w fun e w' => e = .returned (.bool true) ∧ Below w.heap.size w w' := by
  have hv' := hv
  obtain ⟨A, cp, rfl, -, -, -⟩ := hv'
  have HV := Lib.hid hv
  clear hv
  go_enter Try.func8, Try.ntmps8
  go_wp2_with fail
  refine (bridgeWorks_any _).mono ?_
  rintro e w1 ⟨rfl, hb1⟩
  have HB1 := Lib.hid hb1
  have HV1 := Lib.hid (RPorts.below HV.out hb1)
  clear hb1
  go_wp2_with fail
  refine (bnew_any _ P 100 8 _ HV1.out (by omega) (by omega) (by omega) (by omega)).mono ?_
  rintro e w2 (⟨x, hx, rfl, hb2, -⟩ | ⟨tg, g, bb, pb, po, pc, bc, rfl, hbr, htb, hb2, htg, -⟩)
  · have hxb : (x != 0) = true := by simpa using hx
    have HB2 := Lib.hid (HB1.out.trans (hb2.mono HB1.out.size))
    clear hb2 hx
    go_wp2_with fail
    go_ret
    exact ⟨rfl, HB2.out⟩
  · have hn1 := hbr.n1
    have hn8 := hbr.n8
    have hsw : Sw w w2 tg g bb pb po pc bc P (List.replicate P.length false) 100 8 0 [] := ⟨hbr, htb, HB1.out.trans (hb2.mono HB1.out.size), by have := HB1.out.size; omega⟩
    have HS2 := Lib.hid hsw
    clear hbr htb hb2 hsw htg
    obtain ⟨pn, hpn, hpl⟩ := wi_nat a P.length hn1
    obtain ⟨qn, hqn, hql⟩ := wi_nat b P.length hn1
    have hnow := wi_bd d 1000 (by omega)
    have hfr := wi_bd c 1000 (by omega)
    have hc1 := fun W => within_any a (P.length : Int) W (by omega) (by omega)
    have hc2 := fun W => within_any b (P.length : Int) W (by omega) (by omega)
    have hc3 := fun W => within_any d 1000 W (by omega) (by omega)
    have hc4 := fun W => within_any c 1000 W (by omega) (by omega)
    rw [hpn] at hc1
    rw [hqn] at hc2
    generalize wi d 1000 = now at *
    generalize wi c 1000 = fr0 at *
    have HC1 := Lib.hid hc1
    have HC2 := Lib.hid hc2
    have HC3 := Lib.hid hc3
    have HC4 := Lib.hid hc4
    clear hc1 hc2 hc3 hc4 hpn hqn
    go_wp2_with fail
    refine (HC1.out _).mono ?_
    rintro e w' ⟨rfl, rfl⟩
    go_wp2_with fail
    refine (HC2.out _).mono ?_
    rintro e w' ⟨rfl, rfl⟩
    go_wp2_with fail
    refine (HC3.out _).mono ?_
    rintro e w' ⟨rfl, rfl⟩
    go_wp2_with fail
    refine (HC4.out _).mono ?_
    rintro e w' ⟨rfl, rfl⟩
    go_wp2_with fail
    obtain ⟨p0, hp0⟩ : ∃ p, P[pn]? = some p := ⟨P[pn], List.getElem?_eq_getElem _⟩
    obtain ⟨q0, hq0⟩ : ∃ p, P[qn]? = some p := ⟨P[qn], List.getElem?_eq_getElem _⟩
    have hbp : (List.replicate P.length false)[pn]? = some false := by simp [hpl]
    have hbq : (List.replicate P.length false)[qn]? = some false := by simp [hql]
    have hx1 : (⟨281474976710655, 1 + fr0, 0, 0, ⟨#[]⟩⟩ : Fr).chk = 0 := chk_zero (by simp) (by simp) (by simp; omega) (by simp; omega) rfl rfl rfl
    have hx2 : (⟨1 + fr0, 5000, 0, 0, ⟨#[]⟩⟩ : Fr).chk = 0 := chk_zero (by simp; omega) (by simp; omega) (by simp) (by simp) rfl rfl rfl
    obtain ⟨r1, hr1⟩ := in_ans p0 ⟨281474976710655, 1 + fr0, 0, 0, ⟨#[]⟩⟩
    obtain ⟨r2, hr2⟩ := in_ans q0 ⟨1 + fr0, 5000, 0, 0, ⟨#[]⟩⟩
    obtain ⟨m1, hm1⟩ := outs_ans P r1.1 ⟨281474976710655, 1 + fr0, 0, 0, ⟨#[]⟩⟩
    obtain ⟨m2, hm2⟩ := outs_ans P r2.1 ⟨1 + fr0, 5000, 0, 0, ⟨#[]⟩⟩
    by_cases hd1 : r1.2 = 0
    · refine (sw_ok HS2.out pn p0 hp0 ⟨281474976710655, 1 + fr0, 0, 0, ⟨#[]⟩⟩ now hx1 (fun x hx => by simp at hx) (by omega) (by omega) (by omega) (by simp) ⟨by omega, by omega⟩ r1 hr1 false hbp ⟨hd1, rfl⟩ (by simp; omega) m1 hm1).mono ?_
      rintro e w3 ⟨A3, c3, rfl, -, hs3, -⟩
      have hL : seeL (List.filter (freshB now 100) []) (⟨281474976710655, 1 + fr0, 0, 0, ⟨#[]⟩⟩ : Fr).src (pn : Int) now 8 = [⟨1 + fr0, pn, now⟩] := by simp [seeL, room1]
      rw [hL] at hs3
      have HS3 := Lib.hid hs3
      clear hs3 hL
      generalize outsL pn (List.replicate P.length false) (findP (List.filter (freshB now 100) []) (⟨281474976710655, 1 + fr0, 0, 0, ⟨#[]⟩⟩ : Fr).dst).2 (findP (List.filter (freshB now 100) []) (⟨281474976710655, 1 + fr0, 0, 0, ⟨#[]⟩⟩ : Fr).dst).1 m1 P.length = o3 at *
      have hfl : List.filter (freshB (now + 99) 100) [(⟨1 + fr0, pn, now⟩ : Ent)] = [⟨1 + fr0, pn, now⟩] := by
        have : freshB (now + 99) 100 (⟨1 + fr0, pn, now⟩ : Ent) = true := freshB_of (by simp; omega)
        simp [this]
      have hfp : findP [(⟨1 + fr0, pn, now⟩ : Ent)] (1 + fr0) = ((pn : Int), true) := by simp [findP]
      have hseen : Seen (now + 99) [(⟨1 + fr0, pn, now⟩ : Ent)] := fun x hx => by simp at hx; subst hx; simp; omega
      by_cases hd2 : r2.2 = 0
      · have hok := sw_ok HS3.out qn q0 hq0 ⟨1 + fr0, 5000, 0, 0, ⟨#[]⟩⟩ (now + 99) hx2 hseen (by omega) (by omega) (by omega) (by simp) ⟨by omega, by omega⟩ r2 hr2 false hbq ⟨hd2, rfl⟩ (by simp; omega) m2 hm2
        rw [hfl, hfp] at hok
        simp only at hok
        rw [outs_one] at hok
        have HOK := Lib.hid hok
        clear hok hfl hfp hseen hp0 hq0 hbp hbq hx1 hx2 hr1 hr2 hm1 hm2 hd1 hd2
        go_wp2_with fail
        refine HOK.out.mono ?_
        by_cases hg : pn < P.length ∧ goes qn (List.replicate P.length false) true (pn : Int) m2 pn = true
        · rw [if_pos hg]
          have hne : pn ≠ qn := by
            have := hg.2
            simp only [goes, Bool.and_eq_true] at this
            simpa using this.1.1.1
          rintro e w4 ⟨A4, c4, rfl, hq4, hs4, -⟩
          obtain ⟨b4, o4, cc, he, _, _, _, _, hcell, _, _⟩ := q_form hq4 (by simp)
          injection he with he1 he2 he3
          subst he1
          have cx : w4.cell? ⟨b4, o4, none⟩ = some (.int .i64 (pn : Int)) := by
            have := hcell 0 (by simp)
            simpa [natv] using this
          have hb4 := Lib.hid hs4.2.2.1
          have hneb : ((pn : Int) != (qn : Int)) = true := by simp; omega
          clear hq4 hs4 hcell hg
          go_wp2_with fail
          go_ret
          exact ⟨rfl, hb4.out⟩
        · rw [if_neg hg]
          rintro e w4 ⟨A4, c4, rfl, hq4, hs4, -⟩
          have hb4 := Lib.hid hs4.2.2.1
          clear hq4 hs4 hg
          go_wp2_with fail
          go_ret
          exact ⟨rfl, hb4.out⟩
      · have hok := sw_deny HS3.out qn q0 hq0 ⟨1 + fr0, 5000, 0, 0, ⟨#[]⟩⟩ (now + 99) hx2 hseen (by omega) (by omega) (by omega) (by simp) ⟨by omega, by omega⟩ r2 hr2 false hbq (.inl hd2)
        have HOK := Lib.hid hok
        clear hok hfl hfp hseen hp0 hq0 hbp hbq hx1 hx2 hr1 hr2 hm1 hm2 hd1 hd2
        go_wp2_with fail
        refine HOK.out.mono ?_
        rintro e w4 ⟨rfl, hs4, -⟩
        have hb4 := Lib.hid hs4.2.2.1
        clear hs4
        go_wp2_with fail
        go_ret
        exact ⟨rfl, hb4.out⟩
    · refine (sw_deny HS2.out pn p0 hp0 ⟨281474976710655, 1 + fr0, 0, 0, ⟨#[]⟩⟩ now hx1 (fun x hx => by simp at hx) (by omega) (by omega) (by omega) (by simp) ⟨by omega, by omega⟩ r1 hr1 false hbp (.inl hd1)).mono ?_
      rintro e w3 ⟨rfl, hs3, -⟩
      have hb3 := Lib.hid hs3.2.2.1
      clear hs3 hp0 hq0 hbp hbq hx1 hx2 hr1 hr2 hm1 hm2 hd1
      go_wp2_with fail
      go_ret
      exact ⟨rfl, hb3.out⟩

theorem bridgeLearns_row (w : World) (v : Value) (h : IsPorts w v) (a : Int) (_ : (Lit.int .i64 a).wf = true) (b : Int) (_ : (Lit.int .i64 b).wf = true) (c : Int) (_ : (Lit.int .i64 c).wf = true) (d : Int) (_ : (Lit.int .i64 d).wf = true) :
    Calls Try.prog 8 #[v, .int .i64 a, .int .i64 b, .int .i64 c, .int .i64 d] w fun e w' => e = .returned (.bool true) ∧ Below w.heap.size w w' := by
  obtain ⟨P, hP⟩ := h
  exact bridgeLearns_walk w v P hP a b c d
end Go.Proofs.Ytidgmoeimgjggaa.Br
