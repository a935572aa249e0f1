/-
  bridge.Bridge.Forward, where the frame leaves: its contract.
-/
import Derived.Test.YtidgmoeimgjggaaBr
namespace Go.Proofs.Ytidgmoeimgjggaa.Br
open Go.RowKit Go.Proofs.YtidgmoeimgjggaaW.PrintWords Go.Proofs.Ytidgmoeimgjggaa.Xm Go.Proofs.Ytidgmoeimgjggaa.Learn

theorem info_int : (Try.prog.info? 3).map (fun i => (i.zero, i.size, i.bytes)) = some (some (.int .i64 0), 1, 8) := by kernel_rfl
set_option maxHeartbeats 12800000 in
set_option maxRecDepth 100000 in
theorem fwd_ok (tg g bb pb po pc bc : Nat) (P : List Port) (B : List Bool) (w : World) (h : IsBr w tg g bb pb po pc bc P B) (port : Nat) (p : Port) (hp : P[port]? = some p) (f : Fr) (now : Int) (hx : f.chk = 0)
    (age room last : Int) (L : List Ent) (ht : IsTable w tg tg age room last L) (hs : Seen now L) (hn0 : 0 ≤ now) (hn1 : now ≤ 1000000000) (hl : last ≤ now) (hL : (L.length : Int) ≤ room) (hroom : 1 ≤ room ∧ room ≤ 256)
    (r : Int × Int) (hin : ∀ (W : World) (A : Option Addr) (c : Nat), RowOf W A p.allow → p.allow.length ≤ c → Calls Try.prog 33 #[.agg #[.int .i64 p.access, .slice A p.allow.length c], f.val] W fun e w' => e = .returned (.tuple #[.int .i64 r.1, .int .i64 r.2]) ∧ Below W.heap.size W w')
    (bl : Bool) (hbl : B[port]? = some bl) (hden : r.2 = 0 ∧ bl = false) (hne : f.dst ≠ f.src) (mem : Nat → Bool) (hout : Outs P r.1 f mem) :
    Calls Try.prog 30 #[.pointer (some ⟨g, 0, none⟩), .int .i64 port, f.val, .int .i64 now] w fun e w' => Sent w w' tg age room now (seeL (L.filter (freshB now age)) f.src port now room) (outsL port B (findP (L.filter (freshB now age)) f.dst).2 (findP (L.filter (freshB now age)) f.dst).1 mem P.length) e := by
  have hpl : port < P.length := (List.getElem?_eq_some_iff.1 hp).1
  have hn8 := h.n8
  have c0 := h.c0
  have hgl := h.lt
  have htg : tg < w.heap.size := ht.lt
  have hfb : tg ≠ w.heap.size := by omega
  have hgt : g ≠ tg := by have := h.gT; omega
  have hchk := fun W => frCheck_any f W
  rw [hx] at hchk
  have HCHK := Lib.hid hchk
  have HIN := Lib.hid hin
  have HH := Lib.hid h
  have HT := Lib.hid ht
  have HS := Lib.hid hs
  have HP := Lib.hid hp
  have HBL := Lib.hid hbl
  have HL := Lib.hid hL
  have HR := Lib.hid hroom
  clear h hin ht hs hp hbl hL hroom
  have hsrc := chk_src hx
  have HSRC := Lib.hid hsrc
  have HNE := Lib.hid hne
  have HOUT := Lib.hid hout
  clear hchk hx hsrc hne hout
  obtain ⟨fd, fs, fg, fy, fb⟩ := f
  unfold Outs at HOUT
  unfold Fr.val at HCHK HIN HOUT
  unfold Fr.val
  simp only at HCHK HIN HSRC HNE HOUT
  go_enter Try.func30, Try.ntmps30
  go_wp2_with fail
  refine (HCHK.out _).mono ?_
  rintro e w1 ⟨rfl, hb1⟩
  have HB1 := Lib.hid ((below_alloc (Below.refl w.heap.size w) (.cells #[.int .i64 fd, .int .i64 fs, .int .i64 fg, .int .i64 fy, .string fb] 55)).trans (hb1.mono (by simp)))
  have HF1 := Lib.hid (blk_below (Blk.new w #[.int .i64 fd, .int .i64 fs, .int .i64 fg, .int .i64 fy, .string fb] 55) hb1)
  have HH1 := Lib.hid (HH.out.upto (HB1.out.mono (by omega)))
  have HT1 := Lib.hid (HT.out.below HB1.out)
  clear hb1 c0
  have c2 := HH1.out.c2
  have d0 : w1.cell? ⟨w.heap.size, 0, none⟩ = some (.int .i64 fd) := (Blk.cell HF1.out 0).trans rfl
  go_wp2_with fail
  have hfi := find_any tg tg age room last now fd L w1.drew (table_heap rfl HT1.out) HS.out hn0 hn1 hl (by have := HL.out; have := HR.out; omega)
  obtain ⟨M, hM⟩ : ∃ M, M = L.filter (freshB now age) := ⟨_, rfl⟩
  rw [← hM] at hfi
  unfold Learn.Found at hfi
  obtain ⟨⟨qa, qk⟩, hq⟩ : ∃ q, q = findP M fd := ⟨_, rfl⟩
  rw [← hq] at hfi
  have HFI := Lib.hid hfi
  have HM := Lib.hid hM
  have HQ := Lib.hid hq
  clear hfi hM hq
  refine wp_region_noPanic ?_
  go_region_held_law (fun w' => w'.cell? ⟨g, 2, none⟩ = some (.pointer (some ⟨tg, 0, none⟩)) ∧ w'.cell? ⟨w.heap.size, 0, none⟩ = some (.int .i64 fd))
    (first
      | go_keep
      | (go_split_ands; exact ⟨ho2.cell (by assumption) hgt, ho2.cell (by assumption) (Ne.symm hfb)⟩))
    (first | (go_at_call 26; refine HFI.out.mono ?_; rintro e w2 ⟨rfl, ht2, ho2⟩))
  refine NoPanic.normal ?_
  have hb2 : Below tg w1 w2 := (below_drew (Below.refl tg w1)).trans (ho2.below (by have := HB1.out.size; simp; omega) (fun k hk e => by omega))
  have HH2 := Lib.hid (HH1.out.upto hb2)
  have HF2 := Lib.hid (ho2.blk (g := w.heap.size) (HF1.out) (Ne.symm hfb))
  have hs2 : w.heap.size < w2.heap.size := by have := ho2.size; have := HF1.out.lt; simp at *; omega
  have hO2 : Only (· = tg) w w2 := (Only.of_below HB1.out).trans ((Only.drew (Only.refl _ _)).trans ho2)
  have HO2 := Lib.hid hO2
  have HT2 := Lib.hid (ht2.lower (base' := tg) (by have := HB1.out.size; simp; omega))
  clear c2 d0 hb2 ht2 ho2 hO2
  obtain ⟨A, c, pc0, pc1, hac, hrow⟩ := HH2.out.ports port p HP.out
  have c0 := HH2.out.c0
  have c1 := HH2.out.c1
  have b1 := HH2.out.bl HBL.out
  have d0 : w2.cell? ⟨w.heap.size, 0, none⟩ = some (.int .i64 fd) := (Blk.cell HF2.out 0).trans rfl
  have d1 : w2.cell? ⟨w.heap.size, 1, none⟩ = some (.int .i64 fs) := (Blk.cell HF2.out 1).trans rfl
  have d2 : w2.cell? ⟨w.heap.size, 2, none⟩ = some (.int .i64 fg) := (Blk.cell HF2.out 2).trans rfl
  have d3 : w2.cell? ⟨w.heap.size, 3, none⟩ = some (.int .i64 fy) := (Blk.cell HF2.out 3).trans rfl
  have d4 : w2.cell? ⟨w.heap.size, 4, none⟩ = some (.string fb) := (Blk.cell HF2.out 4).trans rfl
  have hin2 := HIN.out w2.drew A c (hrow.row.below (below_drew (Below.refl _ _))) hac
  obtain ⟨r1, r2⟩ := r
  simp only at hin2 hden
  have HIN2 := Lib.hid hin2
  clear hin2 hrow
  have hk0 : (0 : Int) ≤ (port : Int) := by omega
  have hk1 : (port : Int) < (P.length : Int) := by omega
  go_wp2_with fail
  refine wp_region_noPanic ?_
  go_region_held_law (fun w' => w'.cell? ⟨g, 0, none⟩ = some (.slice (some ⟨pb, po, none⟩) P.length pc) ∧ w'.cell? ⟨pb, po + port * 2, none⟩ = some (.int .i64 p.access) ∧ w'.cell? ⟨pb, po + port * 2 + 1, none⟩ = some (.slice A p.allow.length c) ∧
      w'.cell? ⟨w.heap.size, 0, none⟩ = some (.int .i64 fd) ∧ w'.cell? ⟨w.heap.size, 1, none⟩ = some (.int .i64 fs) ∧ w'.cell? ⟨w.heap.size, 2, none⟩ = some (.int .i64 fg) ∧ w'.cell? ⟨w.heap.size, 3, none⟩ = some (.int .i64 fy) ∧ w'.cell? ⟨w.heap.size, 4, none⟩ = some (.string fb))
    (first
      | go_keep
      | (go_split_ands; exact ⟨pw_cell_below hb3 (by assumption), pw_cell_below hb3 (by assumption), pw_cell_below hb3 (by assumption), pw_cell_below hb3 (by assumption), pw_cell_below hb3 (by assumption), pw_cell_below hb3 (by assumption), pw_cell_below hb3 (by assumption), pw_cell_below hb3 (by assumption)⟩))
    (first | (go_at_call 33; refine HIN2.out.mono ?_; rintro e w3 ⟨rfl, hb3⟩))
  refine NoPanic.normal ?_
  have hb3' : Below w2.heap.size w2 w3 := (below_drew (Below.refl w2.heap.size w2)).trans hb3
  have HO3 := Lib.hid (HO2.out.step (Only.of_below (S := fun _ => False) hb3') (fun _ _ h => h.elim))
  have HT3 := Lib.hid (HT2.out.below hb3')
  have HH3 := Lib.hid (HH2.out.upto (hb3'.mono (by omega)))
  have HF3 := Lib.hid (blk_below HF2.out hb3')
  have hs3 : w.heap.size < w3.heap.size := by have := hb3'.size; omega
  clear hb3 hb3' c0 c1 b1 d0 d1 d2 d3 d4 pc0 pc1
  have c1 := HH3.out.c1
  have b1 := HH3.out.bl HBL.out
  obtain ⟨rfl, rfl⟩ := hden
  go_wp2_with fail
  clear c1 b1
  have hMr : (M.length : Int) ≤ room := by rw [HM.out]; have := List.length_filter_le (freshB now age) L; have := HL.out; omega
  have hMs : Seen now M := fun x hx => HS.out x (by rw [HM.out] at hx; exact (List.mem_filter.1 hx).1)
  have hse := see_any tg tg age room now now fs port M w3.drew (table_heap rfl HT3.out) hMs hn0 hn1 (Int.le_refl _) HR.out.1 HR.out.2 hMr HSRC.out.1 HSRC.out.2.1 HSRC.out.2.2 (by omega) (by omega)
  unfold Saw at hse
  obtain ⟨M4, hM4⟩ : ∃ M4, M4 = seeL (M.filter (freshB now age)) fs port now room := ⟨_, rfl⟩
  rw [← hM4] at hse
  have HSE := Lib.hid hse
  have HM4 := Lib.hid hM4
  clear hse hM4 hMr hMs
  have c2 := HH3.out.c2
  have d1 : w3.cell? ⟨w.heap.size, 1, none⟩ = some (.int .i64 fs) := (Blk.cell HF3.out 1).trans rfl
  refine wp_region_noPanic ?_
  go_region_held_law (fun w' => w'.cell? ⟨g, 2, none⟩ = some (.pointer (some ⟨tg, 0, none⟩)) ∧ w'.cell? ⟨w.heap.size, 1, none⟩ = some (.int .i64 fs))
    (first
      | go_keep
      | (go_split_ands; exact ⟨ho4.cell (by assumption) hgt, ho4.cell (by assumption) (Ne.symm hfb)⟩))
    (first | (go_at_call 24; refine HSE.out.mono ?_; rintro e w4 ⟨rfl, ht4, ho4⟩))
  refine NoPanic.normal ?_
  have hb4 : Below tg w3 w4 := (below_drew (Below.refl tg w3)).trans (ho4.below (by simp; omega) (fun k hk e => by omega))
  have HH4 := Lib.hid (HH3.out.upto hb4)
  have HF4 := Lib.hid (ho4.blk (g := w.heap.size) (HF3.out) (Ne.symm hfb))
  have hs4 : w.heap.size < w4.heap.size := by have := ho4.size; simp at this; omega
  have HO4 := Lib.hid (HO3.out.trans ((Only.drew (Only.refl _ _)).trans ho4))
  have HT4 := Lib.hid (ht4.lower (base' := tg) (by simp; omega))
  clear c2 d1 hb4 ht4 ho4
  have d0 : w4.cell? ⟨w.heap.size, 0, none⟩ = some (.int .i64 fd) := (Blk.cell HF4.out 0).trans rfl
  have d1 : w4.cell? ⟨w.heap.size, 1, none⟩ = some (.int .i64 fs) := (Blk.cell HF4.out 1).trans rfl
  have hdd : (fd == fs) = false := by have := HNE.out; simpa using this
  have c0 := HH4.out.c0
  go_wp2_with fail
  clear c0 d0 d1 hdd
  go_loopw [16, 98] (fun out i wr => OutsRel w4 port B qk qa mem P.length out i wr) (fun _ i _ => P.length - (intOf i).toNat)
  case atStart => exact ⟨0, Nat.zero_le _, rfl, Below.refl _ _, by simpa [outsL, natv] using q_nil _ _ _ _⟩
  case round =>
    obtain ⟨k, hk, rfl, hbel, hrow⟩ := hrel
    have HBW := Lib.hid hbel
    have HRW := Lib.hid hrow
    have HHW := Lib.hid (HH4.out.upto (hbel.mono (by omega)))
    have HFW := Lib.hid (blk_below HF4.out hbel)
    have hsw : w4.heap.size ≤ wr.heap.size := hbel.size
    have hle := outsL_le port B qk qa mem k
    clear hbel hrow
    by_cases hlt : k < P.length
    · have hdk : decide ((k : Int) < (P.length : Int)) = true := by simp; omega
      have hk0 : (0 : Int) ≤ (k : Int) := by omega
      have hk1 : (k : Int) < (P.length : Int) := by omega
      obtain ⟨bk, hbk⟩ : ∃ bk, B[k]? = some bk := ⟨B[k]'(by have := HHW.out.len; omega), List.getElem?_eq_getElem _⟩
      have c1 := HHW.out.c1
      have b1 := HHW.out.bl hbk
      have hgd : B.getD k false = bk := by simp [List.getD, hbk]
      have HGD := Lib.hid hgd
      clear hbk hgd
      by_cases hskip : k = port ∨ bk = true ∨ (qk = true ∧ (k : Int) ≠ qa)
      · have hno : goes port B qk qa mem k = false := by
          unfold goes
          rw [HGD.out]
          rcases hskip with h | h | ⟨h1, h2⟩
          · simp [h]
          · simp [h]
          · simp [h1, h2]
        have HNO := Lib.hid (outsL_no hno)
        clear hno
        have hend : OutsRel w4 port B qk qa mem P.length u16 (.int .i64 ((k + 1 : Nat) : Int)) wr := ⟨k + 1, hlt, rfl, HBW.out, by rw [HNO.out]; exact HRW.out⟩
        have HEND := Lib.hid hend
        clear hend
        by_cases h1 : k = port
        · subst h1
          have he1 : ((k : Int) == (k : Int)) = true := by simp
          go_wp2_with fail
          exact ⟨HEND.out, by simp [intOf]; omega⟩
        · have he1 : ((k : Int) == (port : Int)) = false := by simp; omega
          cases bk with
          | true =>
            clear hskip
            go_wp2_with fail
            exact ⟨HEND.out, by simp [intOf]; omega⟩
          | false =>
            obtain ⟨rfl, hqa⟩ : qk = true ∧ (k : Int) ≠ qa := by rcases hskip with h | h | h; exact absurd h h1; simp at h; exact h
            have he2 : ((k : Int) != qa) = true := by simpa using hqa
            clear hskip
            go_wp2_with fail
            exact ⟨HEND.out, by simp [intOf]; omega⟩
      · obtain ⟨p2, hp2⟩ : ∃ p2, P[k]? = some p2 := ⟨P[k], List.getElem?_eq_getElem _⟩
        obtain ⟨A2, c2, pc0, pc1, hac2, hrow2⟩ := HHW.out.ports k p2 hp2
        obtain ⟨⟨o1, o2, o3, o4, o5⟩, ox, hog⟩ := HOUT.out k p2 hp2
        simp only at hog
        obtain ⟨mk, hmk⟩ : ∃ mk, mk = mem k := ⟨_, rfl⟩
        rw [← hmk] at hog
        have HOG := Lib.hid hog
        have HROW2 := Lib.hid hrow2
        have he1 : ((k : Int) == (port : Int)) = false := by simp; omega
        have c0 := HHW.out.c0
        have d0 : wr.cell? ⟨w.heap.size, 0, none⟩ = some (.int .i64 fd) := (Blk.cell HFW.out 0).trans rfl
        have d1 : wr.cell? ⟨w.heap.size, 1, none⟩ = some (.int .i64 fs) := (Blk.cell HFW.out 1).trans rfl
        have d2 : wr.cell? ⟨w.heap.size, 2, none⟩ = some (.int .i64 fg) := (Blk.cell HFW.out 2).trans rfl
        have d3 : wr.cell? ⟨w.heap.size, 3, none⟩ = some (.int .i64 fy) := (Blk.cell HFW.out 3).trans rfl
        have d4 : wr.cell? ⟨w.heap.size, 4, none⟩ = some (.string fb) := (Blk.cell HFW.out 4).trans rfl
        obtain rfl : bk = false := by cases bk with | false => rfl | true => exact absurd (.inr (.inl rfl)) hskip
        have hqq : qk = false ∨ (qk = true ∧ (k : Int) = qa) := by
          cases qk with
          | false => exact .inl rfl
          | true => exact .inr ⟨rfl, Decidable.byContradiction fun h => hskip (.inr (.inr ⟨rfl, h⟩))⟩
        have hyes : goes port B qk qa mem k = mk := by
          unfold goes
          rw [HGD.out, ← hmk]
          have : k ≠ port := fun h => hskip (.inl h)
          rcases hqq with h | ⟨h1, h2⟩
          · simp [h, this]
          · simp [h1, h2, this]
        have HYES := Lib.hid hyes
        clear hp2 hog hrow2 hmk hyes hskip
        have HOGW := Lib.hid (fun W (hW : Below wr.heap.size wr W) => HOG.out W A2 c2 (HROW2.out.row.below hW) hac2)
        have hkeep : ∀ W, Below wr.heap.size wr W → (W.cell? ⟨g, 0, none⟩ = some (.slice (some ⟨pb, po, none⟩) P.length pc) ∧ W.cell? ⟨pb, po + k * 2, none⟩ = some (.int .i64 p2.access) ∧ W.cell? ⟨pb, po + k * 2 + 1, none⟩ = some (.slice A2 p2.allow.length c2) ∧
              W.cell? ⟨w.heap.size, 0, none⟩ = some (.int .i64 fd) ∧ W.cell? ⟨w.heap.size, 1, none⟩ = some (.int .i64 fs) ∧ W.cell? ⟨w.heap.size, 2, none⟩ = some (.int .i64 fg) ∧ W.cell? ⟨w.heap.size, 3, none⟩ = some (.int .i64 fy) ∧ W.cell? ⟨w.heap.size, 4, none⟩ = some (.string fb)) :=
          fun W hW => ⟨pw_cell_below hW c0, pw_cell_below hW pc0, pw_cell_below hW pc1, pw_cell_below hW d0, pw_cell_below hW d1, pw_cell_below hW d2, pw_cell_below hW d3, pw_cell_below hW d4⟩
        have HK := Lib.hid hkeep
        clear hkeep
        go_upto_region 21 with (fail)
        go_cut [120, 98] from 98 to 140 (fun s i w' => s = .bool false ∧ i = .int .i64 (k : Int) ∧ w' = wr)
        case first =>
          rcases hqq with rfl | ⟨rfl, hqa⟩
          · go_wp2_with fail
            go_meet
            exact ⟨rfl, rfl, rfl⟩
          · have he2 : ((k : Int) != qa) = false := by simpa using hqa
            have HQA := Lib.hid hqa
            clear hqa
            go_wp2_with fail
            go_meet
            exact ⟨rfl, rfl, rfl⟩
        case rest =>
          obtain ⟨rfl, rfl, rfl⟩ := hcut
          go_upto_region 22 with (fail)
          go_cut [19, 98] from 98 to 140 (fun s i w' => s = .bool mk ∧ i = .int .i64 (k : Int) ∧ Below wc.heap.size wc w')
          case first =>
            refine wp_region_noPanic ?_
            go_region_held_law (fun W => W.cell? ⟨g, 0, none⟩ = some (.slice (some ⟨pb, po, none⟩) P.length pc) ∧ W.cell? ⟨pb, po + k * 2, none⟩ = some (.int .i64 p2.access) ∧ W.cell? ⟨pb, po + k * 2 + 1, none⟩ = some (.slice A2 p2.allow.length c2) ∧
                W.cell? ⟨w.heap.size, 0, none⟩ = some (.int .i64 fd) ∧ W.cell? ⟨w.heap.size, 1, none⟩ = some (.int .i64 fs) ∧ W.cell? ⟨w.heap.size, 2, none⟩ = some (.int .i64 fg) ∧ W.cell? ⟨w.heap.size, 3, none⟩ = some (.int .i64 fy) ∧ W.cell? ⟨w.heap.size, 4, none⟩ = some (.string fb))
              (first | (refine HK.out _ ?_; repeat (first | with_reducible assumption | exact Below.refl _ _ | with_reducible refine below_drew ?_ | with_reducible refine below_alloc ?_ _ | with_reducible refine Below.setCell ?_ ?_ _ | exact Nat.le_refl _ | exact hs5)))
              (first
                | (go_at_call 35; refine (HOGW.out wc.drew (below_drew (Below.refl _ _))).mono ?_; rintro e w5 ⟨rfl, hb5'⟩
                   have hb5 : Below wc.heap.size wc w5 := (below_drew (Below.refl wc.heap.size wc)).trans hb5'
                   have hs5 : wc.heap.size ≤ w5.heap.size := hb5.size
                   clear hb5')
                | (go_at_call 35; refine (HOGW.out _ (below_drew (below_alloc (Below.refl _ _) _))).mono ?_; rintro e w5 ⟨rfl, hb5'⟩
                   have hbn := blk_below (Blk.drew (Blk.new wc #[.int .i64 0, .int .i64 0, .int .i64 0, .int .i64 0, .string ⟨#[]⟩] 55)) hb5'
                   have n0 := hbn.frozen 0
                   have n1 := hbn.frozen 1
                   have n2 := hbn.frozen 2
                   have n3 := hbn.frozen 3
                   have n4 := hbn.frozen 4
                   have m0 : w5.cell? ⟨wc.heap.size, 0, none⟩ = some (.int .i64 0) := (hbn.cell 0).trans rfl
                   have m1 : w5.cell? ⟨wc.heap.size, 1, none⟩ = some (.int .i64 0) := (hbn.cell 1).trans rfl
                   have m2 : w5.cell? ⟨wc.heap.size, 2, none⟩ = some (.int .i64 0) := (hbn.cell 2).trans rfl
                   have m3 : w5.cell? ⟨wc.heap.size, 3, none⟩ = some (.int .i64 0) := (hbn.cell 3).trans rfl
                   have m4 : w5.cell? ⟨wc.heap.size, 4, none⟩ = some (.string ⟨#[]⟩) := (hbn.cell 4).trans rfl
                   have hb5 : Below wc.heap.size wc w5 := (below_drew (below_alloc (Below.refl wc.heap.size wc) (.cells #[.int .i64 0, .int .i64 0, .int .i64 0, .int .i64 0, .string ⟨#[]⟩] 55))).trans (hb5'.mono (by simp))
                   have hs5 : wc.heap.size ≤ w5.heap.size := hb5.size
                   clear hbn hb5'))
            all_goals
              refine NoPanic.normal ?_
              go_wp2_with fail
              go_meet
              refine ⟨rfl, rfl, ?_⟩
              repeat (first | with_reducible assumption | exact Below.refl _ _ | with_reducible refine below_drew ?_ | with_reducible refine below_alloc ?_ _ | with_reducible refine Below.setCell ?_ ?_ _ | exact Nat.le_refl _ | exact hs5)
          case rest =>
            obtain ⟨rfl, rfl, hb6⟩ := hcut
            have HBZ := Lib.hid (HBW.out.trans (hb6.mono hsw))
            have HRZ := Lib.hid (pw_q_below HRW.out hb6)
            have hsz : w4.heap.size ≤ wc.heap.size := Nat.le_trans hsw hb6.size
            clear hb6 c0 c1 d0 d1 d2 d3 d4 pc0 pc1 b1 he1
            cases mk with
            | false =>
              have hno := outsL_no HYES.out
              have HNO := Lib.hid hno
              clear hno
              go_wp2_with fail
              exact ⟨⟨k + 1, hlt, by go_num, HBZ.out, by rw [HNO.out]; exact HRZ.out⟩, by simp [intOf]; omega⟩
            | true =>
              have HYS := Lib.hid (outsL_yes HYES.out)
              go_wp2_with (at_builtin; refine wpList_append_q wc w4.heap.size rfl (.tmp 136) (.tmp 138) 31 3 (.int .i64 0) 1 8 rfl Try.underlying31 info_int rfl (by decide) _ (outsL port B qk qa mem k).length (natv (outsL port B qk qa mem k)) rfl ?hq 1 [.int .i64 (k : Int)] ?hx rfl ?h1 (by decide) ?h63 ?hby ?hba ?next)
              case hq => exact HRZ.out
              case hx => rfl
              case h1 => intro u hu; simp at hu; rw [hu]; rfl
              case h63 => unfold maxLen; omega
              case hby => omega
              case hba => exact hsz
              case next =>
                intro v2 w6 hq6 hg6 _
                have hb6 : Below w4.heap.size w4 w6 := HBZ.out.grown hg6 hsz (fun q hq => (q_typed HRZ.out q hq).1)
                have HB6 := Lib.hid hb6
                have HQ6 := Lib.hid hq6
                clear hq6 hg6 hb6
                go_wp2_with fail
                refine ⟨⟨k + 1, hlt, by go_num, HB6.out, ?_⟩, by simp [intOf]; omega⟩
                rw [HYS.out, List.length_append]
                simpa [natv] using HQ6.out
    · obtain rfl : k = P.length := by omega
      have hdk : decide ((P.length : Int) < (P.length : Int)) = false := by simp
      obtain ⟨A9, c9, rfl, -⟩ := q_slice HRW.out
      have HRW2 := HRW.out
      go_wp2_with fail
      go_ret2
      have hq := HQ.out
      have e4 : seeL M fs port now room = M4 := by rw [HM4.out, HM.out, fresh_twice]
      rw [← HM.out, ← hq, e4]
      exact ⟨A9, c9, rfl, q_lower HRW2 (by omega), HT4.out.below HBW.out, HO4.out.step (Only.of_below (S := fun _ => False) HBW.out) (fun _ _ h => h.elim)⟩
end Go.Proofs.Ytidgmoeimgjggaa.Br
