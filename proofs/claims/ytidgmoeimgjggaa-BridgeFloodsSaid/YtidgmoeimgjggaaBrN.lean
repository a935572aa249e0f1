/-
  bridge.New and bridge.Bridge.Block: contracts.
-/
import Derived.Test.YtidgmoeimgjggaaBr
import Derived.Test.YtidgmoeimgjggaaIClone
import Derived.Deep.RegionLawGrows
namespace Go.Proofs.Ytidgmoeimgjggaa.Br
open Go.RowKit Go.Proofs.YtidgmoeimgjggaaW.PrintWords Go.Proofs.Ytidgmoeimgjggaa.Xm Go.Proofs.Ytidgmoeimgjggaa.Learn Go.Proofs.Ytidgmoeimgjggaa.Ints

/-- An argument []TagPort. -/
def RPorts (w : World) (v : Value) (P : List Port) : Prop :=
  ∃ (A : Option Addr) (c : Nat), v = .slice A P.length c ∧ P.length ≤ c ∧ P.length ≤ 140737488351232 ∧
    (0 < P.length → ∃ b off, A = some ⟨b, off, none⟩ ∧ b < w.heap.size ∧ ∀ i p, P[i]? = some p → ∃ a c, w.cell? ⟨b, off + i * 2, none⟩ = some (.int .i64 p.access) ∧ w.cell? ⟨b, off + i * 2 + 1, none⟩ = some (.slice a p.allow.length c) ∧ RInts w (.slice a p.allow.length c) p.allow)
theorem RInts.row {w : World} {A : Option Addr} {n c : Nat} {l : List Int} (h : RInts w (.slice A n c) l) : RowOf w A l := by
  obtain ⟨A', c', he, h1, h2, h3, h4⟩ := h
  injection he with he1 he2 he3
  subst he1
  exact ⟨by omega, h4⟩
theorem RInts.len_le {w : World} {A : Option Addr} {n c : Nat} {l : List Int} (h : RInts w (.slice A n c) l) : l.length ≤ c := by
  obtain ⟨A', c', he, h1, h2, h3, h4⟩ := h
  injection he with he1 he2 he3
  omega

theorem info_port : (Try.prog.info? 63).map (fun i => (i.zero, i.size, i.bytes)) = some (some (.agg #[.int .i64 0, .slice none 0 0]), 2, 32) := by kernel_rfl

theorem make_bools (n : Nat) (hn : n ≤ 1000) : ∀ W : World, (Instr.makeSlice 59 (.int .i64 (n : Int)) (.int .i64 (n : Int))).run Try.prog W = .ok (.slice (some ⟨W.heap.size, 0, none⟩) n n) (W.alloc (.cells (Array.replicate n (Value.bool false)) 4)) := by
  intro W
  have info : (Try.prog.info? 4).map (fun i => (i.zero, i.size, i.bytes)) = some (some (.bool false), 1, 1) := by kernel_rfl
  have h := print_make_of 59 4 (.bool false) 1 Try.underlying59 info rfl (by decide) n (by omega) W
  rw [h]
  have : madeCells #[Value.bool false] n = (Array.replicate n (Value.bool false)) := by
    apply Array.ext
    · simp [madeCells]
    · intro k h1 h2
      simp [madeCells, Nat.mod_one]
  rw [this]
section
variable {P : Program}
/-- 'append(v, x1, .., xm)' onto a row of the call's own, as a step of a region that draws its order. -/
theorem step_append_q {ops : Array Oper} {o : Oper} {a : Act} {K : Act → World → Prop} {Q : Exit → Act → World → Prop} {E : Prop} (W : World) (base : Nat) (hgd : o.guard = none) (s x : Operand) (t e : TypeId) (z : Value) (size bytes : Nat)
    (ho : o.op = .call { callee := .builtin .append, args := #[s, x], argTypes := #[t, t] })
    (ht : P.underlying t = some (.slice e)) (hinfo : (P.info? e).map (fun i => (i.zero, i.size, i.bytes)) = some (some z, size, bytes)) (hz : z.cells.size = size) (hs0 : 0 < size)
    (v : Value) (n : Nat) (xs : List Value) (hs : a.eval s = v) (hown : QRow W base e size v n xs)
    (m : Nat) (cs : List Value) (hx : a.eval x = .slice (some ⟨W.heap.size, 0, none⟩) m m) (hl : cs.length = m * size) (h1 : ∀ u ∈ cs, u.oneCell' = true) (hm : 0 < m)
    (h63 : n + m ≤ maxLen) (hbytes : (n + m) * bytes ≤ 140737488355328) (hbase : base ≤ W.heap.size)
    (h : ∀ v' w', QRow w' base e size v' (n + m) (xs ++ cs) → (W.alloc (.cells cs.toArray e)).grownBy w' v.ownBlock → (v'.ownBlock = v.ownBlock ∨ ∃ b, v'.ownBlock = some b ∧ W.heap.size ≤ b) → K (a.put o.dst v') w') :
    if Region.wanted o (yielded ops a.tmps) = true then Oper.wp P o a (W.alloc (.cells cs.toArray e)) K Q else E := by
  have hw : Region.wanted o (yielded ops a.tmps) = true := by simp [Region.wanted, hgd]
  rw [if_pos hw]
  obtain ⟨i, hi, hz0, hz1, hz2⟩ := info_parts hinfo
  have hnew : ∀ j u, cs[j]? = some u → (W.alloc (.cells cs.toArray e)).cell? ((⟨W.heap.size, 0, none⟩ : Addr).add j) = some u := by
    intro j u hu
    rw [Go.Proofs.YtidgmoeimgjggaaW.PrintWords.add_plain, cell_of_row _ W.heap.size j cs.toArray e (0, 0) (heap_alloc_new W _)]
    simpa using hu
  obtain ⟨v', w', hr, h2, h3, h4⟩ := q_append (P := P) (W.alloc (.cells cs.toArray e)) base t o.type e i z size bytes ht hi hz0 hz1 hz2 hz hs0 v n xs (q_alloc hown _) ⟨W.heap.size, 0, none⟩ m m cs hl hnew h1 hm h63 hbytes (by simp; omega)
  have hat : v'.ownBlock = v.ownBlock ∨ ∃ b, v'.ownBlock = some b ∧ W.heap.size ≤ b := by
    rcases h4 with h4 | ⟨b, hb, hle⟩
    · exact .inl h4
    · exact .inr ⟨b, hb, by simp at hle; omega⟩
  unfold Oper.wp execOp
  simp only [ho, resolve, invoke, builtin, Sem.run_bind, Sem.run_pure, Result.andThen_ok, List.map_toArray, List.map_cons, List.map_nil, hs, hx, hr]
  exact h v' w' h2 h3 hat
end

/-- The ports that have been copied. -/
def Copied (wr : World) (g : Nat) (P : List Port) (k : Nat) (cs : List Value) : Prop :=
  ∀ i p, i < k → P[i]? = some p → ∃ A c, cs[i * 2]? = some (.int .i64 p.access) ∧ cs[i * 2 + 1]? = some (.slice A p.allow.length c) ∧ QRow wr (g + 1) 3 1 (.slice A p.allow.length c) p.allow.length (nums .i64 p.allow)
def NewRel (w : World) (g : Nat) (P : List Port) (i : Value) (wr : World) : Prop :=
  ∃ (k : Nat) (pv : Value) (cs : List Value), i = .int .i64 k ∧ k ≤ P.length ∧ Below w.heap.size w wr ∧ Blk wr g #[pv, .slice (some ⟨w.heap.size, 0, none⟩) P.length P.length, .pointer none] 80 ∧
    Blk wr w.heap.size (Array.replicate P.length (Value.bool false)) 4 ∧ QRow wr (g + 1) 63 2 pv k cs ∧ Copied wr g P k cs
/-- Ports that no switch has. -/
def Bad (P : List Port) : Prop := P.length < 1 ∨ 8 < P.length ∨ ∃ p ∈ P, ∃ x, x ≠ 0 ∧ PBridgeFloods.tag_Check.f 300 p.access p.allow = some x
/-- No row of a port's networks lies below lo. -/
def Lo (lo : Nat) (w : World) (pb po : Nat) (P : List Port) : Prop :=
  ∀ i p A c, P[i]? = some p → w.cell? ⟨pb, po + i * 2 + 1, none⟩ = some (.slice A p.allow.length c) → 0 < p.allow.length → ∀ b off, A = some ⟨b, off, none⟩ → lo ≤ b
def NewOut (w w' : World) (P : List Port) (age room : Int) (e : Ending) : Prop :=
  (∃ x : Int, x ≠ 0 ∧ e = .returned (.tuple #[.pointer none, .int .i64 x]) ∧ Below w.heap.size w w' ∧ Bad P) ∨
  (∃ tg g bb pb po pc bc, e = .returned (.tuple #[.pointer (some ⟨g, 0, none⟩), .int .i64 0]) ∧ IsBr w' tg g bb pb po pc bc P (List.replicate P.length false) ∧ IsTable w' tg tg age room 0 [] ∧ Below w.heap.size w w' ∧ w.heap.size ≤ tg ∧ w.heap.size ≤ bb ∧ w.heap.size ≤ g ∧ w.heap.size ≤ pb ∧ Lo w.heap.size w' pb po P)

set_option maxHeartbeats 3200000 in
set_option maxRecDepth 100000 in
theorem bnew_any (v : Value) (P : List Port) (age room : Int) (w : World) (hv : RPorts w v P) (h1 : 1 ≤ age) (h2 : age ≤ 1000000000) (h3 : 1 ≤ room) (h4 : room ≤ 256) :
    Calls Try.prog 29 #[v, .int .i64 age, .int .i64 room] w fun e w' => NewOut w w' P age room e := by
  obtain ⟨A, c, rfl, hlc, hlm, hc⟩ := hv
  have HC := Lib.hid hc
  clear hc
  by_cases hbad : P.length < 1 ∨ 8 < P.length
  · by_cases hz : P.length < 1
    · have hd : decide ((P.length : Int) < 1) = true := by simp; omega
      go_enter Try.func29, Try.ntmps29
      go_wp2_with fail
      go_ret2
      exact .inl ⟨1, by decide, rfl, Below.refl _ _, .inl hz⟩
    · have hd : decide ((P.length : Int) < 1) = false := by simp; omega
      have hd2 : decide ((8 : Int) < (P.length : Int)) = true := by simp; omega
      have hz' : 8 < P.length := by omega
      clear hbad
      go_enter Try.func29, Try.ntmps29
      go_wp2_with fail
      go_ret2
      exact .inl ⟨1, by decide, rfl, Below.refl _ _, .inr (.inl hz')⟩
  · have hn1 : 1 ≤ P.length := by omega
    have hn8 : P.length ≤ 8 := by omega
    have hd : decide ((P.length : Int) < 1) = false := by simp; omega
    have hd2 : decide ((8 : Int) < (P.length : Int)) = false := by simp; omega
    clear hbad
    obtain ⟨b, off, rfl, hbl, hcells⟩ := HC.out (by omega)
    have HCL := Lib.hid hcells
    clear hcells
    have hmk := make_bools P.length (by omega)
    go_enter Try.func29, Try.ntmps29
    go_wp2_with fail
    have hb0 : Below w.heap.size w ((w.alloc (.cells (Array.replicate P.length (Value.bool false)) 4)).alloc (.cells #[.slice none 0 0, .slice (some ⟨w.heap.size, 0, none⟩) P.length P.length, .pointer none] 80)) := below_alloc (below_alloc (Below.refl _ _) _) _
    have hg0 : Blk ((w.alloc (.cells (Array.replicate P.length (Value.bool false)) 4)).alloc (.cells #[.slice none 0 0, .slice (some ⟨w.heap.size, 0, none⟩) P.length P.length, .pointer none] 80)) (w.heap.size + 1) #[.slice none 0 0, .slice (some ⟨w.heap.size, 0, none⟩) P.length P.length, .pointer none] 80 := by
      have := Blk.new (w.alloc (.cells (Array.replicate P.length (Value.bool false)) 4)) #[.slice none 0 0, .slice (some ⟨w.heap.size, 0, none⟩) P.length P.length, .pointer none] 80
      simpa using this
    have hbb0 : Blk ((w.alloc (.cells (Array.replicate P.length (Value.bool false)) 4)).alloc (.cells #[.slice none 0 0, .slice (some ⟨w.heap.size, 0, none⟩) P.length P.length, .pointer none] 80)) w.heap.size (Array.replicate P.length (Value.bool false)) 4 := (Blk.new w _ _).alloc _
    have HB0 := Lib.hid hb0
    have HG0 := Lib.hid hg0
    have HBB0 := Lib.hid hbb0
    clear hb0 hg0 hbb0 hmk
    generalize ((w.alloc (.cells (Array.replicate P.length (Value.bool false)) 4)).alloc (.cells #[.slice none 0 0, .slice (some ⟨w.heap.size, 0, none⟩) P.length P.length, .pointer none] 80)) = w0 at *
    go_loopw [29] (fun i wr => NewRel w (w.heap.size + 1) P i wr) (fun i _ => P.length - (intOf i).toNat)
    case atStart => exact ⟨0, .slice none 0 0, [], rfl, Nat.zero_le _, HB0.out, HG0.out, HBB0.out, by simpa using q_nil _ _ _ _, fun i p h => absurd h (by omega)⟩
    case round =>
      obtain ⟨k, pv, cs, rfl, hk, rb, rg, rbb, rq, rc⟩ := hrel
      have RB := Lib.hid rb
      have RG := Lib.hid rg
      have RBB := Lib.hid rbb
      have RQ := Lib.hid rq
      have RC := Lib.hid rc
      have hgs : w.heap.size + 1 < wr.heap.size := rg.lt
      clear rb rg rbb rq rc
      by_cases hlt : k < P.length
      · have hdk : decide ((k : Int) < (P.length : Int)) = true := by simp; omega
        have hk0 : (0 : Int) ≤ (k : Int) := by omega
        have hk1 : (k : Int) < (P.length : Int) := by omega
        obtain ⟨p, hp⟩ : ∃ p, P[k]? = some p := ⟨P[k], List.getElem?_eq_getElem _⟩
        obtain ⟨a0, c0, hc0, hc1, hin⟩ := HCL.out k p hp
        have d0 : wr.cell? ⟨b, off + k * 2, none⟩ = some (.int .i64 p.access) := pw_cell_below RB.out hc0
        have d1 : wr.cell? ⟨b, off + k * 2 + 1, none⟩ = some (.slice a0 p.allow.length c0) := pw_cell_below RB.out hc1
        have hlc0 := RInts.len_le hin
        have hin2 := hin.below RB.out (Nat.le_refl _)
        obtain ⟨ck, hck0, hckf, hck⟩ := tagCheck_any p
        have HCKF := Lib.hid hckf
        have HP := Lib.hid hp
        have HIN := Lib.hid hin2
        have HCK := Lib.hid hck
        have HCK0 := Lib.hid hck0
        clear hp hc0 hc1 hin hin2 hck hck0 hckf
        go_wp2_with fail
        refine (HCK.out _ a0 c0 ((RInts.row HIN.out).below (below_alloc (Below.refl _ _) _)) hlc0).mono ?_
        rintro e w5 ⟨rfl, hb5⟩
        have hx5 := blk_below (Blk.new wr #[.int .i64 p.access, .slice a0 p.allow.length c0] 63) hb5
        have hb5' : Below wr.heap.size wr w5 := (below_alloc (Below.refl _ _) _).trans (hb5.mono (by simp))
        have hxl : wr.heap.size < w5.heap.size := hx5.lt
        have HX5 := Lib.hid hx5
        have HB5 := Lib.hid hb5'
        have HBW5 := Lib.hid (RB.out.trans (hb5'.mono RB.out.size))
        clear hb5 hb5' hx5 d0 d1
        by_cases hc0 : ck = 0
        · subst hc0
          have hl256 : p.allow.length ≤ 256 := HCK0.out rfl
          have x1 : w5.cell? ⟨wr.heap.size, 1, none⟩ = some (.slice a0 p.allow.length c0) := (HX5.out.cell 1).trans rfl
          have HCL5 := Lib.hid (IC.clone_any (.slice a0 p.allow.length c0) p.allow w5 (HIN.out.below HB5.out (Nat.le_refl _)) (by omega))
          go_wp2_with fail
          refine HCL5.out.mono ?_
          rintro e w6 ⟨v6, rfl, hq6, hb6⟩
          obtain ⟨A6, c6, rfl, hc6⟩ := q_slice hq6
          have HX6 := Lib.hid (blk_below HX5.out hb6)
          have hb6' : Below wr.heap.size wr w6 := HB5.out.trans (hb6.mono HB5.out.size)
          have hs6 : wr.heap.size < w6.heap.size := HX6.out.lt
          have HB6 := Lib.hid hb6'
          have HQ6 := Lib.hid hq6
          clear hb6 hb6' hq6 x1
          have x1 : w6.cell? ⟨wr.heap.size, 1, none⟩ = some (.slice a0 p.allow.length c0) := (HX6.out.cell 1).trans rfl
          have f1 := HX6.out.frozen 1
          go_upto_region 11 with (fail)
          have hb7 : Below wr.heap.size wr (w6.setCell ⟨wr.heap.size, 1, none⟩ (.slice A6 p.allow.length c6)) := HB6.out.setCell (p := ⟨wr.heap.size, 1, none⟩) (Nat.le_refl _) _
          have hx7 : Blk (w6.setCell ⟨wr.heap.size, 1, none⟩ (.slice A6 p.allow.length c6)) wr.heap.size #[.int .i64 p.access, .slice A6 p.allow.length c6] 63 := HX6.out.set 1 _
          have hq7 : QRow (w6.setCell ⟨wr.heap.size, 1, none⟩ (.slice A6 p.allow.length c6)) (w.heap.size + 1 + 1) 3 1 (.slice A6 p.allow.length c6) p.allow.length (nums .i64 p.allow) :=
            q_lower (q_far HQ6.out (p := ⟨wr.heap.size, 1, none⟩) (fun q hq e => by have := (q_typed HQ6.out q hq).1; simp at e; omega) _) (by omega)
          have HB7 := Lib.hid hb7
          have HX7 := Lib.hid hx7
          have HQ7 := Lib.hid hq7
          clear hb7 hx7 hq7 x1 f1
          generalize w6.setCell ⟨wr.heap.size, 1, none⟩ (.slice A6 p.allow.length c6) = w7 at *
          have HG7 := Lib.hid (blk_below RG.out HB7.out)
          have HR7 := Lib.hid (pw_q_below RQ.out HB7.out)
          have c0 : w7.cell? ⟨w.heap.size + 1, 0, none⟩ = some pv := (HG7.out.cell 0).trans rfl
          have x0 : w7.cell? ⟨wr.heap.size, 0, none⟩ = some (.int .i64 p.access) := (HX7.out.cell 0).trans rfl
          have x1 : w7.cell? ⟨wr.heap.size, 1, none⟩ = some (.slice A6 p.allow.length c6) := (HX7.out.cell 1).trans rfl
          have hs7 : wr.heap.size ≤ w7.heap.size := HB7.out.size
          have hg7 : w.heap.size + 1 < w7.heap.size := by omega
          have hx7l : wr.heap.size < w7.heap.size := HX7.out.lt
          have hne7 : pv.ownBlock ≠ some (w.heap.size + 1) := fun e => by have := (q_typed HR7.out _ e).1; omega
          go_region_law (refine step_append_q w7.drew (w.heap.size + 1 + 1) (by rfl) (.tmp 46) (.tmp 48) 48 63 (.agg #[.int .i64 0, .slice none 0 0]) 2 32 (by rfl) Try.underlying48 info_port rfl (by decide) pv k cs (by simp [Act.eval, Act.put]) HR7.out 1 [.int .i64 p.access, .slice A6 p.allow.length c6] (by simp [Act.eval, Act.put]) rfl (by simp [Value.oneCell']) (by decide) (by unfold maxLen; omega) (by omega) (by simp; omega) ?_; intro v8 w8 hq8 hg8 hb8; obtain ⟨A8, k8, rfl, -⟩ := q_slice hq8; have hg8b := blk_grown ((HG7.out.drew).alloc (.cells #[.int .i64 p.access, .slice A6 p.allow.length c6] 63)) hg8 (fun h => hne7 h.symm); have c8 : w8.cell? ⟨w.heap.size + 1, 0, none⟩ = some pv := (Blk.cell hg8b 0).trans rfl; have f8 := Blk.frozen hg8b 0; have HG8 := Lib.hid hg8b; have HQ8 := Lib.hid hq8; have HGR8 := Lib.hid hg8; have HBB8 := Lib.hid hb8; clear hg8b hq8 hg8 hb8)
          all_goals
            have hk9 : NewRel w (w.heap.size + 1) P (.int .i64 ((k + 1 : Nat) : Int)) (w8.setCell ⟨w.heap.size + 1, 0, none⟩ (.slice A8 (k + 1) k8)) := by
              have o8 : Only (fun q => some q = pv.ownBlock) wr w8 := (((Only.of_below HB7.out).drew).alloc _).grown HGR8.out (fun q _ h => h)
              have hcl : cs.length = k * 2 := RQ.out.1
              have hfar : ∀ {xs : List Value} {n : Nat} {u : Value}, QRow w8 (w.heap.size + 1 + 1) 3 1 u n xs → QRow (w8.setCell ⟨w.heap.size + 1, 0, none⟩ (.slice A8 (k + 1) k8)) (w.heap.size + 1 + 1) 3 1 u n xs :=
                fun h => q_far h (p := ⟨w.heap.size + 1, 0, none⟩) (fun q hq e => by have := (q_typed h q hq).1; simp at e; omega) _
              refine ⟨k + 1, _, _, rfl, hlt, ?_, Blk.set HG8.out 0 _, ?_, q_far HQ8.out (p := ⟨w.heap.size + 1, 0, none⟩) (fun q hq e => by have := (q_typed HQ8.out q hq).1; simp at e; omega) _, ?_⟩
              · exact ((below_alloc (below_drew (RB.out.trans (HB7.out.mono RB.out.size))) _).grown HGR8.out (by simp; omega) (fun q hq => by have := (q_typed HR7.out q hq).1; omega)).setCell (p := ⟨w.heap.size + 1, 0, none⟩) (by simp) _
              · exact Blk.far (o8.blk RBB.out (fun e => by have := (q_typed RQ.out _ e.symm).1; omega)) (p := ⟨w.heap.size + 1, 0, none⟩) (by simp) _
              · intro i p' hi hp'
                by_cases hik : i < k
                · obtain ⟨Ai, ci, e1, e2, hqi⟩ := RC.out i p' hik hp'
                  refine ⟨Ai, ci, ?_, ?_, hfar (o8.row hqi (fun q hq e => ?_))⟩
                  · rw [List.getElem?_append_left (by omega)]; exact e1
                  · rw [List.getElem?_append_left (by omega)]; exact e2
                  · obtain ⟨_, t1, h1⟩ := q_typed hqi q hq
                    obtain ⟨_, t2, h2⟩ := q_typed RQ.out q e.symm
                    rw [h1] at h2
                    injection h2 with h2
                    injection h2 with _ h2
                    exact absurd h2 (by decide)
                · obtain rfl : i = k := by omega
                  rw [HP.out] at hp'
                  injection hp' with hp'
                  subst hp'
                  refine ⟨A6, c6, ?_, ?_, hfar ?_⟩
                  · rw [List.getElem?_append_right (by omega), show i * 2 - cs.length = 0 by omega]; rfl
                  · rw [List.getElem?_append_right (by omega), show i * 2 + 1 - cs.length = 1 by omega]; rfl
                  · refine (Only.of_grown HGR8.out).row (q_alloc (show QRow w7.drew _ _ _ _ _ _ from HQ7.out) _) (fun q hq e => ?_)
                    obtain ⟨_, t1, h1⟩ := q_typed HQ7.out q hq
                    obtain ⟨_, t2, h2⟩ := q_typed HR7.out q e.symm
                    rw [h1] at h2
                    injection h2 with h2
                    injection h2 with _ h2
                    exact absurd h2 (by decide)
            have HK9 := Lib.hid hk9
            clear hk9
            go_wp2_with fail
            exact ⟨HK9.out, by simp [intOf]; omega⟩
        · have hckb : (ck != 0) = true := by simpa using hc0
          go_wp2_with fail
          go_ret2
          exact .inl ⟨ck, hc0, rfl, HBW5.out, .inr (.inr ⟨p, List.mem_of_getElem? HP.out, ck, hc0, HCKF.out⟩)⟩
      · obtain rfl : k = P.length := by omega
        have hdk : decide ((P.length : Int) < (P.length : Int)) = false := by simp
        go_wp2_with fail
        refine (new_any age room _ h1 h2 h3 h4).mono ?_
        rintro e w5 ⟨rfl, rfl⟩
        have hg5 := RG.out.alloc (.cells #[.int .i64 age, .int .i64 room, .int .i64 0, .slice none 0 0] 75)
        have c2 : (wr.alloc (.cells #[.int .i64 age, .int .i64 room, .int .i64 0, .slice none 0 0] 75)).cell? ⟨w.heap.size + 1, 2, none⟩ = some (.pointer none) := (hg5.cell 2).trans rfl
        have f2 := hg5.frozen 2
        have HG5 := Lib.hid hg5
        clear hg5
        have htb := isTable_new wr wr.heap.size age room
        have HTB := Lib.hid htb
        clear htb
        have hb5 := below_alloc RB.out (.cells #[.int .i64 age, .int .i64 room, .int .i64 0, .slice none 0 0] 75)
        have HB5 := Lib.hid hb5
        have HOLD := Lib.hid (below_alloc (Below.refl wr.heap.size wr) (.cells #[.int .i64 age, .int .i64 room, .int .i64 0, .slice none 0 0] 75))
        clear hb5
        generalize wr.alloc (.cells #[.int .i64 age, .int .i64 room, .int .i64 0, .slice none 0 0] 75) = w5 at *
        go_wp2_with fail
        go_ret2
        obtain ⟨pb, po, pc, rfl, hpb, hpl, hpc, _, hpcell, _, _⟩ := q_form RQ.out (by omega)
        have hset : Below wr.heap.size w5 w5 := Below.refl _ _
        have hco : ∀ (q : Nat) (o : Nat) (u : Value), q < wr.heap.size → q ≠ w.heap.size + 1 → wr.cell? ⟨q, o, none⟩ = some u → (w5.setCell ⟨w.heap.size + 1, 2, none⟩ (.pointer (some ⟨wr.heap.size, 0, none⟩))).cell? ⟨q, o, none⟩ = some u := by
          intro q o u h1 h2 h3
          rw [World.cell?_of_block (Below.heap_setCell w5 ⟨w.heap.size + 1, 2, none⟩ _ q h2)]
          exact pw_cell_below HOLD.out h3
        have hs5 := HOLD.out.size
        refine .inr ⟨wr.heap.size, w.heap.size + 1, w.heap.size, pb, po, pc, P.length, rfl, ⟨?_, ?_, ?_, by simp, hn1, hn8, hpc, Nat.le_refl _, hgs, by omega, hpl, by omega, by omega, by omega⟩, ?_, HB5.out.setCell (p := ⟨w.heap.size + 1, 2, none⟩) (by simp) _, by omega, Nat.le_refl _, by omega, by omega, ?_⟩
        · exact Blk.set HG5.out 2 _
        · have := Blk.far (blk_below RBB.out HOLD.out) (p := ⟨w.heap.size + 1, 2, none⟩) (by simp) (.pointer (some ⟨wr.heap.size, 0, none⟩))
          simpa using this
        · intro i p hp
          have hi : i < P.length := (List.getElem?_eq_some_iff.1 hp).1
          obtain ⟨Ai, ci, e1, e2, hqi⟩ := RC.out i p hi hp
          obtain ⟨_, ci', he, hci⟩ := q_slice hqi
          injection he with _ _ he
          have hll : p.allow.length ≤ 9223372036854775807 := by
            rcases hqi.2 with ⟨h0, _⟩ | ⟨_, _, cap, _, he2, _, _, hnc, hcm, _⟩
            · omega
            · unfold maxLen at hcm; omega
          refine ⟨Ai, ci, hco pb _ _ hpl (by omega) ?_, hco pb _ _ hpl (by omega) ?_, by omega, hll, fun hp0 => ?_⟩
          · rw [hpcell (i * 2) (by omega)]; exact e1
          · rw [Nat.add_assoc, hpcell (i * 2 + 1) (by omega)]; exact e2
          · obtain ⟨b2, o2, cp2, he2, hb2, hl2, _, _, hc2, _, _⟩ := q_form hqi hp0
            injection he2 with he2 _ _
            refine ⟨b2, o2, he2, by simp; omega, hl2, by omega, fun j x hx => hco b2 _ _ hl2 (by omega) ?_⟩
            have hj := (List.getElem?_eq_some_iff.1 hx).1
            rw [hc2 j (by omega)]
            simp [nums, hx]
        · exact HTB.out.only (S := (· = w.heap.size + 1)) ((Only.refl _ _).set1 2 _) (by omega) (fun q hq e => by omega)
        · intro i p A' c' hp hcell' hp0 b' o' hA'
          have hi : i < P.length := (List.getElem?_eq_some_iff.1 hp).1
          obtain ⟨Ai, ci, e1, e2, hqi⟩ := RC.out i p hi hp
          have hsame := hco pb (po + i * 2 + 1) _ hpl (by omega) (by rw [Nat.add_assoc, hpcell (i * 2 + 1) (by omega)]; exact e2)
          rw [hsame] at hcell'
          injection hcell' with hcell'
          injection hcell' with hAA
          obtain ⟨b2, o2, cp2, he2, hb2, _, _, _, _, _, _⟩ := q_form hqi hp0
          injection he2 with he2 _ _
          rw [hAA, hA'] at he2
          injection he2 with he2
          injection he2 with he2
          omega
end Go.Proofs.Ytidgmoeimgjggaa.Br
