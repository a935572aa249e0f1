/-
  What the functions of package slide do: contracts.
-/
import Derived.Test.YtlhpfhicggdnpaaSeal
import Derived.Deep.RegionHeld3
import Derived.Deep.RegionHeldLaw
import Derived.Deep.AppendLies
namespace Go.Proofs.Ytlhpfhicggdnpaa.Slide
open Go.RowKit Go.Proofs.YtlhpfhicggdnpaaW.PrintWords Go.Proofs.Ytlhpfhicggdnpaa.Xm Go.Proofs.Ytlhpfhicggdnpaa.CrcN Go.Proofs.Ytlhpfhicggdnpaa.Crc

attribute [local go_sem] max2_ints min2_ints max_of2 min_of2

theorem blk_below {w wr : World} {g : Nat} {cs : Array Value} {t : TypeId} (h : Blk w g cs t) (b : Below w.heap.size w wr) : Blk wr g cs t := (b.block g (Blk.lt h)).trans h
theorem q_below {w wr : World} {base n size : Nat} {e : TypeId} {v : Value} {xs : List Value} (h : QRow w base e size v n xs) (b : Below w.heap.size w wr) : QRow wr base e size v n xs := q_move h (fun k hk => b.block k (q_lt h k hk))

def strs (L : List ByteArray) : List Value := L.map Value.string
/-- The sending end. -/
def IsSnd (w : World) (g : Nat) (mod base : Nat) (L : List ByteArray) (due : Nat) (lv : Value) : Prop :=
  Blk w g #[.int .i64 mod, .int .i64 base, lv, .int .i64 due] 62 ∧ QRow w 0 9 1 lv L.length (strs L)
/-- The receiving end. -/
def IsRcv (w : World) (g : Nat) (mod next : Nat) : Prop := Blk w g #[.int .i64 mod, .int .i64 next] 67

theorem info_str : (Try.prog.info? 9).map (fun i => (i.zero, i.size, i.bytes)) = some (some (.string ⟨#[]⟩), 1, 16) := by kernel_rfl

set_option maxHeartbeats 400000 in
theorem newSender_any (mod : Nat) (w : World) (h : mod = 8 ∨ mod = 16) :
    Calls Try.prog 18 #[.int .i64 mod] w fun e w' => e = .returned (.tuple #[.pointer (some ⟨w.heap.size, 0, none⟩), .int .i64 0]) ∧ w' = w.alloc (.cells #[.int .i64 mod, .int .i64 0, .slice none 0 0, .int .i64 0] 62) := by
  rcases h with rfl | rfl
  · go_enter Try.func18, Try.ntmps18
    go_wp2
    go_ret2
    exact ⟨rfl, rfl⟩
  · go_enter Try.func18, Try.ntmps18
    go_wp2
    go_ret2
    exact ⟨rfl, rfl⟩

set_option maxHeartbeats 400000 in
theorem newReceiver_any (mod : Nat) (w : World) (h : mod = 8 ∨ mod = 16) :
    Calls Try.prog 24 #[.int .i64 mod] w fun e w' => e = .returned (.tuple #[.pointer (some ⟨w.heap.size, 0, none⟩), .int .i64 0]) ∧ w' = w.alloc (.cells #[.int .i64 mod, .int .i64 0] 67) := by
  rcases h with rfl | rfl
  · go_enter Try.func24, Try.ntmps24
    go_wp2
    go_ret2
    exact ⟨rfl, rfl⟩
  · go_enter Try.func24, Try.ntmps24
    go_wp2
    go_ret2
    exact ⟨rfl, rfl⟩

set_option maxHeartbeats 400000 in
theorem left_any (g mod base due : Nat) (L : List ByteArray) (lv : Value) (w : World) (h : IsSnd w g mod base L due lv) :
    Calls Try.prog 20 #[.pointer (some ⟨g, 0, none⟩)] w fun e w' => e = .returned (.int .i64 L.length) ∧ w = w' := by
  obtain ⟨hb, hq⟩ := h
  obtain ⟨A, c, rfl, hc⟩ := q_slice hq
  have c2 : w.cell? ⟨g, 2, none⟩ = some (.slice A L.length c) := (hb.cell 2).trans rfl
  clear hb hq
  go_enter Try.func20, Try.ntmps20
  go_wp2
  go_ret
  exact ⟨rfl, rfl⟩

set_option maxHeartbeats 400000 in
theorem again_any (g mod base due : Nat) (L : List ByteArray) (lv : Value) (w : World) (h : IsSnd w g mod base L due lv) :
    Calls Try.prog 27 #[.pointer (some ⟨g, 0, none⟩)] w fun e w' => e = .returned (.tuple #[]) ∧ IsSnd w' g mod base L 0 lv ∧ Only (· = g) w w' := by
  obtain ⟨hb, hq⟩ := h
  have f3 := hb.frozen 3
  have c3 : w.cell? ⟨g, 3, none⟩ = some (.int .i64 due) := (hb.cell 3).trans rfl
  have HB := Lib.hid hb
  have HQ := Lib.hid hq
  clear hb hq
  go_enter Try.func27, Try.ntmps27
  go_wp2
  go_end0
  exact ⟨rfl, ⟨HB.out.set 3 _, q_far HQ.out (fun k hk => q_ne_blk HQ.out HB.out (by decide) k hk) _⟩, (Only.refl _ _).set1 3 _⟩

set_option maxHeartbeats 400000 in
theorem put_busy (g mod base due : Nat) (L : List ByteArray) (lv : Value) (w : World) (h : IsSnd w g mod base L due lv) (s : ByteArray) (hs : s.size ≤ 1500) (hm : mod ≤ 16) (hL : L.length + 1 = mod) :
    Calls Try.prog 19 #[.pointer (some ⟨g, 0, none⟩), .string s] w fun e w' => e = .returned (.int .i64 15) ∧ ∃ n, w' = w.drewN n := by
  obtain ⟨hb, hq⟩ := h
  obtain ⟨A, c, rfl, hc⟩ := q_slice hq
  have c0 : w.cell? ⟨g, 0, none⟩ = some (.int .i64 mod) := (hb.cell 0).trans rfl
  have c2 : w.cell? ⟨g, 2, none⟩ = some (.slice A L.length c) := (hb.cell 2).trans rfl
  clear hb hq
  have hw : IntKind.i64.wrap ((mod : Int) - 1) = (mod : Int) - 1 := IntWalk.i64_in _ (by omega)
  have he : ((L.length : Int) == (mod : Int) - 1) = true := by simp; omega
  go_enter Try.func19, Try.ntmps19
  go_wp2_with fail
  go_quiet (fail)
  go_wp2_with fail
  go_ret
  exact ⟨rfl, _, rfl⟩

/-- A frame was added. -/
def PutOut (w w' : World) (g mod base due : Nat) (L : List ByteArray) (lv : Value) : Prop :=
  ∃ lv', IsSnd w' g mod base L due lv' ∧ (lv'.ownBlock = lv.ownBlock ∨ ∃ b, lv'.ownBlock = some b ∧ w.heap.size ≤ b) ∧ Only (fun k => k = g ∨ some k = lv.ownBlock) w w'
set_option maxHeartbeats 400000 in
theorem put_ok (g mod base due : Nat) (L : List ByteArray) (lv : Value) (w : World) (h : IsSnd w g mod base L due lv) (s : ByteArray) (hs : s.size ≤ 1500) (hm : mod ≤ 16) (hL : L.length + 1 < mod) :
    Calls Try.prog 19 #[.pointer (some ⟨g, 0, none⟩), .string s] w fun e w' => e = .returned (.int .i64 0) ∧ PutOut w w' g mod base due (L ++ [s]) lv := by
  obtain ⟨hb, hq⟩ := h
  obtain ⟨A, c, rfl, hc⟩ := q_slice hq
  have c0 : w.cell? ⟨g, 0, none⟩ = some (.int .i64 mod) := (hb.cell 0).trans rfl
  have c2 : w.cell? ⟨g, 2, none⟩ = some (.slice A L.length c) := (hb.cell 2).trans rfl
  have f2 := hb.frozen 2
  have HB := Lib.hid hb
  have HQ := Lib.hid hq
  clear hb hq
  have hw : IntKind.i64.wrap ((mod : Int) - 1) = (mod : Int) - 1 := IntWalk.i64_in _ (by omega)
  have he : ((L.length : Int) == (mod : Int) - 1) = false := by simp; omega
  go_enter Try.func19, Try.ntmps19
  go_wp2_with fail
  go_quiet (fail)
  go_wp2_with (at_builtin; refine wpList_append_q (w.drewN nq) 0 rfl (.tmp 23) (.tmp 25) 23 9 (.string ⟨#[]⟩) 1 16 rfl Try.underlying23 info_str rfl (by decide) _ L.length (strs L) rfl ?hq 1 [.string s] ?hx rfl ?h1 (by decide) ?h63 ?hby ?hba ?next)
  case hq => exact q_drewN HQ.out _
  case hx => show Value.slice (some ⟨w.heap.size, 0, none⟩) 1 1 = _; simp
  case h1 => intro u hu; simp at hu; rw [hu]; rfl
  case h63 => unfold maxLen; omega
  case hby => omega
  case hba => omega
  case next =>
    intro v2 w2 hq2 hg2 hb2
    obtain ⟨A2, c2', rfl, hc2⟩ := q_slice hq2
    have hne2 : ∀ q, (Value.slice A L.length c).ownBlock = some q → q ≠ g := fun q hq => q_ne_blk HQ.out HB.out (by decide) q hq
    have HB2 : Hid (Blk w2 g _ 62) := Lib.hid (blk_grown (HB.out.drewN nq) hg2 (fun h => hne2 g h.symm rfl))
    have HO2 := Lib.hid ((((Only.refl (fun k => k = g ∨ some k = (Value.slice A L.length c).ownBlock) w).drewN nq)).grown hg2 (fun q hq h => .inr h))
    have HQ2 := Lib.hid hq2
    have HBB := Lib.hid hb2
    clear hq2 hg2 hb2 hne2
    have g2 := Blk.frozen HB2.out 2
    have d2 : w2.cell? ⟨g, 2, none⟩ = some (.slice A L.length c) := (Blk.cell HB2.out 2).trans rfl
    go_wp2_with fail
    go_ret
    refine ⟨rfl, _, ⟨?_, ?_⟩, HBB.out, HO2.out.setCell (fun _ => .inl rfl) _⟩
    · exact Blk.set HB2.out 2 _
    · have := q_far HQ2.out (p := ⟨g, 2, none⟩) (fun k hk => q_ne_blk HQ2.out HB2.out (by decide) k hk) (.slice A2 (L.length + 1) c2')
      simpa [strs] using this

def headB (a b : Nat) : ByteArray := ⟨#[UInt8.ofNat a, UInt8.ofNat b]⟩
/-- The frame with number n. -/
def frameB (mod n : Nat) (body : ByteArray) : ByteArray := sealB (headB 68 (n % mod) ++ body)
/-- What 'Out' returns. -/
def outL (mod base : Nat) (L : List ByteArray) (due : Nat) : List ByteArray := (List.range' due (L.length - due)).map fun i => frameB mod (base + i) (L.getD i ByteArray.empty)

theorem head_conv (a b : Nat) (ha : a < 256) (hb : b < 256) (g : Nat) (W : World) (h0 : W.cell? ⟨g, 0, none⟩ = some (.int .u8 (a : Int))) (h1 : W.cell? ⟨g, 1, none⟩ = some (.int .u8 (b : Int))) :
    (convert 44 9 (.slice (some ⟨g, 0, none⟩) 2 2)).run Try.prog W = .ok (.string (headB a b)) W := by
  refine run_convert_bytes_back _ 44 9 5 ⟨g, 0, none⟩ 2 [UInt8.ofNat a, UInt8.ofNat b] Try.underlying44 Try.underlying5 Try.underlying9 ?_
  intro j hj
  rw [add_at]
  have hj4 : j < 2 := hj
  rcases (show j = 0 ∨ j = 1 by omega) with rfl | rfl
  · rw [h0]; simp; omega
  · rw [h1]; simp; omega

section
variable {P : Program}
/-- 'append(v, x1, .., xm)' onto a row of the call's own, as a step of a region that draws its order. -/
theorem step_append_q {ops : Array Oper} {o : Oper} {a : Act} {K : Act → World → Prop} {Q : Exit → Act → World → Prop} {E : Prop} (W : World) (base : Nat) (hgd : o.guard = none) (s x : Operand) (t e : TypeId) (z : Value) (size bytes : Nat)
    (ho : o.op = .call { callee := .builtin .append, args := #[s, x], argTypes := #[t, t] })
    (ht : P.underlying t = some (.slice e)) (hinfo : (P.info? e).map (fun i => (i.zero, i.size, i.bytes)) = some (some z, size, bytes)) (hz : z.cells.size = size) (hs0 : 0 < size)
    (v : Value) (n : Nat) (xs : List Value) (hs : a.eval s = v) (hown : QRow W base e size v n xs)
    (m : Nat) (cs : List Value) (hx : a.eval x = .slice (some ⟨W.heap.size, 0, none⟩) m m) (hl : cs.length = m * size) (h1 : ∀ u ∈ cs, u.oneCell' = true) (hm : 0 < m)
    (h63 : n + m ≤ maxLen) (hbytes : (n + m) * bytes ≤ 140737488355328) (hbase : base ≤ W.heap.size)
    (h : ∀ v' w', QRow w' base e size v' (n + m) (xs ++ cs) → (W.alloc (.cells cs.toArray e)).grownBy w' v.ownBlock → (v'.ownBlock = v.ownBlock ∨ ∃ b, v'.ownBlock = some b ∧ W.heap.size ≤ b) → K (a.put o.dst v') w') :
    if Region.wanted o (yielded ops a.tmps) = true then Oper.wp P o a (W.alloc (.cells cs.toArray e)) K Q else E := by
  have hw : Region.wanted o (yielded ops a.tmps) = true := by simp [Region.wanted, hgd]
  rw [if_pos hw]
  obtain ⟨i, hi, hz0, hz1, hz2⟩ := info_parts hinfo
  have hnew : ∀ j u, cs[j]? = some u → (W.alloc (.cells cs.toArray e)).cell? ((⟨W.heap.size, 0, none⟩ : Addr).add j) = some u := by
    intro j u hu
    rw [Go.Proofs.YtlhpfhicggdnpaaW.PrintWords.add_plain, cell_of_row _ W.heap.size j cs.toArray e (0, 0) (heap_alloc_new W _)]
    simpa using hu
  obtain ⟨v', w', hr, h2, h3, h4⟩ := q_append (P := P) (W.alloc (.cells cs.toArray e)) base t o.type e i z size bytes ht hi hz0 hz1 hz2 hz hs0 v n xs (q_alloc hown _) ⟨W.heap.size, 0, none⟩ m m cs hl hnew h1 hm h63 hbytes (by simp; omega)
  have hat : v'.ownBlock = v.ownBlock ∨ ∃ b, v'.ownBlock = some b ∧ W.heap.size ≤ b := by
    rcases h4 with h4 | ⟨b, hb, hle⟩
    · exact .inl h4
    · exact .inr ⟨b, hb, by simp at hle; omega⟩
  unfold Oper.wp execOp
  simp only [ho, resolve, invoke, builtin, Sem.run_bind, Sem.run_pure, Result.andThen_ok, List.map_toArray, List.map_cons, List.map_nil, hs, hx, hr]
  exact h v' w' h2 h3 hat
end

def OutRel (w : World) (mod base : Nat) (L : List ByteArray) (due : Nat) (out i : Value) (wr : World) : Prop :=
  ∃ k : Nat, due ≤ k ∧ k ≤ L.length ∧ i = .int .i64 k ∧ Below w.heap.size w wr ∧ QRow wr w.heap.size 9 1 out (k - due) (strs ((outL mod base L due).take (k - due)))
def OutOut (w w' : World) (g mod base : Nat) (L : List ByteArray) (due : Nat) (lv : Value) (e : Ending) : Prop :=
  ∃ v, e = .returned v ∧ QRow w' w.heap.size 9 1 v (L.length - due) (strs (outL mod base L due)) ∧ IsSnd w' g mod base L L.length lv ∧ Only (· = g) w w'
theorem outL_get (mod base : Nat) (L : List ByteArray) (due k : Nat) (h1 : due ≤ k) (h2 : k < L.length) : (outL mod base L due)[k - due]? = some (frameB mod (base + k) (L.getD k ByteArray.empty)) := by
  unfold outL
  rw [List.getElem?_map, List.getElem?_range' (by omega), Option.map_some]
  rw [show due + 1 * (k - due) = k by omega]
theorem outL_len (mod base : Nat) (L : List ByteArray) (due : Nat) : (outL mod base L due).length = L.length - due := by simp [outL]
theorem outL_take (mod base : Nat) (L : List ByteArray) (due k : Nat) (h1 : due ≤ k) (h2 : k < L.length) : strs ((outL mod base L due).take (k + 1 - due)) = strs ((outL mod base L due).take (k - due)) ++ [.string (frameB mod (base + k) (L.getD k ByteArray.empty))] := by
  rw [show k + 1 - due = k - due + 1 by omega, List.take_add_one, outL_get mod base L due k h1 h2]
  simp [strs]

set_option maxHeartbeats 1600000 in
set_option maxRecDepth 100000 in
theorem out_any (g mod base due : Nat) (L : List ByteArray) (lv : Value) (w : World) (h : IsSnd w g mod base L due lv) (hm : 2 ≤ mod) (hm2 : mod ≤ 16) (hbm : base < mod) (hL : L.length < mod) (hd : due ≤ L.length) (hs : ∀ x ∈ L, x.size ≤ 1500) :
    Calls Try.prog 21 #[.pointer (some ⟨g, 0, none⟩)] w fun e w' => OutOut w w' g mod base L due lv e := by
  obtain ⟨hb, hq⟩ := h
  obtain ⟨A, c, rfl, hc⟩ := q_slice hq
  have HB := Lib.hid hb
  have HQ := Lib.hid hq
  have HS := Lib.hid hs
  have c3 : w.cell? ⟨g, 3, none⟩ = some (.int .i64 due) := (hb.cell 3).trans rfl
  have hgl := hb.lt
  obtain ⟨i0, hi, hz0, hz1, hz2⟩ := info_parts info_str
  have HI := Lib.hid hi
  have HZ0 := Lib.hid hz0
  have HZ1 := Lib.hid hz1
  have HZ2 := Lib.hid hz2
  clear hb hq hs hi hz0 hz1 hz2
  go_enter Try.func21, Try.ntmps21
  go_wp2_with fail
  clear c3
  go_loopw [3, 4] (fun out i wr => OutRel w mod base L due out i wr) (fun _ i _ => L.length - (intOf i).toNat)
  case atStart => exact ⟨due, by omega, hd, rfl, Below.refl _ _, by simpa [strs] using q_nil _ _ _ _⟩
  case round =>
    obtain ⟨k, hk1, hk2, rfl, hbel, hown⟩ := hrel
    have HBE := Lib.hid hbel
    have HO := Lib.hid hown
    have c2 : wr.cell? ⟨g, 2, none⟩ = some (.slice A L.length c) := (Blk.cell (blk_below HB.out HBE.out) 2).trans rfl
    clear hbel hown
    by_cases hlt : k < L.length
    · have hdec : decide ((k : Int) < (L.length : Int)) = true := by simp; omega
      obtain ⟨x, hx⟩ : ∃ x, L[k]? = some x := ⟨L[k], by simp [hlt]⟩
      obtain ⟨bl, off, cap, he, _, hbl, _, _, hcells, _, cur, hcur⟩ := q_form HQ.out (by omega)
      injection he with he1 he2 he3
      subst he1
      subst he3
      have cx : wr.cell? ⟨bl, off + k, none⟩ = some (.string x) := by
        rw [World.cell?_of_block (HBE.out.block bl hbl), hcells k (by omega)]
        simp [strs, hx]
      have c0 : wr.cell? ⟨g, 0, none⟩ = some (.int .i64 mod) := (Blk.cell (blk_below HB.out HBE.out) 0).trans rfl
      have c1 : wr.cell? ⟨g, 1, none⟩ = some (.int .i64 base) := (Blk.cell (blk_below HB.out HBE.out) 1).trans rfl
      have hxs := HS.out x (List.mem_of_getElem? hx)
      obtain ⟨r, hr⟩ : ∃ r : Nat, r = (base + k) % mod := ⟨_, rfl⟩
      have hrl : r < 16 := by rw [hr]; exact Nat.lt_of_lt_of_le (Nat.mod_lt _ (by omega)) hm2
      have hw1 : IntKind.i64.wrap ((base : Int) + (k : Int)) = (base : Int) + (k : Int) := IntWalk.i64_in _ (by omega)
      have hw2 : Int.tmod ((base : Int) + (k : Int)) (mod : Int) = (r : Int) := by rw [Int.tmod_eq_emod_of_nonneg (by omega), hr]; simp
      have hw3 : IntKind.i64.wrap (r : Int) = (r : Int) := IntWalk.i64_in _ (by omega)
      have hw4 : IntKind.u8.wrap (r : Int) = (r : Int) := by rw [IntKind.wrap_u8]; omega
      have hm0 : ((mod : Int) == 0) = false := by simp; omega
      have hk0 : (0 : Int) ≤ (k : Int) := by omega
      have hk1' : (k : Int) < (L.length : Int) := by omega
      have hcv : (convert 44 9 (.slice (some ⟨wr.heap.size, 0, none⟩) 2 2)).run Try.prog ((wr.alloc (.cells #[.int .u8 68, .int .u8 (r : Int)] 5)).drew) = .ok (.string (headB 68 r)) ((wr.alloc (.cells #[.int .u8 68, .int .u8 (r : Int)] 5)).drew) :=
        head_conv 68 r (by omega) (by omega) wr.heap.size _ (cell_new wr _ rfl _ _ 0 _ rfl) (cell_new wr _ rfl _ _ 1 _ rfl)
      have hwl := HBE.out.size
      have ne1 : ∀ q, u3.ownBlock = some q → q ≠ g := fun q hq e => by have := (q_typed HO.out q hq).1; omega
      have ne2 : ∀ q, u3.ownBlock = some q → q ≠ bl := fun q hq e => by have := (q_typed HO.out q hq).1; omega
      have ne1' : some g ≠ u3.ownBlock := fun e => ne1 g e.symm rfl
      have ne2' : some bl ≠ u3.ownBlock := fun e => ne2 bl e.symm rfl
      have hfr : sealB (headB 68 r ++ x) = frameB mod (base + k) (L.getD k ByteArray.empty) := by
        simp [frameB, ← hr, List.getD, hx]
      have hhs : (headB 68 r).size = 2 := rfl
      have hsz : (headB 68 r ++ x).size ≤ 140737488351232 := by rw [ByteArray.size_append]; omega
      have hseal := fun W => seal_any (headB 68 r ++ x) W hsz
      have HSEAL := Lib.hid hseal
      have HFR := Lib.hid hfr
      have HX := Lib.hid hx
      clear hcells hx hseal hfr hr
      go_wp2_with fail
      refine wp_region_noPanic ?_
      go_region_held_law (fun w' => w'.cell? ⟨g, 0, none⟩ = some (.int .i64 mod) ∧ w'.cell? ⟨g, 1, none⟩ = some (.int .i64 base) ∧ w'.cell? ⟨g, 2, none⟩ = some (.slice (some ⟨bl, off, none⟩) L.length c) ∧ w'.cell? ⟨bl, off + k, none⟩ = some (.string x))
        (first
          | go_keep
          | (go_split_ands; exact ⟨pw_cell_below hbs (by assumption), pw_cell_below hbs (by assumption), pw_cell_below hbs (by assumption), pw_cell_below hbs (by assumption)⟩)
          | (go_split_ands
             refine ⟨?_, ?_, ?_, ?_⟩
             · (rw [hgrow.cell_far _ (by have := hbs.size; simp at this ⊢; omega) ne1']; assumption)
             · (rw [hgrow.cell_far _ (by have := hbs.size; simp at this ⊢; omega) ne1']; assumption)
             · (rw [hgrow.cell_far _ (by have := hbs.size; simp at this ⊢; omega) ne1']; assumption)
             · (rw [hgrow.cell_far _ (by have := hbs.size; simp at this ⊢; omega) ne2']; assumption)))
        (first
          | (go_at_call 23; refine (HSEAL.out _).mono ?_; rintro e w2 ⟨rfl, hbs⟩)
          | (refine step_append_q _ w.heap.size (by rfl) _ _ _ 9 (.string ⟨#[]⟩) 1 16 (by rfl) Try.underlying23 info_str rfl (by decide) u3 (k - due) _ (by rfl) (q_below (q_drewN (q_alloc HO.out _) 1) hbs) 1 [_] (by rfl) rfl (by simp [Value.oneCell']) (by decide) (by unfold maxLen; omega) (by omega) (by have := hbs.size; simp at this; omega) ?_; intro v3 w3 hown3 hgrow hat3))
      refine NoPanic.normal ?_
      have hb3 : Below w.heap.size w w3 := by
        have b1 : Below w.heap.size w ((wr.alloc (.cells #[.int .u8 68, .int .u8 (r : Int)] 5)).drew) := below_drew (below_alloc HBE.out _)
        have b2 : Below w.heap.size w w2 := b1.trans (hbs.mono (by simp; omega))
        exact (below_alloc b2 (.cells #[Value.string (sealB (headB 68 r ++ x))] 9)).grown hgrow (by have := b2.size; simp; omega) (fun q hq => (q_typed HO.out q hq).1)
      have HB3 := Lib.hid hb3
      have HO3 := Lib.hid hown3
      clear hb3 hown3 hgrow hat3 hbs hcv ne1 ne2 ne1' ne2'
      have hsub : k - due + 1 = k + 1 - due := by omega
      go_wp2_with fail
      refine ⟨?_, by simp [intOf]; omega⟩
      first | refine ⟨k + 1, ?_, ?_, ?_, ?_, ?_⟩ | ((repeat apply Exists.intro); refine ⟨⟨k + 1, ?_, ?_, ?_, ?_, ?_⟩, rfl⟩)
      · omega
      · omega
      · go_num
      · exact HB3.out
      · have := HO3.out
        rw [hsub, HFR.out] at this
        rw [outL_take mod base L due k hk1 hlt]
        exact this
    · obtain rfl : k = L.length := by omega
      have hdec : decide ((L.length : Int) < (L.length : Int)) = false := by simp
      have c3 : wr.cell? ⟨g, 3, none⟩ = some (.int .i64 due) := (Blk.cell (blk_below HB.out HBE.out) 3).trans rfl
      have f3 := Blk.frozen (blk_below HB.out HBE.out) 3
      go_wp2_with fail
      go_ret
      have HBw := Blk.set (blk_below HB.out HBE.out) 3 (.int .i64 (L.length : Int))
      have h1 := q_far HO.out (p := ⟨g, 3, none⟩) (fun q hq e => by have := (q_typed HO.out q hq).1; simp at e; omega) (.int .i64 (L.length : Int))
      rw [List.take_of_length_le (Nat.le_of_eq (outL_len mod base L due))] at h1
      have h2 := q_far (p := ⟨g, 3, none⟩) (q_below HQ.out HBE.out) (fun q hq => q_ne_blk HQ.out HB.out (by decide) q hq) (.int .i64 (L.length : Int))
      exact ⟨u3, rfl, h1, ⟨HBw, h2⟩, (Only.of_below HBE.out).set1 3 _⟩
end Go.Proofs.Ytlhpfhicggdnpaa.Slide
