/-
  A sender, a receiver, a counter, a list of received bodies: what each operation of the protocol does to all of them.
-/
import Derived.Test.YtlhpfhicggdnpaaWindow
namespace Go.Proofs.Ytlhpfhicggdnpaa.Slide
open Go.RowKit Go.Proofs.YtlhpfhicggdnpaaW.PrintWords Go.Proofs.Ytlhpfhicggdnpaa.Xm Go.Proofs.Ytlhpfhicggdnpaa.CrcN Go.Proofs.Ytlhpfhicggdnpaa.Crc Go.Proofs.Ytlhpfhicggdnpaa.Within

/-- Two values own different blocks. -/
def Dis (v u : Value) : Prop := ∀ k, v.ownBlock = some k → u.ownBlock ≠ some k
theorem Dis.symm {v u : Value} (h : Dis v u) : Dis u v := fun k hu hv => h k hv hu
theorem Dis.grow {v v' u : Value} {N : Nat} (h : Dis v u) (hv : v'.ownBlock = v.ownBlock ∨ ∃ b, v'.ownBlock = some b ∧ N ≤ b) (hu : ∀ k, u.ownBlock = some k → k < N) : Dis v' u := by
  intro k h1 h2
  rcases hv with e | ⟨b, e, hb⟩
  · exact h k (e ▸ h1) h2
  · rw [e] at h1
    injection h1 with h1
    subst h1
    exact absurd (hu _ h2) (by omega)
theorem Dis.new {v u : Value} {N : Nat} (hv : ∀ k, v.ownBlock = some k → N ≤ k) (hu : ∀ k, u.ownBlock = some k → k < N) : Dis v u := fun k h1 h2 => by
  have := hv k h1; have := hu k h2; omega

/-- The fixed blocks of a session: sender, receiver, counter; all rows lie from B on. -/
structure Fixed (w0 : World) (B g h bu bl : Nat) : Prop where
  gB : g < B
  hB : h < B
  uB : bu < B
  gh : g ≠ h
  gu : g ≠ bu
  hu : h ≠ bu
  g0 : w0.heap.size ≤ g
  h0 : w0.heap.size ≤ h
  u0 : w0.heap.size ≤ bu
  lB : bl < B
  lg : bl ≠ g
  lh : bl ≠ h
  lu : bl ≠ bu
/-- The whole state. -/
structure DW (w0 w : World) (B g h bu bl : Nat) (ls : ByteArray) (mod base : Nat) (L : List ByteArray) (due next used : Nat) (lv gv : Value) (G : List ByteArray) : Prop where
  fix : Fixed w0 B g h bu bl
  snd : IsSnd w g mod base L due lv
  lvB : ∀ k, lv.ownBlock = some k → B ≤ k
  rcv : IsRcv w h mod next
  cnt : Blk w bu #[.int .i64 used] 3
  str : Blk w bl #[.string ls] 9
  got : QRow w B 9 1 gv G.length (strs G)
  dis : Dis lv gv
  big : B ≤ w.heap.size
  old : Below w0.heap.size w0 w

section
variable {w0 w : World} {B g h bu bl mod base due next used : Nat} {ls : ByteArray} {L : List ByteArray} {lv gv : Value} {G : List ByteArray}
theorem DW.gotB (d : DW w0 w B g h bu bl ls mod base L due next used lv gv G) : ∀ k, gv.ownBlock = some k → B ≤ k := fun k hk => (q_typed d.got k hk).1
theorem DW.below {w' : World} (d : DW w0 w B g h bu bl ls mod base L due next used lv gv G) (b : Below w.heap.size w w') : DW w0 w' B g h bu bl ls mod base L due next used lv gv G :=
  ⟨d.fix, snd_below d.snd b, d.lvB, blk_below d.rcv b, blk_below d.cnt b, blk_below d.str b, q_below d.got b, d.dis, Nat.le_trans d.big b.size, d.old.trans (b.mono d.old.size)⟩
theorem DW.drewN (d : DW w0 w B g h bu bl ls mod base L due next used lv gv G) (n : Nat) : DW w0 (w.drewN n) B g h bu bl ls mod base L due next used lv gv G := d.below (pw_below_drewN (Below.refl _ _) n)

/-- The counter was raised. -/
theorem DW.count {w' : World} (d : DW w0 w B g h bu bl ls mod base L due next used lv gv G) (o : Only (· = bu) w w') (u' : Nat) (hb : Blk w' bu #[.int .i64 u'] 3) : DW w0 w' B g h bu bl ls mod base L due next u' lv gv G :=
  ⟨d.fix, ⟨o.blk d.snd.1 d.fix.gu, o.row d.snd.2 (fun k hk e => by have := d.lvB k hk; have := d.fix.uB; omega)⟩, d.lvB, o.blk d.rcv d.fix.hu, hb, o.blk d.str d.fix.lu, o.row d.got (fun k hk e => by have := d.gotB k hk; have := d.fix.uB; omega),
    d.dis, Nat.le_trans d.big o.size, below_only d.old o (fun k hk e => by have := d.fix.u0; omega) d.old.size⟩
/-- The receiver has moved. -/
theorem DW.moved {w' : World} (d : DW w0 w B g h bu bl ls mod base L due next used lv gv G) (o : Only (· = h) w w') (n' : Nat) (hb : IsRcv w' h mod n') : DW w0 w' B g h bu bl ls mod base L due n' used lv gv G :=
  ⟨d.fix, ⟨o.blk d.snd.1 d.fix.gh, o.row d.snd.2 (fun k hk e => by have := d.lvB k hk; have := d.fix.hB; omega)⟩, d.lvB, hb, o.blk d.cnt (Ne.symm d.fix.hu), o.blk d.str d.fix.lh, o.row d.got (fun k hk e => by have := d.gotB k hk; have := d.fix.hB; omega),
    d.dis, Nat.le_trans d.big o.size, below_only d.old o (fun k hk e => by have := d.fix.h0; omega) d.old.size⟩
/-- The sender has moved; its row lies where it lay, or anew. -/
theorem DW.sent {w' : World} (d : DW w0 w B g h bu bl ls mod base L due next used lv gv G) (o : Only (· = g) w w') {base' due' : Nat} {L' : List ByteArray} {lv' : Value} (hs : IsSnd w' g mod base' L' due' lv')
    (hl : lv'.ownBlock = lv.ownBlock ∨ ∀ k, lv'.ownBlock = some k → w.heap.size ≤ k) : DW w0 w' B g h bu bl ls mod base' L' due' next used lv' gv G := by
  have hlv : ∀ k, lv'.ownBlock = some k → B ≤ k := fun k hk => hl.elim (fun e => d.lvB k (e ▸ hk)) (fun e => Nat.le_trans d.big (e k hk))
  have hd : Dis lv' gv := hl.elim (fun e k h1 => d.dis k (e ▸ h1)) (fun e => Dis.new e (fun k hk => q_lt d.got k hk))
  exact ⟨d.fix, hs, hlv, o.blk d.rcv (Ne.symm d.fix.gh), o.blk d.cnt (Ne.symm d.fix.gu), o.blk d.str d.fix.lg, o.row d.got (fun k hk e => by have := d.gotB k hk; have := d.fix.gB; omega),
    hd, Nat.le_trans d.big o.size, below_only d.old o (fun k hk e => by have := d.fix.g0; omega) d.old.size⟩
/-- A body was put. -/
theorem DW.put {w' : World} (d : DW w0 w B g h bu bl ls mod base L due next used lv gv G) {L' : List ByteArray} (p : PutOut w w' g mod base due L' lv) : ∃ lv', DW w0 w' B g h bu bl ls mod base L' due next used lv' gv G := by
  obtain ⟨lv', hs, hl, o⟩ := p
  have ho : ∀ b, b < B → b ≠ g → ¬ (b = g ∨ some b = lv.ownBlock) := fun b hb hne hor => hor.elim hne (fun e => by have := d.lvB b e.symm; omega)
  refine ⟨lv', d.fix, hs, fun k hk => ?_, o.blk d.rcv (ho h d.fix.hB (Ne.symm d.fix.gh)), o.blk d.cnt (ho bu d.fix.uB (Ne.symm d.fix.gu)), o.blk d.str (ho bl d.fix.lB d.fix.lg), o.row d.got (fun k hk hor => ?_), d.dis.grow hl (fun k hk => q_lt d.got k hk), Nat.le_trans d.big o.size,
    below_only d.old o (fun k hk hor => hor.elim (fun e => by have := d.fix.g0; omega) (fun e => by have := d.lvB k e.symm; have := d.fix.gB; have := d.fix.g0; omega)) d.old.size⟩
  · rcases hl with e | ⟨b, e, hb⟩
    · exact d.lvB k (e ▸ hk)
    · rw [e] at hk; injection hk with hk; subst hk; exact Nat.le_trans d.big hb
  · exact hor.elim (fun e => by have := d.gotB k hk; have := d.fix.gB; omega) (fun e => d.dis k e.symm hk)
/-- A body was received. -/
theorem DW.gain {w' : World} (d : DW w0 w B g h bu bl ls mod base L due next used lv gv G) {G' : List ByteArray} {gv' : Value} (o : w.grownBy w' gv.ownBlock) (hq : QRow w' B 9 1 gv' G'.length (strs G'))
    (hl : gv'.ownBlock = gv.ownBlock ∨ ∃ b, gv'.ownBlock = some b ∧ w.heap.size ≤ b) : DW w0 w' B g h bu bl ls mod base L due next used lv gv' G' := by
  have o' := Only.of_grown o
  have ho : ∀ b, b < B → ¬ (some b = gv.ownBlock) := fun b hb e => by have := d.gotB b e.symm; omega
  refine ⟨d.fix, ⟨o'.blk d.snd.1 (ho g d.fix.gB), o'.row d.snd.2 (fun k hk e => d.dis k hk e.symm)⟩, d.lvB, o'.blk d.rcv (ho h d.fix.hB), o'.blk d.cnt (ho bu d.fix.uB), o'.blk d.str (ho bl d.fix.lB), hq, (d.dis.symm.grow hl (fun k hk => q_lt d.snd.2 k hk)).symm, Nat.le_trans d.big o'.size,
    below_only d.old o' (fun k hk e => by have := d.gotB k e.symm; have := d.fix.gB; have := d.fix.g0; omega) d.old.size⟩
/-- Another row has grown, whose block is none of these. -/
theorem DW.aside {w' : World} (d : DW w0 w B g h bu bl ls mod base L due next used lv gv G) {row : Option Nat} (o : w.grownBy w' row) (hr : ∀ k, row = some k → B ≤ k ∧ lv.ownBlock ≠ some k ∧ gv.ownBlock ≠ some k) : DW w0 w' B g h bu bl ls mod base L due next used lv gv G := by
  have o' := Only.of_grown o
  have ho : ∀ b, b < B → ¬ (some b = row) := fun b hb e => by have := (hr b e.symm).1; omega
  exact ⟨d.fix, ⟨o'.blk d.snd.1 (ho g d.fix.gB), o'.row d.snd.2 (fun k hk e => (hr k e.symm).2.1 hk)⟩, d.lvB, o'.blk d.rcv (ho h d.fix.hB), o'.blk d.cnt (ho bu d.fix.uB), o'.blk d.str (ho bl d.fix.lB), o'.row d.got (fun k hk e => (hr k e.symm).2.2 hk), d.dis, Nat.le_trans d.big o'.size,
    below_only d.old o' (fun k hk e => by have := (hr k e.symm).1; have := d.fix.gB; have := d.fix.g0; omega) d.old.size⟩
end

/-! ### numbers -/
section
variable {mod a gn put f x i : Nat}
theorem fresh_iff (hm : mod = 8 ∨ mod = 16) (h1 : a ≤ gn) (h2 : gn ≤ put) (h3 : put ≤ a + (mod - 1)) (h4 : a ≤ f) (h5 : f < put) : f % mod = gn % mod ↔ f = gn := by
  rcases hm with rfl | rfl <;> omega
theorem ack_dist (hm : mod = 8 ∨ mod = 16) (h1 : a ≤ x) (h2 : x ≤ a + (mod - 1)) : (x % mod + mod - a % mod) % mod = x - a := by
  rcases hm with rfl | rfl <;> omega
theorem add_mod' (hm : mod = 8 ∨ mod = 16) : (a % mod + i) % mod = (a + i) % mod := by
  rcases hm with rfl | rfl <;> omega
theorem succ_mod' (hm : mod = 8 ∨ mod = 16) : (a % mod + 1) % mod = (a + 1) % mod := by
  rcases hm with rfl | rfl <;> omega
end
/-- The bodies that are outstanding. -/
def outs (bods : List ByteArray) (a put : Nat) : List ByteArray := (bods.take put).drop a
theorem outs_len {bods : List ByteArray} {a put : Nat} (h : put ≤ bods.length) : (outs bods a put).length = put - a := by
  simp [outs, Nat.min_eq_left h]
theorem outs_get {bods : List ByteArray} {a put i : Nat} (h : a + i < put) : (outs bods a put)[i]? = bods[a + i]? := by
  unfold outs
  rw [List.getElem?_drop, List.getElem?_take, if_pos h]
theorem outs_put {bods : List ByteArray} {a put : Nat} (h : put < bods.length) (ha : a ≤ put) : outs bods a put ++ [bods[put]] = outs bods a (put + 1) := by
  unfold outs
  rw [List.take_succ_eq_append_getElem h, List.drop_append_of_le_length (by simp; omega)]
theorem outs_ack {bods : List ByteArray} {a put x : Nat} (h : a ≤ x) : (outs bods a put).drop (x - a) = outs bods x put := by
  unfold outs
  rw [List.drop_drop]
  congr 1
  omega
theorem outs_mem {bods : List ByteArray} {a put : Nat} {x : ByteArray} (h : x ∈ outs bods a put) : x ∈ bods := List.mem_of_mem_take (List.mem_of_mem_drop h)
theorem outL_at {mod : Nat} (hm : mod = 8 ∨ mod = 16) {bods : List ByteArray} {a put i : Nat} (h : a + i < put) (hp : put ≤ bods.length) : (outL mod (a % mod) (outs bods a put) 0)[i]? = some (sealB (headB 68 ((a + i) % mod) ++ bods[a + i])) := by
  have h1 := outL_get mod (a % mod) (outs bods a put) 0 i (Nat.zero_le _) (by rw [outs_len hp]; omega)
  rw [Nat.sub_zero] at h1
  rw [h1, frameB, add_mod' hm, List.getD, outs_get h, List.getElem?_eq_getElem (by omega)]
  rfl
end Go.Proofs.Ytlhpfhicggdnpaa.Slide
