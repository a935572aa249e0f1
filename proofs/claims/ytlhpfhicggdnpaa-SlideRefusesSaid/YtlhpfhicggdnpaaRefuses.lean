/-
  SlideRefuses: the walk.
-/
import Derived.Test.YtlhpfhicggdnpaaWindow
import Derived.Test.YtlhpfhicggdnpaaSealN
namespace Go.Proofs.Ytlhpfhicggdnpaa.Slide
open Go.RowKit Go.Proofs.YtlhpfhicggdnpaaW.PrintWords Go.Proofs.Ytlhpfhicggdnpaa.Xm Go.Proofs.Ytlhpfhicggdnpaa.CrcN Go.Proofs.Ytlhpfhicggdnpaa.Crc Go.Proofs.Ytlhpfhicggdnpaa.Within

attribute [local go_sem] max2_ints min2_ints max_of2 min_of2

/-- A block that holds the bytes of a string from its beginning on. -/
def BytesAt (w : World) (g : Nat) (s : ByteArray) : Prop := g < w.heap.size ∧ ∀ j (h : j < s.data.toList.length), w.cell? ⟨g, j, none⟩ = some (.int .u8 (s.data.toList[j].toNat : Int)) ∧ w.frozen? ⟨g, j, none⟩ = false
theorem BytesAt.new (W : World) (s : ByteArray) (cap : Nat) (hcap : s.size ≤ cap) : BytesAt (W.drew.alloc (.cells (bytesRow s cap) 5 ((bytesRow s cap).size, (bytesRow s cap).size + 1))) W.heap.size s := by
  refine ⟨by simp, fun j h => ⟨?_, ?_⟩⟩
  · have h1 := World.cell?_alloc_mark W.drew (bytesRow s cap) 5 ((bytesRow s cap).size, (bytesRow s cap).size + 1) j
    rw [show W.drew.heap.size = W.heap.size from rfl] at h1
    rw [h1, bytesRow_at s cap j (by simpa using h)]
    simp
  · have h1 := World.frozen?_alloc_mark W.drew (bytesRow s cap) 5 (bytesRow s cap).size ((bytesRow s cap).size + 1) j
    rw [show W.drew.heap.size = W.heap.size from rfl] at h1
    rw [h1]
    have h2 : (bytesRow s cap).size = s.data.size + (cap - s.size) := by simp [bytesRow]
    have h3 : j < s.data.size := by simpa using h
    simp
    omega
theorem BytesAt.set {w : World} {g : Nat} {s : ByteArray} (h : BytesAt w g s) (i : Nat) (b : UInt8) (hi : i < s.size) : BytesAt (w.setCell ⟨g, i, none⟩ (.int .u8 (b.toNat : Int))) g (setB s i b) := by
  have hl : (setB s i b).data.toList = s.data.toList.set i b := by simp [setB]
  have hi2 : i < s.data.toList.length := by simpa using hi
  refine ⟨by have := h.1; simpa [World.setCell] using this, fun j hj => ?_⟩
  have hj2 : j < s.data.toList.length := by rw [hl, List.length_set] at hj; exact hj
  have hf : (w.setCell ⟨g, i, none⟩ (.int .u8 (b.toNat : Int))).frozen? ⟨g, j, none⟩ = false := by
    rw [World.frozen?_setCell]
    exact (h.2 j hj2).2
  refine ⟨?_, hf⟩
  by_cases e : j = i
  · subst e
    rw [World.cell?_setCell_same _ _ _ (h.2 j hj2).1]
    simp only [hl, List.getElem_set_self]
  · have hne : (⟨g, i, none⟩ : Addr) ≠ ⟨g, j, none⟩ := by intro e2; injection e2 with _ e2 _; exact e e2.symm
    rw [World.cell?_setCell_other (h := hne), (h.2 j hj2).1]
    simp only [hl, List.getElem_set_ne (Ne.symm e)]
theorem BytesAt.str {w : World} {g : Nat} {s : ByteArray} (h : BytesAt w g s) (n cap : Nat) (hn : n = s.size) : (convert 44 9 (.slice (some ⟨g, 0, none⟩) n cap)).run Try.prog w = .ok (.string s) w := by
  subst hn
  have h1 := run_convert_bytes_back (P := Try.prog) w 44 9 5 ⟨g, 0, none⟩ cap s.data.toList Try.underlying44 Try.underlying5 Try.underlying9 (fun j hj => by rw [add_at]; simpa using (h.2 j hj).1)
  simpa using h1

theorem cut_str (s : ByteArray) (hs : s.size ≤ 140737488351232) :
    ∃ t : ByteArray, t.size ≤ 100 ∧ ∀ w : World, Calls Try.prog 13 #[.string s, .int .i64 100] w fun e w' => e = .returned (.string t) ∧ w = w' := by
  refine ⟨⟨(s.data.toList.take 100).toArray⟩, ?_, fun w => (Lag.cut_any s 100 w (by omega) (by omega) (by omega)).mono ?_⟩
  · show (s.data.toList.take 100).toArray.size ≤ 100
    simp
    omega
  · rintro e w' ⟨⟨t, rfl, _, _, h⟩, rfl⟩
    refine ⟨?_, rfl⟩
    congr 2
    apply ByteArray.ext
    apply Array.toList_inj.1
    rw [h]
    rfl

theorem xor_self_ne {a b : UInt8} (h : a ^^^ b = a) : b = 0 := by
  have := congrArg (fun z => a ^^^ z) h
  simpa [← UInt8.xor_assoc] using this

/-- A sender and a receiver that the call has made. -/
def Sess (w0 w : World) (g h base : Nat) (L : List ByteArray) (due next : Nat) : Prop := SndAt w0 w g 16 base L due ∧ IsRcv w h 16 next ∧ h ≠ g ∧ w0.heap.size ≤ h
section
variable {w0 w : World} {g h base due next : Nat} {L : List ByteArray}
theorem Sess.below {w' : World} (k : Sess w0 w g h base L due next) (b : Below w.heap.size w w') : Sess w0 w' g h base L due next := ⟨k.1.below b, blk_below k.2.1 b, k.2.2⟩
theorem s_put (k : Sess w0 w g h base L due next) (s : ByteArray) (hs : s.size ≤ 1500) (hL : L.length < 15) :
    Calls Try.prog 19 #[.pointer (some ⟨g, 0, none⟩), .string s] w fun e w' => e = .returned (.int .i64 0) ∧ Sess w0 w' g h base (L ++ [s]) due next := by
  obtain ⟨⟨lv, h1, h2, h3, h4⟩, k2, k3, k4⟩ := k
  refine (put_ok g 16 base due L lv w h1 s hs (by omega) (by omega)).mono ?_
  rintro e w' ⟨rfl, lv', m1, m2, m3⟩
  refine ⟨rfl, ⟨lv', m1, fun k hk => ?_, below_only h3 m3 (fun k hk hor => hor.elim (fun e => by omega) (fun e => by have := h2 k e.symm; omega)) h3.size, h4⟩, ?_, k3, k4⟩
  · rcases m2 with e | ⟨b, e, hb⟩
    · exact h2 k (e ▸ hk)
    · rw [e] at hk; injection hk with hk; subst hk; exact Nat.le_trans h3.size hb
  · exact m3.blk k2 (fun hor => hor.elim k3 (fun e => q_ne_blk h1.2 k2 (by decide) h e.symm rfl))
def SOut (w0 w w' : World) (g h base : Nat) (L : List ByteArray) (due next : Nat) (e : Ending) : Prop :=
  ∃ A c, e = .returned (.slice A (L.length - due) c) ∧ QRow w' w.heap.size 9 1 (.slice A (L.length - due) c) (L.length - due) (strs (outL 16 base L due)) ∧ Sess w0 w' g h base L L.length next
theorem s_out (k : Sess w0 w g h base L due next) (hb : base < 16) (hL : L.length < 16) (hd : due ≤ L.length) (hs : ∀ x ∈ L, x.size ≤ 1500) :
    Calls Try.prog 21 #[.pointer (some ⟨g, 0, none⟩)] w fun e w' => SOut w0 w w' g h base L due next e := by
  obtain ⟨⟨lv, h1, h2, h3, h4⟩, k2, k3, k4⟩ := k
  refine (out_any g 16 base due L lv w h1 (by omega) (by omega) hb hL hd hs).mono ?_
  rintro e w' ⟨v, rfl, m1, m2, m3⟩
  obtain ⟨A, c, rfl, _⟩ := q_slice m1
  exact ⟨A, c, rfl, m1, ⟨lv, m2, h2, below_only h3 m3 (fun k hk e => by subst e; omega) h3.size, h4⟩, m3.blk k2 k3, k3, k4⟩
theorem s_in (k : Sess w0 w g h base L due next) (hn : next < 16) (s : ByteArray) (hs : s.size ≤ 1500) :
    Calls Try.prog 25 #[.pointer (some ⟨h, 0, none⟩), .string (sealB (headB 68 next ++ s))] w fun e w' => e = .returned (.tuple #[.string s, .bool true, .string (sealB (headB 65 ((next + 1) % 16))), .int .i64 0]) ∧ Sess w0 w' g h base L due ((next + 1) % 16) := by
  obtain ⟨⟨lv, h1, h2, h3, h4⟩, k2, k3, k4⟩ := k
  refine (in_fresh h 16 next w k2 (by omega) (by omega) hn s hs).mono ?_
  rintro e w' ⟨rfl, m1, m2⟩
  refine ⟨rfl, ⟨lv, ⟨m2.blk h1.1 (Ne.symm k3), m2.row h1.2 (fun k hk e => q_ne_blk h1.2 k2 (by decide) k hk e)⟩, h2, below_only h3 m2 (fun k hk e => by subst e; omega) h3.size, h4⟩, m1, k3, k4⟩
theorem s_ack (k : Sess w0 w g h base L due next) (m : Nat) (hm : m < 16) (hbm : base < 16) (n : Nat) (hn : n = (m + 16 - base) % 16) (ho : 0 < n) (ho2 : n ≤ L.length) (hL : L.length < 16) (hd : due ≤ L.length) :
    Calls Try.prog 22 #[.pointer (some ⟨g, 0, none⟩), .string (sealB (headB 65 m))] w fun e w' => e = .returned (.int .i64 0) ∧ Sess w0 w' g h m (L.drop n) (due - n) next := by
  obtain ⟨⟨lv, h1, h2, h3, h4⟩, k2, k3, k4⟩ := k
  refine (ack_ok g 16 base due L lv w h1 m hm (by omega) hbm n hn ho ho2 hL hd).mono ?_
  rintro e w' ⟨rfl, lv', m1, m2, m3⟩
  exact ⟨rfl, ⟨lv', m1, fun k hk => Nat.le_trans h3.size (m2 k hk), below_only h3 m3 (fun k hk e => by subst e; omega) h3.size, h4⟩, m3.blk k2 k3, k3, k4⟩
end

set_option maxHeartbeats 1600000 in
set_option maxRecDepth 100000 in
theorem slideRefuses_walk (body : ByteArray) (hbody : body.size ≤ 140737488351232) (a : Int) (c : UInt8) (w : World) :
    Calls Try.prog 6 #[.string body, .int .i64 a, .int .u8 (c.toNat : Int)] w fun e w' => e = .returned (.bool true) ∧ Below w.heap.size w w' := by
  obtain ⟨s, hs, hcut⟩ := cut_str body hbody
  have HCUT := Lib.hid hcut
  clear hcut
  by_cases hc : c = 0
  · subst hc
    go_enter Try.func6, Try.ntmps6
    go_wp2_with fail
    refine (slideWorks_any _).mono ?_
    rintro e w1 ⟨rfl, hb1⟩
    have HB1 := Lib.hid hb1
    clear hb1
    go_wp2_with fail
    refine (slideWorks_any _).mono ?_
    rintro e w2 ⟨rfl, hb2⟩
    have HB2 := Lib.hid hb2
    clear hb2
    go_wp2_with fail
    go_ret
    exact ⟨rfl, HB1.out.trans (HB2.out.mono HB1.out.size)⟩
  · have hc0 : ((c.toNat : Int) == 0) = false := by
      simp
      intro h
      exact hc (UInt8.toNat_inj.1 (by simpa using h))
    go_enter Try.func6, Try.ntmps6
    go_wp2_with fail
    refine (slideWorks_any _).mono ?_
    rintro e w1 ⟨rfl, hb1⟩
    have HB1 := Lib.hid hb1
    clear hb1
    go_wp2_with fail
    refine (newSender_any 16 _ (.inr rfl)).mono ?_
    rintro e w2 ⟨rfl, rfl⟩
    have HS := Lib.hid (SndAt.new w w1 HB1.out 16)
    have hg1 := HB1.out.size
    have hsz2 : (w1.alloc (.cells #[.int .i64 (16 : Nat), .int .i64 0, .slice none 0 0, .int .i64 0] 62)).heap.size = w1.heap.size + 1 := by simp
    generalize hw2 : w1.alloc _ = w2 at *
    clear hw2
    generalize w1.heap.size = g at *
    go_wp2_with fail
    refine (newReceiver_any 16 _ (.inr rfl)).mono ?_
    rintro e w3 ⟨rfl, rfl⟩
    have HS3 := Lib.hid (HS.out.alloc (.cells #[.int .i64 (16 : Nat), .int .i64 0] 67))
    have HR3 := Lib.hid (rcv_new w2 16)
    generalize hw3 : w2.alloc _ = w3 at *
    clear hw3
    rw [hsz2] at *
    have HK := Lib.hid (show Sess w w3 g (g + 1) 0 [] 0 0 from ⟨HS3.out, HR3.out, by omega, by omega⟩)
    clear hsz2
    go_wp2_with fail
    refine (HCUT.out _).mono ?_
    rintro e w3' ⟨rfl, rfl⟩
    go_wp2_with fail
    refine (s_put HK.out s (by omega) (by decide)).mono ?_
    rintro e w4 ⟨rfl, k4⟩
    have HK4 := Lib.hid k4
    clear k4
    go_wp2_with fail
    refine (s_out HK4.out (by omega) (by simp) (by simp) (by intro x hx; simp at hx; subst hx; omega)).mono ?_
    rintro e w5 ⟨A5, c5, rfl, q5, k5⟩
    have HK5 := Lib.hid k5
    rw [List.nil_append, outL_one] at q5
    obtain ⟨ob, oo, oc, ho1, ho2, ho3, ho4, ho5, hocells, hofr, hocur⟩ := q_form q5 (Nat.zero_lt_one)
    injection ho1 with hA5 _ hc5
    subst hA5; subst hc5
    have o0 : w5.cell? ⟨ob, oo, none⟩ = some (.string (frameB 16 0 s)) := by have := hocells 0 (Nat.zero_lt_one); simpa [strs] using this
    clear k5 q5 hocells hofr hocur
    obtain ⟨t, ht⟩ : ∃ t, t = frameB 16 0 s := ⟨_, rfl⟩
    have hts : t.size = s.size + 6 := by
      rw [ht, frameB, sealB_size, ByteArray.size_append]
      show 2 + s.size + 4 = _
      omega
    rw [← ht] at o0
    have HT := Lib.hid ht
    clear ht
    obtain ⟨cap, hcap⟩ : ∃ cap, cap = grownCap w5 t.size 0 5 := ⟨_, rfl⟩
    have hcg : t.size ≤ cap := by rw [hcap]; exact grownCap_ge _ _ _ _
    have hcv := run_bytes_of_string (P := Try.prog) w5 9 44 5 t Try.underlying9 Try.underlying44 Try.underlying5
    rw [← hcap] at hcv
    have HBA := Lib.hid (BytesAt.new w5 t cap hcg)
    have hb6 : Below w5.heap.size w5 (w5.drew.alloc (.cells (bytesRow t cap) 5 ((bytesRow t cap).size, (bytesRow t cap).size + 1))) := below_alloc (below_drew (Below.refl _ _)) _
    have HK6 := Lib.hid (HK5.out.below hb6)
    have o6 := pw_cell_below hb6 o0
    have hsz6 : (w5.drew.alloc (.cells (bytesRow t cap) 5 ((bytesRow t cap).size, (bytesRow t cap).size + 1))).heap.size = w5.heap.size + 1 := by simp
    generalize (w5.drew.alloc (.cells (bytesRow t cap) 5 ((bytesRow t cap).size, (bytesRow t cap).size + 1))) = w6 at *
    have HB6 := Lib.hid hb6
    clear hb6 hcap
    go_wp2_with fail
    obtain ⟨i, hi, hil⟩ : ∃ i : Nat, wi a ((s.size : Int) + 6) = (i : Int) ∧ i < s.size + 6 := by
      have := wi_bd a ((s.size : Int) + 6) (by omega)
      exact ⟨(wi a ((s.size : Int) + 6)).toNat, by omega, by omega⟩
    refine (within_any a ((s.size : Int) + 6) _ (by omega) (by omega)).mono ?_
    rw [hi]
    rintro e w6' ⟨rfl, rfl⟩
    have hi0 : (0 : Int) ≤ (i : Int) := by omega
    have hi1 : (i : Int) < (s.size : Int) + 6 := by omega
    have hit : i < t.data.toList.length := by simpa [hts] using hil
    obtain ⟨tb, htb⟩ : ∃ tb, tb = t.data.toList[i] := ⟨_, rfl⟩
    obtain ⟨nb, hnb⟩ : ∃ nb, nb = tb ^^^ c := ⟨_, rfl⟩
    have ck : w6.cell? ⟨w5.heap.size, i, none⟩ = some (.int .u8 (tb.toNat : Int)) := by rw [htb]; exact (HBA.out.2 i hit).1
    have fk := (HBA.out.2 i hit).2
    have hxor : bits BinOp.xor IntKind.u8 (tb.toNat : Int) (c.toNat : Int) = (nb.toNat : Int) := by
      rw [u8_xor_nat _ _ (UInt8.toNat_lt tb) (UInt8.toNat_lt c), hnb, UInt8.toNat_xor]
    have hset := HBA.out.set i nb (by omega)
    have hcv7 := hset.str (s.size + 6) cap (by rw [setB_size]; omega)
    have HSET := Lib.hid hset
    have HTB := Lib.hid htb
    have HNB := Lib.hid hnb
    have hbad : sealB (front (setB t i nb)) ≠ setB t i nb := by
      have h1 := seal_set (headB 68 0 ++ s) i (by rw [ByteArray.size_append]; show i < 2 + s.size + 4; omega) nb
      rw [show sealB (headB 68 0 ++ s) = t from HT.out.symm] at h1
      refine h1 ?_
      rw [List.getElem?_eq_getElem hit, ← htb, hnb]
      intro e
      injection e with e
      exact hc (xor_self_ne e.symm)
    have HBAD := Lib.hid hbad
    clear hset htb hnb hcv hbad
    go_wp2_with fail
    refine (in_sum (g + 1) _ (setB t i nb) (by rw [setB_size]; omega) (by rw [setB_size]; omega) HBAD.out).mono ?_
    rintro e w8 ⟨rfl, hb8⟩
    have hb58 : Below w5.heap.size w5 w8 := (HB6.out.setCell (Nat.le_refl _) _).trans (hb8.mono (by simp [World.setCell]; omega))
    have HK8 := Lib.hid (HK5.out.below hb58)
    have o8 := pw_cell_below hb58 o0
    clear ck fk hxor hcv7 hb8 hb58 o0 o6 hi0 hi1 hi hil hit hcg hts hsz6 HSET HTB HNB HBAD HBA HK6 HB6
    go_wp2_with fail
    have hin := s_in HK8.out (by omega) s (by omega)
    rw [show sealB (headB 68 0 ++ s) = t from HT.out.symm, show (0 + 1) % 16 = 1 from rfl] at hin
    refine hin.mono ?_
    obtain ⟨u, hu⟩ : ∃ u, u = sealB (headB 65 1) := ⟨_, rfl⟩
    have hus : u.size = 6 := by rw [hu, sealB_size]; rfl
    rw [← hu]
    rintro e w9 ⟨rfl, k9⟩
    have HK9 := Lib.hid k9
    have HU := Lib.hid hu
    have hss := str_same s
    clear k9 hin hu o8
    go_wp2_with fail
    refine (HCUT.out _).mono ?_
    rintro e w9' ⟨rfl, rfl⟩
    obtain ⟨cap2, hcap2⟩ : ∃ cap, cap = grownCap w9 u.size 0 5 := ⟨_, rfl⟩
    have hcg2 : u.size ≤ cap2 := by rw [hcap2]; exact grownCap_ge _ _ _ _
    have hcv2 := run_bytes_of_string (P := Try.prog) w9 9 44 5 u Try.underlying9 Try.underlying44 Try.underlying5
    rw [← hcap2] at hcv2
    have HBA2 := Lib.hid (BytesAt.new w9 u cap2 hcg2)
    have hb10 : Below w9.heap.size w9 (w9.drew.alloc (.cells (bytesRow u cap2) 5 ((bytesRow u cap2).size, (bytesRow u cap2).size + 1))) := below_alloc (below_drew (Below.refl _ _)) _
    have HB10 := Lib.hid hb10
    have hsz10 : (w9.drew.alloc (.cells (bytesRow u cap2) 5 ((bytesRow u cap2).size, (bytesRow u cap2).size + 1))).heap.size = w9.heap.size + 1 := by simp
    generalize (w9.drew.alloc (.cells (bytesRow u cap2) 5 ((bytesRow u cap2).size, (bytesRow u cap2).size + 1))) = w10 at *
    clear hb10 hcap2
    go_wp2_with fail
    obtain ⟨j, hj, hjl⟩ : ∃ j : Nat, wi a 6 = (j : Int) ∧ j < 6 := by
      have := wi_bd a 6 (by omega)
      exact ⟨(wi a 6).toNat, by omega, by omega⟩
    refine (within_any a 6 _ (by omega) (by omega)).mono ?_
    rw [hj]
    rintro e w10' ⟨rfl, rfl⟩
    have hj0 : (0 : Int) ≤ (j : Int) := by omega
    have hj1 : (j : Int) < 6 := by omega
    have hju : j < u.data.toList.length := by simpa [hus] using hjl
    obtain ⟨ub, hub⟩ : ∃ ub, ub = u.data.toList[j] := ⟨_, rfl⟩
    obtain ⟨vb, hvb⟩ : ∃ vb, vb = ub ^^^ c := ⟨_, rfl⟩
    have ck : w10.cell? ⟨w9.heap.size, j, none⟩ = some (.int .u8 (ub.toNat : Int)) := by rw [hub]; exact (HBA2.out.2 j hju).1
    have fk := (HBA2.out.2 j hju).2
    have hxor : bits BinOp.xor IntKind.u8 (ub.toNat : Int) (c.toNat : Int) = (vb.toNat : Int) := by
      rw [u8_xor_nat _ _ (UInt8.toNat_lt ub) (UInt8.toNat_lt c), hvb, UInt8.toNat_xor]
    have hset := HBA2.out.set j vb (by omega)
    have hcv7 := hset.str 6 cap2 (by rw [setB_size]; omega)
    have hbad : sealB (front (setB u j vb)) ≠ setB u j vb := by
      have h1 := seal_set (headB 65 1) j (by show j < 2 + 4; omega) vb
      rw [show sealB (headB 65 1) = u from HU.out.symm] at h1
      refine h1 ?_
      rw [List.getElem?_eq_getElem hju, ← hub, hvb]
      intro e
      injection e with e
      exact hc (xor_self_ne e.symm)
    have HBAD := Lib.hid hbad
    clear hset hub hvb hcv2 hbad
    go_wp2_with fail
    obtain ⟨lv, ks, _⟩ := HK9.out.1
    have hbW : Below w9.heap.size w9 (w10.setCell ⟨w9.heap.size, j, none⟩ (.int .u8 (vb.toNat : Int))) := HB10.out.setCell (Nat.le_refl _) _
    refine (ack_sum g 16 0 _ _ lv _ (snd_below ks hbW) (setB u j vb) (by rw [setB_size]; omega) (by rw [setB_size]; omega) HBAD.out).mono ?_
    rintro e w11 ⟨rfl, hb11⟩
    have HK11 := Lib.hid (HK9.out.below (hbW.trans (hb11.mono (by simp [World.setCell]; omega))))
    clear hbW hb11 ks ck fk hxor hcv7 hcg2 hsz10 hj hjl hj0 hj1 hju
    go_wp2_with fail
    refine (at_left HK11.out.1).mono ?_
    rintro e w11' ⟨rfl, rfl⟩
    go_wp2_with fail
    have hack := s_ack HK11.out 1 (by omega) (by omega) 1 (by decide) (by omega) (by simp) (by simp) (by simp)
    rw [show sealB (headB 65 1) = u from HU.out.symm] at hack
    refine hack.mono ?_
    rintro e w12 ⟨rfl, k12⟩
    have HK12 := Lib.hid k12
    clear hack k12
    go_wp2_with fail
    refine (at_left HK12.out.1).mono ?_
    rintro e w12' ⟨rfl, rfl⟩
    go_wp2_with fail
    have hold := at_old HK12.out.1 1 (by omega) (by omega) (by omega) 0 (by decide) (.inl rfl)
    rw [show sealB (headB 65 1) = u from HU.out.symm] at hold
    refine hold.mono ?_
    rintro e w13 ⟨rfl, k13, -⟩
    have HB13 := Lib.hid k13.base
    clear hold k13
    go_wp2_with fail
    go_ret
    exact ⟨rfl, HB13.out⟩

theorem slideRefuses_row (w : World) (body : ByteArray) (hbody : body.size ≤ 140737488351232) (a : Int) (_ : (Lit.int .i64 a).wf = true) (c : Int) (hc : (Lit.int .u8 c).wf = true) :
    Calls Try.prog 6 #[.string body, .int .i64 a, .int .u8 c] w fun e w' => e = .returned (.bool true) ∧ Below w.heap.size w w' := by
  have h : 0 ≤ c ∧ c ≤ 255 := by simpa [Lit.wf, IntKind.min, IntKind.max, IntKind.signed, IntKind.bits] using hc
  have h2 : c = ((UInt8.ofNat c.toNat).toNat : Int) := by simp; omega
  rw [h2]
  exact slideRefuses_walk body hbody a _ w
end Go.Proofs.Ytlhpfhicggdnpaa.Slide
