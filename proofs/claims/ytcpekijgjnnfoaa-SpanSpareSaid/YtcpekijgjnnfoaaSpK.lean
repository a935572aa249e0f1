/-
  Plain laws: what Check answers; the masks of the used ports.
-/
import Derived.Test.YtcpekijgjnnfoaaSpT4
import Derived.Laws.Entries
namespace Go.Proofs.Ytcpekijgjnnfoaa.Sp
open Go

def bitB (m p : Nat) : Int := bits .and .i64 ((m : Int) / 2 ^ p) 1
def orB (m p : Nat) : Int := bits .or .i64 (m : Int) (2 ^ p)
set_option maxRecDepth 100000 in
theorem bits_fact : ∀ m : Fin 256, ∀ p : Fin 8, (bitB m p = 0 ∨ bitB m p = 1) ∧ 0 ≤ orB m p ∧ orB m p < 256 ∧ ∀ q : Fin 8, bitB (orB m p).toNat q = if q = p then 1 else bitB m q := by decide +kernel
theorem bit_cases {m p : Nat} (hm : m < 256) (hp : p < 8) : bitB m p = 0 ∨ bitB m p = 1 := (bits_fact ⟨m, hm⟩ ⟨p, hp⟩).1
theorem or_range {m p : Nat} (hm : m < 256) (hp : p < 8) : 0 ≤ orB m p ∧ orB m p < 256 := ⟨(bits_fact ⟨m, hm⟩ ⟨p, hp⟩).2.1, (bits_fact ⟨m, hm⟩ ⟨p, hp⟩).2.2.1⟩
theorem bit_or {m p q : Nat} (hm : m < 256) (hp : p < 8) (hq : q < 8) : bitB (orB m p).toNat q = if q = p then 1 else bitB m q := by
  have := (bits_fact ⟨m, hm⟩ ⟨p, hp⟩).2.2.2 ⟨q, hq⟩
  simpa using this

/-- The codes of a network's faults: of the identifiers. -/
def idBad (ids : List Int) (i : Nat) : Int := if (ids.getD i 0) < 0 ∨ (ids.getD i 0) > 65535 then 1 else if ids.getD i 0 ∈ ids.take i then 6 else 0
def idsBad (ids : List Int) : Nat → Int
  | 0 => 0
  | k + 1 => if idsBad ids k = 0 then idBad ids k else idsBad ids k
theorem idsBad_zero {ids : List Int} : ∀ {k : Nat}, idsBad ids k = 0 → ∀ j, j < k → idBad ids j = 0
  | 0, _, j, h => absurd h (by omega)
  | k + 1, h, j, hj => by
    unfold idsBad at h
    split at h
    · rename_i h0
      by_cases e : j = k
      · subst e; exact h
      · exact idsBad_zero h0 j (by omega)
    · rename_i h0
      exact absurd h h0
theorem idsBad_keep {ids : List Int} {k : Nat} (h : idsBad ids k ≠ 0) : ∀ n, k ≤ n → idsBad ids n = idsBad ids k := by
  intro n
  induction n with
  | zero => intro hn; obtain rfl : k = 0 := (by omega); rfl
  | succ n ih =>
    intro hn
    by_cases e : k = n + 1
    · rw [e]
    · have := ih (by omega)
      show (if idsBad ids n = 0 then idBad ids n else idsBad ids n) = _
      rw [this, if_neg h]
/-- Of the links. -/
def keysOf (L : List Link) : List (Int × Int) := (rawE L).map keyE
def linkBad (n : Nat) (L : List Link) (l : Link) : Int :=
  if l.a < 0 ∨ (n : Int) ≤ l.a ∨ l.b < 0 ∨ (n : Int) ≤ l.b then 1
  else if l.pa < 0 ∨ 8 ≤ l.pa ∨ l.pb < 0 ∨ 8 ≤ l.pb ∨ l.cost < 1 ∨ 1000 < l.cost then 10
  else if l.a = l.b then 12
  else if (l.a, l.pa) ∈ keysOf L ∨ (l.b, l.pb) ∈ keysOf L then 6
  else 0
def linksBad (n : Nat) (L : List Link) : Nat → Int
  | 0 => 0
  | k + 1 => if linksBad n L k = 0 then linkBad n (L.take k) (L.getD k ⟨0, 0, 0, 0, 0⟩) else linksBad n L k
theorem linksBad_keep {n : Nat} {L : List Link} {k : Nat} (h : linksBad n L k ≠ 0) : ∀ m, k ≤ m → linksBad n L m = linksBad n L k := by
  intro m
  induction m with
  | zero => intro hn; obtain rfl : k = 0 := (by omega); rfl
  | succ m ih =>
    intro hn
    by_cases e : k = m + 1
    · rw [e]
    · have := ih (by omega)
      show (if linksBad n L m = 0 then _ else linksBad n L m) = _
      rw [this, if_neg h]
theorem linksBad_zero {n : Nat} {L : List Link} : ∀ {k : Nat}, linksBad n L k = 0 → ∀ j, j < k → linkBad n (L.take j) (L.getD j ⟨0, 0, 0, 0, 0⟩) = 0
  | 0, _, j, h => absurd h (by omega)
  | k + 1, h, j, hj => by
    unfold linksBad at h
    split at h
    · rename_i h0
      by_cases e : j = k
      · subst e; exact h
      · exact linksBad_zero h0 j (by omega)
    · rename_i h0
      exact absurd h h0
theorem linkBad_zero {n : Nat} {L : List Link} {l : Link} : linkBad n L l = 0 ↔ LinkOk n l ∧ (l.a, l.pa) ∉ keysOf L ∧ (l.b, l.pb) ∉ keysOf L := by
  unfold linkBad
  constructor
  · intro h
    split at h
    · cases h
    · split at h
      · cases h
      · split at h
        · cases h
        · split at h
          · cases h
          · rename_i h1 h2 h3 h4
            exact ⟨⟨by omega, by omega, by omega, by omega, by omega, h3⟩, fun h => h4 (.inl h), fun h => h4 (.inr h)⟩
  · rintro ⟨⟨h1, h2, h3, h4, h5, h6⟩, h7, h8⟩
    rw [if_neg (by omega), if_neg (by omega), if_neg h6, if_neg (by rintro (h | h); exact h7 h; exact h8 h)]
def checkCode (ids : List Int) (L : List Link) : Int :=
  if 16 < ids.length ∨ 48 < L.length then 2 else if idsBad ids ids.length ≠ 0 then idsBad ids ids.length else linksBad ids.length L L.length
theorem getD_at {α : Type} {L : List α} {k : Nat} {x d : α} (h : L[k]? = some x) : L.getD k d = x := by simp [List.getD_eq_getElem?_getD, h]
theorem keysOf_snoc (L : List Link) (l : Link) : keysOf (L ++ [l]) = keysOf L ++ [(l.a, l.pa), (l.b, l.pb)] := by simp [keysOf, rawE, bothE, keyE]
/-- Up to k all is well. -/
theorem links_ok_upto {n : Nat} {L : List Link} : ∀ k, k ≤ L.length → (linksBad n L k = 0 ↔ (∀ l ∈ L.take k, LinkOk n l) ∧ (keysOf (L.take k)).Nodup)
  | 0, _ => by simp [linksBad, keysOf, rawE]
  | k + 1, hk => by
    have ih := links_ok_upto (n := n) (L := L) k (by omega)
    have hlt : k < L.length := by omega
    obtain ⟨x, hx⟩ : ∃ x, L[k]? = some x := ⟨L[k], List.getElem?_eq_getElem hlt⟩
    have hxe : L[k] = x := (List.getElem?_eq_some_iff.1 hx).2
    have ht : L.take (k + 1) = L.take k ++ [x] := by rw [List.take_succ_eq_append_getElem hlt, hxe]
    have hs : linksBad n L (k + 1) = if linksBad n L k = 0 then linkBad n (L.take k) x else linksBad n L k := by
      show (if linksBad n L k = 0 then linkBad n (L.take k) (L.getD k _) else linksBad n L k) = _
      rw [getD_at hx]
    rw [hs, ht, keysOf_snoc]
    constructor
    · intro h
      split at h
      · rename_i h0
        obtain ⟨i1, i2⟩ := ih.1 h0
        obtain ⟨j1, j2, j3⟩ := linkBad_zero.1 h
        refine ⟨fun l hl => ?_, ?_⟩
        · rcases List.mem_append.1 hl with hl | hl
          · exact i1 l hl
          · obtain rfl : l = x := by simpa using hl
            exact j1
        · rw [List.nodup_append]
          refine ⟨i2, ?_, ?_⟩
          · have := j1.loop
            simp only [List.nodup_cons, List.mem_singleton, List.not_mem_nil, not_false_eq_true, List.nodup_nil, and_true]
            intro e
            injection e with e1 e2
            exact this e1
          · intro a ha b hb e
            subst e
            simp only [List.mem_cons, List.not_mem_nil, or_false] at hb
            rcases hb with rfl | rfl
            · exact j2 ha
            · exact j3 ha
      · rename_i h0
        exact absurd h h0
    · rintro ⟨h1, h2⟩
      rw [List.nodup_append] at h2
      obtain ⟨h2, _, h3⟩ := h2
      have h0 : linksBad n L k = 0 := ih.2 ⟨fun l hl => h1 l (List.mem_append.2 (.inl hl)), h2⟩
      rw [if_pos h0]
      exact linkBad_zero.2 ⟨h1 x (by simp), fun h => h3 _ h _ (by simp) rfl, fun h => h3 _ h _ (by simp) rfl⟩
theorem ids_ok_upto {ids : List Int} : ∀ k, k ≤ ids.length → (idsBad ids k = 0 ↔ (∀ x ∈ ids.take k, 0 ≤ x ∧ x ≤ 65535) ∧ (ids.take k).Nodup)
  | 0, _ => by simp [idsBad]
  | k + 1, hk => by
    have ih := ids_ok_upto (ids := ids) k (by omega)
    have hlt : k < ids.length := by omega
    obtain ⟨x, hx⟩ : ∃ x, ids[k]? = some x := ⟨ids[k], List.getElem?_eq_getElem hlt⟩
    have hxe : ids[k] = x := (List.getElem?_eq_some_iff.1 hx).2
    have ht : ids.take (k + 1) = ids.take k ++ [x] := by rw [List.take_succ_eq_append_getElem hlt, hxe]
    have hb : idBad ids k = if x < 0 ∨ x > 65535 then 1 else if x ∈ ids.take k then 6 else 0 := by unfold idBad; rw [getD_at hx]
    have hs : idsBad ids (k + 1) = if idsBad ids k = 0 then idBad ids k else idsBad ids k := rfl
    rw [hs, hb, ht]
    constructor
    · intro h
      split at h
      · rename_i h0
        obtain ⟨i1, i2⟩ := ih.1 h0
        split at h
        · cases h
        · split at h
          · cases h
          · rename_i h1 h2
            refine ⟨fun l hl => ?_, ?_⟩
            · rcases List.mem_append.1 hl with hl | hl
              · exact i1 l hl
              · obtain rfl : l = x := by simpa using hl
                omega
            · rw [List.nodup_append]
              refine ⟨i2, by simp, fun a ha b hb e => ?_⟩
              obtain rfl : b = x := by simpa using hb
              exact h2 (e ▸ ha)
      · rename_i h0
        exact absurd h h0
    · rintro ⟨h1, h2⟩
      rw [List.nodup_append] at h2
      obtain ⟨h2, _, h3⟩ := h2
      have h0 : idsBad ids k = 0 := ih.2 ⟨fun l hl => h1 l (List.mem_append.2 (.inl hl)), h2⟩
      rw [if_pos h0]
      have := h1 x (by simp)
      rw [if_neg (by omega), if_neg (fun h => h3 _ h _ (by simp) rfl)]
theorem check_ok {ids : List Int} {L : List Link} : checkCode ids L = 0 ↔ NetOk ids L := by
  have h1 := ids_ok_upto (ids := ids) ids.length (Nat.le_refl _)
  have h2 := links_ok_upto (n := ids.length) (L := L) L.length (Nat.le_refl _)
  rw [List.take_length] at h1 h2
  unfold checkCode
  constructor
  · intro h
    split at h
    · cases h
    · rename_i h0
      split at h
      · rename_i h3
        exact absurd h h3
      · rename_i h3
        obtain ⟨a1, a2⟩ := h1.1 (by simpa using h3)
        obtain ⟨b1, b2⟩ := h2.1 h
        exact ⟨by omega, by omega, a1, a2, b1, b2⟩
  · intro g
    have := g.n16
    have := g.l48
    rw [if_neg (by omega), if_neg (by rw [h1.2 ⟨g.id, g.nodup⟩]; simp), h2.2 ⟨g.link, g.keys⟩]

/-- The masks of the used ports. -/
structure Masks (n : Nat) (L : List Link) (M : List Nat) : Prop where
  len : M.length = n
  lt : ∀ v, v < n → M.getD v 0 < 256
  bit : ∀ v p, v < n → p < 8 → (bitB (M.getD v 0) p = 1 ↔ ((v : Int), (p : Int)) ∈ keysOf L)
theorem masks_start (n : Nat) : Masks n [] (List.replicate n 0) where
  len := by simp
  lt := by
    intro v hv
    rw [getD_at (x := 0) (by simp [hv])]; omega
  bit := by
    intro v p hv hp
    rw [getD_at (x := 0) (by simp [hv])]
    have : ∀ p : Fin 8, bitB 0 p = 0 := by decide +kernel
    have := this ⟨p, hp⟩
    simp only at this
    rw [this]
    simp [keysOf, rawE]
def mark1 (M : List Nat) (v p : Nat) : List Nat := M.set v (orB (M.getD v 0) p).toNat
def mark (M : List Nat) (l : Link) : List Nat := mark1 (mark1 M l.a.toNat l.pa.toNat) l.b.toNat l.pb.toNat
theorem getD_set1 {α : Type} (l : List α) (i j : Nat) (a d : α) (h : i < l.length) : (l.set i a).getD j d = if j = i then a else l.getD j d := by
  split
  · rename_i e
    subst e
    exact getD_set_eq _ _ _ _ h
  · rename_i e
    exact getD_set_ne _ _ _ _ _ e
theorem masks_mark {n : Nat} {L : List Link} {M : List Nat} (h : Masks n L M) {l : Link} (hl : LinkOk n l) : Masks n (L ++ [l]) (mark M l) := by
  have ha := hl.a
  have hb := hl.b
  have hpa := hl.pa
  have hpb := hl.pb
  have hne := hl.loop
  have la : l.a.toNat < n := by omega
  have lb : l.b.toNat < n := by omega
  have q1 := or_range (h.lt _ la) (p := l.pa.toNat) (by omega)
  have q2 := or_range (h.lt _ lb) (p := l.pb.toNat) (by omega)
  have hm : ∀ v, (mark M l).getD v 0 = if v = l.b.toNat then (orB (M.getD l.b.toNat 0) l.pb.toNat).toNat else if v = l.a.toNat then (orB (M.getD l.a.toNat 0) l.pa.toNat).toNat else M.getD v 0 := by
    intro v
    unfold mark mark1
    rw [getD_set1 _ _ _ _ _ (by rw [List.length_set, h.len]; exact lb), getD_set1 _ _ _ _ _ (by rw [h.len]; exact la), getD_set1 _ _ _ _ _ (by rw [h.len]; exact la), if_neg (show ¬ l.b.toNat = l.a.toNat by omega)]
  refine ⟨by simp [mark, mark1, h.len], fun v hv => ?_, fun v p hv hp => ?_⟩
  · rw [hm v]
    split
    · omega
    · split
      · omega
      · exact h.lt v hv
  · have hk : ((v : Int), (p : Int)) ∈ keysOf (L ++ [l]) ↔ ((v : Int), (p : Int)) ∈ keysOf L ∨ (v = l.a.toNat ∧ p = l.pa.toNat) ∨ (v = l.b.toNat ∧ p = l.pb.toNat) := by
      rw [keysOf_snoc, List.mem_append]
      simp only [List.mem_cons, List.not_mem_nil, or_false, Prod.mk.injEq]
      constructor
      · rintro (h | ⟨h1, h2⟩ | ⟨h1, h2⟩)
        · exact .inl h
        · exact .inr (.inl (by omega))
        · exact .inr (.inr (by omega))
      · rintro (h | h | h)
        · exact .inl h
        · exact .inr (.inl (by omega))
        · exact .inr (.inr (by omega))
    rw [hk, hm v, ← h.bit v p hv hp]
    split
    · rename_i e
      subst e
      rw [bit_or (h.lt _ lb) (by omega) hp]
      split
      · rename_i e2
        subst e2
        simp
      · rename_i e2
        have : ¬ l.b.toNat = l.a.toNat := by omega
        simp [e2, this]
    · rename_i e1
      split
      · rename_i e
        subst e
        rw [bit_or (h.lt _ la) (by omega) hp]
        split
        · rename_i e2
          subst e2
          simp
        · rename_i e2
          simp [e2, e1]
      · rename_i e2
        simp [e1, e2]
end Go.Proofs.Ytcpekijgjnnfoaa.Sp
