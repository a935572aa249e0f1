/-
  Plain laws: the order of the links does not matter; a spare link that becomes dearer turns nothing.
-/
import Derived.Test.YtcpekijgjnnfoaaSpT4
namespace Go.Proofs.Ytcpekijgjnnfoaa.Sp
open Go Go.Proofs.Ytcpekijgjnnfoaa.Th

theorem linkOk_iff {n : Nat} {L : List Link} : (∀ l ∈ L, LinkOk n l) ↔ ∀ x ∈ rawE L, EndOk n x := by
  constructor
  · intro h x hx
    obtain ⟨l, hl, rfl | rfl⟩ := mem_raw.1 hx
    · have q := h l hl
      exact ⟨q.a, q.b, q.pa, q.pb, q.cost, q.loop⟩
    · have q := h l hl
      exact ⟨q.b, q.a, q.pb, q.pa, q.cost, fun e => q.loop e.symm⟩
  · intro h l hl
    have q := h (endA l) (mem_raw.2 ⟨l, hl, .inl rfl⟩)
    exact ⟨q.b, q.p, q.port, q.pport, q.cost, q.loop⟩
theorem netOk_perm {ids : List Int} {L M : List Link} (hp : (rawE M).Perm (rawE L)) (g : NetOk ids L) : NetOk ids M where
  n16 := g.n16
  l48 := by
    have := hp.length_eq
    rw [rawE_len, rawE_len] at this
    have := g.l48
    omega
  id := g.id
  nodup := g.nodup
  link := linkOk_iff.2 fun x hx => linkOk_iff.1 g.link x (hp.mem_iff.1 hx)
  keys := (hp.map keyE).nodup_iff.2 g.keys
def swapL (l : Link) : Link := ⟨l.b, l.pb, l.a, l.pa, l.cost⟩
theorem raw_turn : ∀ (L M : List Link), L.length = M.length → (∀ (i : Nat) (l m : Link), L[i]? = some l → M[i]? = some m → m = l ∨ m = swapL l) → (rawE M).Perm (rawE L)
  | [], [], _, _ => List.Perm.refl _
  | [], _ :: _, h, _ => by simp at h
  | _ :: _, [], h, _ => by simp at h
  | l :: L, m :: M, h, hs => by
    have ih := raw_turn L M (by simpa using h) (fun i a b ha hb => hs (i + 1) a b (by simpa using ha) (by simpa using hb))
    have h0 := hs 0 l m rfl rfl
    have e1 : rawE (m :: M) = bothE m ++ rawE M := rfl
    have e2 : rawE (l :: L) = bothE l ++ rawE L := rfl
    rw [e1, e2]
    refine List.Perm.append ?_ ih
    rcases h0 with rfl | rfl
    · exact List.Perm.refl _
    · exact List.Perm.swap _ _ _
theorem raw_reverse (L : List Link) : (rawE L.reverse).Perm (rawE L) := by
  unfold rawE
  induction L with
  | nil => exact List.Perm.refl _
  | cons l L ih =>
    rw [List.reverse_cons, List.flatMap_append, List.flatMap_cons]
    refine List.perm_append_comm.trans ?_
    simp only [List.flatMap_cons, List.flatMap_nil, List.append_nil]
    exact List.Perm.append_left _ ih
/-- Reversed and turned. -/
def turnedL (T : List Bool) (L : List Link) : List Link := L.reverse.mapIdx fun i l => if T.getD i false then swapL l else l
theorem raw_turned (T : List Bool) (L : List Link) : (rawE (turnedL T L)).Perm (rawE L) := by
  refine (raw_turn L.reverse _ (by simp [turnedL]) ?_).trans (raw_reverse L)
  intro i l m hl hm
  unfold turnedL at hm
  rw [List.getElem?_mapIdx, hl] at hm
  simp only [Option.map_some] at hm
  injection hm with hm
  subst hm
  split
  · exact .inr rfl
  · exact .inl rfl
theorem turned_ok {ids : List Int} {L : List Link} (T : List Bool) : NetOk ids (turnedL T L) ↔ NetOk ids L :=
  ⟨netOk_perm (raw_turned T L).symm, netOk_perm (raw_turned T L)⟩

/-- 'open'. -/
def openB (S : List SPort) (b p : Int) : Bool := S.any fun s => s.bridge == b && s.port == p && s.isOpen
theorem openB_of {ids : List Int} {L : List Link} {E : List End} {r k : Nat → Int} (s : Sol ids L E r k) {x : End} (hx : x ∈ E) : openB (statesL ids (treeN ids E) E) x.bridge x.port = (isRp ids E r k x || desig ids r k x) := by
  unfold openB statesL
  rw [List.any_map]
  have hst := s.state hx
  cases h : (isRp ids E r k x || desig ids r k x) with
  | true =>
    rw [h] at hst
    rw [List.any_eq_true]
    exact ⟨x, hx, by simp [Function.comp, hst]⟩
  | false =>
    rw [h] at hst
    rw [List.any_eq_false]
    intro y hy
    have hst2 := s.state hy
    simp only [Function.comp]
    rw [hst2]
    intro hc
    simp only [Bool.and_eq_true, beq_iff_eq] at hc
    obtain ⟨⟨c1, c2⟩, c3⟩ := hc
    have := s.ends.inj s.ok hy hx c1 c2
    subst this
    rw [hst2] at hst
    injection hst with _ _ e
    rw [e] at c3
    cases c3
def spareL (S : List SPort) (m : Int) (l : Link) : Link := if openB S l.a l.pa && openB S l.b l.pb then l else { l with cost := min 1000 (l.cost + m) }
def spareE (S : List SPort) (m : Int) (x : End) : End := if openB S x.bridge x.port && openB S x.peer x.peerPort then x else { x with cost := min 1000 (x.cost + m) }
theorem both_spare (S : List SPort) (m : Int) (l : Link) : bothE (spareL S m l) = (bothE l).map (spareE S m) := by
  unfold spareL bothE spareE
  simp only [List.map_cons, List.map_nil]
  rw [Bool.and_comm (openB S l.b l.pb)]
  split <;> rfl
theorem raw_spare (S : List SPort) (m : Int) (L : List Link) : rawE (L.map (spareL S m)) = (rawE L).map (spareE S m) := by
  unfold rawE
  induction L with
  | nil => rfl
  | cons l L ih => rw [List.map_cons, List.flatMap_cons, List.flatMap_cons, List.map_append, ih, both_spare]
theorem spareE_same (S : List SPort) (m : Int) (x : End) : (spareE S m x).bridge = x.bridge ∧ (spareE S m x).port = x.port ∧ (spareE S m x).peer = x.peer ∧ (spareE S m x).peerPort = x.peerPort := by
  unfold spareE
  split <;> exact ⟨rfl, rfl, rfl, rfl⟩
theorem spareE_cost (S : List SPort) {m : Int} (hm : 0 ≤ m) {x : End} (h : 1 ≤ x.cost ∧ x.cost ≤ 1000) : x.cost ≤ (spareE S m x).cost ∧ (spareE S m x).cost ≤ 1000 := by
  unfold spareE
  split
  · omega
  · simp only; omega
theorem keys_spare (S : List SPort) (m : Int) (E : List End) : (E.map (spareE S m)).map keyE = E.map keyE := by
  rw [List.map_map]
  refine List.map_congr_left fun x _ => ?_
  obtain ⟨h1, h2, _⟩ := spareE_same S m x
  show (_, _) = (_, _)
  rw [h1, h2]
theorem spare_ok {ids : List Int} {L : List Link} (g : NetOk ids L) (S : List SPort) {m : Int} (hm : 0 ≤ m) : NetOk ids (L.map (spareL S m)) where
  n16 := g.n16
  l48 := by rw [List.length_map]; exact g.l48
  id := g.id
  nodup := g.nodup
  link := by
    rw [linkOk_iff, raw_spare]
    intro x hx
    obtain ⟨y, hy, rfl⟩ := List.mem_map.1 hx
    have q := linkOk_iff.1 g.link y hy
    obtain ⟨h1, h2, h3, h4⟩ := spareE_same S m y
    obtain ⟨h5, h6⟩ := spareE_cost S hm q.cost
    exact ⟨by rw [h1]; exact q.b, by rw [h3]; exact q.p, by rw [h2]; exact q.port, by rw [h4]; exact q.pport, by have := q.cost; omega, by rw [h1, h3]; exact q.loop⟩
  keys := by rw [raw_spare, keys_spare]; exact g.keys
theorem bestE_char {h : End → Vec} {l : List End} {y : End} (hy : y ∈ l) (hs : ∀ x ∈ l, x ≠ y → better (h y) (h x) = true) : bestE h l = some y := by
  obtain ⟨z, hz⟩ := bestE_some (h := h) (l := l) (List.ne_nil_of_mem hy)
  have q := bestE_le hz y hy
  by_cases e : z = y
  · rw [hz, e]
  · have := hs z (bestE_mem hz) e
    rw [this] at q
    cases q
theorem spare_ends {ids : List Int} {L : List Link} {E F : List End} (g : NetOk ids L) (h : Ends L E) (S : List SPort) (m : Int) (hF : Ends (L.map (spareL S m)) F) : F = E.map (spareE S m) := by
  refine sorted_unique ?_ hF.sorted ?_ ?_
  · refine hF.perm.trans ?_
    rw [raw_spare]
    exact (h.perm.map _).symm
  · unfold SortedP
    rw [List.pairwise_map]
    refine List.Pairwise.imp ?_ h.sorted
    intro a b hab
    obtain ⟨h1, h2, _⟩ := spareE_same S m a
    obtain ⟨h3, h4, _⟩ := spareE_same S m b
    rw [h1, h2, h3, h4]
    exact hab
  · rw [keys_spare]; exact h.keys g
theorem spare_same {ids : List Int} {L : List Link} {E F : List End} (g : NetOk ids L) (h : Ends L E) {m : Int} (hm : 0 ≤ m) (hF : Ends (L.map (spareL (statesL ids (treeN ids E) E) m)) F) : statesL ids (treeN ids F) F = statesL ids (treeN ids E) E := by
  obtain ⟨r, k, s⟩ := exists_sol g h
  generalize hS : statesL ids (treeN ids E) E = S at *
  have hfe := spare_ends g h S m hF
  have hop : ∀ x ∈ E, openB S x.bridge x.port = (isRp ids E r k x || desig ids r k x) := fun x hx => by rw [← hS]; exact openB_of s hx
  -- the links of the tree stay as they are
  have hrp : ∀ y ∈ E, isRp ids E r k y = true → spareE S m y = y := by
    intro y hy hi
    have h1 := hop y hy
    have h2 := hop (revE y) (h.rev hy)
    rw [s.desig_rev hy, s.rp_desig hy hi] at h2
    rw [hi] at h1
    have h2' : openB S y.peer y.peerPort = true := by
      have : openB S (revE y).bridge (revE y).port = true := by rw [h2]; simp
      exact this
    unfold spareE
    rw [h1, h2']
    simp
  have hrpv : ∀ v, v < ids.length → r v ≠ key ids v → ∃ y ∈ E, y.bridge = (v : Int) ∧ spareE S m y = y ∧ (belD ids E r k v).port = y.port ∧ k v = k y.peer.toNat + y.cost ∧ bestE (heardD ids r k) (endsOf E v) = some y := by
    intro v hv hr
    obtain ⟨y, hy, h1, h2, h3, h4⟩ := s.rootport hv hr
    refine ⟨y, hy, h1, hrp y hy ?_, h2, h3, h4⟩
    unfold isRp
    rw [h1, Int.toNat_natCast, h2]
    simp
  have gd := s.net.good
  have sF : Sol ids (L.map (spareL S m)) F r k := by
    refine ⟨spare_ok g S hm, hF, ⟨s.d.start, fun e he => ?_, fun v hv => ?_⟩⟩
    · rw [hfe] at he
      obtain ⟨y, hy, rfl⟩ := List.mem_map.1 he
      obtain ⟨x, hx, rfl⟩ := List.mem_map.1 hy
      obtain ⟨h1, h2, h3, h4⟩ := spareE_same S m x
      obtain ⟨h5, _⟩ := spareE_cost S hm (h.ok g hx).cost
      have q := s.d.edge (edOf x) (List.mem_map_of_mem hx)
      have q' : le2 (r x.bridge.toNat) (k x.bridge.toNat) (r x.peer.toNat) (k x.peer.toNat + x.cost) := q
      show le2 (r (spareE S m x).bridge.toNat) (k (spareE S m x).bridge.toNat) (r (spareE S m x).peer.toNat) (k (spareE S m x).peer.toNat + (spareE S m x).cost)
      rw [h1, h3]
      unfold le2 at *
      omega
    · by_cases hr : r v = key ids v
      · have h1 := s.d.start v hv
        have h2 := s.d.pos gd v hv
        unfold le2 at h1
        exact .inl ⟨hr, by omega⟩
      · obtain ⟨y, hy, h1, h2, h3, h4, h5⟩ := hrpv v hv hr
        refine .inr ⟨edOf y, ?_, ?_, ?_, h4⟩
        · rw [hfe]
          exact List.mem_map_of_mem (List.mem_map.2 ⟨y, hy, h2⟩)
        · show y.bridge.toNat = v
          omega
        · have := (s.edge hy).1
          rw [h1, Int.toNat_natCast] at this
          exact this
  have hport : ∀ v, v < ids.length → (belD ids F r k v).port = (belD ids E r k v).port := by
    intro v hv
    by_cases hr : r v = key ids v
    · rw [sF.rp_root hv hr, s.rp_root hv hr]
    · obtain ⟨y, hy, h1, h2, h3, h4, h5⟩ := hrpv v hv hr
      rw [h3, belD_port sF.net sF.d hv, if_neg hr]
      have : bestE (heardD ids r k) (endsOf F v) = some y := by
        have hyF : y ∈ endsOf F v := by
          refine List.mem_filter.2 ⟨?_, by simp [h1]⟩
          rw [hfe]
          exact List.mem_map.2 ⟨y, hy, h2⟩
        refine bestE_char hyF fun x' hx' hne => ?_
        obtain ⟨hx1, hx2⟩ := List.mem_filter.1 hx'
        rw [hfe] at hx1
        obtain ⟨x, hx, rfl⟩ := List.mem_map.1 hx1
        obtain ⟨e1, e2, e3, e4⟩ := spareE_same S m x
        have hxv : x ∈ endsOf E v := List.mem_filter.2 ⟨hx, by simpa [e1] using hx2⟩
        have hxy : x ≠ y := by
          intro e
          subst e
          exact hne h2
        have q := bestE_le h5 x hxv
        obtain ⟨e5, _⟩ := spareE_cost S hm (h.ok g hx).cost
        have hid : ¬ (key ids x.peer.toNat = key ids y.peer.toNat ∧ x.peerPort = y.peerPort) := by
          rintro ⟨a1, a2⟩
          have b1 := (h.ok g hx).p
          have b2 := (h.ok g hy).p
          have := key_inj g.nodup (by omega) (by omega) a1
          exact hxy (h.inj_peer g hx hy (by omega) a2)
        rw [nb_iff] at q
        rw [better_iff]
        simp only [heardD, e3, e4] at *
        omega
      rw [this]
  rw [← hS]
  unfold statesL
  conv => lhs; rw [hfe, List.map_map]
  refine List.map_congr_left fun x hx => ?_
  have hxF : spareE S m x ∈ F := by rw [hfe]; exact List.mem_map_of_mem hx
  obtain ⟨e1, e2, e3, e4⟩ := spareE_same S m x
  have q := h.ok g hx
  show stateOf ids (treeN ids (E.map (spareE S m))) (spareE S m x) = _
  rw [← hfe, sF.state hxF, s.state hx]
  have d1 : desig ids r k (spareE S m x) = desig ids r k x := by unfold desig ownD othD; rw [e1, e2, e3, e4]
  have d2 : isRp ids F r k (spareE S m x) = isRp ids E r k x := by
    unfold isRp
    rw [e1, e2, hport _ (by have := q.b; omega)]
  rw [d1, d2, e1, e2]
end Go.Proofs.Ytcpekijgjnnfoaa.Sp
