/-
  Plain laws: networks that Check lets by; the order of the ends; which ports are open; a dearer spare link turns nothing.
-/
import Derived.Test.YtcpekijgjnnfoaaSpT3
namespace Go.Proofs.Ytcpekijgjnnfoaa.Sp
open Go Go.Proofs.Ytcpekijgjnnfoaa.Th

def keyE (x : End) : Int × Int := (x.bridge, x.port)
def SortedP (E : List End) : Prop := E.Pairwise fun x y => ¬ (y.bridge < x.bridge ∨ (y.bridge = x.bridge ∧ y.port < x.port))
structure LinkOk (n : Nat) (l : Link) : Prop where
  a : 0 ≤ l.a ∧ l.a < n
  b : 0 ≤ l.b ∧ l.b < n
  pa : 0 ≤ l.pa ∧ l.pa < 8
  pb : 0 ≤ l.pb ∧ l.pb < 8
  cost : 1 ≤ l.cost ∧ l.cost ≤ 1000
  loop : l.a ≠ l.b
/-- What Check lets by. -/
structure NetOk (ids : List Int) (L : List Link) : Prop where
  n16 : ids.length ≤ 16
  l48 : L.length ≤ 48
  id : ∀ x ∈ ids, 0 ≤ x ∧ x ≤ 65535
  nodup : ids.Nodup
  link : ∀ l ∈ L, LinkOk ids.length l
  keys : ((rawE L).map keyE).Nodup
/-- The ends of L in order. -/
structure Ends (L : List Link) (E : List End) : Prop where
  perm : E.Perm (rawE L)
  sorted : SortedP E
theorem inj_of_nodup {α β : Type} {f : α → β} : ∀ {l : List α}, (l.map f).Nodup → ∀ x ∈ l, ∀ y ∈ l, f x = f y → x = y
  | [], _, x, hx, _, _, _ => by cases hx
  | a :: l, h, x, hx, y, hy, e => by
    rw [List.map_cons, List.nodup_cons] at h
    rcases List.mem_cons.1 hx with rfl | hx
    · rcases List.mem_cons.1 hy with rfl | hy
      · rfl
      · exact absurd (e ▸ List.mem_map_of_mem hy) h.1
    · rcases List.mem_cons.1 hy with h0 | hy
      · exact absurd (List.mem_map_of_mem (f := f) hx) (by rw [e, h0]; exact h.1)
      · exact inj_of_nodup h.2 x hx y hy e
theorem sorted_unique {E F : List End} (hp : E.Perm F) (h1 : SortedP E) (h2 : SortedP F) (hk : (F.map keyE).Nodup) : E = F := by
  refine List.Perm.eq_of_pairwise (fun a b ha hb h3 h4 => ?_) h1 h2 hp
  have ha' := hp.mem_iff.1 ha
  refine inj_of_nodup hk a ha' b hb ?_
  unfold keyE
  have e1 : a.bridge = b.bridge := by omega
  have e2 : a.port = b.port := by omega
  rw [e1, e2]
def revE (x : End) : End := ⟨x.peer, x.peerPort, x.bridge, x.port, x.cost⟩
def endA (l : Link) : End := ⟨l.a, l.pa, l.b, l.pb, l.cost⟩
def endB (l : Link) : End := ⟨l.b, l.pb, l.a, l.pa, l.cost⟩
theorem mem_raw {L : List Link} {x : End} : x ∈ rawE L ↔ ∃ l ∈ L, x = endA l ∨ x = endB l := by
  unfold rawE
  rw [List.mem_flatMap]
  constructor
  · rintro ⟨l, hl, hx⟩
    refine ⟨l, hl, ?_⟩
    simpa [bothE, endA, endB] using hx
  · rintro ⟨l, hl, hx⟩
    refine ⟨l, hl, ?_⟩
    simpa [bothE, endA, endB] using hx
theorem Ends.mem {L : List Link} {E : List End} (h : Ends L E) {x : End} : x ∈ E ↔ ∃ l ∈ L, x = endA l ∨ x = endB l := h.perm.mem_iff.trans mem_raw
theorem Ends.rev {L : List Link} {E : List End} (h : Ends L E) {x : End} (hx : x ∈ E) : revE x ∈ E := by
  obtain ⟨l, hl, rfl | rfl⟩ := h.mem.1 hx
  · exact h.mem.2 ⟨l, hl, .inr rfl⟩
  · exact h.mem.2 ⟨l, hl, .inl rfl⟩
structure EndOk (n : Nat) (x : End) : Prop where
  b : 0 ≤ x.bridge ∧ x.bridge < n
  p : 0 ≤ x.peer ∧ x.peer < n
  port : 0 ≤ x.port ∧ x.port < 8
  pport : 0 ≤ x.peerPort ∧ x.peerPort < 8
  cost : 1 ≤ x.cost ∧ x.cost ≤ 1000
  loop : x.bridge ≠ x.peer
theorem Ends.ok {ids : List Int} {L : List Link} {E : List End} (g : NetOk ids L) (h : Ends L E) {x : End} (hx : x ∈ E) : EndOk ids.length x := by
  obtain ⟨l, hl, rfl | rfl⟩ := h.mem.1 hx
  · have q := g.link l hl
    exact ⟨q.a, q.b, q.pa, q.pb, q.cost, q.loop⟩
  · have q := g.link l hl
    exact ⟨q.b, q.a, q.pb, q.pa, q.cost, fun e => q.loop e.symm⟩
theorem Ends.keys {ids : List Int} {L : List Link} {E : List End} (g : NetOk ids L) (h : Ends L E) : (E.map keyE).Nodup := (h.perm.map keyE).nodup_iff.2 g.keys
theorem Ends.inj {ids : List Int} {L : List Link} {E : List End} (g : NetOk ids L) (h : Ends L E) {x y : End} (hx : x ∈ E) (hy : y ∈ E) (hb : x.bridge = y.bridge) (hp : x.port = y.port) : x = y :=
  inj_of_nodup (h.keys g) x hx y hy (by unfold keyE; rw [hb, hp])
theorem Ends.inj_peer {ids : List Int} {L : List Link} {E : List End} (g : NetOk ids L) (h : Ends L E) {x y : End} (hx : x ∈ E) (hy : y ∈ E) (hb : x.peer = y.peer) (hp : x.peerPort = y.peerPort) : x = y := by
  have := h.inj g (h.rev hx) (h.rev hy) hb hp
  obtain ⟨x1, x2, x3, x4, x5⟩ := x
  obtain ⟨y1, y2, y3, y4, y5⟩ := y
  simp only [revE] at this
  injection this with e1 e2 e3 e4 e5
  subst e1 e2 e3 e4 e5
  rfl
theorem Ends.net {ids : List Int} {L : List Link} {E : List End} (g : NetOk ids L) (h : Ends L E) : Net ids E where
  ids0 := fun x hx => (g.id x hx).1
  inn := fun x hx => by have q := h.ok g hx; exact ⟨q.b.1, q.b.2, q.p.1, q.p.2⟩
  cost := fun x hx => (h.ok g hx).cost.1
  port := fun x hx => (h.ok g hx).port.1
theorem key_inj {ids : List Int} (h : ids.Nodup) {u v : Nat} (hu : u < ids.length) (hv : v < ids.length) (e : key ids u = key ids v) : u = v := by
  unfold key at e
  rw [List.getD_eq_getElem?_getD, List.getElem?_eq_getElem hu, List.getD_eq_getElem?_getD, List.getElem?_eq_getElem hv] at e
  exact (List.getElem_inj h).1 (by simpa using e)
/-- Each network has its ends in one order. -/
theorem ends_unique {ids : List Int} {L M : List Link} {E F : List End} (g : NetOk ids L) (h1 : Ends L E) (h2 : Ends M F) (hp : (rawE M).Perm (rawE L)) : F = E :=
  sorted_unique (h2.perm.trans (hp.trans h1.perm.symm)) h2.sorted h1.sorted (h1.keys g)

/-- The solution of a network. -/
structure Sol (ids : List Int) (L : List Link) (E : List End) (r k : Nat → Int) : Prop where
  ok : NetOk ids L
  ends : Ends L E
  d : IsD ids.length (key ids) (eds E) r k
theorem Sol.net {ids : List Int} {L : List Link} {E : List End} {r k : Nat → Int} (s : Sol ids L E r k) : Net ids E := s.ends.net s.ok
theorem exists_sol {ids : List Int} {L : List Link} {E : List End} (g : NetOk ids L) (h : Ends L E) : ∃ r k, Sol ids L E r k := by
  obtain ⟨r, k, d⟩ := exists_d (h.net g).good
  exact ⟨r, k, g, h, d⟩
def ownD (ids : List Int) (r k : Nat → Int) (x : End) : Vec := ⟨r x.bridge.toNat, k x.bridge.toNat, key ids x.bridge.toNat, x.port⟩
def othD (ids : List Int) (r k : Nat → Int) (x : End) : Vec := ⟨r x.peer.toNat, k x.peer.toNat, key ids x.peer.toNat, x.peerPort⟩
/-- The port leads to the root. -/
def isRp (ids : List Int) (E : List End) (r k : Nat → Int) (x : End) : Bool := (belD ids E r k x.bridge.toNat).port == x.port
/-- The port is the link's better end. -/
def desig (ids : List Int) (r k : Nat → Int) (x : End) : Bool := better (ownD ids r k x) (othD ids r k x)
theorem Sol.state {ids : List Int} {L : List Link} {E : List End} {r k : Nat → Int} (s : Sol ids L E r k) {x : End} (hx : x ∈ E) :
    stateOf ids (treeN ids E) x = ⟨x.bridge, x.port, isRp ids E r k x || desig ids r k x⟩ := by
  have q := s.ends.ok s.ok hx
  have h1 := tree_get s.net s.d (v := x.bridge.toNat) (by have := q.b; omega)
  have h2 := tree_get s.net s.d (v := x.peer.toNat) (by have := q.p; omega)
  obtain ⟨b1, b2⟩ := belD_rc s.net s.d (v := x.bridge.toNat) (by have := q.b; omega)
  obtain ⟨b3, b4⟩ := belD_rc s.net s.d (v := x.peer.toNat) (by have := q.p; omega)
  unfold stateOf belAt vecAt vecOf isRp desig ownD othD key
  rw [h1, h2, b1, b2, b3, b4]
/-- Of a link's ends one is better. -/
theorem Sol.desig_rev {ids : List Int} {L : List Link} {E : List End} {r k : Nat → Int} (s : Sol ids L E r k) {x : End} (hx : x ∈ E) : desig ids r k (revE x) = !desig ids r k x := by
  have q := s.ends.ok s.ok hx
  have hne : key ids x.bridge.toNat ≠ key ids x.peer.toNat := by
    intro e
    have h1 := q.b
    have h2 := q.p
    have := key_inj s.ok.nodup (by omega) (by omega) e
    exact q.loop (by omega)
  have e1 : desig ids r k (revE x) = better (othD ids r k x) (ownD ids r k x) := rfl
  rw [e1]
  unfold desig
  generalize hA : ownD ids r k x = A
  generalize hB : othD ids r k x = B
  have hid : A.id ≠ B.id := by rw [← hA, ← hB]; exact hne
  cases h : better A B with
  | true =>
    rw [better_iff] at h
    show better B A = false
    rw [nb_iff]; omega
  | false =>
    rw [nb_iff] at h
    show better B A = true
    rw [better_iff]; omega
theorem Sol.edge {ids : List Int} {L : List Link} {E : List End} {r k : Nat → Int} (s : Sol ids L E r k) {x : End} (hx : x ∈ E) :
    r x.bridge.toNat = r x.peer.toNat ∧ k x.bridge.toNat ≤ k x.peer.toNat + x.cost ∧ k x.peer.toNat ≤ k x.bridge.toNat + x.cost := by
  have q1 := s.d.edge (edOf x) (List.mem_map_of_mem hx)
  have q2 := s.d.edge (edOf (revE x)) (List.mem_map_of_mem (s.ends.rev hx))
  have e1 : le2 (r x.bridge.toNat) (k x.bridge.toNat) (r x.peer.toNat) (k x.peer.toNat + x.cost) := q1
  have e2 : le2 (r x.peer.toNat) (k x.peer.toNat) (r x.bridge.toNat) (k x.bridge.toNat + x.cost) := q2
  unfold le2 at *
  omega
theorem bestE_mem {h : End → Vec} {l : List End} {y : End} (hy : bestE h l = some y) : y ∈ l := (bestE_congr (h := h) (h' := h) (l := l) (fun _ _ => rfl)).2 y hy
theorem bestE_le {h : End → Vec} : ∀ {l : List End} {y : End}, bestE h l = some y → ∀ x ∈ l, better (h x) (h y) = false := by
  have : ∀ l, ∀ y, bestE h l = some y → ∀ x ∈ l, better (h x) (h y) = false := by
    refine list_snoc (fun y hy => by cases hy) ?_
    intro l z ih y hy x hx
    rw [bestE_snoc] at hy
    cases ho : bestE h l with
    | none =>
      rw [ho] at hy
      simp only [pickE] at hy
      injection hy with hy
      subst hy
      have hl : l = [] := by
        cases l with
        | nil => rfl
        | cons a l =>
          exfalso
          have : ∀ m : List End, m ≠ [] → bestE h m ≠ none := by
            refine list_snoc (fun h => absurd rfl h) ?_
            intro m w _ _ hn
            rw [bestE_snoc] at hn
            unfold pickE at hn
            split at hn
            · cases hn
            · split at hn <;> cases hn
          exact this _ (by simp) ho
      subst hl
      obtain rfl : x = z := by simpa using hx
      rw [nb_iff]; omega
    | some w =>
      rw [ho] at hy
      simp only [pickE] at hy
      have q := ih w ho
      split at hy
      · rename_i hb
        injection hy with hy
        subst hy
        rcases List.mem_append.1 hx with hx | hx
        · have := q x hx
          rw [nb_iff] at *
          rw [better_iff] at hb
          omega
        · obtain rfl : x = z := by simpa using hx
          rw [nb_iff]; omega
      · rename_i hb
        injection hy with hy
        subst hy
        rcases List.mem_append.1 hx with hx | hx
        · exact q x hx
        · obtain rfl : x = z := by simpa using hx
          simpa using hb
  exact fun {l} {y} => this l y
theorem bestE_some {h : End → Vec} {l : List End} (hl : l ≠ []) : ∃ y, bestE h l = some y := by
  have : ∀ m : List End, m ≠ [] → ∃ y, bestE h m = some y := by
    refine list_snoc (fun h => absurd rfl h) ?_
    intro m w _ _
    rw [bestE_snoc]
    unfold pickE
    split
    · exact ⟨_, rfl⟩
    · split <;> exact ⟨_, rfl⟩
  exact this l hl
/-- The root port of a bridge that is no root. -/
theorem Sol.rootport {ids : List Int} {L : List Link} {E : List End} {r k : Nat → Int} (s : Sol ids L E r k) {v : Nat} (hv : v < ids.length) (hr : r v ≠ key ids v) :
    ∃ y ∈ E, y.bridge = (v : Int) ∧ (belD ids E r k v).port = y.port ∧ k v = k y.peer.toNat + y.cost ∧ bestE (heardD ids r k) (endsOf E v) = some y := by
  have hrc := belD_rc s.net s.d hv
  have hp := belD_port s.net s.d hv
  rw [if_neg hr] at hp
  have h2 := best_two (ownOf ids v) (heardD ids r k) (endsOf E v)
  have hbel : (belD ids E r k v) = belOf ids (heardD ids r k) v (bestV (ownOf ids v) (heardD ids r k) (endsOf E v)) := rfl
  cases hE : bestE (heardD ids r k) (endsOf E v) with
  | none =>
    rw [hE] at h2
    rw [hbel, h2] at hrc
    exact absurd hrc.1.symm hr
  | some y =>
    rw [hE] at h2 hp
    simp only at h2
    have hm := bestE_mem hE
    obtain ⟨m1, m2⟩ := List.mem_filter.1 hm
    have hb : y.bridge = (v : Int) := by simpa using m2
    refine ⟨y, m1, hb, hp, ?_, rfl⟩
    split at h2
    · rw [hbel, h2] at hrc; exact hrc.2.symm
    · rw [hbel, h2] at hrc; exact absurd hrc.1.symm hr
theorem Sol.rp_root {ids : List Int} {L : List Link} {E : List End} {r k : Nat → Int} (s : Sol ids L E r k) {v : Nat} (hv : v < ids.length) (hr : r v = key ids v) : (belD ids E r k v).port = -1 := by
  rw [belD_port s.net s.d hv, if_pos hr]
/-- An end is a root port: its bridge is no root, and it is dearer. -/
theorem Sol.rp {ids : List Int} {L : List Link} {E : List End} {r k : Nat → Int} (s : Sol ids L E r k) {x : End} (hx : x ∈ E) (h : isRp ids E r k x = true) :
    r x.bridge.toNat ≠ key ids x.bridge.toNat ∧ k x.bridge.toNat = k x.peer.toNat + x.cost ∧ bestE (heardD ids r k) (endsOf E x.bridge.toNat) = some x := by
  have q := s.ends.ok s.ok hx
  have hv : x.bridge.toNat < ids.length := by have := q.b; omega
  have e : (belD ids E r k x.bridge.toNat).port = x.port := by simpa [isRp] using h
  have hr : r x.bridge.toNat ≠ key ids x.bridge.toNat := by
    intro hr
    rw [s.rp_root hv hr] at e
    have := q.port
    omega
  obtain ⟨y, hy, h1, h2, h3, h4⟩ := s.rootport hv hr
  have hb := q.b
  have : y = x := s.ends.inj s.ok hy hx (by rw [h1]; omega) (by rw [← h2, e])
  subst this
  exact ⟨hr, h3, h4⟩
/-- A root port is the worse end of its link. -/
theorem Sol.rp_desig {ids : List Int} {L : List Link} {E : List End} {r k : Nat → Int} (s : Sol ids L E r k) {x : End} (hx : x ∈ E) (h : isRp ids E r k x = true) : desig ids r k x = false := by
  obtain ⟨_, h2, _⟩ := s.rp hx h
  obtain ⟨h3, _⟩ := s.edge hx
  have := (s.ends.ok s.ok hx).cost
  unfold desig
  rw [nb_iff]
  simp only [ownD, othD]
  omega
/-- All ports of the bridge with the least identifier are open. -/
theorem roots_open {ids : List Int} {L : List Link} {E : List End} (g : NetOk ids L) (h : Ends L E) {x : End} (hx : x ∈ E) (hm : ∀ u, u < ids.length → key ids x.bridge.toNat ≤ key ids u) : (stateOf ids (treeN ids E) x).isOpen = true := by
  obtain ⟨r, k, s⟩ := exists_sol g h
  rw [s.state hx]
  have q := h.ok g hx
  have hv : x.bridge.toNat < ids.length := by have := q.b; omega
  have hw : x.peer.toNat < ids.length := by have := q.p; omega
  have gd := s.net.good
  obtain ⟨u, hu, hu1, _⟩ := s.d.key gd _ hv
  have h1 := s.d.start _ hv
  have h2 := hm u hu
  have h3 := s.d.pos gd _ hv
  obtain ⟨h4, _⟩ := s.edge hx
  have hr : r x.bridge.toNat = key ids x.bridge.toNat := by unfold le2 at h1; omega
  have hk : k x.bridge.toNat = 0 := by unfold le2 at h1; omega
  have hk2 : 1 ≤ k x.peer.toNat := by
    rcases s.d.pick_lt gd hw with ⟨e, _⟩ | ⟨e, he, _, _, e3, _⟩
    · exfalso
      have := key_inj g.nodup hw hv (by rw [← e, ← h4, hr])
      have h5 := q.b
      have h6 := q.p
      exact q.loop (by omega)
    · have := gd.pos e he
      have := s.d.pos gd e.p (gd.inb e he).2
      omega
  have : desig ids r k x = true := by
    unfold desig
    rw [better_iff]
    simp only [ownD, othD]
    omega
  rw [this]; simp
end Go.Proofs.Ytcpekijgjnnfoaa.Sp
