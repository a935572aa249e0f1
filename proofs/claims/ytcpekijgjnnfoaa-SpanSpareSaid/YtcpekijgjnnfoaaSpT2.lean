/-
  Plain laws: Tree's beliefs and the protocol's are the least distances.
-/
import Derived.Test.YtcpekijgjnnfoaaSpT1
namespace Go.Proofs.Ytcpekijgjnnfoaa.Sp
open Go Go.Proofs.Ytcpekijgjnnfoaa.Th

def edOf (x : End) : Ed := ⟨x.bridge.toNat, x.peer.toNat, x.cost⟩
def eds (E : List End) : List Ed := E.map edOf
def key (ids : List Int) (v : Nat) : Int := ids.getD v 0
def rN (N : List Bel) (v : Nat) : Int := (N.getD v ⟨0, 0, 0⟩).root
def kN (N : List Bel) (v : Nat) : Int := (N.getD v ⟨0, 0, 0⟩).cost
def pN (N : List Bel) (v : Nat) : Int := (N.getD v ⟨0, 0, 0⟩).port
/-- A network's ends. -/
structure Net (ids : List Int) (E : List End) : Prop where
  ids0 : ∀ x ∈ ids, 0 ≤ x
  inn : InNet ids.length E
  cost : ∀ x ∈ E, 1 ≤ x.cost
  port : ∀ x ∈ E, 0 ≤ x.port
theorem Net.good {ids : List Int} {E : List End} (h : Net ids E) : Good ids.length (key ids) (eds E) where
  key0 := by
    intro v hv
    unfold key
    rw [List.getD_eq_getElem?_getD, List.getElem?_eq_getElem hv]
    exact h.ids0 _ (List.getElem_mem hv)
  inb := by
    intro e he
    obtain ⟨x, hx, rfl⟩ := List.mem_map.1 he
    have := h.inn x hx
    show x.bridge.toNat < _ ∧ x.peer.toNat < _
    omega
  pos := by
    intro e he
    obtain ⟨x, hx, rfl⟩ := List.mem_map.1 he
    exact h.cost x hx
theorem getD_set_ne {α : Type} (l : List α) (i j : Nat) (a d : α) (h : j ≠ i) : (l.set i a).getD j d = l.getD j d := by
  simp [List.getD_eq_getElem?_getD, List.getElem?_set, Ne.symm h]
theorem getD_set_eq {α : Type} (l : List α) (i : Nat) (a d : α) (h : i < l.length) : (l.set i a).getD i d = a := by
  simp [List.getD_eq_getElem?_getD, h]
theorem startN_len (ids : List Int) : (startN ids).length = ids.length := by simp [startN]
theorem startN_get (ids : List Int) (v : Nat) (h : v < ids.length) : (startN ids).getD v ⟨0, 0, 0⟩ = ⟨key ids v, 0, -1⟩ := by
  simp [startN, key, List.getD_eq_getElem?_getD, h]
theorem near_congr {n : Nat} {key r k : Nat → Int} {j : Nat} {a c a' c' : Nat → Int} (h : Near n key r k j a c) (e : ∀ v, v < n → a' v = a v ∧ c' v = c v) : Near n key r k j a' c' := by
  refine ⟨fun v hv => ?_, fun v hv => ?_, fun v hv hj => ?_⟩
  · rw [(e v hv).1, (e v hv).2]; exact h.lo v hv
  · rw [(e v hv).1, (e v hv).2]; exact h.hi v hv
  · rw [(e v hv).1, (e v hv).2]; exact h.done v hv hj
theorem near_startN {ids : List Int} {E : List End} (h : Net ids E) {r k : Nat → Int} (d : IsD ids.length (key ids) (eds E) r k) : Near ids.length (key ids) r k 1 (rN (startN ids)) (kN (startN ids)) :=
  near_congr (near_start h.good d) fun v hv => by unfold rN kN; rw [startN_get ids v hv]; exact ⟨rfl, rfl⟩
theorem relax1_len (N : List Bel) (x : End) : (relax1 N x).length = N.length := by unfold relax1; split <;> simp
theorem toNat_ne {a b : Int} (h : 0 ≤ a) (hb : 0 ≤ b) (e : a.toNat = b.toNat) : a = b := by omega
theorem foldl_relax {ids : List Int} {E : List End} (h : Net ids E) {r k : Nat → Int} (d : IsD ids.length (key ids) (eds E) r k) (j : Nat) :
    ∀ (todo done : List End) (N : List Bel), (∀ x ∈ todo, x ∈ E) → (∀ x ∈ done, x ∈ E) → N.length = ids.length → Mid ids.length (key ids) r k j (eds done) (rN N) (kN N) →
      (todo.foldl relax1 N).length = ids.length ∧ Mid ids.length (key ids) r k j (eds (done ++ todo)) (rN (todo.foldl relax1 N)) (kN (todo.foldl relax1 N)) := by
  intro todo
  induction todo with
  | nil => intro done N _ _ hl hm; simpa using ⟨hl, hm⟩
  | cons x todo ih =>
    intro done N ht hd hl hm
    have hx := ht x (by simp)
    have hb := h.inn x hx
    have he : edOf x ∈ eds E := List.mem_map_of_mem hx
    have hdone : ∀ y ∈ eds done, y ∈ eds E := fun y hy => by
      obtain ⟨z, hz, rfl⟩ := List.mem_map.1 hy
      exact List.mem_map_of_mem (hd z hz)
    have key1 : Mid ids.length (key ids) r k j (eds done ++ [edOf x]) (rN (relax1 N x)) (kN (relax1 N x)) := by
      unfold relax1
      split
      · rename_i hc
        refine mid_set h.good d hm hdone he ?_ (fun v hv hne => ?_) ?_
        · exact hc
        · unfold rN kN
          rw [getD_set_ne _ _ _ _ _ (show v ≠ x.bridge.toNat from hne)]
          exact ⟨rfl, rfl⟩
        · unfold rN kN
          show ((N.set x.bridge.toNat _).getD x.bridge.toNat _).root = _ ∧ ((N.set x.bridge.toNat _).getD x.bridge.toNat _).cost = _
          rw [getD_set_eq _ _ _ _ (by omega)]
          exact ⟨rfl, rfl⟩
      · rename_i hc
        refine mid_keep h.good hm he ?_
        unfold le2
        unfold belAt at hc
        show (rN N x.bridge.toNat < rN N x.peer.toNat) ∨ (rN N x.bridge.toNat = rN N x.peer.toNat ∧ kN N x.bridge.toNat ≤ kN N x.peer.toNat + x.cost)
        unfold rN kN
        omega
    have := ih (done ++ [x]) (relax1 N x) (fun y hy => ht y (by simp [hy])) (fun y hy => by
      rcases List.mem_append.1 hy with hy | hy
      · exact hd y hy
      · obtain rfl : y = x := by simpa using hy
        exact hx) (by rw [relax1_len, hl]) (by simpa [eds] using key1)
    simpa using this
theorem near_pass {ids : List Int} {E : List End} (h : Net ids E) {r k : Nat → Int} (d : IsD ids.length (key ids) (eds E) r k) {j : Nat} {N : List Bel} (hl : N.length = ids.length) (hn : Near ids.length (key ids) r k j (rN N) (kN N)) :
    (pass E N).length = ids.length ∧ Near ids.length (key ids) r k (j + 1) (rN (pass E N)) (kN (pass E N)) := by
  have := foldl_relax h d j E [] N (fun _ h => h) (fun _ h => by cases h) hl (by simpa [eds] using mid_start hn)
  exact ⟨this.1, mid_end h.good d (by have q := this.2; rw [List.nil_append] at q; exact q)⟩
theorem near_passes {ids : List Int} {E : List End} (h : Net ids E) {r k : Nat → Int} (d : IsD ids.length (key ids) (eds E) r k) :
    ∀ j, (passes E j (startN ids)).length = ids.length ∧ Near ids.length (key ids) r k (j + 1) (rN (passes E j (startN ids))) (kN (passes E j (startN ids)))
  | 0 => ⟨startN_len ids, near_startN h d⟩
  | j + 1 => near_pass h d (near_passes h d j).1 (near_passes h d j).2
theorem relax1_port (N : List Bel) (x : End) (h : ∀ v, v < N.length → pN N v = -1) : ∀ v, v < N.length → pN (relax1 N x) v = -1 := by
  intro v hv
  unfold relax1
  split
  · unfold pN
    by_cases e : v = x.bridge.toNat
    · subst e; rw [getD_set_eq _ _ _ _ hv]
    · rw [getD_set_ne _ _ _ _ _ e]; exact h v hv
  · exact h v hv
theorem foldl_port : ∀ (E : List End) (N : List Bel), (∀ v, v < N.length → pN N v = -1) → (E.foldl relax1 N).length = N.length ∧ ∀ v, v < N.length → pN (E.foldl relax1 N) v = -1
  | [], N, h => ⟨rfl, h⟩
  | x :: E, N, h => by
    have := foldl_port E (relax1 N x) (fun v hv => relax1_port N x h v (by rwa [relax1_len] at hv))
    rw [relax1_len] at this
    exact this
theorem passes_port (ids : List Int) (E : List End) : ∀ j, (passes E j (startN ids)).length = ids.length ∧ ∀ v, v < ids.length → pN (passes E j (startN ids)) v = -1
  | 0 => ⟨startN_len ids, fun v hv => by show pN (startN ids) v = _; unfold pN; rw [startN_get ids v hv]⟩
  | j + 1 => by
    have ih := passes_port ids E j
    have := foldl_port E (passes E j (startN ids)) (fun v hv => ih.2 v (by omega))
    rw [ih.1] at this
    exact this

/-- better is an order. -/
theorem better_iff (x y : Vec) : better x y = true ↔ x.root < y.root ∨ (x.root = y.root ∧ (x.cost < y.cost ∨ (x.cost = y.cost ∧ (x.id < y.id ∨ (x.id = y.id ∧ x.port < y.port))))) := by
  unfold better cmpV cmpI Lib.compareInt
  simp only [decide_eq_true_eq, orL]
  by_cases h1 : x.root < y.root
  · simp [h1]
  · by_cases h2 : x.root > y.root
    · have : ¬ x.root = y.root := by omega
      simp [h1, h2, this]
    · have e1 : x.root = y.root := by omega
      by_cases h3 : x.cost < y.cost
      · simp [e1, h3]
      · by_cases h4 : x.cost > y.cost
        · have : ¬ x.cost = y.cost := by omega
          simp [e1, h3, h4, this]
        · have e2 : x.cost = y.cost := by omega
          by_cases h5 : x.id < y.id
          · simp [e1, e2, h5]
          · by_cases h6 : x.id > y.id
            · have : ¬ x.id = y.id := by omega
              simp [e1, e2, h5, h6, this]
            · have e3 : x.id = y.id := by omega
              by_cases h7 : x.port < y.port
              · simp [e1, e2, e3, h7]
              · by_cases h8 : x.port > y.port
                · simp [e1, e2, e3, h7, h8]
                · simp [e1, e2, e3, h7, h8]
theorem nb_iff (x y : Vec) : better x y = false ↔ ¬ (x.root < y.root ∨ (x.root = y.root ∧ (x.cost < y.cost ∨ (x.cost = y.cost ∧ (x.id < y.id ∨ (x.id = y.id ∧ x.port < y.port)))))) := by
  rw [← better_iff]; simp

/-- The best of what is heard, against one's own. -/
def vecO (own : Vec) (h : End → Vec) : Option End → Vec
  | none => own
  | some x => h x
def pickV (own : Vec) (h : End → Vec) (o : Option End) (x : End) : Option End := if better (h x) (vecO own h o) then some x else o
def bestV (own : Vec) (h : End → Vec) (l : List End) : Option End := l.foldl (pickV own h) none
/-- The best of what is heard. -/
def pickE (h : End → Vec) (o : Option End) (x : End) : Option End :=
  match o with
  | none => some x
  | some y => if better (h x) (h y) then some x else some y
def bestE (h : End → Vec) (l : List End) : Option End := l.foldl (pickE h) none
theorem bestV_snoc (own : Vec) (h : End → Vec) (l : List End) (x : End) : bestV own h (l ++ [x]) = pickV own h (bestV own h l) x := by simp [bestV]
theorem bestE_snoc (h : End → Vec) (l : List End) (x : End) : bestE h (l ++ [x]) = pickE h (bestE h l) x := by simp [bestE]
theorem list_snoc {α : Type} {P : List α → Prop} (h0 : P []) (h1 : ∀ l x, P l → P (l ++ [x])) : ∀ l, P l := by
  intro l
  have : ∀ k, k ≤ l.length → P (l.take k) := by
    intro k
    induction k with
    | zero => intro _; simpa using h0
    | succ k ih =>
      intro hk
      have hlt : k < l.length := by omega
      rw [List.take_succ_eq_append_getElem hlt]
      exact h1 _ _ (ih (by omega))
  have h2 := this l.length (Nat.le_refl _)
  rwa [List.take_length] at h2
/-- How the two go together. -/
theorem best_two (own : Vec) (h : End → Vec) : ∀ l, bestV own h l = match bestE h l with
    | none => none
    | some y => if better (h y) own then some y else none := by
  refine list_snoc rfl ?_
  intro l x ih
  rw [bestV_snoc, bestE_snoc, ih]
  cases hE : bestE h l with
  | none => by_cases hc : better (h x) own = true <;> simp [pickE, pickV, vecO, hc]
  | some y =>
    simp only [pickE, pickV]
    cases hy : better (h y) own with
    | true =>
      simp only [if_true, vecO]
      cases hxy : better (h x) (h y) with
      | true =>
        have : better (h x) own = true := by rw [better_iff] at *; omega
        simp [this]
      | false => simp [hy]
    | false =>
      simp only [Bool.false_eq_true, if_false, vecO]
      cases hxy : better (h x) (h y) with
      | true => simp
      | false =>
        have : better (h x) own = false := by rw [nb_iff] at *; omega
        simp [this, hy]
structure BestOf (own : Vec) (h : End → Vec) (l : List End) (o : Option End) : Prop where
  all : ∀ x ∈ l, better (h x) (vecO own h o) = false
  self : better own (vecO own h o) = false
  mem : ∀ y, o = some y → y ∈ l ∧ better (h y) own = true
theorem bestV_is (own : Vec) (h : End → Vec) : ∀ l, BestOf own h l (bestV own h l) := by
  refine list_snoc ⟨by simp, by show better own own = false; rw [nb_iff]; omega, fun y hy => by cases hy⟩ ?_
  intro l x ih
  rw [bestV_snoc]
  generalize bestV own h l = o at *
  unfold pickV
  split
  · rename_i hb
    refine ⟨fun y hy => ?_, ?_, fun y hy => ?_⟩
    · rcases List.mem_append.1 hy with hy | hy
      · have := ih.all y hy
        show better (h y) (h x) = false
        rw [nb_iff] at *
        rw [better_iff] at hb
        omega
      · obtain rfl : y = x := by simpa using hy
        show better (h y) (h y) = false
        rw [nb_iff]; omega
    · have := ih.self
      show better own (h x) = false
      rw [nb_iff] at *
      rw [better_iff] at hb
      omega
    · injection hy with hy
      subst hy
      refine ⟨by simp, ?_⟩
      have := ih.self
      rw [nb_iff] at this
      rw [better_iff] at *
      omega
  · rename_i hb
    refine ⟨fun y hy => ?_, ih.self, fun y hy => ⟨List.mem_append.2 (.inl (ih.mem y hy).1), (ih.mem y hy).2⟩⟩
    rcases List.mem_append.1 hy with hy | hy
    · exact ih.all y hy
    · obtain rfl : y = x := by simpa using hy
      simpa using hb

/-- The ends of bridge v. -/
def endsOf (E : List End) (v : Nat) : List End := E.filter fun x => decide (x.bridge = (v : Int))
def ownOf (ids : List Int) (v : Nat) : Vec := ⟨key ids v, 0, key ids v, -1⟩
def belOf (ids : List Int) (h : End → Vec) (v : Nat) : Option End → Bel
  | none => ⟨key ids v, 0, -1⟩
  | some y => ⟨(h y).root, (h y).cost, y.port⟩
theorem stepOne_len (ids : List Int) (N : List Bel) (s : List Bel × List Vec) (x : End) : (stepOne ids N s x).1.length = s.1.length ∧ (stepOne ids N s x).2.length = s.2.length := by
  unfold stepOne; split <;> simp
/-- What a round leaves at v. -/
theorem stepS_get {ids : List Int} (N : List Bel) : ∀ (E : List End), InNet ids.length E → (stepS ids N E).1.length = ids.length ∧ (stepS ids N E).2.length = ids.length ∧ ∀ v, v < ids.length →
    (stepS ids N E).1.getD v ⟨0, 0, 0⟩ = belOf ids (heard ids N) v (bestV (ownOf ids v) (heard ids N) (endsOf E v)) ∧
    (stepS ids N E).2.getD v ⟨0, 0, 0, 0⟩ = vecO (ownOf ids v) (heard ids N) (bestV (ownOf ids v) (heard ids N) (endsOf E v)) := by
  refine list_snoc ?_ ?_
  · intro _
    refine ⟨startN_len ids, by simp [stepS, ownV], fun v hv => ⟨startN_get ids v hv, ?_⟩⟩
    simp [stepS, ownV, vecO, ownOf, key, List.getD_eq_getElem?_getD, hv, endsOf, bestV]
  · intro E x ih hin
    obtain ⟨h1, h2, h3⟩ := ih (fun y hy => hin y (by simp [hy]))
    have hx := hin x (by simp)
    have hst : stepS ids N (E ++ [x]) = stepOne ids N (stepS ids N E) x := by simp [stepS]
    have hl := stepOne_len ids N (stepS ids N E) x
    rw [hst]
    refine ⟨by rw [hl.1, h1], by rw [hl.2, h2], fun v hv => ?_⟩
    obtain ⟨i1, i2⟩ := h3 v hv
    by_cases e : x.bridge = (v : Int)
    · have ev : x.bridge.toNat = v := by omega
      have en : endsOf (E ++ [x]) v = endsOf E v ++ [x] := by simp [endsOf, e]
      rw [en, bestV_snoc]
      unfold stepOne pickV
      rw [ev, i2]
      split
      · simp only
        rw [getD_set_eq _ _ _ _ (by omega), getD_set_eq _ _ _ _ (by omega)]
        exact ⟨rfl, rfl⟩
      · exact ⟨i1, i2⟩
    · have en : endsOf (E ++ [x]) v = endsOf E v := by simp [endsOf, e]
      rw [en]
      unfold stepOne
      split
      · simp only
        have hne : v ≠ x.bridge.toNat := by omega
        rw [getD_set_ne _ _ _ _ _ hne, getD_set_ne _ _ _ _ _ hne]
        exact ⟨i1, i2⟩
      · exact ⟨i1, i2⟩
theorem stepN_len {ids : List Int} {E : List End} (h : InNet ids.length E) (N : List Bel) : (stepN ids E N).length = ids.length := (stepS_get N E h).1
theorem stepN_get {ids : List Int} {E : List End} (h : InNet ids.length E) (N : List Bel) (v : Nat) (hv : v < ids.length) :
    (stepN ids E N).getD v ⟨0, 0, 0⟩ = belOf ids (heard ids N) v (bestV (ownOf ids v) (heard ids N) (endsOf E v)) := ((stepS_get N E h).2.2 v hv).1
theorem heard_eq (ids : List Int) (N : List Bel) (x : End) : heard ids N x = ⟨rN N x.peer.toNat, kN N x.peer.toNat + x.cost, key ids x.peer.toNat, x.peerPort⟩ := rfl
theorem near_step {ids : List Int} {E : List End} (h : Net ids E) {r k : Nat → Int} (d : IsD ids.length (key ids) (eds E) r k) {j : Nat} {N : List Bel} (hn : Near ids.length (key ids) r k j (rN N) (kN N)) :
    Near ids.length (key ids) r k (j + 1) (rN (stepN ids E N)) (kN (stepN ids E N)) := by
  have hb := fun v => bestV_is (ownOf ids v) (heard ids N) (endsOf E v)
  have hg := fun v hv => stepN_get h.inn N v hv
  refine near_round h.good d hn (fun v hv => ?_) (fun e he => ?_) (fun v hv => ?_)
  · have q := (hb v).self
    unfold rN kN
    rw [hg v hv]
    generalize bestV (ownOf ids v) (heard ids N) (endsOf E v) = o at *
    cases o with
    | none => exact .inr ⟨rfl, by simp [belOf]⟩
    | some y =>
      simp only [vecO, belOf] at *
      rw [nb_iff] at q
      simp only [ownOf] at q
      unfold le2
      omega
  · obtain ⟨x, hx, rfl⟩ := List.mem_map.1 he
    have hi := h.inn x hx
    have hv : x.bridge.toNat < ids.length := by omega
    have hm : x ∈ endsOf E x.bridge.toNat := List.mem_filter.2 ⟨hx, by simp; omega⟩
    have q := (hb x.bridge.toNat).all x hm
    show le2 (rN _ x.bridge.toNat) (kN _ x.bridge.toNat) (rN N x.peer.toNat) (kN N x.peer.toNat + x.cost)
    unfold rN kN
    rw [hg _ hv]
    generalize bestV (ownOf ids x.bridge.toNat) (heard ids N) (endsOf E x.bridge.toNat) = o at *
    rw [heard_eq, nb_iff] at q
    unfold rN kN at q
    cases o with
    | none =>
      simp only [vecO, belOf, ownOf] at *
      unfold le2
      omega
    | some y =>
      simp only [vecO, belOf] at *
      unfold le2
      omega
  · unfold rN kN
    rw [hg v hv]
    have q := (hb v).mem
    generalize bestV (ownOf ids v) (heard ids N) (endsOf E v) = o at *
    cases o with
    | none => exact .inl ⟨rfl, rfl⟩
    | some y =>
      obtain ⟨hy, _⟩ := q y rfl
      obtain ⟨hy1, hy2⟩ := List.mem_filter.1 hy
      refine .inr ⟨edOf y, List.mem_map_of_mem hy1, ?_, rfl, rfl⟩
      have : y.bridge = (v : Int) := by simpa using hy2
      show y.bridge.toNat = v
      omega

/-- The protocol's rounds. -/
def iter (ids : List Int) (E : List End) : Nat → List Bel
  | 0 => startN ids
  | k + 1 => stepN ids E (iter ids E k)
theorem iter_len {ids : List Int} {E : List End} (h : InNet ids.length E) : ∀ k, (iter ids E k).length = ids.length
  | 0 => startN_len ids
  | k + 1 => stepN_len h _
theorem near_iter {ids : List Int} {E : List End} (h : Net ids E) {r k : Nat → Int} (d : IsD ids.length (key ids) (eds E) r k) : ∀ j, Near ids.length (key ids) r k (j + 1) (rN (iter ids E j)) (kN (iter ids E j))
  | 0 => near_startN h d
  | j + 1 => near_step h d (near_iter h d j)
/-- What is heard once all is settled. -/
def heardD (ids : List Int) (r k : Nat → Int) (x : End) : Vec := ⟨r x.peer.toNat, k x.peer.toNat + x.cost, key ids x.peer.toNat, x.peerPort⟩
theorem pickV_congr {own : Vec} {h h' : End → Vec} {l : List End} (e : ∀ x ∈ l, h x = h' x) : bestV own h l = bestV own h' l ∧ (∀ y, bestV own h l = some y → y ∈ l) := by
  have : ∀ m, (∀ x ∈ m, x ∈ l) → bestV own h m = bestV own h' m := by
    refine list_snoc (fun _ => rfl) ?_
    intro m x ih hm
    have q := ih (fun y hy => hm y (by simp [hy]))
    rw [bestV_snoc, bestV_snoc, ← q]
    have hx := e x (hm x (by simp))
    have hb := (bestV_is own h m).mem
    unfold pickV
    rw [hx]
    cases ho : bestV own h m with
    | none => rfl
    | some y =>
      have hy := e y (hm y (List.mem_append.2 (.inl (hb y ho).1)))
      by_cases hc : better (h' x) (h' y) = true <;> simp [vecO, hy, hc]
  exact ⟨this l (fun _ h => h), fun y hy => ((bestV_is own h l).mem y hy).1⟩
theorem step_settled {ids : List Int} {E : List End} (h : Net ids E) {r k : Nat → Int} {N : List Bel} (hs : ∀ v, v < ids.length → rN N v = r v ∧ kN N v = k v) (v : Nat) (hv : v < ids.length) :
    (stepN ids E N).getD v ⟨0, 0, 0⟩ = belOf ids (heardD ids r k) v (bestV (ownOf ids v) (heardD ids r k) (endsOf E v)) := by
  have e : ∀ x ∈ endsOf E v, heard ids N x = heardD ids r k x := by
    intro x hx
    have hi := h.inn x (List.mem_filter.1 hx).1
    obtain ⟨q1, q2⟩ := hs x.peer.toNat (by omega)
    rw [heard_eq, q1, q2]
    rfl
  obtain ⟨q1, q2⟩ := pickV_congr (own := ownOf ids v) e
  rw [stepN_get h.inn N v hv]
  rw [← q1]
  cases ho : bestV (ownOf ids v) (heard ids N) (endsOf E v) with
  | none => rfl
  | some y => simp only [belOf, e y (q2 y ho)]
theorem list_ext_getD {l m : List Bel} (hl : l.length = m.length) (h : ∀ v, v < l.length → l.getD v ⟨0, 0, 0⟩ = m.getD v ⟨0, 0, 0⟩) : l = m := by
  refine List.ext_getElem hl fun i h1 h2 => ?_
  have := h i h1
  rwa [List.getD_eq_getElem?_getD, List.getElem?_eq_getElem h1, List.getD_eq_getElem?_getD, List.getElem?_eq_getElem h2] at this
theorem iter_fix {ids : List Int} {E : List End} (h : Net ids E) : stepN ids E (iter ids E ids.length) = iter ids E ids.length := by
  obtain ⟨r, k, d⟩ := exists_d h.good
  cases hn : ids.length with
  | zero =>
    refine list_ext_getD ?_ ?_
    · rw [stepN_len h.inn, iter_len h.inn]
    · intro v hv; rw [stepN_len h.inn] at hv; omega
  | succ m =>
    show stepN ids E (iter ids E (m + 1)) = stepN ids E (iter ids E m)
    refine list_ext_getD (by rw [stepN_len h.inn, stepN_len h.inn]) fun v hv => ?_
    rw [stepN_len h.inn] at hv
    rw [step_settled h (r := r) (k := k) (near_all (near_iter h d (m + 1)) (by omega)) v hv, step_settled h (r := r) (k := k) (near_all (near_iter h d m) (by omega)) v hv]
theorem iter_from {ids : List Int} {E : List End} {j : Nat} (hj : stepN ids E (iter ids E j) = iter ids E j) : ∀ m, iter ids E (j + m) = iter ids E j
  | 0 => rfl
  | m + 1 => by
    show stepN ids E (iter ids E (j + m)) = _
    rw [iter_from hj m, hj]
theorem iter_same {ids : List Int} {E : List End} {j : Nat} (hj : stepN ids E (iter ids E j) = iter ids E j) (hl : j ≤ ids.length) : iter ids E j = iter ids E ids.length := by
  have := iter_from hj (ids.length - j)
  rw [show j + (ids.length - j) = ids.length by omega] at this
  exact this.symm
end Go.Proofs.Ytcpekijgjnnfoaa.Sp
