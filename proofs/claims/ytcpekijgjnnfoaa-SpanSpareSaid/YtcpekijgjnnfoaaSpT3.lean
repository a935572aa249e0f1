/-
  Plain laws: Tree's root ports; the protocol's last round is the tree.
-/
import Derived.Test.YtcpekijgjnnfoaaSpT2
namespace Go.Proofs.Ytcpekijgjnnfoaa.Sp
open Go Go.Proofs.Ytcpekijgjnnfoaa.Th

/-- What portOf does of the beliefs: only the port of i turns. -/
structure PortSt (ids : List Int) (E : List End) (N : List Bel) (i : Nat) (s : List Bel × Vec) : Prop where
  len : s.1.length = N.length
  other : ∀ v, v ≠ i → s.1.getD v ⟨0, 0, 0⟩ = N.getD v ⟨0, 0, 0⟩
  rc : rN s.1 i = rN N i ∧ kN s.1 i = kN N i
  port : rN N i ≠ key ids i → match bestE (heard ids N) (endsOf E i) with
    | none => pN s.1 i = pN N i
    | some y => pN s.1 i = y.port ∧ s.2 = heard ids N y
  same : rN N i = key ids i → s.1 = N
theorem heard_rc {ids : List Int} {N M : List Bel} (h : ∀ v, rN N v = rN M v ∧ kN N v = kN M v) (x : End) : heard ids N x = heard ids M x := by
  rw [heard_eq, heard_eq, (h _).1, (h _).2]
theorem portOf_is {ids : List Int} {N : List Bel} {i : Nat} (hi : i < N.length) (hp : pN N i < 0) : ∀ E : List End, (∀ x ∈ E, 0 ≤ x.port) → PortSt ids E N i (E.foldl (portOne ids i) (N, ⟨0, 0, 0, 0⟩)) := by
  refine list_snoc ?_ ?_
  · intro _
    exact ⟨rfl, fun _ _ => rfl, ⟨rfl, rfl⟩, fun _ => rfl, fun _ => rfl⟩
  · intro E x ih hE
    have ih := ih (fun y hy => hE y (by simp [hy]))
    have hx := hE x (by simp)
    have hE' : ∀ y ∈ endsOf E i, 0 ≤ y.port := fun y hy => hE y (by simp [(List.mem_filter.1 hy).1])
    rw [List.foldl_append, List.foldl_cons, List.foldl_nil]
    generalize E.foldl (portOne ids i) (N, ⟨0, 0, 0, 0⟩) = s at *
    have hrc : ∀ v, rN s.1 v = rN N v ∧ kN s.1 v = kN N v := by
      intro v
      by_cases e : v = i
      · subst e; exact ih.rc
      · unfold rN kN; rw [ih.other v e]; exact ⟨rfl, rfl⟩
    have hh := heard_rc (ids := ids) hrc x
    have hkey : (s.1.getD i ⟨0, 0, 0⟩).root = rN N i := (hrc i).1
    have hport : (s.1.getD i ⟨0, 0, 0⟩).port = pN s.1 i := rfl
    by_cases e : x.bridge = (i : Int)
    · have en : endsOf (E ++ [x]) i = endsOf E i ++ [x] := by simp [endsOf, e]
      by_cases hk : rN N i = key ids i
      · have : portOne ids i s x = s := by
          unfold portOne
          rw [if_neg]
          rintro ⟨_, h, _⟩
          exact h (hkey.trans hk)
        rw [this]
        exact ⟨ih.len, ih.other, ih.rc, fun h => absurd hk h, ih.same⟩
      · have q := ih.port hk
        have hset : ∀ s' : List Bel × Vec, s' = (s.1.set i { s.1.getD i ⟨0, 0, 0⟩ with port := x.port }, heard ids s.1 x) → bestE (heard ids N) (endsOf E i ++ [x]) = some x → PortSt ids (E ++ [x]) N i s' := by
          rintro s' rfl hb
          have hl : i < s.1.length := by rw [ih.len]; exact hi
          refine ⟨by simp [ih.len], fun v hv => ?_, ?_, fun _ => ?_, fun h => absurd h hk⟩
          · show (s.1.set i _).getD v _ = _
            rw [getD_set_ne _ _ _ _ _ hv]; exact ih.other v hv
          · unfold rN kN
            show ((s.1.set i _).getD i _).root = _ ∧ ((s.1.set i _).getD i _).cost = _
            rw [getD_set_eq _ _ _ _ hl]
            exact ⟨(hrc i).1, (hrc i).2⟩
          · rw [en, hb]
            refine ⟨?_, hh⟩
            unfold pN
            show ((s.1.set i _).getD i _).port = _
            rw [getD_set_eq _ _ _ _ hl]
        have hb : bestE (heard ids N) (endsOf E i ++ [x]) = pickE (heard ids N) (bestE (heard ids N) (endsOf E i)) x := bestE_snoc _ _ _
        cases ho : bestE (heard ids N) (endsOf E i) with
        | none =>
          rw [ho] at q hb
          have hpt : portOne ids i s x = (s.1.set i { s.1.getD i ⟨0, 0, 0⟩ with port := x.port }, heard ids s.1 x) := by
            unfold portOne
            rw [if_pos]
            refine ⟨e, ?_, .inl ?_⟩
            · rw [hkey]; exact hk
            · rw [hport, q]; exact hp
          exact hset _ hpt hb
        | some y =>
          rw [ho] at q hb
          obtain ⟨q1, q2⟩ := q
          have hy0 : ∀ l : List End, (∀ z ∈ l, 0 ≤ z.port) → ∀ y, bestE (heard ids N) l = some y → y ∈ l := by
            refine list_snoc (fun _ y h => by cases h) ?_
            intro l z ihl hl y hy
            rw [bestE_snoc] at hy
            unfold pickE at hy
            split at hy
            · injection hy with hy; subst hy; simp
            · rename_i w hw
              split at hy
              · injection hy with hy; subst hy; simp
              · injection hy with hy; subst hy
                exact List.mem_append.2 (.inl (ihl (fun u hu => hl u (by simp [hu])) _ hw))
          have hym := hE' y (hy0 _ hE' y ho)
          have hpos : ¬ (s.1.getD i ⟨0, 0, 0⟩).port < 0 := by rw [hport, q1]; omega
          cases hbt : better (heard ids N x) (heard ids N y) with
          | true =>
            have hpt : portOne ids i s x = (s.1.set i { s.1.getD i ⟨0, 0, 0⟩ with port := x.port }, heard ids s.1 x) := by
              unfold portOne
              rw [if_pos]
              refine ⟨e, ?_, .inr ?_⟩
              · rw [hkey]; exact hk
              · rw [hh, q2]; exact hbt
            refine hset _ hpt ?_
            rw [hb]; simp [pickE, hbt]
          | false =>
            have hpt : portOne ids i s x = s := by
              unfold portOne
              rw [if_neg]
              rintro ⟨_, _, h | h⟩
              · exact hpos h
              · rw [hh, q2, hbt] at h; cases h
            rw [hpt]
            refine ⟨ih.len, ih.other, ih.rc, fun _ => ?_, fun h => absurd h hk⟩
            rw [en, hb]
            simp only [pickE, hbt]
            exact ⟨q1, q2⟩
    · have en : endsOf (E ++ [x]) i = endsOf E i := by simp [endsOf, e]
      have : portOne ids i s x = s := by
        unfold portOne
        rw [if_neg]
        rintro ⟨h, _⟩
        exact e h
      rw [this]
      refine ⟨ih.len, ih.other, ih.rc, ?_, ih.same⟩
      rw [en]
      exact ih.port

/-- The root port of v. -/
def portAt (ids : List Int) (E : List End) (N : List Bel) (v : Nat) : Int :=
  if rN N v = key ids v then -1 else match bestE (heard ids N) (endsOf E v) with
    | none => -1
    | some y => y.port
theorem portsN_is {ids : List Int} {E : List End} (h : Net ids E) {N : List Bel} (hl : N.length = ids.length) (hp : ∀ v, v < ids.length → pN N v = -1) : ∀ k, k ≤ ids.length →
    (portsN ids E N k).length = ids.length ∧ (∀ v, rN (portsN ids E N k) v = rN N v ∧ kN (portsN ids E N k) v = kN N v) ∧ (∀ v, v < k → pN (portsN ids E N k) v = portAt ids E N v) ∧ (∀ v, k ≤ v → v < ids.length → pN (portsN ids E N k) v = -1)
  | 0, _ => ⟨hl, fun _ => ⟨rfl, rfl⟩, fun v hv => absurd hv (by omega), fun v _ hv => hp v hv⟩
  | k + 1, hk => by
    obtain ⟨i1, i2, i3, i4⟩ := portsN_is h hl hp k (by omega)
    have hk' := i4 k (Nat.le_refl _) (by omega)
    have st := portOf_is (ids := ids) (N := portsN ids E N k) (i := k) (by omega) (by omega) E h.port
    have hh : ∀ x, heard ids (portsN ids E N k) x = heard ids N x := heard_rc i2
    have hbe : bestE (heard ids (portsN ids E N k)) (endsOf E k) = bestE (heard ids N) (endsOf E k) := by rw [show heard ids (portsN ids E N k) = heard ids N from funext hh]
    show (portOf ids E (portsN ids E N k) k).length = _ ∧ _
    unfold portOf
    generalize hs : E.foldl (portOne ids k) (portsN ids E N k, ⟨0, 0, 0, 0⟩) = s at *
    have hps : portsN ids E N (k + 1) = s.1 := by show portOf ids E (portsN ids E N k) k = _; unfold portOf; rw [hs]
    rw [hps]
    refine ⟨by rw [st.len, i1], fun v => ?_, fun v hv => ?_, fun v hv hv2 => ?_⟩
    · by_cases e : v = k
      · subst e; rw [st.rc.1, st.rc.2]; exact i2 v
      · unfold rN kN; rw [st.other v e]; exact i2 v
    · by_cases e : v = k
      · subst e
        unfold portAt
        by_cases hr : rN N v = key ids v
        · rw [if_pos hr, st.same ((i2 v).1.trans hr)]; exact hk'
        · rw [if_neg hr]
          have q := st.port (by rw [(i2 v).1]; exact hr)
          rw [hbe] at q
          cases hb : bestE (heard ids N) (endsOf E v) with
          | none => rw [hb] at q; exact q.trans hk'
          | some y => rw [hb] at q; exact q.1
      · unfold pN; rw [st.other v e]; exact i3 v (by omega)
    · unfold pN; rw [st.other v (by omega)]; exact i4 v (by omega) hv2

/-- The beliefs once all is settled. -/
def belD (ids : List Int) (E : List End) (r k : Nat → Int) (v : Nat) : Bel := belOf ids (heardD ids r k) v (bestV (ownOf ids v) (heardD ids r k) (endsOf E v))
theorem bestE_congr {h h' : End → Vec} {l : List End} (e : ∀ x ∈ l, h x = h' x) : bestE h l = bestE h' l ∧ ∀ y, bestE h l = some y → y ∈ l := by
  have : ∀ m, (∀ x ∈ m, x ∈ l) → bestE h m = bestE h' m ∧ ∀ y, bestE h m = some y → y ∈ m := by
    refine list_snoc (fun _ => ⟨rfl, fun y hy => by cases hy⟩) ?_
    intro m x ih hm
    obtain ⟨q1, q2⟩ := ih (fun y hy => hm y (by simp [hy]))
    have hx := e x (hm x (by simp))
    rw [bestE_snoc, bestE_snoc, ← q1]
    cases ho : bestE h m with
    | none => exact ⟨rfl, fun y hy => by simp [pickE] at hy; subst hy; simp⟩
    | some y =>
      have hy := e y (hm y (List.mem_append.2 (.inl (q2 y ho))))
      refine ⟨by by_cases hc : better (h' x) (h' y) = true <;> simp [pickE, hx, hy, hc], fun z hz => ?_⟩
      unfold pickE at hz
      simp only at hz
      split at hz
      · injection hz with hz; subst hz; simp
      · injection hz with hz; subst hz; exact List.mem_append.2 (.inl (q2 _ ho))
  exact this l (fun _ h => h)
/-- At the solution the round's answer is the solution. -/
theorem belD_rc {ids : List Int} {E : List End} (h : Net ids E) {r k : Nat → Int} (d : IsD ids.length (key ids) (eds E) r k) {v : Nat} (hv : v < ids.length) :
    (belD ids E r k v).root = r v ∧ (belD ids E r k v).cost = k v := by
  have hn := near_iter h d ids.length
  have hs := near_all hn (Nat.le_succ _)
  have hs2 := near_all (near_iter h d (ids.length + 1)) (by omega)
  have := step_settled h hs v hv
  have q := hs2 v hv
  unfold rN kN at q
  rw [show iter ids E (ids.length + 1) = stepN ids E (iter ids E ids.length) from rfl, this] at q
  exact q
theorem belD_port {ids : List Int} {E : List End} (h : Net ids E) {r k : Nat → Int} (d : IsD ids.length (key ids) (eds E) r k) {v : Nat} (hv : v < ids.length) :
    (belD ids E r k v).port = if r v = key ids v then -1 else match bestE (heardD ids r k) (endsOf E v) with
      | none => -1
      | some y => y.port := by
  have hrc := belD_rc h d hv
  have h2 := best_two (ownOf ids v) (heardD ids r k) (endsOf E v)
  have hm := (bestV_is (ownOf ids v) (heardD ids r k) (endsOf E v)).mem
  unfold belD at *
  cases ho : bestV (ownOf ids v) (heardD ids r k) (endsOf E v) with
  | none =>
    rw [ho] at hrc
    have : r v = key ids v := hrc.1.symm
    rw [if_pos this]; rfl
  | some y =>
    rw [ho] at hrc h2
    obtain ⟨hy, hb⟩ := hm y ho
    have hy1 := (List.mem_filter.1 hy).1
    have hc := h.cost y hy1
    have hi := h.inn y hy1
    have hk := d.pos h.good y.peer.toNat (by omega)
    have hne : r v ≠ key ids v := by
      intro e
      have e1 : r y.peer.toNat = r v := hrc.1
      rw [better_iff] at hb
      simp only [heardD, ownOf] at hb
      omega
    rw [if_neg hne]
    cases hE : bestE (heardD ids r k) (endsOf E v) with
    | none => rw [hE] at h2; cases h2
    | some z =>
      rw [hE] at h2
      simp only at h2
      split at h2
      · injection h2 with h2; subst h2; rfl
      · cases h2
theorem iter_get {ids : List Int} {E : List End} (h : Net ids E) {r k : Nat → Int} (d : IsD ids.length (key ids) (eds E) r k) {v : Nat} (hv : v < ids.length) :
    (iter ids E ids.length).getD v ⟨0, 0, 0⟩ = belD ids E r k v := by
  rw [← iter_fix h]
  exact step_settled h (near_all (near_iter h d ids.length) (Nat.le_succ _)) v hv
theorem tree_get {ids : List Int} {E : List End} (h : Net ids E) {r k : Nat → Int} (d : IsD ids.length (key ids) (eds E) r k) {v : Nat} (hv : v < ids.length) :
    (treeN ids E).getD v ⟨0, 0, 0⟩ = belD ids E r k v := by
  obtain ⟨p1, p2⟩ := passes_port ids E ids.length
  have hs := near_all (near_passes h d ids.length).2 (Nat.le_succ _)
  obtain ⟨q1, q2, q3, q4⟩ := portsN_is h p1 p2 ids.length (Nat.le_refl _)
  have e1 : rN (treeN ids E) v = r v := (q2 v).1.trans (hs v hv).1
  have e2 : kN (treeN ids E) v = k v := (q2 v).2.trans (hs v hv).2
  have e3 : pN (treeN ids E) v = portAt ids E (passes E ids.length (startN ids)) v := q3 v hv
  have hh : ∀ x ∈ endsOf E v, heard ids (passes E ids.length (startN ids)) x = heardD ids r k x := by
    intro x hx
    have hi := h.inn x (List.mem_filter.1 hx).1
    obtain ⟨a1, a2⟩ := hs x.peer.toNat (by omega)
    rw [heard_eq, a1, a2]; rfl
  have e4 : pN (treeN ids E) v = (belD ids E r k v).port := by
    rw [e3, belD_port h d hv]
    unfold portAt
    rw [(hs v hv).1, (bestE_congr hh).1]
  obtain ⟨b1, b2⟩ := belD_rc h d hv
  unfold rN kN pN at *
  generalize (treeN ids E).getD v ⟨0, 0, 0⟩ = x at *
  generalize belD ids E r k v = y at *
  obtain ⟨x1, x2, x3⟩ := x
  obtain ⟨y1, y2, y3⟩ := y
  simp only at *
  subst e1 e2 e4 b1 b2
  rfl
theorem treeN_len {ids : List Int} {E : List End} (h : Net ids E) : (treeN ids E).length = ids.length := by
  obtain ⟨p1, p2⟩ := passes_port ids E ids.length
  exact (portsN_is h p1 p2 ids.length (Nat.le_refl _)).1
theorem tree_iter {ids : List Int} {E : List End} (h : Net ids E) : iter ids E ids.length = treeN ids E := by
  obtain ⟨r, k, d⟩ := exists_d h.good
  refine list_ext_getD (by rw [iter_len h.inn, treeN_len h]) fun v hv => ?_
  rw [iter_len h.inn] at hv
  rw [iter_get h d hv, tree_get h d hv]
end Go.Proofs.Ytcpekijgjnnfoaa.Sp
