/-
  Plain laws: the least root and the shortest distance to it (no program in sight).
-/
import Derived.Test.YtcpekijgjnnfoaaSpP
namespace Go.Proofs.Ytcpekijgjnnfoaa.Th

def lt2 (r1 k1 r2 k2 : Int) : Prop := r1 < r2 ∨ (r1 = r2 ∧ k1 < k2)
def le2 (r1 k1 r2 k2 : Int) : Prop := r1 < r2 ∨ (r1 = r2 ∧ k1 ≤ k2)
instance (a b c d : Int) : Decidable (lt2 a b c d) := by unfold lt2; infer_instance
instance (a b c d : Int) : Decidable (le2 a b c d) := by unfold le2; infer_instance
/-- An edge: b hears p at the cost c. -/
structure Ed where
  b : Nat
  p : Nat
  c : Int
structure Good (n : Nat) (key : Nat → Int) (E : List Ed) : Prop where
  key0 : ∀ v, v < n → 0 ≤ key v
  inb : ∀ e ∈ E, e.b < n ∧ e.p < n
  pos : ∀ e ∈ E, 1 ≤ e.c
/-- r, k: of each vertex the least root and the least cost. -/
structure IsD (n : Nat) (key : Nat → Int) (E : List Ed) (r k : Nat → Int) : Prop where
  start : ∀ v, v < n → le2 (r v) (k v) (key v) 0
  edge : ∀ e ∈ E, le2 (r e.b) (k e.b) (r e.p) (k e.p + e.c)
  pick : ∀ v, v < n → (r v = key v ∧ k v = 0) ∨ ∃ e ∈ E, e.b = v ∧ r v = r e.p ∧ k v = k e.p + e.c

inductive Walk (n : Nat) (key : Nat → Int) (E : List Ed) : Nat → Int → Int → Prop
  | here (v : Nat) (h : v < n) : Walk n key E v (key v) 0
  | on (e : Ed) (h : e ∈ E) (r k : Int) (w : Walk n key E e.p r k) : Walk n key E e.b r (k + e.c)

theorem walk_pos {n : Nat} {key : Nat → Int} {E : List Ed} (g : Good n key E) {v : Nat} {r k : Int} (h : Walk n key E v r k) : 0 ≤ r ∧ 0 ≤ k := by
  induction h with
  | here v h => exact ⟨g.key0 v h, by omega⟩
  | on e h r k w ih => have := g.pos e h; omega

theorem min_nat (Q : Nat → Prop) (h : ∃ n, Q n) : ∃ n, Q n ∧ ∀ m, Q m → n ≤ m := by
  obtain ⟨n, hn⟩ := h
  induction n using Nat.strongRecOn with
  | ind n ih =>
    by_cases hs : ∃ m, m < n ∧ Q m
    · obtain ⟨m, hm, hq⟩ := hs
      exact ih m hm hq
    · exact ⟨n, hn, fun m hm => Nat.le_of_not_lt fun hlt => hs ⟨m, hlt, hm⟩⟩
theorem min_int (Q : Int → Prop) (h : ∃ n, Q n) (h0 : ∀ n, Q n → 0 ≤ n) : ∃ n, Q n ∧ ∀ m, Q m → n ≤ m := by
  obtain ⟨n, hn⟩ := h
  have h1 := h0 n hn
  obtain ⟨m, hm, hmin⟩ := min_nat (fun m => Q (m : Int)) ⟨n.toNat, by show Q _; rw [Int.toNat_of_nonneg h1]; exact hn⟩
  refine ⟨m, hm, fun q hq => ?_⟩
  have h2 := h0 q hq
  have := hmin q.toNat (by show Q _; rw [Int.toNat_of_nonneg h2]; exact hq)
  omega
theorem min_two (P : Int → Int → Prop) (h : ∃ a b, P a b) (h0 : ∀ a b, P a b → 0 ≤ a ∧ 0 ≤ b) : ∃ a b, P a b ∧ ∀ c d, P c d → le2 a b c d := by
  obtain ⟨a0, b0, hab⟩ := h
  obtain ⟨a, ⟨b1, hb1⟩, ha⟩ := min_int (fun a => ∃ b, P a b) ⟨a0, b0, hab⟩ (fun n ⟨b, hb⟩ => (h0 n b hb).1)
  obtain ⟨b, hb, hbm⟩ := min_int (fun b => P a b) ⟨b1, hb1⟩ (fun n hn => (h0 a n hn).2)
  refine ⟨a, b, hb, fun c d hcd => ?_⟩
  have h1 := ha c ⟨d, hcd⟩
  by_cases e : a = c
  · subst e; exact .inr ⟨rfl, hbm d hcd⟩
  · exact .inl (by omega)

theorem exists_d {n : Nat} {key : Nat → Int} {E : List Ed} (g : Good n key E) : ∃ r k, IsD n key E r k := by
  have h : ∀ v, ∃ a : Int × Int, v < n → Walk n key E v a.1 a.2 ∧ ∀ c d, Walk n key E v c d → le2 a.1 a.2 c d := by
    intro v
    by_cases hv : v < n
    · obtain ⟨a, b, h1, h2⟩ := min_two (Walk n key E v) ⟨_, _, .here v hv⟩ (fun a b h => walk_pos g h)
      exact ⟨(a, b), fun _ => ⟨h1, h2⟩⟩
    · exact ⟨(0, 0), fun h => absurd h hv⟩
  let f := fun v => Classical.choose (h v)
  have hf : ∀ v, v < n → Walk n key E v (f v).1 (f v).2 ∧ ∀ c d, Walk n key E v c d → le2 (f v).1 (f v).2 c d := fun v => Classical.choose_spec (h v)
  refine ⟨fun v => (f v).1, fun v => (f v).2, ⟨fun v hv => (hf v hv).2 _ _ (.here v hv), fun e he => ?_, fun v hv => ?_⟩⟩
  · exact (hf e.b (g.inb e he).1).2 _ _ (.on e he _ _ (hf e.p (g.inb e he).2).1)
  · obtain ⟨hw, hm⟩ := hf v hv
    show ((f v).1 = key v ∧ (f v).2 = 0) ∨ ∃ e ∈ E, e.b = v ∧ (f v).1 = (f e.p).1 ∧ (f v).2 = (f e.p).2 + e.c
    generalize hab : f v = ab at *
    obtain ⟨a, b⟩ := ab
    simp only at *
    cases hw with
    | here v h => exact .inl ⟨rfl, rfl⟩
    | on e he r k w =>
      right
      refine ⟨e, he, rfl, ?_⟩
      have h1 := (hf e.p (g.inb e he).2).2 _ _ w
      have h2 := hm _ _ (.on e he _ _ (hf e.p (g.inb e he).2).1)
      unfold le2 at h1 h2
      omega

/-- How many are nearer. -/
def rank (n : Nat) (r k : Nat → Int) (v : Nat) : Nat := ((List.range n).filter fun u => decide (lt2 (r u) (k u) (r v) (k v))).length
theorem rank_lt {n : Nat} {r k : Nat → Int} {v : Nat} (h : v < n) : rank n r k v < n := by
  have := List.length_filter_lt_length_iff_exists (l := List.range n) (p := fun u => decide (lt2 (r u) (k u) (r v) (k v)))
  have h2 := this.2 ⟨v, List.mem_range.2 h, by simp [lt2]⟩
  simpa [rank] using h2
theorem rank_mono {n : Nat} {r k : Nat → Int} {u v : Nat} (hu : u < n) (h : lt2 (r u) (k u) (r v) (k v)) : rank n r k u < rank n r k v := by
  have e : (List.range n).filter (fun x => decide (lt2 (r x) (k x) (r u) (k u))) = ((List.range n).filter fun x => decide (lt2 (r x) (k x) (r v) (k v))).filter (fun x => decide (lt2 (r x) (k x) (r u) (k u))) := by
    rw [List.filter_filter]
    congr 1
    funext x
    rw [Bool.eq_iff_iff]
    simp only [Bool.and_eq_true, decide_eq_true_eq]
    unfold lt2 at *
    omega
  unfold rank
  rw [e]
  refine List.length_filter_lt_length_iff_exists.2 ⟨u, List.mem_filter.2 ⟨List.mem_range.2 hu, by simpa using h⟩, by simp [lt2]⟩
/-- The end over which v hears its root. -/
theorem IsD.pick_lt {n : Nat} {key : Nat → Int} {E : List Ed} {r k : Nat → Int} (g : Good n key E) (d : IsD n key E r k) {v : Nat} (hv : v < n) :
    (r v = key v ∧ k v = 0) ∨ ∃ e ∈ E, e.b = v ∧ r v = r e.p ∧ k v = k e.p + e.c ∧ rank n r k e.p < rank n r k v := by
  rcases d.pick v hv with h | ⟨e, he, h1, h2, h3⟩
  · exact .inl h
  · have := g.pos e he
    exact .inr ⟨e, he, h1, h2, h3, rank_mono (g.inb e he).2 (by unfold lt2; omega)⟩
theorem IsD.pos {n : Nat} {key : Nat → Int} {E : List Ed} {r k : Nat → Int} (g : Good n key E) (d : IsD n key E r k) : ∀ v, v < n → 0 ≤ k v := by
  have : ∀ m v, v < n → rank n r k v < m → 0 ≤ k v := by
    intro m
    induction m with
    | zero => intro v _ h; omega
    | succ m ih =>
      intro v hv hm
      rcases d.pick_lt g hv with ⟨_, h⟩ | ⟨e, he, h1, h2, h3, h4⟩
      · omega
      · have := ih e.p (g.inb e he).2 (by omega)
        have := g.pos e he
        omega
  exact fun v hv => this n v hv (rank_lt hv)
/-- The root is someone's key. -/
theorem IsD.key {n : Nat} {key : Nat → Int} {E : List Ed} {r k : Nat → Int} (g : Good n key E) (d : IsD n key E r k) : ∀ v, v < n → ∃ u, u < n ∧ r v = key u ∧ r u = key u ∧ k u = 0 := by
  have : ∀ m v, v < n → rank n r k v < m → ∃ u, u < n ∧ r v = key u ∧ r u = key u ∧ k u = 0 := by
    intro m
    induction m with
    | zero => intro v _ h; omega
    | succ m ih =>
      intro v hv hm
      rcases d.pick_lt g hv with h | ⟨e, he, h1, h2, h3, h4⟩
      · exact ⟨v, hv, h.1, h.1, h.2⟩
      · obtain ⟨u, hu, h5, h6⟩ := ih e.p (g.inb e he).2 (by omega)
        exact ⟨u, hu, h2.trans h5, h6⟩
  exact fun v hv => this n v hv (rank_lt hv)
/-- Settled: those of a rank below j hold the least; nobody holds less; nobody holds more than at the start. -/
structure Near (n : Nat) (key r k : Nat → Int) (j : Nat) (a c : Nat → Int) : Prop where
  lo : ∀ v, v < n → le2 (r v) (k v) (a v) (c v)
  hi : ∀ v, v < n → le2 (a v) (c v) (key v) 0
  done : ∀ v, v < n → rank n r k v < j → a v = r v ∧ c v = k v
theorem near_start {n : Nat} {key : Nat → Int} {E : List Ed} {r k : Nat → Int} (g : Good n key E) (d : IsD n key E r k) : Near n key r k 1 key (fun _ => 0) where
  lo := d.start
  hi := fun v _ => .inr ⟨rfl, by simp⟩
  done := by
    intro v hv h
    rcases d.pick_lt g hv with h1 | ⟨e, he, h1, h2, h3, h4⟩
    · exact ⟨h1.1.symm, h1.2.symm⟩
    · omega
/-- A round in which everybody takes the best that is heard. -/
theorem near_round {n : Nat} {key : Nat → Int} {E : List Ed} {r k : Nat → Int} (g : Good n key E) (d : IsD n key E r k) {j : Nat} {a c a' c' : Nat → Int} (h : Near n key r k j a c)
    (h1 : ∀ v, v < n → le2 (a' v) (c' v) (key v) 0) (h2 : ∀ e ∈ E, le2 (a' e.b) (c' e.b) (a e.p) (c e.p + e.c))
    (h3 : ∀ v, v < n → (a' v = key v ∧ c' v = 0) ∨ ∃ e ∈ E, e.b = v ∧ a' v = a e.p ∧ c' v = c e.p + e.c) : Near n key r k (j + 1) a' c' := by
  have lo : ∀ v, v < n → le2 (r v) (k v) (a' v) (c' v) := by
    intro v hv
    rcases h3 v hv with ⟨e1, e2⟩ | ⟨e, he, e0, e1, e2⟩
    · rw [e1, e2]; exact d.start v hv
    · rw [e1, e2]
      have q1 := d.edge e he
      have q2 := h.lo e.p (g.inb e he).2
      rw [e0] at q1
      unfold le2 at *
      omega
  refine ⟨lo, h1, fun v hv hj => ?_⟩
  have q0 := lo v hv
  rcases d.pick_lt g hv with ⟨e1, e2⟩ | ⟨e, he, e0, e1, e2, e3⟩
  · have := h1 v hv
    unfold le2 at *
    omega
  · have q1 := h2 e he
    obtain ⟨q2, q3⟩ := h.done e.p (g.inb e he).2 (by omega)
    rw [e0, q2, q3] at q1
    unfold le2 at *
    omega
/-- A pass that relaxes one end at a time. -/
structure Mid (n : Nat) (key : Nat → Int) (r k : Nat → Int) (j : Nat) (done : List Ed) (a c : Nat → Int) : Prop where
  near : Near n key r k j a c
  got : ∀ e ∈ done, rank n r k e.p < j → le2 (a e.b) (c e.b) (r e.p) (k e.p + e.c)
theorem mid_start {n : Nat} {key r k : Nat → Int} {j : Nat} {a c : Nat → Int} (h : Near n key r k j a c) : Mid n key r k j [] a c := ⟨h, by simp⟩
theorem mid_keep {n : Nat} {key : Nat → Int} {E : List Ed} {r k : Nat → Int} (g : Good n key E) {j : Nat} {done : List Ed} {a c : Nat → Int} (h : Mid n key r k j done a c) {e : Ed} (he : e ∈ E) (hk : le2 (a e.b) (c e.b) (a e.p) (c e.p + e.c)) :
    Mid n key r k j (done ++ [e]) a c := by
  refine ⟨h.near, fun x hx hj => ?_⟩
  rcases List.mem_append.1 hx with hx | hx
  · exact h.got x hx hj
  · obtain rfl : x = e := by simpa using hx
    obtain ⟨q1, q2⟩ := h.near.done x.p (g.inb x he).2 hj
    rw [q1, q2] at hk
    exact hk
theorem mid_set {n : Nat} {key : Nat → Int} {E : List Ed} {r k : Nat → Int} (g : Good n key E) (d : IsD n key E r k) {j : Nat} {done : List Ed} {a c a' c' : Nat → Int} (h : Mid n key r k j done a c) (hdone : ∀ x ∈ done, x ∈ E) {e : Ed} (he : e ∈ E)
    (hk : lt2 (a e.p) (c e.p + e.c) (a e.b) (c e.b)) (ha : ∀ v, v < n → v ≠ e.b → a' v = a v ∧ c' v = c v) (hb : a' e.b = a e.p ∧ c' e.b = c e.p + e.c) : Mid n key r k j (done ++ [e]) a' c' := by
  have hbn := (g.inb e he).1
  have lo : ∀ v, v < n → le2 (r v) (k v) (a' v) (c' v) := by
    intro v hv
    by_cases hv' : v = e.b
    · subst hv'
      rw [hb.1, hb.2]
      have q1 := d.edge e he
      have q2 := h.near.lo e.p (g.inb e he).2
      unfold le2 at *
      omega
    · obtain ⟨q1, q2⟩ := ha v hv hv'
      rw [q1, q2]; exact h.near.lo v hv
  have down : ∀ v, v < n → le2 (a' v) (c' v) (a v) (c v) := by
    intro v hv
    by_cases hv' : v = e.b
    · subst hv'
      rw [hb.1, hb.2]
      unfold lt2 at hk
      unfold le2
      omega
    · obtain ⟨q1, q2⟩ := ha v hv hv'
      rw [q1, q2]; exact .inr ⟨rfl, by omega⟩
  refine ⟨⟨lo, fun v hv => ?_, fun v hv hj => ?_⟩, fun x hx hj => ?_⟩
  · have q1 := down v hv
    have q2 := h.near.hi v hv
    unfold le2 at *
    omega
  · have q1 := down v hv
    have q2 := lo v hv
    obtain ⟨q3, q4⟩ := h.near.done v hv hj
    rw [q3, q4] at q1
    unfold le2 at *
    omega
  · rcases List.mem_append.1 hx with hx | hx
    · have q1 := h.got x hx hj
      have q2 := down x.b (g.inb x (hdone x hx)).1
      unfold le2 at *
      omega
    · obtain rfl : x = e := by simpa using hx
      obtain ⟨q1, q2⟩ := h.near.done x.p (g.inb x he).2 hj
      rw [hb.1, hb.2, q1, q2]
      exact .inr ⟨rfl, by omega⟩
theorem mid_end {n : Nat} {key : Nat → Int} {E : List Ed} {r k : Nat → Int} (g : Good n key E) (d : IsD n key E r k) {j : Nat} {a c : Nat → Int} (h : Mid n key r k j E a c) : Near n key r k (j + 1) a c := by
  refine ⟨h.near.lo, h.near.hi, fun v hv hj => ?_⟩
  have q0 := h.near.lo v hv
  rcases d.pick_lt g hv with ⟨e1, e2⟩ | ⟨e, he, e0, e1, e2, e3⟩
  · have := h.near.hi v hv
    unfold le2 at *
    omega
  · have q1 := h.got e he (by omega)
    rw [e0] at q1
    unfold le2 at *
    omega
/-- After n rounds all is settled. -/
theorem near_all {n : Nat} {key r k : Nat → Int} {j : Nat} {a c : Nat → Int} (h : Near n key r k j a c) (hj : n ≤ j) : ∀ v, v < n → a v = r v ∧ c v = k v :=
  fun v hv => h.done v hv (Nat.lt_of_lt_of_le (rank_lt hv) hj)
/-- There is one solution. -/
theorem isd_unique {n : Nat} {key : Nat → Int} {E : List Ed} {r k r' k' : Nat → Int} (g : Good n key E) (d : IsD n key E r k) (d' : IsD n key E r' k') : ∀ v, v < n → r' v = r v ∧ k' v = k v := by
  have : ∀ j, Near n key r k j r' k' := by
    intro j
    induction j with
    | zero =>
      refine ⟨fun v hv => ?_, d'.start, fun v hv h => by omega⟩
      have : ∀ m v, v < n → rank n r' k' v < m → le2 (r v) (k v) (r' v) (k' v) := by
        intro m
        induction m with
        | zero => intro v _ h; omega
        | succ m ih =>
          intro v hv hm
          rcases d'.pick_lt g hv with h | ⟨e, he, h1, h2, h3, h4⟩
          · rw [h.1, h.2]; exact d.start v hv
          · have q1 := ih e.p (g.inb e he).2 (by omega)
            have q2 := d.edge e he
            rw [h1] at q2
            rw [h2, h3]
            unfold le2 at *
            omega
      exact this n v hv (rank_lt hv)
    | succ j ih => exact near_round g d ih d'.start d'.edge d'.pick
  exact near_all (this n) (Nat.le_refl _)
end Go.Proofs.Ytcpekijgjnnfoaa.Th
