/-
  Package lag on lists, without Go: members, the best member.
-/
namespace Go.Proofs.Ytlhpfhicggdnpaa.LagN

def chkGo : List Int → List Int → Int
  | _, [] => 0
  | pre, m :: r => if m < 0 ∨ 65535 < m then 1 else if m ∈ pre then 6 else chkGo (pre ++ [m]) r
def chk (L : List Int) : Int := if 8 < L.length then 2 else if chkGo [] L ≠ 0 then chkGo [] L else if L.length = 0 then 4 else 0

/-- a is preferred to b: a greater weight, or the same weight and a smaller number. -/
def Pref (f : Int → Int) (a b : Int) : Prop := f b < f a ∨ f a = f b ∧ a < b
instance (f : Int → Int) (a b : Int) : Decidable (Pref f a b) := by unfold Pref; infer_instance
def best (f : Int → Int) (b : Int) : List Int → Int
  | [] => b
  | m :: r => best f (if Pref f m b then m else b) r
def pickM (f : Int → Int) (L : List Int) : Int := best f (L.headD 0) (L.drop 1)

theorem chkGo_ok : ∀ (L pre : List Int), chkGo pre L = 0 → (∀ x ∈ L, 0 ≤ x ∧ x ≤ 65535) ∧ (∀ x ∈ L, x ∉ pre) ∧ L.Nodup
  | [], _, _ => by simp
  | m :: r, pre, h => by
    unfold chkGo at h
    split at h
    · omega
    · rename_i h1
      split at h
      · omega
      · rename_i h2
        obtain ⟨a, b, c⟩ := chkGo_ok r (pre ++ [m]) h
        refine ⟨?_, ?_, ?_⟩
        · intro x hx
          rcases List.mem_cons.1 hx with rfl | hx
          · omega
          · exact a x hx
        · intro x hx
          rcases List.mem_cons.1 hx with rfl | hx
          · exact h2
          · intro hp; exact b x hx (by simp [hp])
        · refine List.nodup_cons.2 ⟨fun hm => b m hm (by simp), c⟩
theorem chkGo_of : ∀ (L pre : List Int), (∀ x ∈ L, 0 ≤ x ∧ x ≤ 65535) → (∀ x ∈ L, x ∉ pre) → L.Nodup → chkGo pre L = 0
  | [], _, _, _, _ => rfl
  | m :: r, pre, h1, h2, h3 => by
    unfold chkGo
    have hm := h1 m (by simp)
    rw [if_neg (by omega), if_neg (h2 m (by simp))]
    obtain ⟨h4, h5⟩ := List.nodup_cons.1 h3
    refine chkGo_of r (pre ++ [m]) (fun x hx => h1 x (by simp [hx])) (fun x hx hp => ?_) h5
    rcases List.mem_append.1 hp with hp | hp
    · exact h2 x (by simp [hx]) hp
    · simp at hp; subst hp; exact h4 hx
theorem chk_ok {L : List Int} (h : chk L = 0) : L.length ≤ 8 ∧ 0 < L.length ∧ (∀ x ∈ L, 0 ≤ x ∧ x ≤ 65535) ∧ L.Nodup := by
  unfold chk at h
  split at h
  · omega
  · split at h
    · rename_i h1; exact absurd h h1
    · split at h
      · omega
      · rename_i h1 h2 h3
        obtain ⟨a, _, c⟩ := chkGo_ok L [] (by omega)
        exact ⟨by omega, by omega, a, c⟩
theorem chk_of {L : List Int} (h1 : L.length ≤ 8) (h2 : 0 < L.length) (h3 : ∀ x ∈ L, 0 ≤ x ∧ x ≤ 65535) (h4 : L.Nodup) : chk L = 0 := by
  unfold chk
  rw [if_neg (by omega), chkGo_of L [] h3 (by simp) h4]
  simp
  intro h; subst h; simp at h2
theorem chkGo_range : ∀ (L pre : List Int), 0 ≤ chkGo pre L ∧ chkGo pre L ≤ 6
  | [], _ => by simp [chkGo]
  | m :: r, pre => by
    unfold chkGo
    split
    · omega
    · split
      · omega
      · exact chkGo_range r _
theorem chk_range (L : List Int) : 0 ≤ chk L ∧ chk L ≤ 6 := by
  have := chkGo_range L []
  unfold chk
  split
  · omega
  · split
    · exact this
    · split <;> omega

theorem pref_total (f : Int → Int) (a b : Int) : a = b ∨ Pref f a b ∨ Pref f b a := by unfold Pref; omega
theorem pref_trans {f : Int → Int} {a b c : Int} (h : Pref f a b) (k : Pref f b c) : Pref f a c := by unfold Pref at *; omega
theorem pref_asymm {f : Int → Int} {a b : Int} (h : Pref f a b) : ¬ Pref f b a := by unfold Pref at *; omega
theorem best_mem (f : Int → Int) : ∀ (L : List Int) (b : Int), best f b L = b ∨ best f b L ∈ L
  | [], _ => .inl rfl
  | m :: r, b => by
    unfold best
    rcases best_mem f r (if Pref f m b then m else b) with h | h
    · rw [h]
      split
      · exact .inr (by simp)
      · exact .inl rfl
    · exact .inr (by simp [h])
theorem best_le (f : Int → Int) : ∀ (L : List Int) (b : Int), (best f b L = b ∨ Pref f (best f b L) b) ∧ ∀ x ∈ L, best f b L = x ∨ Pref f (best f b L) x
  | [], _ => ⟨.inl rfl, by simp⟩
  | m :: r, b => by
    unfold best
    obtain ⟨h1, h2⟩ := best_le f r (if Pref f m b then m else b)
    split at h1
    · rename_i hp
      rw [if_pos hp] at h2 ⊢
      refine ⟨.inr ?_, ?_⟩
      · rcases h1 with h1 | h1
        · rw [h1]; exact hp
        · exact pref_trans h1 hp
      · intro x hx
        rcases List.mem_cons.1 hx with rfl | hx
        · exact h1
        · exact h2 x hx
    · rename_i hp
      rw [if_neg hp] at h2 ⊢
      refine ⟨h1, ?_⟩
      intro x hx
      rcases List.mem_cons.1 hx with rfl | hx
      · rcases pref_total f x b with rfl | h3 | h3
        · exact h1
        · exact absurd h3 hp
        · rcases h1 with h1 | h1
          · rw [h1]; exact .inr h3
          · exact .inr (pref_trans h1 h3)
      · exact h2 x hx
theorem choose_mem (f : Int → Int) {L : List Int} (h : 0 < L.length) : pickM f L ∈ L := by
  cases L with
  | nil => simp at h
  | cons b r =>
    show best f b r ∈ b :: r
    rcases best_mem f r b with h | h
    · rw [h]; simp
    · simp [h]
theorem choose_best (f : Int → Int) {L : List Int} (x : Int) (hx : x ∈ L) : pickM f L = x ∨ Pref f (pickM f L) x := by
  cases L with
  | nil => simp at hx
  | cons b r =>
    show best f b r = x ∨ Pref f (best f b r) x
    rcases List.mem_cons.1 hx with rfl | hx
    · exact (best_le f r x).1
    · exact (best_le f r b).2 x hx
/-- The best member is told by being a member and best. -/
theorem choose_eq (f : Int → Int) {L : List Int} {m : Int} (hm : m ∈ L) (hb : ∀ x ∈ L, m = x ∨ Pref f m x) : pickM f L = m := by
  have hl : 0 < L.length := List.length_pos_of_mem hm
  rcases choose_best f m hm with h | h
  · exact h
  · rcases hb _ (choose_mem f hl) with h2 | h2
    · exact h2.symm
    · exact absurd h2 (pref_asymm h)
theorem choose_same (f : Int → Int) {L M : List Int} (hl : 0 < L.length) (h : ∀ x, x ∈ L ↔ x ∈ M) : pickM f M = pickM f L :=
  choose_eq f ((h _).1 (choose_mem f hl)) (fun x hx => choose_best f x ((h x).2 hx))
end Go.Proofs.Ytlhpfhicggdnpaa.LagN
