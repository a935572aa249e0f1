/-
  The rules of the ports (packages tag and frame), out of the printed texts: each function answers, always the same.
-/
import Derived.Test.YtidgmoeimgjggaaPBridgeFloodsx3
import Derived.Test.YtidgmoeimgjggaaLearn
import Derived.WideShapes
namespace Go.Proofs.Ytidgmoeimgjggaa.Br
open Go.RowKit Go.Proofs.YtidgmoeimgjggaaW.PrintWords Go.Proofs.YtidgmoeimgjggaaW.PrintLast Go.Proofs.YtidgmoeimgjggaaW.PrintMore Go.Proofs.Ytidgmoeimgjggaa.Xm Go.Proofs.Ytidgmoeimgjggaa.PBridgeFloods

theorem net_some (x : Int) : ∃ b, tag_net.f x = some b := by
  unfold tag_net.f
  split <;> exact ⟨_, rfl⟩
theorem w64_in {x : Int} (h0 : -1000000000 ≤ x) (h1 : x ≤ 1000000000) : wrap64 x = x := by unfold wrap64; omega
theorem tl0_some (l : List Int) (a : Int) (hl : l.length ≤ 256) : ∀ (d i k : Nat), l.length - i ≤ d → i ≤ l.length → d < k → ∃ r, tag_Check.l0 k l (l.length : Int) (i : Int) a l = some r := by
  intro d
  induction d with
  | zero =>
    intro i k h1 h2 h3
    obtain ⟨k, rfl⟩ : ∃ m, k = m + 1 := ⟨k - 1, by omega⟩
    simp only [tag_Check.l0]
    rw [if_neg (by omega)]
    exact ⟨_, rfl⟩
  | succ d ih =>
    intro i k h1 h2 h3
    obtain ⟨k, rfl⟩ : ∃ m, k = m + 1 := ⟨k - 1, by omega⟩
    simp only [tag_Check.l0]
    by_cases hi : i < l.length
    · obtain ⟨b, hb⟩ := net_some (rd l (i : Int))
      have hs : wrap64 ((i : Int) + 1) = ((i + 1 : Nat) : Int) := by rw [w64_in (by omega) (by omega)]; omega
      have hm : wrap64 ((i : Int) - 1) = (i : Int) - 1 := w64_in (by omega) (by omega)
      rw [if_pos (by omega), if_pos (by omega), if_pos (by omega), hb, hs, hm]
      simp only [Option.bind_some]
      obtain ⟨r, hr⟩ := ih (i + 1) k (by omega) (by omega) (by omega)
      rw [hr]
      cases b with
      | false => exact ⟨10, rfl⟩
      | true =>
        rw [if_pos rfl]
        by_cases h0 : (i : Int) > 0
        · rw [if_pos h0, if_pos (by omega), if_pos (by omega)]
          split <;> exact ⟨_, rfl⟩
        · rw [if_neg h0]
          exact ⟨_, rfl⟩
    · rw [if_neg (by omega)]
      exact ⟨_, rfl⟩
theorem tchk_some (a : Int) (l : List Int) : ∃ r, tag_Check.f 300 a l = some r := by
  unfold tag_Check.f
  have hj : ∀ b, ∃ r, tag_Check.j0 300 b a l = some r := by
    intro b
    simp only [tag_Check.j0]
    by_cases h1 : b = true
    · rw [if_pos h1]; exact ⟨_, rfl⟩
    · rw [if_neg h1]
      by_cases h2 : (l.length : Int) > 256
      · rw [if_pos h2]; exact ⟨_, rfl⟩
      · rw [if_neg h2]
        exact tl0_some l a (by omega) l.length 0 299 (by omega) (by omega) (by omega)
  split <;> exact hj _
theorem tchk_len {a : Int} {l : List Int} (h : tag_Check.f 300 a l = some 0) : l.length ≤ 256 := by
  by_cases hl : l.length ≤ 256
  · exact hl
  · exfalso
    have hj : ∀ b, tag_Check.j0 300 b a l ≠ some 0 := by
      intro b
      simp only [tag_Check.j0]
      by_cases hb : b = true
      · simp [hb]
      · rw [if_neg hb, if_pos (by omega)]; simp
    unfold tag_Check.f at h
    split at h <;> exact hj _ h
theorem idx_some (l : List Int) (x : Int) (hl : l.length ≤ 1000000000) : ∀ (d i k : Nat), l.length - i ≤ d → i ≤ l.length → d < k → ∃ r, slices_Index_int_int.l0 k l x (l.length : Int) (i : Int) = some r := by
  intro d
  induction d with
  | zero =>
    intro i k h1 h2 h3
    obtain ⟨k, rfl⟩ : ∃ m, k = m + 1 := ⟨k - 1, by omega⟩
    simp only [slices_Index_int_int.l0]
    rw [if_neg (by omega)]
    exact ⟨_, rfl⟩
  | succ d ih =>
    intro i k h1 h2 h3
    obtain ⟨k, rfl⟩ : ∃ m, k = m + 1 := ⟨k - 1, by omega⟩
    simp only [slices_Index_int_int.l0]
    by_cases hi : i < l.length
    · have hs : wrap64 ((i : Int) + 1) = ((i + 1 : Nat) : Int) := by unfold wrap64; omega
      obtain ⟨r, hr⟩ := ih (i + 1) k (by omega) (by omega) (by omega)
      rw [if_pos (by omega)]
      try rw [hs, hr]
      repeat' split
      all_goals first | exact ⟨_, rfl⟩ | omega
    · rw [if_neg (by omega)]
      exact ⟨_, rfl⟩
theorem con_some (l : List Int) (x : Int) (hl : l.length ≤ 256) : ∃ r, slices_Contains_int_int.f 300 l x = some r := by
  unfold slices_Contains_int_int.f slices_Index_int_int.f
  obtain ⟨r, hr⟩ := idx_some l x (by omega) l.length 0 300 (by omega) (by omega) (by omega)
  rw [show ((0 : Nat) : Int) = 0 from rfl] at hr
  rw [hr]
  exact ⟨_, rfl⟩
/-- What a frame's check answers. -/
def grpB (s : Int) : Bool := bits BinOp.and IntKind.i64 (s / 1099511627776) 1 == 1
def chk (d s t y : Int) (b : ByteArray) : Int :=
  if d < 0 ∨ d ≥ 281474976710656 ∨ s < 0 ∨ s ≥ 281474976710656 ∨ grpB s = true then 1 else if t < 0 ∨ t > 4094 ∨ y < 0 ∨ y > 65535 ∨ y = 33024 then 10 else if (b.size : Int) > 1500 then 2 else 0
theorem chk_f (d s t y : Int) (b : ByteArray) : frame_Check.f 300 d s t y b = some (chk d s t y b) := by
  have hj1 : ∀ x, frame_Check.j1 299 x d s t y b = some (if x = true then 10 else if (b.size : Int) > 1500 then 2 else 0) := by
    intro x
    simp only [frame_Check.j1]
    repeat' split
    all_goals rfl
  have hj0 : ∀ x, frame_Check.j0 300 x d s t y b = some (if x = true then 1 else if t < 0 ∨ t > 4094 ∨ y < 0 ∨ y > 65535 ∨ y = 33024 then 10 else if (b.size : Int) > 1500 then 2 else 0) := by
    intro x
    simp only [frame_Check.j0, hj1]
    by_cases h1 : x = true
    · simp only [if_pos h1]
    · simp only [if_neg h1]
      by_cases h2 : t < 0
      · simp [h2]
      · by_cases h3 : t > 4094
        · simp [h2, h3]
        · by_cases h4 : y < 0
          · simp [h2, h3, h4]
          · by_cases h5 : y > 65535
            · simp [h2, h3, h4, h5]
            · by_cases h6 : y = 33024
              · simp [h6]
              · simp [h2, h3, h4, h5, h6]
  unfold frame_Check.f chk
  simp only [hj0]
  by_cases h1 : d < 0
  · simp [h1]
  · by_cases h2 : d ≥ 281474976710656
    · simp [h1, h2]
    · by_cases h3 : s < 0
      · simp [h1, h2, h3]
      · by_cases h4 : s ≥ 281474976710656
        · simp [h1, h2, h3, h4]
        · have hg : frame_Group.f s = some (grpB s) := by
            unfold frame_Group.f grpB
            rw [if_pos (by omega)]
          rw [if_neg h1, if_neg h2, if_neg h3, if_neg h4, hg]
          simp only [Option.bind_some]
          by_cases h5 : grpB s = true
          · simp [h5]
          · simp [h1, h2, h3, h4, h5]
/-- A port and a frame, as values of numbers. -/
structure Port where
  access : Int
  allow : List Int
structure Fr where
  dst : Int
  src : Int
  tag : Int
  type : Int
  body : ByteArray
def Fr.val (f : Fr) : Value := .agg #[.int .i64 f.dst, .int .i64 f.src, .int .i64 f.tag, .int .i64 f.type, .string f.body]
def Fr.chk (f : Fr) : Int := Br.chk f.dst f.src f.tag f.type f.body
theorem tin_some (p : Port) (f : Fr) : ∃ r, tag_In.f 301 p.access p.allow f.dst f.src f.tag f.type f.body = some r := by
  obtain ⟨c, hc⟩ := tchk_some p.access p.allow
  have hc' := tag_Check.mono _ _ _ _ hc
  have hf' := frame_Check.mono _ _ _ _ _ _ _ (chk_f f.dst f.src f.tag f.type f.body)
  unfold tag_In.f
  rw [hc', hf']
  simp only [Option.bind_some]
  by_cases h0 : c = 0
  · rw [if_pos h0]
    split
    · have hj : ∀ x, ∃ r, tag_In.j0 301 x p.access p.allow f.dst f.src f.tag f.type f.body = some r := by
        intro x
        simp only [tag_In.j0]
        by_cases h1 : x = true
        · rw [if_pos h1]; exact ⟨_, rfl⟩
        · rw [if_neg h1]
          by_cases h2 : f.tag > 0
          · rw [if_pos h2]
            have hlen : p.allow.length ≤ 256 := by
              subst h0
              by_cases hl : p.allow.length ≤ 256
              · exact hl
              · exfalso
                have hj : ∀ b, tag_Check.j0 300 b p.access p.allow ≠ some 0 := by
                  intro b
                  simp only [tag_Check.j0]
                  by_cases hb : b = true
                  · simp [hb]
                  · rw [if_neg hb, if_pos (by omega)]; simp
                unfold tag_Check.f at hc
                split at hc <;> exact hj _ hc
            obtain ⟨r, hr⟩ := con_some p.allow f.tag hlen
            rw [hr]
            simp only [Option.bind_some]
            split <;> exact ⟨_, rfl⟩
          · rw [if_neg h2]; exact ⟨_, rfl⟩
      split <;> exact hj _
    · exact ⟨_, rfl⟩
  · rw [if_neg h0]; exact ⟨_, rfl⟩
theorem tout_some (p : Port) (n : Int) (f : Fr) : ∃ r, tag_Out.f 300 p.access p.allow n f.dst f.src f.tag f.type f.body = some r := by
  obtain ⟨c, hc⟩ := tchk_some p.access p.allow
  obtain ⟨b, hb⟩ := net_some n
  unfold tag_Out.f
  rw [hc, hb, chk_f]
  simp only [Option.bind_some]
  by_cases h0 : c = 0
  · rw [if_pos h0]
    have hlen : p.allow.length ≤ 256 := by
      subst h0
      by_cases hl : p.allow.length ≤ 256
      · exact hl
      · exfalso
        have hj : ∀ b, tag_Check.j0 300 b p.access p.allow ≠ some 0 := by
          intro b
          simp only [tag_Check.j0]
          by_cases hb : b = true
          · simp [hb]
          · rw [if_neg hb, if_pos (by omega)]; simp
        unfold tag_Check.f at hc
        split at hc <;> exact hj _ hc
    obtain ⟨r, hr⟩ := con_some p.allow n hlen
    rw [hr]
    simp only [Option.bind_some]
    repeat' split
    all_goals exact ⟨_, rfl⟩
  · rw [if_neg h0]; exact ⟨_, rfl⟩

/-- A row of ints that can be read. -/
def RowOf (w : World) (A : Option Addr) (l : List Int) : Prop := l.length ≤ 9223372036854775807 ∧ (0 < l.length → ∃ b off, A = some ⟨b, off, none⟩ ∧ b < w.heap.size ∧ ∀ j x, l[j]? = some x → w.cell? ⟨b, off + j, none⟩ = some (.int .i64 x))
theorem RowOf.kd {w : World} {A : Option Addr} {l : List Int} (h : RowOf w A l) : Kd.C (Kd.int .i64) w A l.length l := by
  refine ⟨rfl, h.1, fun hp => ?_⟩
  obtain ⟨b, off, rfl, _, hc⟩ := h.2 hp
  refine ⟨_, rfl, fun j p hj => ⟨[.int .i64 p], rfl, rfl, fun i u hu => ?_⟩⟩
  cases i with
  | zero =>
    simp at hu
    subst hu
    have := hc j p hj
    rw [show j * (Kd.int .i64).sz + 0 = j from Nat.mul_one j, Go.WideShapes.add_plain]
    exact this
  | succ i => simp at hu
theorem RowOf.below {w w' : World} {A : Option Addr} {l : List Int} (h : RowOf w A l) (hb : Below w.heap.size w w') : RowOf w' A l := by
  refine ⟨h.1, fun hp => ?_⟩
  obtain ⟨b, off, rfl, hl, hc⟩ := h.2 hp
  exact ⟨b, off, rfl, Nat.lt_of_lt_of_le hl hb.size, fun j x hx => pw_cell_below hb (hc j x hx)⟩

/-- What each port answers for each frame: fixed. -/
theorem tagIn_any (p : Port) (f : Fr) : ∃ r : Int × Int, ∀ (W : World) (A : Option Addr) (c : Nat), RowOf W A p.allow → p.allow.length ≤ c →
    Calls Try.prog 33 #[.agg #[.int .i64 p.access, .slice A p.allow.length c], f.val] W fun e w' => e = .returned (.tuple #[.int .i64 r.1, .int .i64 r.2]) ∧ Below W.heap.size W w' := by
  obtain ⟨r, hr⟩ := tin_some p f
  exact ⟨r, fun W A c h hc => tag_In.calls 301 p.access A c p.allow f.dst f.src f.tag f.type f.body r.1 r.2 W h.kd hc hr⟩
/-- What 'Out' returns, but for 'member', is nowhere read. -/
theorem tagOut_any (p : Port) (n : Int) (f : Fr) : ∃ (m : Bool) (g : Fr) (x : Int), ∀ (W : World) (A : Option Addr) (c : Nat), RowOf W A p.allow → p.allow.length ≤ c →
    Calls Try.prog 35 #[.agg #[.int .i64 p.access, .slice A p.allow.length c], .int .i64 n, f.val] W fun e w' => e = .returned (.tuple #[g.val, .bool m, .int .i64 x]) ∧ Below W.heap.size W w' := by
  obtain ⟨⟨r1, r2, r3, r4, r5, r6, r7⟩, hr⟩ := tout_some p n f
  exact ⟨r6, ⟨r1, r2, r3, r4, r5⟩, r7, fun W A c h hc => tag_Out.calls 300 p.access A c p.allow n f.dst f.src f.tag f.type f.body r1 r2 r3 r4 r5 r6 r7 W h.kd hc hr⟩
theorem tagCheck_any (p : Port) : ∃ r : Int, (r = 0 → p.allow.length ≤ 256) ∧ tag_Check.f 300 p.access p.allow = some r ∧ ∀ (W : World) (A : Option Addr) (c : Nat), RowOf W A p.allow → p.allow.length ≤ c →
    Calls Try.prog 38 #[.agg #[.int .i64 p.access, .slice A p.allow.length c]] W fun e w' => e = .returned (.int .i64 r) ∧ Below W.heap.size W w' := by
  obtain ⟨r, hr⟩ := tchk_some p.access p.allow
  exact ⟨r, fun h0 => tchk_len (h0 ▸ hr), hr, fun W A c h hc => tag_Check.calls 300 p.access A c p.allow r W h.kd hc hr⟩
theorem frCheck_any (f : Fr) (W : World) : Calls Try.prog 34 #[f.val] W fun e w' => e = .returned (.int .i64 f.chk) ∧ Below W.heap.size W w' :=
  frame_Check.calls 300 f.dst f.src f.tag f.type f.body _ W (chk_f _ _ _ _ _)
end Go.Proofs.Ytidgmoeimgjggaa.Br
