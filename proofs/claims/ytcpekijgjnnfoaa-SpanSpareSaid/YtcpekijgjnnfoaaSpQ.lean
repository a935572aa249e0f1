/-
  Rows of structs that the call writes in place.
-/
import Derived.Test.YtcpekijgjnnfoaaSpD
namespace Go.Proofs.Ytcpekijgjnnfoaa.Sp
open Go.RowKit Go.Proofs.YtcpekijgjnnfoaaW.PrintWords Go.Proofs.Ytcpekijgjnnfoaa.Xm

/-- Block b, of type e, holds the cells xs from off on. -/
def Row (w : World) (b off : Nat) (e : TypeId) (xs : List Value) : Prop := ∃ cur, Blk w b cur e ∧ ∀ j u, xs[j]? = some u → cur[off + j]? = some u
theorem Row.lt {w : World} {b off : Nat} {e : TypeId} {xs : List Value} (h : Row w b off e xs) : b < w.heap.size := by obtain ⟨_, h, _⟩ := h; exact Blk.lt h
theorem Row.cell {w : World} {b off : Nat} {e : TypeId} {xs : List Value} (h : Row w b off e xs) {j : Nat} {u : Value} (hj : xs[j]? = some u) : w.cell? ⟨b, off + j, none⟩ = some u := by
  obtain ⟨_, h, hc⟩ := h
  rw [Blk.cell h]; exact hc j u hj
theorem Row.frozen {w : World} {b off : Nat} {e : TypeId} {xs : List Value} (h : Row w b off e xs) (j : Nat) : w.frozen? ⟨b, j, none⟩ = false := by obtain ⟨_, h, _⟩ := h; exact Blk.frozen h j
theorem Row.set {w : World} {b off : Nat} {e : TypeId} {xs : List Value} (h : Row w b off e xs) (j : Nat) (u : Value) : Row (w.setCell ⟨b, off + j, none⟩ u) b off e (xs.set j u) := by
  obtain ⟨cur, h, hc⟩ := h
  refine ⟨_, Blk.set h (off + j) u, fun k v hk => ?_⟩
  rw [List.getElem?_set] at hk
  by_cases e : j = k
  · subst e
    rw [if_pos rfl] at hk
    split at hk
    · rename_i hl
      injection hk with hk
      subst hk
      have := hc j _ (List.getElem?_eq_getElem hl)
      have hlt : off + j < cur.size := (Array.getElem?_eq_some_iff.1 this).1
      simp [hlt]
    · cases hk
  · rw [if_neg e] at hk
    rw [Array.getElem?_setIfInBounds, if_neg (by omega)]
    exact hc k v hk
theorem Row.far {w : World} {b off : Nat} {e : TypeId} {xs : List Value} (h : Row w b off e xs) {p : Addr} (hp : b ≠ p.block) (u : Value) : Row (w.setCell p u) b off e xs := by
  obtain ⟨cur, h, hc⟩ := h
  exact ⟨cur, Blk.far h hp u, hc⟩
theorem Row.block {w w' : World} {b off : Nat} {e : TypeId} {xs : List Value} (h : Row w b off e xs) (hb : w'.heap[b]? = w.heap[b]?) : Row w' b off e xs := by
  obtain ⟨cur, h, hc⟩ := h
  exact ⟨cur, hb.trans h, hc⟩
theorem Row.below {w w' : World} {b off : Nat} {e : TypeId} {xs : List Value} (h : Row w b off e xs) (hb : Below w.heap.size w w') : Row w' b off e xs := h.block (hb.block b h.lt)
theorem Row.alloc {w : World} {b off : Nat} {e : TypeId} {xs : List Value} (h : Row w b off e xs) (o : Obj) : Row (w.alloc o) b off e xs := h.below (below_alloc (Below.refl _ _) _)
theorem Row.drew {w : World} {b off : Nat} {e : TypeId} {xs : List Value} (h : Row w b off e xs) : Row w.drew b off e xs := h
theorem Row.drewN {w : World} {b off : Nat} {e : TypeId} {xs : List Value} (h : Row w b off e xs) (n : Nat) : Row (w.drewN n) b off e xs := h
theorem Row.of_blk {w : World} {b : Nat} {cs : Array Value} {e : TypeId} (h : Blk w b cs e) : Row w b 0 e cs.toList := ⟨cs, h, fun j u hj => by rw [Nat.zero_add, ← Array.getElem?_toList]; exact hj⟩
theorem Row.of_q {w : World} {base : Nat} {e : TypeId} {size n c : Nat} {A : Option Addr} {xs : List Value} (h : QRow w base e size (.slice A n c) n xs) (hn : 0 < n) :
    ∃ b off, A = some ⟨b, off, none⟩ ∧ base ≤ b ∧ Row w b off e xs := by
  obtain ⟨b, off, cap, he, hb, _, _, _, hc, _, cur, hh⟩ := q_form h hn
  injection he with he _ _
  refine ⟨b, off, he, hb, cur, hh, fun j u hj => ?_⟩
  have hl : j < xs.length := (List.getElem?_eq_some_iff.1 hj).1
  rw [h.1] at hl
  have := hc j hl
  rw [Blk.cell (show Blk w b cur e from hh)] at this
  rw [this]; exact hj
theorem Row.rowC {w : World} {b off : Nat} {e : TypeId} {xs : List Value} (h : Row w b off e xs) : RowC w (some ⟨b, off, none⟩) xs :=
  fun _ => ⟨b, off, rfl, h.lt, fun _ _ hj => h.cell hj⟩
theorem Row.to {w : World} {b off : Nat} {e : TypeId} {xs ys : List Value} (h : Row w b off e xs) (he : xs = ys) : Row w b off e ys := he ▸ h

theorem flat_set3 {α : Type} (enc : α → List Value) (hk : ∀ x, ∃ a b c, enc x = [a, b, c]) : ∀ (L : List α) (i : Nat) (x : α) (a b c : Value), i < L.length → enc x = [a, b, c] →
    (((L.flatMap enc).set (i * 3) a).set (i * 3 + 1) b).set (i * 3 + 2) c = (L.set i x).flatMap enc
  | [], i, _, _, _, _, h, _ => absurd h (by simp)
  | y :: l, 0, x, a, b, c, _, h => by
    obtain ⟨p, q, r, hy⟩ := hk y
    simp [List.flatMap_cons, hy, h]
  | y :: l, i + 1, x, a, b, c, hl, h => by
    obtain ⟨p, q, r, hy⟩ := hk y
    have ih := flat_set3 enc hk l i x a b c (by simpa using hl) h
    rw [List.set_cons_succ, List.flatMap_cons, List.flatMap_cons, ← ih, hy, show (i + 1) * 3 = i * 3 + 3 by omega]
    simp
theorem flat_set4 {α : Type} (enc : α → List Value) (hk : ∀ x, ∃ a b c d, enc x = [a, b, c, d]) : ∀ (L : List α) (i : Nat) (x : α) (a b c d : Value), i < L.length → enc x = [a, b, c, d] →
    ((((L.flatMap enc).set (i * 4) a).set (i * 4 + 1) b).set (i * 4 + 2) c).set (i * 4 + 3) d = (L.set i x).flatMap enc
  | [], i, _, _, _, _, _, h, _ => absurd h (by simp)
  | y :: l, 0, x, a, b, c, d, _, h => by
    obtain ⟨p, q, r, s, hy⟩ := hk y
    simp [List.flatMap_cons, hy, h]
  | y :: l, i + 1, x, a, b, c, d, hl, h => by
    obtain ⟨p, q, r, s, hy⟩ := hk y
    have ih := flat_set4 enc hk l i x a b c d (by simpa using hl) h
    rw [List.set_cons_succ, List.flatMap_cons, List.flatMap_cons, ← ih, hy, show (i + 1) * 4 = i * 4 + 4 by omega]
    simp
/-- The port of a belief alone. -/
theorem bels_port (N : List Bel) (i : Nat) (b : Bel) (hb : N[i]? = some b) (p : Int) : (bels N).set (i * 3 + 2) (.int .i64 p) = bels (N.set i { b with port := p }) := by
  have h := flat_set3 encB (fun x => ⟨_, _, _, rfl⟩) N i { b with port := p } (.int .i64 b.root) (.int .i64 b.cost) (.int .i64 p) (List.getElem?_eq_some_iff.1 hb).1 rfl
  rw [show bels (N.set i { b with port := p }) = _ from h.symm]
  have e0 : (bels N)[i * 3]? = some (.int .i64 b.root) := (bels_get hb 0 (by omega)).trans rfl
  have e1 : (bels N)[i * 3 + 1]? = some (.int .i64 b.cost) := (bels_get hb 1 (by omega)).trans rfl
  have self : ∀ (l : List Value) (j : Nat) (u : Value), l[j]? = some u → l.set j u = l := by
    intro l j u hj
    obtain ⟨hl, he⟩ := List.getElem?_eq_some_iff.1 hj
    rw [← he, List.set_getElem_self]
  have s0 := self _ _ _ e0
  have s1 := self _ _ _ e1
  show _ = (((bels N).set (i * 3) _).set (i * 3 + 1) _).set (i * 3 + 2) _
  rw [s0, s1]
theorem bels_set (N : List Bel) (i : Nat) (b : Bel) (h : i < N.length) : ((((bels N).set (i * 3) (.int .i64 b.root)).set (i * 3 + 1) (.int .i64 b.cost)).set (i * 3 + 2) (.int .i64 b.port)) = bels (N.set i b) :=
  flat_set3 encB (fun x => ⟨_, _, _, rfl⟩) N i b _ _ _ h rfl
def vecs (V : List Vec) : List Value := V.flatMap encV
theorem vecs_len (V : List Vec) : (vecs V).length = V.length * 4 := flat_len encV 4 (fun _ => rfl) V
theorem vecs_get {V : List Vec} {i : Nat} {b : Vec} (h : V[i]? = some b) (j : Nat) (hj : j < 4) : (vecs V)[i * 4 + j]? = (encV b)[j]? := flat_get encV 4 (fun _ => rfl) V i b h j hj
theorem vecs_set (V : List Vec) (i : Nat) (b : Vec) (h : i < V.length) : (((((vecs V).set (i * 4) (.int .i64 b.root)).set (i * 4 + 1) (.int .i64 b.cost)).set (i * 4 + 2) (.int .i64 b.id)).set (i * 4 + 3) (.int .i64 b.port)) = vecs (V.set i b) :=
  flat_set4 encV (fun x => ⟨_, _, _, _, rfl⟩) V i b _ _ _ _ h rfl
theorem row_port {w : World} {b off : Nat} {e : TypeId} {N : List Bel} (h : Row w b off e (bels N)) (i : Nat) (x : Bel) (hx : N[i]? = some x) (p : Int) :
    Row (w.setCell ⟨b, off + i * 3 + 2, none⟩ (.int .i64 p)) b off e (bels (N.set i { x with port := p })) := by
  have h3 := h.set (i * 3 + 2) (.int .i64 p)
  rw [bels_port N i x hx p] at h3
  exact h3
theorem heap_drew (w : World) (k : Nat) : w.drew.heap[k]? = w.heap[k]? := rfl
theorem heap_set1 {w : World} {g o k : Nat} (u : Value) (h : k ≠ g) : (w.setCell ⟨g, o, none⟩ u).heap[k]? = w.heap[k]? := Below.heap_setCell w ⟨g, o, none⟩ u k h
theorem heap_set4 {w : World} {g o1 o2 o3 o4 k : Nat} (u1 u2 u3 u4 : Value) (h : k ≠ g) : ((((w.setCell ⟨g, o1, none⟩ u1).setCell ⟨g, o2, none⟩ u2).setCell ⟨g, o3, none⟩ u3).setCell ⟨g, o4, none⟩ u4).heap[k]? = w.heap[k]? :=
  (heap_set1 u4 h).trans ((heap_set1 u3 h).trans ((heap_set1 u2 h).trans (heap_set1 u1 h)))
/-- A struct is written. -/
theorem row_bel {w : World} {b off : Nat} {e : TypeId} {N : List Bel} (h : Row w b off e (bels N)) (i : Nat) (x : Bel) (hi : i < N.length) :
    Row (((w.setCell ⟨b, off + i * 3, none⟩ (.int .i64 x.root)).setCell ⟨b, off + i * 3 + 1, none⟩ (.int .i64 x.cost)).setCell ⟨b, off + i * 3 + 2, none⟩ (.int .i64 x.port)) b off e (bels (N.set i x)) := by
  have h3 := ((h.set (i * 3) (.int .i64 x.root)).set (i * 3 + 1) (.int .i64 x.cost)).set (i * 3 + 2) (.int .i64 x.port)
  rw [bels_set N i x hi] at h3
  exact h3
theorem row_bel0 {w : World} {b : Nat} {e : TypeId} {N : List Bel} (h : Row w b 0 e (bels N)) (i : Nat) (x : Bel) (hi : i < N.length) :
    Row (((w.setCell ⟨b, i * 3, none⟩ (.int .i64 x.root)).setCell ⟨b, i * 3 + 1, none⟩ (.int .i64 x.cost)).setCell ⟨b, i * 3 + 2, none⟩ (.int .i64 x.port)) b 0 e (bels (N.set i x)) := by
  have h3 := row_bel h i x hi
  rw [Nat.zero_add] at h3
  exact h3
theorem row_vec0 {w : World} {b : Nat} {e : TypeId} {V : List Vec} (h : Row w b 0 e (vecs V)) (i : Nat) (x : Vec) (hi : i < V.length) :
    Row ((((w.setCell ⟨b, i * 4, none⟩ (.int .i64 x.root)).setCell ⟨b, i * 4 + 1, none⟩ (.int .i64 x.cost)).setCell ⟨b, i * 4 + 2, none⟩ (.int .i64 x.id)).setCell ⟨b, i * 4 + 3, none⟩ (.int .i64 x.port)) b 0 e (vecs (V.set i x)) := by
  have h3 := (((h.set (i * 4) (.int .i64 x.root)).set (i * 4 + 1) (.int .i64 x.cost)).set (i * 4 + 2) (.int .i64 x.id)).set (i * 4 + 3) (.int .i64 x.port)
  rw [vecs_set V i x hi] at h3
  simp only [Nat.zero_add] at h3
  exact h3
theorem Row.far3 {w : World} {b off : Nat} {e : TypeId} {xs : List Value} (h : Row w b off e xs) {g o1 o2 o3 : Nat} (hp : b ≠ g) (u1 u2 u3 : Value) : Row (((w.setCell ⟨g, o1, none⟩ u1).setCell ⟨g, o2, none⟩ u2).setCell ⟨g, o3, none⟩ u3) b off e xs :=
  ((h.far hp u1).far hp u2).far hp u3
theorem Row.far4 {w : World} {b off : Nat} {e : TypeId} {xs : List Value} (h : Row w b off e xs) {g o1 o2 o3 o4 : Nat} (hp : b ≠ g) (u1 u2 u3 u4 : Value) : Row ((((w.setCell ⟨g, o1, none⟩ u1).setCell ⟨g, o2, none⟩ u2).setCell ⟨g, o3, none⟩ u3).setCell ⟨g, o4, none⟩ u4) b off e xs :=
  (((h.far hp u1).far hp u2).far hp u3).far hp u4
theorem below3 {B : Nat} {w W : World} (h : Below B w W) {g o1 o2 o3 : Nat} (hg : B ≤ g) (u1 u2 u3 : Value) : Below B w (((W.setCell ⟨g, o1, none⟩ u1).setCell ⟨g, o2, none⟩ u2).setCell ⟨g, o3, none⟩ u3) := ((h.setCell hg u1).setCell hg u2).setCell hg u3
theorem below4 {B : Nat} {w W : World} (h : Below B w W) {g o1 o2 o3 o4 : Nat} (hg : B ≤ g) (u1 u2 u3 u4 : Value) : Below B w ((((W.setCell ⟨g, o1, none⟩ u1).setCell ⟨g, o2, none⟩ u2).setCell ⟨g, o3, none⟩ u3).setCell ⟨g, o4, none⟩ u4) := (((h.setCell hg u1).setCell hg u2).setCell hg u3).setCell hg u4
section
variable {P : Program}
/-- 'append(v, x1, .., xm)' onto a row of the call's own, as a step of a region that draws its order. -/
theorem step_append_q {ops : Array Oper} {o : Oper} {a : Act} {K : Act → World → Prop} {Q : Exit → Act → World → Prop} {E : Prop} (W : World) (base : Nat) (hgd : o.guard = none) (s x : Operand) (t e : TypeId) (z : Value) (size bytes : Nat)
    (ho : o.op = .call { callee := .builtin .append, args := #[s, x], argTypes := #[t, t] })
    (ht : P.underlying t = some (.slice e)) (hinfo : (P.info? e).map (fun i => (i.zero, i.size, i.bytes)) = some (some z, size, bytes)) (hz : z.cells.size = size) (hs0 : 0 < size)
    (v : Value) (n : Nat) (xs : List Value) (hs : a.eval s = v) (hown : QRow W base e size v n xs)
    (m : Nat) (cs : List Value) (hx : a.eval x = .slice (some ⟨W.heap.size, 0, none⟩) m m) (hl : cs.length = m * size) (h1 : ∀ u ∈ cs, u.oneCell' = true) (hm : 0 < m)
    (h63 : n + m ≤ maxLen) (hbytes : (n + m) * bytes ≤ 140737488355328) (hbase : base ≤ W.heap.size)
    (h : ∀ v' w', QRow w' base e size v' (n + m) (xs ++ cs) → (W.alloc (.cells cs.toArray e)).grownBy w' v.ownBlock → (v'.ownBlock = v.ownBlock ∨ ∃ b, v'.ownBlock = some b ∧ W.heap.size ≤ b) → K (a.put o.dst v') w') :
    if Region.wanted o (yielded ops a.tmps) = true then Oper.wp P o a (W.alloc (.cells cs.toArray e)) K Q else E := by
  have hw : Region.wanted o (yielded ops a.tmps) = true := by simp [Region.wanted, hgd]
  rw [if_pos hw]
  obtain ⟨i, hi, hz0, hz1, hz2⟩ := info_parts hinfo
  have hnew : ∀ j u, cs[j]? = some u → (W.alloc (.cells cs.toArray e)).cell? ((⟨W.heap.size, 0, none⟩ : Addr).add j) = some u := by
    intro j u hu
    rw [Go.Proofs.YtcpekijgjnnfoaaW.PrintWords.add_plain, cell_of_row _ W.heap.size j cs.toArray e (0, 0) (heap_alloc_new W _)]
    simpa using hu
  obtain ⟨v', w', hr, h2, h3, h4⟩ := q_append (P := P) (W.alloc (.cells cs.toArray e)) base t o.type e i z size bytes ht hi hz0 hz1 hz2 hz hs0 v n xs (q_alloc hown _) ⟨W.heap.size, 0, none⟩ m m cs hl hnew h1 hm h63 hbytes (by simp; omega)
  have hat : v'.ownBlock = v.ownBlock ∨ ∃ b, v'.ownBlock = some b ∧ W.heap.size ≤ b := by
    rcases h4 with h4 | ⟨b, hb, hle⟩
    · exact .inl h4
    · exact .inr ⟨b, hb, by simp at hle; omega⟩
  unfold Oper.wp execOp
  simp only [ho, resolve, invoke, builtin, Sem.run_bind, Sem.run_pure, Result.andThen_ok, List.map_toArray, List.map_cons, List.map_nil, hs, hx, hr]
  exact h v' w' h2 h3 hat
end
/-- make of n structs of zeros. -/
theorem made_flat (k n : Nat) (hk : 0 < k) : (madeCells (Array.replicate k (Value.int .i64 0)) (n * k)).toList = List.replicate (n * k) (Value.int .i64 0) := by
  apply List.ext_getElem
  · simp [madeCells]
  · intro i h1 h2
    have hm : i % k < k := Nat.mod_lt _ hk
    simp [madeCells, hm]
theorem flat_zero {α : Type} (enc : α → List Value) (k : Nat) (z : α) (hz : enc z = List.replicate k (Value.int .i64 0)) (n : Nat) : (List.replicate n z).flatMap enc = List.replicate (n * k) (Value.int .i64 0) := by
  induction n with
  | zero => simp
  | succ n ih => rw [List.replicate_succ, List.flatMap_cons, ih, hz, List.replicate_append_replicate]; congr 1; rw [Nat.succ_mul]; omega
end Go.Proofs.Ytcpekijgjnnfoaa.Sp
