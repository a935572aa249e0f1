/-
  ends: its contract.
-/
import Derived.Test.YtcpekijgjnnfoaaSpC
namespace Go.Proofs.Ytcpekijgjnnfoaa.Sp
open Go.RowKit Go.Proofs.YtcpekijgjnnfoaaW.PrintWords Go.Proofs.Ytcpekijgjnnfoaa.Xm

def EndsOut (w w' : World) (L : List Link) (e : Ending) : Prop :=
  ∃ A c E, e = .returned (.slice A (L.length * 2) c) ∧ E.Perm (rawE L) ∧ SortedE E ∧ RowC w' A (endsV E) ∧ Below w.heap.size w w'
set_option maxHeartbeats 1600000 in
set_option maxRecDepth 100000 in
theorem ends_any (Ai Al : Option Addr) (m ci cl : Nat) (L : List Link) (w : World) (hL : RowC w Al (linksV L)) (hl : L.length ≤ 1000) :
    Calls Try.prog 22 #[.agg #[.slice Ai m ci, .slice Al L.length cl]] w fun e w' => EndsOut w w' L e := by
  have HL := Lib.hid hL
  have hb0 := below_alloc (Below.refl w.heap.size w) (.cells #[.slice Ai m ci, .slice Al L.length cl] 25)
  have HB0 := Lib.hid hb0
  clear hL hb0
  go_enter Try.func22, Try.ntmps22
  go_wp2_with fail
  generalize w.alloc (.cells #[.slice Ai m ci, .slice Al L.length cl] 25) = w1 at *
  go_loopw [3, 9] (fun out i wr => RawRel w L out i wr) (fun _ i _ => L.length - (intOf i).toNat)
  case atStart => exact ⟨0, Nat.zero_le _, rfl, HB0.out, by simpa [endsV, rawE] using q_nil _ _ _ _⟩
  case round =>
    obtain ⟨k, hk, rfl, hb, hq⟩ := hrel
    have HB := Lib.hid hb
    have HQ := Lib.hid hq
    clear hb hq
    by_cases hlt : k < L.length
    · have hd : decide ((k : Int) < (L.length : Int)) = true := by simp; omega
      obtain ⟨b, off, rfl, hbl, hc⟩ := HL.out (by rw [linksV_len]; omega)
      obtain ⟨x, hx⟩ : ∃ x, L[k]? = some x := ⟨L[k], List.getElem?_eq_getElem _⟩
      have htk : endsV (rawE (L.take (k + 1))) = endsV (rawE (L.take k)) ++ (endsV (bothE x)) := by
        rw [List.take_add_one, hx]
        simp [endsV, rawE]
      obtain ⟨la, lpa, lb, lpb, lc⟩ := x
      have cell : ∀ j u, (encL ⟨la, lpa, lb, lpb, lc⟩)[j]? = some u → wr.cell? ⟨b, off + (k * 5 + j), none⟩ = some u := by
        intro j u hu
        have hj : j < 5 := by have := (List.getElem?_eq_some_iff.1 hu).1; simpa [encL] using this
        exact pw_cell_below HB.out (hc (k * 5 + j) u ((linksV_get hx j hj).trans hu))
      have c0 : wr.cell? ⟨b, off + k * 5, none⟩ = some (.int .i64 la) := cell 0 _ rfl
      have c1 : wr.cell? ⟨b, off + k * 5 + 1, none⟩ = some (.int .i64 lpa) := by rw [Nat.add_assoc]; exact cell 1 _ rfl
      have c2 : wr.cell? ⟨b, off + k * 5 + 2, none⟩ = some (.int .i64 lb) := by rw [Nat.add_assoc]; exact cell 2 _ rfl
      have c3 : wr.cell? ⟨b, off + k * 5 + 3, none⟩ = some (.int .i64 lpb) := by rw [Nat.add_assoc]; exact cell 3 _ rfl
      have c4 : wr.cell? ⟨b, off + k * 5 + 4, none⟩ = some (.int .i64 lc) := by rw [Nat.add_assoc]; exact cell 4 _ rfl
      have HTK := Lib.hid htk
      have hws := HB.out.size
      clear hc hx htk cell
      go_wp2_with (at_builtin; refine wpList_append_q (wr.alloc (.cells #[.int .i64 la, .int .i64 lpa, .int .i64 lb, .int .i64 lpb, .int .i64 lc] 37)) w.heap.size rfl (.tmp 13) (.tmp 36) 51 56 (.agg #[.int .i64 0, .int .i64 0, .int .i64 0, .int .i64 0, .int .i64 0]) 5 40 rfl Try.underlying51 info_end rfl (by decide) _ (k * 2) (endsV (rawE (L.take k))) rfl ?hq 2 [.int .i64 la, .int .i64 lpa, .int .i64 lb, .int .i64 lpb, .int .i64 lc, .int .i64 lb, .int .i64 lpb, .int .i64 la, .int .i64 lpa, .int .i64 lc] ?hx rfl ?h1 (by decide) ?h63 ?hby ?hba ?next)
      case hq => exact q_alloc HQ.out _
      case hx => show Value.slice (some ⟨wr.heap.size + 1, 0, none⟩) 2 2 = _; simp
      case h1 => intro u hu; simp at hu; rcases hu with rfl | rfl | rfl | rfl | rfl | rfl | rfl | rfl | rfl | rfl <;> rfl
      case h63 => unfold maxLen; omega
      case hby => omega
      case hba => simp; omega
      case next =>
        intro v2 w2 hq2 hg2 _
        have hb2 : Below w.heap.size w w2 := (below_alloc HB.out _).grown hg2 (by simp; omega) (fun q hq => (q_typed HQ.out q hq).1)
        have HB2 := Lib.hid hb2
        have HQ2 := Lib.hid hq2
        clear hq2 hg2 hb2
        go_wp2_with fail
        refine ⟨⟨k + 1, hlt, by go_num, HB2.out, ?_⟩, by simp [intOf]; omega⟩
        rw [HTK.out, show (k + 1) * 2 = k * 2 + 2 by omega]
        exact HQ2.out
    · obtain rfl : k = L.length := by omega
      have hd : decide ((L.length : Int) < (L.length : Int)) = false := by simp
      obtain ⟨A, c, rfl, -⟩ := q_slice HQ.out
      have hq := HQ.out
      rw [List.take_length] at hq
      have hs := sort_any wr w.heap.size A (L.length * 2) c (rawE L) (rawE_len L) hq (by omega) HB.out.size
      have HS := Lib.hid hs
      clear hq hs
      go_wp2_with fail
      refine HS.out.mono ?_
      rintro e w2 ⟨rfl, E, hp, hso, hr, hb2⟩
      have HF := Lib.hid (show EndsOut w w2 L (.returned (.slice A (L.length * 2) c)) from ⟨A, c, E, rfl, hp, hso, hr, HB.out.trans hb2⟩)
      clear hp hso hr hb2
      go_wp2_with fail
      go_ret
      exact HF.out
end Go.Proofs.Ytcpekijgjnnfoaa.Sp
