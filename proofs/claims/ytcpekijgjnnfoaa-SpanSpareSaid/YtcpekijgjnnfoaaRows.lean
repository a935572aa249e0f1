/-
  No cell of these rows narrows 'for every input' (looked for: loops, veiled, ifaces, maps, wideKeys, modest, calm, conditions, laid).
  DERIVED. THE GIVEN ROWS OF THIS SEAT. 5 by the template 'for every input the law returns true; each argument reads behind the call as it read before'; 0 by the template 'total and deterministic' (their statements: YtcpekijgjnnfoaaTotals.lean).
  GIVEN WITH THE SEED: the statements are not yours to turn. If you find one false, say at which input.
  Laid BY PROGRAM, IN A SANDBOX (cutbox-rows.mjs): the forced cells as the released guide's own fill.sh prints them over the translation 2dc3240678d864e7… (all of the seat's roots in one cut). By AI agents, Wed Nov 11 2026. No macro, syntax, notation, axiom, sorry.
-/
import Derived.Test.YtcpekijgjnnfoaaChecked
import GoSem.Claim
import GoSem.ClaimJoined
import GoSem.ClaimMapViews
import Derived.JoinedTies
import Derived.KernelRfl
namespace Go.Proofs.Ytcpekijgjnnfoaa
/- THE CELL 'sum', in the pinned program and in every row, IS THE sha256 OF THE DUMP (.gsa) THAT YtcpekijgjnnfoaaProg.lean LOADS. Nothing in Lean hashes anything: it is a label: what it is worth is what the hold of that sum in a sandbox is worth. -/
noncomputable def Try.pinned : Pinned := { name := "ytcpekijgjnnfoaa", sum := "2dc3240678d864e758cc8648659ae9ba25c2a5735ce2152e3bde49515e67d5a9", checked := Try.checked }
namespace Rows
def none {H : Type} : Left H := { results := [], args := [] }

/-- 'patchbaykeep1.SpanRoots': WHATEVER THE INPUT: true; the input reads as it did. -/
def spanRootsSpec : ChangeSpec := { name := "spanRoots", fn := fun _ => fun
  | [d] => { results := [.lit (.bool true)], args := [d] }
  | _ => none }
def spanRootsRow : OpenClaim := { program := "ytcpekijgjnnfoaa", sum := "2dc3240678d864e758cc8648659ae9ba25c2a5735ce2152e3bde49515e67d5a9", func := "patchbay/patchbaykeep1.SpanRoots", spec := "spanRoots", unfollowed := true, recurses := true, apart := false }
def SpanRootsSaid : Prop := spanRootsRow.holds Try.pinned (OpenSpec.ofChange spanRootsSpec)

/-- ITS FALSE NEIGHBOUR: 'it returns false'. Refute it at one input. -/
def spanRootsWrong : ChangeSpec := { name := "spanRoots", fn := fun _ => fun
  | [d] => { results := [.lit (.bool false)], args := [d] }
  | _ => none }
def SpanRootsWrongFalsely : Prop := spanRootsRow.holds Try.pinned (OpenSpec.ofChange spanRootsWrong)

/-- 'patchbaykeep1.SpanForest': WHATEVER THE INPUT: true; the input reads as it did. -/
def spanForestSpec : ChangeSpec := { name := "spanForest", fn := fun _ => fun
  | [d] => { results := [.lit (.bool true)], args := [d] }
  | _ => none }
def spanForestRow : OpenClaim := { program := "ytcpekijgjnnfoaa", sum := "2dc3240678d864e758cc8648659ae9ba25c2a5735ce2152e3bde49515e67d5a9", func := "patchbay/patchbaykeep1.SpanForest", spec := "spanForest", unfollowed := true, recurses := true, apart := false }
def SpanForestSaid : Prop := spanForestRow.holds Try.pinned (OpenSpec.ofChange spanForestSpec)

/-- ITS FALSE NEIGHBOUR: 'it returns false'. Refute it at one input. -/
def spanForestWrong : ChangeSpec := { name := "spanForest", fn := fun _ => fun
  | [d] => { results := [.lit (.bool false)], args := [d] }
  | _ => none }
def SpanForestWrongFalsely : Prop := spanForestRow.holds Try.pinned (OpenSpec.ofChange spanForestWrong)

/-- 'patchbaykeep1.SpanSpare': WHATEVER THE INPUT: true; the input reads as it did. -/
def spanSpareSpec : ChangeSpec := { name := "spanSpare", fn := fun _ => fun
  | [d1, d2] => { results := [.lit (.bool true)], args := [d1, d2] }
  | _ => none }
def spanSpareRow : OpenClaim := { program := "ytcpekijgjnnfoaa", sum := "2dc3240678d864e758cc8648659ae9ba25c2a5735ce2152e3bde49515e67d5a9", func := "patchbay/patchbaykeep1.SpanSpare", spec := "spanSpare", unfollowed := true, recurses := true, apart := false }
def SpanSpareSaid : Prop := spanSpareRow.holds Try.pinned (OpenSpec.ofChange spanSpareSpec)

/-- ITS FALSE NEIGHBOUR: 'it returns false'. Refute it at one input. -/
def spanSpareWrong : ChangeSpec := { name := "spanSpare", fn := fun _ => fun
  | [d1, d2] => { results := [.lit (.bool false)], args := [d1, d2] }
  | _ => none }
def SpanSpareWrongFalsely : Prop := spanSpareRow.holds Try.pinned (OpenSpec.ofChange spanSpareWrong)

/-- 'patchbaykeep1.SpanOrder': WHATEVER THE INPUT: true; the input reads as it did. -/
def spanOrderSpec : ChangeSpec := { name := "spanOrder", fn := fun _ => fun
  | [d1, d2] => { results := [.lit (.bool true)], args := [d1, d2] }
  | _ => none }
def spanOrderRow : OpenClaim := { program := "ytcpekijgjnnfoaa", sum := "2dc3240678d864e758cc8648659ae9ba25c2a5735ce2152e3bde49515e67d5a9", func := "patchbay/patchbaykeep1.SpanOrder", spec := "spanOrder", unfollowed := true, recurses := true, apart := false }
def SpanOrderSaid : Prop := spanOrderRow.holds Try.pinned (OpenSpec.ofChange spanOrderSpec)

/-- ITS FALSE NEIGHBOUR: 'it returns false'. Refute it at one input. -/
def spanOrderWrong : ChangeSpec := { name := "spanOrder", fn := fun _ => fun
  | [d1, d2] => { results := [.lit (.bool false)], args := [d1, d2] }
  | _ => none }
def SpanOrderWrongFalsely : Prop := spanOrderRow.holds Try.pinned (OpenSpec.ofChange spanOrderWrong)

/-- 'patchbaykeep1.SpanAgrees': WHATEVER THE INPUT: true; the input reads as it did. -/
def spanAgreesSpec : ChangeSpec := { name := "spanAgrees", fn := fun _ => fun
  | [d] => { results := [.lit (.bool true)], args := [d] }
  | _ => none }
def spanAgreesRow : OpenClaim := { program := "ytcpekijgjnnfoaa", sum := "2dc3240678d864e758cc8648659ae9ba25c2a5735ce2152e3bde49515e67d5a9", func := "patchbay/patchbaykeep1.SpanAgrees", spec := "spanAgrees", unfollowed := true, recurses := true, apart := false }
def SpanAgreesSaid : Prop := spanAgreesRow.holds Try.pinned (OpenSpec.ofChange spanAgreesSpec)

/-- ITS FALSE NEIGHBOUR: 'it returns false'. Refute it at one input. -/
def spanAgreesWrong : ChangeSpec := { name := "spanAgrees", fn := fun _ => fun
  | [d] => { results := [.lit (.bool false)], args := [d] }
  | _ => none }
def SpanAgreesWrongFalsely : Prop := spanAgreesRow.holds Try.pinned (OpenSpec.ofChange spanAgreesWrong)

/- THE SECOND FORM. 'bulk': how many values and letters a reading holds, each counted each time it is reached (what is shared counts as often as it is met; a slice's spare places count too). A statement '..UptoSaid' is the law's where the arguments, and the package variables that the reading takes, are together of bulk at most 1048576: NARROWER than '..Said'. Prove '..Said' where nothing that the law and all that it calls make is longer than what came in: it says more and counts as full. Else prove '..UptoSaid'. A law counts once. -/
mutual
def uptoBulk {H : Type} : DataW H → Nat
  | .lit (.string bytes) => bytes.length + 1
  | .lit _ => 1
  | .nil => 1
  | .ptr d => uptoBulk d + 1
  | .slice elems spare => uptoBulkAll elems + uptoBulkAll spare + 1
  | .agg parts => uptoBulkAll parts + 1
  | .iface _ d => uptoBulk d + 1
  | .map entries => uptoBulkEntries entries + 1
  | .held _ => 1
def uptoBulkAll {H : Type} : List (DataW H) → Nat
  | [] => 0
  | d :: r => uptoBulk d + uptoBulkAll r
def uptoBulkEntries {H : Type} : List (Lit × DataW H) → Nat
  | [] => 0
  | x :: r => uptoBulkEntry x + uptoBulkEntries r
def uptoBulkEntry {H : Type} : Lit × DataW H → Nat
  | (.string bytes, d) => bytes.length + uptoBulk d + 1
  | (_, d) => uptoBulk d + 1
 end
def uptoSmall : (H : Type) → List (DataW H) → Bool := fun _ ds => decide (uptoBulkAll ds ≤ 1048576)
def OpenSpec.upto (s : _root_.Go.ChangeSpec) : _root_.Go.OpenSpec := { _root_.Go.OpenSpec.ofChange s with cond := some uptoSmall }

/-- 'patchbaykeep1.SpanRoots', WHERE WHAT IT READS IS OF BULK AT MOST 1048576: true; the input reads as it did. -/
def spanRootsUptoRow : OpenClaim := { program := "ytcpekijgjnnfoaa", sum := "2dc3240678d864e758cc8648659ae9ba25c2a5735ce2152e3bde49515e67d5a9", func := "patchbay/patchbaykeep1.SpanRoots", spec := "spanRoots", unfollowed := true, recurses := true, apart := false, narrowed := true }
def SpanRootsUptoSaid : Prop := spanRootsUptoRow.holds Try.pinned (OpenSpec.upto spanRootsSpec)

/-- 'patchbaykeep1.SpanForest', WHERE WHAT IT READS IS OF BULK AT MOST 1048576: true; the input reads as it did. -/
def spanForestUptoRow : OpenClaim := { program := "ytcpekijgjnnfoaa", sum := "2dc3240678d864e758cc8648659ae9ba25c2a5735ce2152e3bde49515e67d5a9", func := "patchbay/patchbaykeep1.SpanForest", spec := "spanForest", unfollowed := true, recurses := true, apart := false, narrowed := true }
def SpanForestUptoSaid : Prop := spanForestUptoRow.holds Try.pinned (OpenSpec.upto spanForestSpec)

/-- 'patchbaykeep1.SpanSpare', WHERE WHAT IT READS IS OF BULK AT MOST 1048576: true; the input reads as it did. -/
def spanSpareUptoRow : OpenClaim := { program := "ytcpekijgjnnfoaa", sum := "2dc3240678d864e758cc8648659ae9ba25c2a5735ce2152e3bde49515e67d5a9", func := "patchbay/patchbaykeep1.SpanSpare", spec := "spanSpare", unfollowed := true, recurses := true, apart := false, narrowed := true }
def SpanSpareUptoSaid : Prop := spanSpareUptoRow.holds Try.pinned (OpenSpec.upto spanSpareSpec)

/-- 'patchbaykeep1.SpanOrder', WHERE WHAT IT READS IS OF BULK AT MOST 1048576: true; the input reads as it did. -/
def spanOrderUptoRow : OpenClaim := { program := "ytcpekijgjnnfoaa", sum := "2dc3240678d864e758cc8648659ae9ba25c2a5735ce2152e3bde49515e67d5a9", func := "patchbay/patchbaykeep1.SpanOrder", spec := "spanOrder", unfollowed := true, recurses := true, apart := false, narrowed := true }
def SpanOrderUptoSaid : Prop := spanOrderUptoRow.holds Try.pinned (OpenSpec.upto spanOrderSpec)

/-- 'patchbaykeep1.SpanAgrees', WHERE WHAT IT READS IS OF BULK AT MOST 1048576: true; the input reads as it did. -/
def spanAgreesUptoRow : OpenClaim := { program := "ytcpekijgjnnfoaa", sum := "2dc3240678d864e758cc8648659ae9ba25c2a5735ce2152e3bde49515e67d5a9", func := "patchbay/patchbaykeep1.SpanAgrees", spec := "spanAgrees", unfollowed := true, recurses := true, apart := false, narrowed := true }
def SpanAgreesUptoSaid : Prop := spanAgreesUptoRow.holds Try.pinned (OpenSpec.upto spanAgreesSpec)

end Rows
end Go.Proofs.Ytcpekijgjnnfoaa
