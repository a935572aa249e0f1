/-
  No cell of these rows narrows 'for every input' (looked for: loops, veiled, ifaces, maps, wideKeys, modest, calm, conditions, laid).
  DERIVED. THE GIVEN ROWS OF THIS SEAT. 6 by the template 'for every input the law returns true; each argument reads behind the call as it read before'; 0 by the template 'total and deterministic' (their statements: YtlhpfhicggdnpaaTotals.lean).
  GIVEN WITH THE SEED: the statements are not yours to turn. If you find one false, say at which input.
  Laid BY PROGRAM, IN A SANDBOX (cutbox-rows.mjs): the forced cells as the released guide's own fill.sh prints them over the translation 873118d478e36424… (all of the seat's roots in one cut). By AI agents, Wed Nov 11 2026. No macro, syntax, notation, axiom, sorry.
-/
import Derived.Test.YtlhpfhicggdnpaaChecked
import GoSem.Claim
import GoSem.ClaimJoined
import GoSem.ClaimMapViews
import Derived.JoinedTies
import Derived.KernelRfl
namespace Go.Proofs.Ytlhpfhicggdnpaa
/- THE CELL 'sum', in the pinned program and in every row, IS THE sha256 OF THE DUMP (.gsa) THAT YtlhpfhicggdnpaaProg.lean LOADS. Nothing in Lean hashes anything: it is a label: what it is worth is what the hold of that sum in a sandbox is worth. -/
noncomputable def Try.pinned : Pinned := { name := "ytlhpfhicggdnpaa", sum := "873118d478e3642423111163f7615b2b0754355d673b6047556fec44a56b4366", checked := Try.checked }
namespace Rows
def none {H : Type} : Left H := { results := [], args := [] }

/-- 'patchbaykeep1.LagAdds': WHATEVER THE INPUT: true; the input reads as it did. -/
def lagAddsSpec : ChangeSpec := { name := "lagAdds", fn := fun _ => fun
  | [d1, d2, d3] => { results := [.lit (.bool true)], args := [d1, d2, d3] }
  | _ => none }
def lagAddsRow : OpenClaim := { program := "ytlhpfhicggdnpaa", sum := "873118d478e3642423111163f7615b2b0754355d673b6047556fec44a56b4366", func := "patchbay/patchbaykeep1.LagAdds", spec := "lagAdds", apart := false }
def LagAddsSaid : Prop := lagAddsRow.holds Try.pinned (OpenSpec.ofChange lagAddsSpec)

/-- ITS FALSE NEIGHBOUR: 'it returns false'. Refute it at one input. -/
def lagAddsWrong : ChangeSpec := { name := "lagAdds", fn := fun _ => fun
  | [d1, d2, d3] => { results := [.lit (.bool false)], args := [d1, d2, d3] }
  | _ => none }
def LagAddsWrongFalsely : Prop := lagAddsRow.holds Try.pinned (OpenSpec.ofChange lagAddsWrong)

/-- 'patchbaykeep1.LagOrder': WHATEVER THE INPUT: true; the input reads as it did. -/
def lagOrderSpec : ChangeSpec := { name := "lagOrder", fn := fun _ => fun
  | [d1, d2] => { results := [.lit (.bool true)], args := [d1, d2] }
  | _ => none }
def lagOrderRow : OpenClaim := { program := "ytlhpfhicggdnpaa", sum := "873118d478e3642423111163f7615b2b0754355d673b6047556fec44a56b4366", func := "patchbay/patchbaykeep1.LagOrder", spec := "lagOrder", apart := false }
def LagOrderSaid : Prop := lagOrderRow.holds Try.pinned (OpenSpec.ofChange lagOrderSpec)

/-- ITS FALSE NEIGHBOUR: 'it returns false'. Refute it at one input. -/
def lagOrderWrong : ChangeSpec := { name := "lagOrder", fn := fun _ => fun
  | [d1, d2] => { results := [.lit (.bool false)], args := [d1, d2] }
  | _ => none }
def LagOrderWrongFalsely : Prop := lagOrderRow.holds Try.pinned (OpenSpec.ofChange lagOrderWrong)

/-- 'patchbaykeep1.SlideWindow': WHATEVER THE INPUT: true; the input reads as it did. -/
def slideWindowSpec : ChangeSpec := { name := "slideWindow", fn := fun _ => fun
  | [d1, d2] => { results := [.lit (.bool true)], args := [d1, d2] }
  | _ => none }
def slideWindowRow : OpenClaim := { program := "ytlhpfhicggdnpaa", sum := "873118d478e3642423111163f7615b2b0754355d673b6047556fec44a56b4366", func := "patchbay/patchbaykeep1.SlideWindow", spec := "slideWindow", apart := false }
def SlideWindowSaid : Prop := slideWindowRow.holds Try.pinned (OpenSpec.ofChange slideWindowSpec)

/-- ITS FALSE NEIGHBOUR: 'it returns false'. Refute it at one input. -/
def slideWindowWrong : ChangeSpec := { name := "slideWindow", fn := fun _ => fun
  | [d1, d2] => { results := [.lit (.bool false)], args := [d1, d2] }
  | _ => none }
def SlideWindowWrongFalsely : Prop := slideWindowRow.holds Try.pinned (OpenSpec.ofChange slideWindowWrong)

/-- 'patchbaykeep1.SlideRefuses': WHATEVER THE INPUT: true; the input reads as it did. -/
def slideRefusesSpec : ChangeSpec := { name := "slideRefuses", fn := fun _ => fun
  | [d1, d2, d3] => { results := [.lit (.bool true)], args := [d1, d2, d3] }
  | _ => none }
def slideRefusesRow : OpenClaim := { program := "ytlhpfhicggdnpaa", sum := "873118d478e3642423111163f7615b2b0754355d673b6047556fec44a56b4366", func := "patchbay/patchbaykeep1.SlideRefuses", spec := "slideRefuses", apart := false }
def SlideRefusesSaid : Prop := slideRefusesRow.holds Try.pinned (OpenSpec.ofChange slideRefusesSpec)

/-- ITS FALSE NEIGHBOUR: 'it returns false'. Refute it at one input. -/
def slideRefusesWrong : ChangeSpec := { name := "slideRefuses", fn := fun _ => fun
  | [d1, d2, d3] => { results := [.lit (.bool false)], args := [d1, d2, d3] }
  | _ => none }
def SlideRefusesWrongFalsely : Prop := slideRefusesRow.holds Try.pinned (OpenSpec.ofChange slideRefusesWrong)

/-- 'patchbaykeep1.SlideDelivers': WHATEVER THE INPUT: true; the input reads as it did. -/
def slideDeliversSpec : ChangeSpec := { name := "slideDelivers", fn := fun _ => fun
  | [d1, d2, d3] => { results := [.lit (.bool true)], args := [d1, d2, d3] }
  | _ => none }
def slideDeliversRow : OpenClaim := { program := "ytlhpfhicggdnpaa", sum := "873118d478e3642423111163f7615b2b0754355d673b6047556fec44a56b4366", func := "patchbay/patchbaykeep1.SlideDelivers", spec := "slideDelivers", unfollowed := true, recurses := true, apart := false }
def SlideDeliversSaid : Prop := slideDeliversRow.holds Try.pinned (OpenSpec.ofChange slideDeliversSpec)

/-- ITS FALSE NEIGHBOUR: 'it returns false'. Refute it at one input. -/
def slideDeliversWrong : ChangeSpec := { name := "slideDelivers", fn := fun _ => fun
  | [d1, d2, d3] => { results := [.lit (.bool false)], args := [d1, d2, d3] }
  | _ => none }
def SlideDeliversWrongFalsely : Prop := slideDeliversRow.holds Try.pinned (OpenSpec.ofChange slideDeliversWrong)

/-- 'patchbaykeep1.LagMinimal': WHATEVER THE INPUT: true; the input reads as it did. -/
def lagMinimalSpec : ChangeSpec := { name := "lagMinimal", fn := fun _ => fun
  | [d1, d2, d3] => { results := [.lit (.bool true)], args := [d1, d2, d3] }
  | _ => none }
def lagMinimalRow : OpenClaim := { program := "ytlhpfhicggdnpaa", sum := "873118d478e3642423111163f7615b2b0754355d673b6047556fec44a56b4366", func := "patchbay/patchbaykeep1.LagMinimal", spec := "lagMinimal", apart := false }
def LagMinimalSaid : Prop := lagMinimalRow.holds Try.pinned (OpenSpec.ofChange lagMinimalSpec)

/-- ITS FALSE NEIGHBOUR: 'it returns false'. Refute it at one input. -/
def lagMinimalWrong : ChangeSpec := { name := "lagMinimal", fn := fun _ => fun
  | [d1, d2, d3] => { results := [.lit (.bool false)], args := [d1, d2, d3] }
  | _ => none }
def LagMinimalWrongFalsely : Prop := lagMinimalRow.holds Try.pinned (OpenSpec.ofChange lagMinimalWrong)

/- THE SECOND FORM. 'bulk': how many values and letters a reading holds, each counted each time it is reached (what is shared counts as often as it is met; a slice's spare places count too). A statement '..UptoSaid' is the law's where the arguments, and the package variables that the reading takes, are together of bulk at most 1048576: NARROWER than '..Said'. Prove '..Said' where nothing that the law and all that it calls make is longer than what came in: it says more and counts as full. Else prove '..UptoSaid'. A law counts once. -/
mutual
def uptoBulk {H : Type} : DataW H → Nat
  | .lit (.string bytes) => bytes.length + 1
  | .lit _ => 1
  | .nil => 1
  | .ptr d => uptoBulk d + 1
  | .slice elems spare => uptoBulkAll elems + uptoBulkAll spare + 1
  | .agg parts => uptoBulkAll parts + 1
  | .iface _ d => uptoBulk d + 1
  | .map entries => uptoBulkEntries entries + 1
  | .held _ => 1
def uptoBulkAll {H : Type} : List (DataW H) → Nat
  | [] => 0
  | d :: r => uptoBulk d + uptoBulkAll r
def uptoBulkEntries {H : Type} : List (Lit × DataW H) → Nat
  | [] => 0
  | x :: r => uptoBulkEntry x + uptoBulkEntries r
def uptoBulkEntry {H : Type} : Lit × DataW H → Nat
  | (.string bytes, d) => bytes.length + uptoBulk d + 1
  | (_, d) => uptoBulk d + 1
 end
def uptoSmall : (H : Type) → List (DataW H) → Bool := fun _ ds => decide (uptoBulkAll ds ≤ 1048576)
def OpenSpec.upto (s : _root_.Go.ChangeSpec) : _root_.Go.OpenSpec := { _root_.Go.OpenSpec.ofChange s with cond := some uptoSmall }

/-- 'patchbaykeep1.LagAdds', WHERE WHAT IT READS IS OF BULK AT MOST 1048576: true; the input reads as it did. -/
def lagAddsUptoRow : OpenClaim := { program := "ytlhpfhicggdnpaa", sum := "873118d478e3642423111163f7615b2b0754355d673b6047556fec44a56b4366", func := "patchbay/patchbaykeep1.LagAdds", spec := "lagAdds", apart := false, narrowed := true }
def LagAddsUptoSaid : Prop := lagAddsUptoRow.holds Try.pinned (OpenSpec.upto lagAddsSpec)

/-- 'patchbaykeep1.LagOrder', WHERE WHAT IT READS IS OF BULK AT MOST 1048576: true; the input reads as it did. -/
def lagOrderUptoRow : OpenClaim := { program := "ytlhpfhicggdnpaa", sum := "873118d478e3642423111163f7615b2b0754355d673b6047556fec44a56b4366", func := "patchbay/patchbaykeep1.LagOrder", spec := "lagOrder", apart := false, narrowed := true }
def LagOrderUptoSaid : Prop := lagOrderUptoRow.holds Try.pinned (OpenSpec.upto lagOrderSpec)

/-- 'patchbaykeep1.SlideWindow', WHERE WHAT IT READS IS OF BULK AT MOST 1048576: true; the input reads as it did. -/
def slideWindowUptoRow : OpenClaim := { program := "ytlhpfhicggdnpaa", sum := "873118d478e3642423111163f7615b2b0754355d673b6047556fec44a56b4366", func := "patchbay/patchbaykeep1.SlideWindow", spec := "slideWindow", apart := false, narrowed := true }
def SlideWindowUptoSaid : Prop := slideWindowUptoRow.holds Try.pinned (OpenSpec.upto slideWindowSpec)

/-- 'patchbaykeep1.SlideRefuses', WHERE WHAT IT READS IS OF BULK AT MOST 1048576: true; the input reads as it did. -/
def slideRefusesUptoRow : OpenClaim := { program := "ytlhpfhicggdnpaa", sum := "873118d478e3642423111163f7615b2b0754355d673b6047556fec44a56b4366", func := "patchbay/patchbaykeep1.SlideRefuses", spec := "slideRefuses", apart := false, narrowed := true }
def SlideRefusesUptoSaid : Prop := slideRefusesUptoRow.holds Try.pinned (OpenSpec.upto slideRefusesSpec)

/-- 'patchbaykeep1.SlideDelivers', WHERE WHAT IT READS IS OF BULK AT MOST 1048576: true; the input reads as it did. -/
def slideDeliversUptoRow : OpenClaim := { program := "ytlhpfhicggdnpaa", sum := "873118d478e3642423111163f7615b2b0754355d673b6047556fec44a56b4366", func := "patchbay/patchbaykeep1.SlideDelivers", spec := "slideDelivers", unfollowed := true, recurses := true, apart := false, narrowed := true }
def SlideDeliversUptoSaid : Prop := slideDeliversUptoRow.holds Try.pinned (OpenSpec.upto slideDeliversSpec)

/-- 'patchbaykeep1.LagMinimal', WHERE WHAT IT READS IS OF BULK AT MOST 1048576: true; the input reads as it did. -/
def lagMinimalUptoRow : OpenClaim := { program := "ytlhpfhicggdnpaa", sum := "873118d478e3642423111163f7615b2b0754355d673b6047556fec44a56b4366", func := "patchbay/patchbaykeep1.LagMinimal", spec := "lagMinimal", apart := false, narrowed := true }
def LagMinimalUptoSaid : Prop := lagMinimalUptoRow.holds Try.pinned (OpenSpec.upto lagMinimalSpec)

end Rows
end Go.Proofs.Ytlhpfhicggdnpaa
