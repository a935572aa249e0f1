/-
  No cell of these rows narrows 'for every input' (looked for: loops, veiled, ifaces, maps, wideKeys, modest, calm, conditions, laid).
  DERIVED. THE GIVEN ROWS OF THIS SEAT. 8 by the template 'for every input the law returns true; each argument reads behind the call as it read before'; 0 by the template 'total and deterministic' (their statements: YtidgmoeimgjggaaTotals.lean).
  GIVEN WITH THE SEED: the statements are not yours to turn. If you find one false, say at which input.
  Laid BY PROGRAM, IN A SANDBOX (cutbox-rows.mjs): the forced cells as the released guide's own fill.sh prints them over the translation 7692245f4690157e… (all of the seat's roots in one cut). By AI agents, Wed Nov 11 2026. No macro, syntax, notation, axiom, sorry.
-/
import Derived.Test.YtidgmoeimgjggaaChecked
import GoSem.Claim
import GoSem.ClaimJoined
import GoSem.ClaimMapViews
import Derived.JoinedTies
import Derived.KernelRfl
namespace Go.Proofs.Ytidgmoeimgjggaa
/- THE CELL 'sum', in the pinned program and in every row, IS THE sha256 OF THE DUMP (.gsa) THAT YtidgmoeimgjggaaProg.lean LOADS. Nothing in Lean hashes anything: it is a label: what it is worth is what the hold of that sum in a sandbox is worth. -/
noncomputable def Try.pinned : Pinned := { name := "ytidgmoeimgjggaa", sum := "7692245f4690157edc06c65ec4c11f1daf25ee98c47c35869b4d4ad8ed21735a", checked := Try.checked }
namespace Rows
def none {H : Type} : Left H := { results := [], args := [] }

/-- 'patchbaykeep1.CreditSafe': WHATEVER THE INPUT: true; the input reads as it did. -/
def creditSafeSpec : ChangeSpec := { name := "creditSafe", fn := fun _ => fun
  | [d1, d2] => { results := [.lit (.bool true)], args := [d1, d2] }
  | _ => none }
def creditSafeRow : OpenClaim := { program := "ytidgmoeimgjggaa", sum := "7692245f4690157edc06c65ec4c11f1daf25ee98c47c35869b4d4ad8ed21735a", func := "patchbay/patchbaykeep1.CreditSafe", spec := "creditSafe", apart := false }
def CreditSafeSaid : Prop := creditSafeRow.holds Try.pinned (OpenSpec.ofChange creditSafeSpec)

/-- ITS FALSE NEIGHBOUR: 'it returns false'. Refute it at one input. -/
def creditSafeWrong : ChangeSpec := { name := "creditSafe", fn := fun _ => fun
  | [d1, d2] => { results := [.lit (.bool false)], args := [d1, d2] }
  | _ => none }
def CreditSafeWrongFalsely : Prop := creditSafeRow.holds Try.pinned (OpenSpec.ofChange creditSafeWrong)

/-- 'patchbaykeep1.CreditFlows': WHATEVER THE INPUT: true; the input reads as it did. -/
def creditFlowsSpec : ChangeSpec := { name := "creditFlows", fn := fun _ => fun
  | [d1, d2] => { results := [.lit (.bool true)], args := [d1, d2] }
  | _ => none }
def creditFlowsRow : OpenClaim := { program := "ytidgmoeimgjggaa", sum := "7692245f4690157edc06c65ec4c11f1daf25ee98c47c35869b4d4ad8ed21735a", func := "patchbay/patchbaykeep1.CreditFlows", spec := "creditFlows", apart := false }
def CreditFlowsSaid : Prop := creditFlowsRow.holds Try.pinned (OpenSpec.ofChange creditFlowsSpec)

/-- ITS FALSE NEIGHBOUR: 'it returns false'. Refute it at one input. -/
def creditFlowsWrong : ChangeSpec := { name := "creditFlows", fn := fun _ => fun
  | [d1, d2] => { results := [.lit (.bool false)], args := [d1, d2] }
  | _ => none }
def CreditFlowsWrongFalsely : Prop := creditFlowsRow.holds Try.pinned (OpenSpec.ofChange creditFlowsWrong)

/-- 'patchbaykeep1.LearnLatest': WHATEVER THE INPUT: true; the input reads as it did. -/
def learnLatestSpec : ChangeSpec := { name := "learnLatest", fn := fun _ => fun
  | [d1, d2, d3] => { results := [.lit (.bool true)], args := [d1, d2, d3] }
  | _ => none }
def learnLatestRow : OpenClaim := { program := "ytidgmoeimgjggaa", sum := "7692245f4690157edc06c65ec4c11f1daf25ee98c47c35869b4d4ad8ed21735a", func := "patchbay/patchbaykeep1.LearnLatest", spec := "learnLatest", apart := false }
def LearnLatestSaid : Prop := learnLatestRow.holds Try.pinned (OpenSpec.ofChange learnLatestSpec)

/-- ITS FALSE NEIGHBOUR: 'it returns false'. Refute it at one input. -/
def learnLatestWrong : ChangeSpec := { name := "learnLatest", fn := fun _ => fun
  | [d1, d2, d3] => { results := [.lit (.bool false)], args := [d1, d2, d3] }
  | _ => none }
def LearnLatestWrongFalsely : Prop := learnLatestRow.holds Try.pinned (OpenSpec.ofChange learnLatestWrong)

/-- 'patchbaykeep1.LearnDrops': WHATEVER THE INPUT: true; the input reads as it did. -/
def learnDropsSpec : ChangeSpec := { name := "learnDrops", fn := fun _ => fun
  | [d1, d2, d3] => { results := [.lit (.bool true)], args := [d1, d2, d3] }
  | _ => none }
def learnDropsRow : OpenClaim := { program := "ytidgmoeimgjggaa", sum := "7692245f4690157edc06c65ec4c11f1daf25ee98c47c35869b4d4ad8ed21735a", func := "patchbay/patchbaykeep1.LearnDrops", spec := "learnDrops", apart := false }
def LearnDropsSaid : Prop := learnDropsRow.holds Try.pinned (OpenSpec.ofChange learnDropsSpec)

/-- ITS FALSE NEIGHBOUR: 'it returns false'. Refute it at one input. -/
def learnDropsWrong : ChangeSpec := { name := "learnDrops", fn := fun _ => fun
  | [d1, d2, d3] => { results := [.lit (.bool false)], args := [d1, d2, d3] }
  | _ => none }
def LearnDropsWrongFalsely : Prop := learnDropsRow.holds Try.pinned (OpenSpec.ofChange learnDropsWrong)

/-- 'patchbaykeep1.LearnMoves': WHATEVER THE INPUT: true; the input reads as it did. -/
def learnMovesSpec : ChangeSpec := { name := "learnMoves", fn := fun _ => fun
  | [d1, d2, d3] => { results := [.lit (.bool true)], args := [d1, d2, d3] }
  | _ => none }
def learnMovesRow : OpenClaim := { program := "ytidgmoeimgjggaa", sum := "7692245f4690157edc06c65ec4c11f1daf25ee98c47c35869b4d4ad8ed21735a", func := "patchbay/patchbaykeep1.LearnMoves", spec := "learnMoves", apart := false }
def LearnMovesSaid : Prop := learnMovesRow.holds Try.pinned (OpenSpec.ofChange learnMovesSpec)

/-- ITS FALSE NEIGHBOUR: 'it returns false'. Refute it at one input. -/
def learnMovesWrong : ChangeSpec := { name := "learnMoves", fn := fun _ => fun
  | [d1, d2, d3] => { results := [.lit (.bool false)], args := [d1, d2, d3] }
  | _ => none }
def LearnMovesWrongFalsely : Prop := learnMovesRow.holds Try.pinned (OpenSpec.ofChange learnMovesWrong)

/-- 'patchbaykeep1.BridgeLearns': WHATEVER THE INPUT: true; the input reads as it did. -/
def bridgeLearnsSpec : ChangeSpec := { name := "bridgeLearns", fn := fun _ => fun
  | [d1, d2, d3, d4, d5] => { results := [.lit (.bool true)], args := [d1, d2, d3, d4, d5] }
  | _ => none }
def bridgeLearnsRow : OpenClaim := { program := "ytidgmoeimgjggaa", sum := "7692245f4690157edc06c65ec4c11f1daf25ee98c47c35869b4d4ad8ed21735a", func := "patchbay/patchbaykeep1.BridgeLearns", spec := "bridgeLearns", apart := false }
def BridgeLearnsSaid : Prop := bridgeLearnsRow.holds Try.pinned (OpenSpec.ofChange bridgeLearnsSpec)

/-- ITS FALSE NEIGHBOUR: 'it returns false'. Refute it at one input. -/
def bridgeLearnsWrong : ChangeSpec := { name := "bridgeLearns", fn := fun _ => fun
  | [d1, d2, d3, d4, d5] => { results := [.lit (.bool false)], args := [d1, d2, d3, d4, d5] }
  | _ => none }
def BridgeLearnsWrongFalsely : Prop := bridgeLearnsRow.holds Try.pinned (OpenSpec.ofChange bridgeLearnsWrong)

/-- 'patchbaykeep1.BridgeForgets': WHATEVER THE INPUT: true; the input reads as it did. -/
def bridgeForgetsSpec : ChangeSpec := { name := "bridgeForgets", fn := fun _ => fun
  | [d1, d2, d3, d4] => { results := [.lit (.bool true)], args := [d1, d2, d3, d4] }
  | _ => none }
def bridgeForgetsRow : OpenClaim := { program := "ytidgmoeimgjggaa", sum := "7692245f4690157edc06c65ec4c11f1daf25ee98c47c35869b4d4ad8ed21735a", func := "patchbay/patchbaykeep1.BridgeForgets", spec := "bridgeForgets", apart := false }
def BridgeForgetsSaid : Prop := bridgeForgetsRow.holds Try.pinned (OpenSpec.ofChange bridgeForgetsSpec)

/-- ITS FALSE NEIGHBOUR: 'it returns false'. Refute it at one input. -/
def bridgeForgetsWrong : ChangeSpec := { name := "bridgeForgets", fn := fun _ => fun
  | [d1, d2, d3, d4] => { results := [.lit (.bool false)], args := [d1, d2, d3, d4] }
  | _ => none }
def BridgeForgetsWrongFalsely : Prop := bridgeForgetsRow.holds Try.pinned (OpenSpec.ofChange bridgeForgetsWrong)

/-- 'patchbaykeep1.BridgeFloods': WHATEVER THE INPUT: true; the input reads as it did. -/
def bridgeFloodsSpec : ChangeSpec := { name := "bridgeFloods", fn := fun _ => fun
  | [d1, d2, d3, d4] => { results := [.lit (.bool true)], args := [d1, d2, d3, d4] }
  | _ => none }
def bridgeFloodsRow : OpenClaim := { program := "ytidgmoeimgjggaa", sum := "7692245f4690157edc06c65ec4c11f1daf25ee98c47c35869b4d4ad8ed21735a", func := "patchbay/patchbaykeep1.BridgeFloods", spec := "bridgeFloods", apart := false }
def BridgeFloodsSaid : Prop := bridgeFloodsRow.holds Try.pinned (OpenSpec.ofChange bridgeFloodsSpec)

/-- ITS FALSE NEIGHBOUR: 'it returns false'. Refute it at one input. -/
def bridgeFloodsWrong : ChangeSpec := { name := "bridgeFloods", fn := fun _ => fun
  | [d1, d2, d3, d4] => { results := [.lit (.bool false)], args := [d1, d2, d3, d4] }
  | _ => none }
def BridgeFloodsWrongFalsely : Prop := bridgeFloodsRow.holds Try.pinned (OpenSpec.ofChange bridgeFloodsWrong)

/- THE SECOND FORM. 'bulk': how many values and letters a reading holds, each counted each time it is reached (what is shared counts as often as it is met; a slice's spare places count too). A statement '..UptoSaid' is the law's where the arguments, and the package variables that the reading takes, are together of bulk at most 1048576: NARROWER than '..Said'. Prove '..Said' where nothing that the law and all that it calls make is longer than what came in: it says more and counts as full. Else prove '..UptoSaid'. A law counts once. -/
mutual
def uptoBulk {H : Type} : DataW H → Nat
  | .lit (.string bytes) => bytes.length + 1
  | .lit _ => 1
  | .nil => 1
  | .ptr d => uptoBulk d + 1
  | .slice elems spare => uptoBulkAll elems + uptoBulkAll spare + 1
  | .agg parts => uptoBulkAll parts + 1
  | .iface _ d => uptoBulk d + 1
  | .map entries => uptoBulkEntries entries + 1
  | .held _ => 1
def uptoBulkAll {H : Type} : List (DataW H) → Nat
  | [] => 0
  | d :: r => uptoBulk d + uptoBulkAll r
def uptoBulkEntries {H : Type} : List (Lit × DataW H) → Nat
  | [] => 0
  | x :: r => uptoBulkEntry x + uptoBulkEntries r
def uptoBulkEntry {H : Type} : Lit × DataW H → Nat
  | (.string bytes, d) => bytes.length + uptoBulk d + 1
  | (_, d) => uptoBulk d + 1
 end
def uptoSmall : (H : Type) → List (DataW H) → Bool := fun _ ds => decide (uptoBulkAll ds ≤ 1048576)
def OpenSpec.upto (s : _root_.Go.ChangeSpec) : _root_.Go.OpenSpec := { _root_.Go.OpenSpec.ofChange s with cond := some uptoSmall }

/-- 'patchbaykeep1.CreditSafe', WHERE WHAT IT READS IS OF BULK AT MOST 1048576: true; the input reads as it did. -/
def creditSafeUptoRow : OpenClaim := { program := "ytidgmoeimgjggaa", sum := "7692245f4690157edc06c65ec4c11f1daf25ee98c47c35869b4d4ad8ed21735a", func := "patchbay/patchbaykeep1.CreditSafe", spec := "creditSafe", apart := false, narrowed := true }
def CreditSafeUptoSaid : Prop := creditSafeUptoRow.holds Try.pinned (OpenSpec.upto creditSafeSpec)

/-- 'patchbaykeep1.CreditFlows', WHERE WHAT IT READS IS OF BULK AT MOST 1048576: true; the input reads as it did. -/
def creditFlowsUptoRow : OpenClaim := { program := "ytidgmoeimgjggaa", sum := "7692245f4690157edc06c65ec4c11f1daf25ee98c47c35869b4d4ad8ed21735a", func := "patchbay/patchbaykeep1.CreditFlows", spec := "creditFlows", apart := false, narrowed := true }
def CreditFlowsUptoSaid : Prop := creditFlowsUptoRow.holds Try.pinned (OpenSpec.upto creditFlowsSpec)

/-- 'patchbaykeep1.LearnLatest', WHERE WHAT IT READS IS OF BULK AT MOST 1048576: true; the input reads as it did. -/
def learnLatestUptoRow : OpenClaim := { program := "ytidgmoeimgjggaa", sum := "7692245f4690157edc06c65ec4c11f1daf25ee98c47c35869b4d4ad8ed21735a", func := "patchbay/patchbaykeep1.LearnLatest", spec := "learnLatest", apart := false, narrowed := true }
def LearnLatestUptoSaid : Prop := learnLatestUptoRow.holds Try.pinned (OpenSpec.upto learnLatestSpec)

/-- 'patchbaykeep1.LearnDrops', WHERE WHAT IT READS IS OF BULK AT MOST 1048576: true; the input reads as it did. -/
def learnDropsUptoRow : OpenClaim := { program := "ytidgmoeimgjggaa", sum := "7692245f4690157edc06c65ec4c11f1daf25ee98c47c35869b4d4ad8ed21735a", func := "patchbay/patchbaykeep1.LearnDrops", spec := "learnDrops", apart := false, narrowed := true }
def LearnDropsUptoSaid : Prop := learnDropsUptoRow.holds Try.pinned (OpenSpec.upto learnDropsSpec)

/-- 'patchbaykeep1.LearnMoves', WHERE WHAT IT READS IS OF BULK AT MOST 1048576: true; the input reads as it did. -/
def learnMovesUptoRow : OpenClaim := { program := "ytidgmoeimgjggaa", sum := "7692245f4690157edc06c65ec4c11f1daf25ee98c47c35869b4d4ad8ed21735a", func := "patchbay/patchbaykeep1.LearnMoves", spec := "learnMoves", apart := false, narrowed := true }
def LearnMovesUptoSaid : Prop := learnMovesUptoRow.holds Try.pinned (OpenSpec.upto learnMovesSpec)

/-- 'patchbaykeep1.BridgeLearns', WHERE WHAT IT READS IS OF BULK AT MOST 1048576: true; the input reads as it did. -/
def bridgeLearnsUptoRow : OpenClaim := { program := "ytidgmoeimgjggaa", sum := "7692245f4690157edc06c65ec4c11f1daf25ee98c47c35869b4d4ad8ed21735a", func := "patchbay/patchbaykeep1.BridgeLearns", spec := "bridgeLearns", apart := false, narrowed := true }
def BridgeLearnsUptoSaid : Prop := bridgeLearnsUptoRow.holds Try.pinned (OpenSpec.upto bridgeLearnsSpec)

/-- 'patchbaykeep1.BridgeForgets', WHERE WHAT IT READS IS OF BULK AT MOST 1048576: true; the input reads as it did. -/
def bridgeForgetsUptoRow : OpenClaim := { program := "ytidgmoeimgjggaa", sum := "7692245f4690157edc06c65ec4c11f1daf25ee98c47c35869b4d4ad8ed21735a", func := "patchbay/patchbaykeep1.BridgeForgets", spec := "bridgeForgets", apart := false, narrowed := true }
def BridgeForgetsUptoSaid : Prop := bridgeForgetsUptoRow.holds Try.pinned (OpenSpec.upto bridgeForgetsSpec)

/-- 'patchbaykeep1.BridgeFloods', WHERE WHAT IT READS IS OF BULK AT MOST 1048576: true; the input reads as it did. -/
def bridgeFloodsUptoRow : OpenClaim := { program := "ytidgmoeimgjggaa", sum := "7692245f4690157edc06c65ec4c11f1daf25ee98c47c35869b4d4ad8ed21735a", func := "patchbay/patchbaykeep1.BridgeFloods", spec := "bridgeFloods", apart := false, narrowed := true }
def BridgeFloodsUptoSaid : Prop := bridgeFloodsUptoRow.holds Try.pinned (OpenSpec.upto bridgeFloodsSpec)

end Rows
end Go.Proofs.Ytidgmoeimgjggaa
