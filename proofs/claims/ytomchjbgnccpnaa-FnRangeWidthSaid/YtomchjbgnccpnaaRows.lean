/-
  No cell of these rows narrows 'for every input' (looked for: loops, veiled, ifaces, maps, wideKeys, modest, calm, conditions, laid).
  DERIVED. THE GIVEN ROWS OF THIS SEAT. 9 by the template 'for every input the law returns true; each argument reads behind the call as it read before'; 0 by the template 'total and deterministic' (their statements: YtomchjbgnccpnaaTotals.lean).
  GIVEN WITH THE SEED: the statements are not yours to turn. If you find one false, say at which input.
  Laid BY PROGRAM, IN A SANDBOX (cutbox-rows.mjs): the forced cells as the released guide's own fill.sh prints them over the translation ed491364caf9427f… (all of the seat's roots in one cut). By AI agents, Wed Nov 11 2026. No macro, syntax, notation, axiom, sorry.
-/
import Derived.Test.YtomchjbgnccpnaaChecked
import GoSem.Claim
import GoSem.ClaimJoined
import GoSem.ClaimMapViews
import Derived.JoinedTies
import Derived.KernelRfl
namespace Go.Proofs.Ytomchjbgnccpnaa
/- THE CELL 'sum', in the pinned program and in every row, IS THE sha256 OF THE DUMP (.gsa) THAT YtomchjbgnccpnaaProg.lean LOADS. Nothing in Lean hashes anything: it is a label: what it is worth is what the hold of that sum in a sandbox is worth. -/
noncomputable def Try.pinned : Pinned := { name := "ytomchjbgnccpnaa", sum := "ed491364caf9427f6f1138ba74c18b976b07b9f6e1e7c88d7d163d7ca735310d", checked := Try.checked }
namespace Rows
def none {H : Type} : Left H := { results := [], args := [] }

/-- 'laws.FnRangeWidth': WHATEVER THE INPUT: true; the input reads as it did. -/
def fnRangeWidthSpec : ChangeSpec := { name := "fnRangeWidth", fn := fun _ => fun
  | [d] => { results := [.lit (.bool true)], args := [d] }
  | _ => none }
def fnRangeWidthRow : OpenClaim := { program := "ytomchjbgnccpnaa", sum := "ed491364caf9427f6f1138ba74c18b976b07b9f6e1e7c88d7d163d7ca735310d", func := "loop.example/disclosurecontrol/laws.FnRangeWidth", spec := "fnRangeWidth", apart := false }
def FnRangeWidthSaid : Prop := fnRangeWidthRow.holds Try.pinned (OpenSpec.ofChange fnRangeWidthSpec)

/-- ITS FALSE NEIGHBOUR: 'it returns false'. Refute it at one input. -/
def fnRangeWidthWrong : ChangeSpec := { name := "fnRangeWidth", fn := fun _ => fun
  | [d] => { results := [.lit (.bool false)], args := [d] }
  | _ => none }
def FnRangeWidthWrongFalsely : Prop := fnRangeWidthRow.holds Try.pinned (OpenSpec.ofChange fnRangeWidthWrong)

/-- 'laws.FnDraw': WHATEVER THE INPUT: true; the input reads as it did. -/
def fnDrawSpec : ChangeSpec := { name := "fnDraw", fn := fun _ => fun
  | [d] => { results := [.lit (.bool true)], args := [d] }
  | _ => none }
def fnDrawRow : OpenClaim := { program := "ytomchjbgnccpnaa", sum := "ed491364caf9427f6f1138ba74c18b976b07b9f6e1e7c88d7d163d7ca735310d", func := "loop.example/disclosurecontrol/laws.FnDraw", spec := "fnDraw", apart := false }
def FnDrawSaid : Prop := fnDrawRow.holds Try.pinned (OpenSpec.ofChange fnDrawSpec)

/-- ITS FALSE NEIGHBOUR: 'it returns false'. Refute it at one input. -/
def fnDrawWrong : ChangeSpec := { name := "fnDraw", fn := fun _ => fun
  | [d] => { results := [.lit (.bool false)], args := [d] }
  | _ => none }
def FnDrawWrongFalsely : Prop := fnDrawRow.holds Try.pinned (OpenSpec.ofChange fnDrawWrong)

/-- 'laws.FnDrawCount': WHATEVER THE INPUT: true; the input reads as it did. -/
def fnDrawCountSpec : ChangeSpec := { name := "fnDrawCount", fn := fun _ => fun
  | [d] => { results := [.lit (.bool true)], args := [d] }
  | _ => none }
def fnDrawCountRow : OpenClaim := { program := "ytomchjbgnccpnaa", sum := "ed491364caf9427f6f1138ba74c18b976b07b9f6e1e7c88d7d163d7ca735310d", func := "loop.example/disclosurecontrol/laws.FnDrawCount", spec := "fnDrawCount", apart := false }
def FnDrawCountSaid : Prop := fnDrawCountRow.holds Try.pinned (OpenSpec.ofChange fnDrawCountSpec)

/-- ITS FALSE NEIGHBOUR: 'it returns false'. Refute it at one input. -/
def fnDrawCountWrong : ChangeSpec := { name := "fnDrawCount", fn := fun _ => fun
  | [d] => { results := [.lit (.bool false)], args := [d] }
  | _ => none }
def FnDrawCountWrongFalsely : Prop := fnDrawCountRow.holds Try.pinned (OpenSpec.ofChange fnDrawCountWrong)

/-- 'laws.FnDrawMean': WHATEVER THE INPUT: true; the input reads as it did. -/
def fnDrawMeanSpec : ChangeSpec := { name := "fnDrawMean", fn := fun _ => fun
  | [d] => { results := [.lit (.bool true)], args := [d] }
  | _ => none }
def fnDrawMeanRow : OpenClaim := { program := "ytomchjbgnccpnaa", sum := "ed491364caf9427f6f1138ba74c18b976b07b9f6e1e7c88d7d163d7ca735310d", func := "loop.example/disclosurecontrol/laws.FnDrawMean", spec := "fnDrawMean", apart := false }
def FnDrawMeanSaid : Prop := fnDrawMeanRow.holds Try.pinned (OpenSpec.ofChange fnDrawMeanSpec)

/-- ITS FALSE NEIGHBOUR: 'it returns false'. Refute it at one input. -/
def fnDrawMeanWrong : ChangeSpec := { name := "fnDrawMean", fn := fun _ => fun
  | [d] => { results := [.lit (.bool false)], args := [d] }
  | _ => none }
def FnDrawMeanWrongFalsely : Prop := fnDrawMeanRow.holds Try.pinned (OpenSpec.ofChange fnDrawMeanWrong)

/-- 'laws.FnLow': WHATEVER THE INPUT: true; the input reads as it did. -/
def fnLowSpec : ChangeSpec := { name := "fnLow", fn := fun _ => fun
  | [d] => { results := [.lit (.bool true)], args := [d] }
  | _ => none }
def fnLowRow : OpenClaim := { program := "ytomchjbgnccpnaa", sum := "ed491364caf9427f6f1138ba74c18b976b07b9f6e1e7c88d7d163d7ca735310d", func := "loop.example/disclosurecontrol/laws.FnLow", spec := "fnLow", apart := false }
def FnLowSaid : Prop := fnLowRow.holds Try.pinned (OpenSpec.ofChange fnLowSpec)

/-- ITS FALSE NEIGHBOUR: 'it returns false'. Refute it at one input. -/
def fnLowWrong : ChangeSpec := { name := "fnLow", fn := fun _ => fun
  | [d] => { results := [.lit (.bool false)], args := [d] }
  | _ => none }
def FnLowWrongFalsely : Prop := fnLowRow.holds Try.pinned (OpenSpec.ofChange fnLowWrong)

/-- 'laws.FnNearDraw': WHATEVER THE INPUT: true; the input reads as it did. -/
def fnNearDrawSpec : ChangeSpec := { name := "fnNearDraw", fn := fun _ => fun
  | [d] => { results := [.lit (.bool true)], args := [d] }
  | _ => none }
def fnNearDrawRow : OpenClaim := { program := "ytomchjbgnccpnaa", sum := "ed491364caf9427f6f1138ba74c18b976b07b9f6e1e7c88d7d163d7ca735310d", func := "loop.example/disclosurecontrol/laws.FnNearDraw", spec := "fnNearDraw", apart := false }
def FnNearDrawSaid : Prop := fnNearDrawRow.holds Try.pinned (OpenSpec.ofChange fnNearDrawSpec)

/-- ITS FALSE NEIGHBOUR: 'it returns false'. Refute it at one input. -/
def fnNearDrawWrong : ChangeSpec := { name := "fnNearDraw", fn := fun _ => fun
  | [d] => { results := [.lit (.bool false)], args := [d] }
  | _ => none }
def FnNearDrawWrongFalsely : Prop := fnNearDrawRow.holds Try.pinned (OpenSpec.ofChange fnNearDrawWrong)

/-- 'laws.FnRangeMultiple': WHATEVER THE INPUT: true; the input reads as it did. -/
def fnRangeMultipleSpec : ChangeSpec := { name := "fnRangeMultiple", fn := fun _ => fun
  | [d1, d2] => { results := [.lit (.bool true)], args := [d1, d2] }
  | _ => none }
def fnRangeMultipleRow : OpenClaim := { program := "ytomchjbgnccpnaa", sum := "ed491364caf9427f6f1138ba74c18b976b07b9f6e1e7c88d7d163d7ca735310d", func := "loop.example/disclosurecontrol/laws.FnRangeMultiple", spec := "fnRangeMultiple", apart := false }
def FnRangeMultipleSaid : Prop := fnRangeMultipleRow.holds Try.pinned (OpenSpec.ofChange fnRangeMultipleSpec)

/-- ITS FALSE NEIGHBOUR: 'it returns false'. Refute it at one input. -/
def fnRangeMultipleWrong : ChangeSpec := { name := "fnRangeMultiple", fn := fun _ => fun
  | [d1, d2] => { results := [.lit (.bool false)], args := [d1, d2] }
  | _ => none }
def FnRangeMultipleWrongFalsely : Prop := fnRangeMultipleRow.holds Try.pinned (OpenSpec.ofChange fnRangeMultipleWrong)

/-- 'laws.FnRange': WHATEVER THE INPUT: true; the input reads as it did. -/
def fnRangeSpec : ChangeSpec := { name := "fnRange", fn := fun _ => fun
  | [d] => { results := [.lit (.bool true)], args := [d] }
  | _ => none }
def fnRangeRow : OpenClaim := { program := "ytomchjbgnccpnaa", sum := "ed491364caf9427f6f1138ba74c18b976b07b9f6e1e7c88d7d163d7ca735310d", func := "loop.example/disclosurecontrol/laws.FnRange", spec := "fnRange", apart := false }
def FnRangeSaid : Prop := fnRangeRow.holds Try.pinned (OpenSpec.ofChange fnRangeSpec)

/-- ITS FALSE NEIGHBOUR: 'it returns false'. Refute it at one input. -/
def fnRangeWrong : ChangeSpec := { name := "fnRange", fn := fun _ => fun
  | [d] => { results := [.lit (.bool false)], args := [d] }
  | _ => none }
def FnRangeWrongFalsely : Prop := fnRangeRow.holds Try.pinned (OpenSpec.ofChange fnRangeWrong)

/-- 'laws.FnHigh': WHATEVER THE INPUT: true; the input reads as it did. -/
def fnHighSpec : ChangeSpec := { name := "fnHigh", fn := fun _ => fun
  | [d] => { results := [.lit (.bool true)], args := [d] }
  | _ => none }
def fnHighRow : OpenClaim := { program := "ytomchjbgnccpnaa", sum := "ed491364caf9427f6f1138ba74c18b976b07b9f6e1e7c88d7d163d7ca735310d", func := "loop.example/disclosurecontrol/laws.FnHigh", spec := "fnHigh", apart := false }
def FnHighSaid : Prop := fnHighRow.holds Try.pinned (OpenSpec.ofChange fnHighSpec)

/-- ITS FALSE NEIGHBOUR: 'it returns false'. Refute it at one input. -/
def fnHighWrong : ChangeSpec := { name := "fnHigh", fn := fun _ => fun
  | [d] => { results := [.lit (.bool false)], args := [d] }
  | _ => none }
def FnHighWrongFalsely : Prop := fnHighRow.holds Try.pinned (OpenSpec.ofChange fnHighWrong)

/- THE SECOND FORM. 'bulk': how many values and letters a reading holds, each counted each time it is reached (what is shared counts as often as it is met; a slice's spare places count too). A statement '..UptoSaid' is the law's where the arguments, and the package variables that the reading takes, are together of bulk at most 1048576: NARROWER than '..Said'. Prove '..Said' where nothing that the law and all that it calls make is longer than what came in: it says more and counts as full. Else prove '..UptoSaid'. A law counts once. -/
mutual
def uptoBulk {H : Type} : DataW H → Nat
  | .lit (.string bytes) => bytes.length + 1
  | .lit _ => 1
  | .nil => 1
  | .ptr d => uptoBulk d + 1
  | .slice elems spare => uptoBulkAll elems + uptoBulkAll spare + 1
  | .agg parts => uptoBulkAll parts + 1
  | .iface _ d => uptoBulk d + 1
  | .map entries => uptoBulkEntries entries + 1
  | .held _ => 1
def uptoBulkAll {H : Type} : List (DataW H) → Nat
  | [] => 0
  | d :: r => uptoBulk d + uptoBulkAll r
def uptoBulkEntries {H : Type} : List (Lit × DataW H) → Nat
  | [] => 0
  | x :: r => uptoBulkEntry x + uptoBulkEntries r
def uptoBulkEntry {H : Type} : Lit × DataW H → Nat
  | (.string bytes, d) => bytes.length + uptoBulk d + 1
  | (_, d) => uptoBulk d + 1
 end
def uptoSmall : (H : Type) → List (DataW H) → Bool := fun _ ds => decide (uptoBulkAll ds ≤ 1048576)
def OpenSpec.upto (s : _root_.Go.ChangeSpec) : _root_.Go.OpenSpec := { _root_.Go.OpenSpec.ofChange s with cond := some uptoSmall }

/-- 'laws.FnRangeWidth', WHERE WHAT IT READS IS OF BULK AT MOST 1048576: true; the input reads as it did. -/
def fnRangeWidthUptoRow : OpenClaim := { program := "ytomchjbgnccpnaa", sum := "ed491364caf9427f6f1138ba74c18b976b07b9f6e1e7c88d7d163d7ca735310d", func := "loop.example/disclosurecontrol/laws.FnRangeWidth", spec := "fnRangeWidth", apart := false, narrowed := true }
def FnRangeWidthUptoSaid : Prop := fnRangeWidthUptoRow.holds Try.pinned (OpenSpec.upto fnRangeWidthSpec)

/-- 'laws.FnDraw', WHERE WHAT IT READS IS OF BULK AT MOST 1048576: true; the input reads as it did. -/
def fnDrawUptoRow : OpenClaim := { program := "ytomchjbgnccpnaa", sum := "ed491364caf9427f6f1138ba74c18b976b07b9f6e1e7c88d7d163d7ca735310d", func := "loop.example/disclosurecontrol/laws.FnDraw", spec := "fnDraw", apart := false, narrowed := true }
def FnDrawUptoSaid : Prop := fnDrawUptoRow.holds Try.pinned (OpenSpec.upto fnDrawSpec)

/-- 'laws.FnDrawCount', WHERE WHAT IT READS IS OF BULK AT MOST 1048576: true; the input reads as it did. -/
def fnDrawCountUptoRow : OpenClaim := { program := "ytomchjbgnccpnaa", sum := "ed491364caf9427f6f1138ba74c18b976b07b9f6e1e7c88d7d163d7ca735310d", func := "loop.example/disclosurecontrol/laws.FnDrawCount", spec := "fnDrawCount", apart := false, narrowed := true }
def FnDrawCountUptoSaid : Prop := fnDrawCountUptoRow.holds Try.pinned (OpenSpec.upto fnDrawCountSpec)

/-- 'laws.FnDrawMean', WHERE WHAT IT READS IS OF BULK AT MOST 1048576: true; the input reads as it did. -/
def fnDrawMeanUptoRow : OpenClaim := { program := "ytomchjbgnccpnaa", sum := "ed491364caf9427f6f1138ba74c18b976b07b9f6e1e7c88d7d163d7ca735310d", func := "loop.example/disclosurecontrol/laws.FnDrawMean", spec := "fnDrawMean", apart := false, narrowed := true }
def FnDrawMeanUptoSaid : Prop := fnDrawMeanUptoRow.holds Try.pinned (OpenSpec.upto fnDrawMeanSpec)

/-- 'laws.FnLow', WHERE WHAT IT READS IS OF BULK AT MOST 1048576: true; the input reads as it did. -/
def fnLowUptoRow : OpenClaim := { program := "ytomchjbgnccpnaa", sum := "ed491364caf9427f6f1138ba74c18b976b07b9f6e1e7c88d7d163d7ca735310d", func := "loop.example/disclosurecontrol/laws.FnLow", spec := "fnLow", apart := false, narrowed := true }
def FnLowUptoSaid : Prop := fnLowUptoRow.holds Try.pinned (OpenSpec.upto fnLowSpec)

/-- 'laws.FnNearDraw', WHERE WHAT IT READS IS OF BULK AT MOST 1048576: true; the input reads as it did. -/
def fnNearDrawUptoRow : OpenClaim := { program := "ytomchjbgnccpnaa", sum := "ed491364caf9427f6f1138ba74c18b976b07b9f6e1e7c88d7d163d7ca735310d", func := "loop.example/disclosurecontrol/laws.FnNearDraw", spec := "fnNearDraw", apart := false, narrowed := true }
def FnNearDrawUptoSaid : Prop := fnNearDrawUptoRow.holds Try.pinned (OpenSpec.upto fnNearDrawSpec)

/-- 'laws.FnRangeMultiple', WHERE WHAT IT READS IS OF BULK AT MOST 1048576: true; the input reads as it did. -/
def fnRangeMultipleUptoRow : OpenClaim := { program := "ytomchjbgnccpnaa", sum := "ed491364caf9427f6f1138ba74c18b976b07b9f6e1e7c88d7d163d7ca735310d", func := "loop.example/disclosurecontrol/laws.FnRangeMultiple", spec := "fnRangeMultiple", apart := false, narrowed := true }
def FnRangeMultipleUptoSaid : Prop := fnRangeMultipleUptoRow.holds Try.pinned (OpenSpec.upto fnRangeMultipleSpec)

/-- 'laws.FnRange', WHERE WHAT IT READS IS OF BULK AT MOST 1048576: true; the input reads as it did. -/
def fnRangeUptoRow : OpenClaim := { program := "ytomchjbgnccpnaa", sum := "ed491364caf9427f6f1138ba74c18b976b07b9f6e1e7c88d7d163d7ca735310d", func := "loop.example/disclosurecontrol/laws.FnRange", spec := "fnRange", apart := false, narrowed := true }
def FnRangeUptoSaid : Prop := fnRangeUptoRow.holds Try.pinned (OpenSpec.upto fnRangeSpec)

/-- 'laws.FnHigh', WHERE WHAT IT READS IS OF BULK AT MOST 1048576: true; the input reads as it did. -/
def fnHighUptoRow : OpenClaim := { program := "ytomchjbgnccpnaa", sum := "ed491364caf9427f6f1138ba74c18b976b07b9f6e1e7c88d7d163d7ca735310d", func := "loop.example/disclosurecontrol/laws.FnHigh", spec := "fnHigh", apart := false, narrowed := true }
def FnHighUptoSaid : Prop := fnHighUptoRow.holds Try.pinned (OpenSpec.upto fnHighSpec)

end Rows
end Go.Proofs.Ytomchjbgnccpnaa
