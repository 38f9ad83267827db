/-
  No cell of these rows narrows 'for every input' (looked for: loops, veiled, ifaces, maps, wideKeys, modest, calm, conditions, laid).
  DERIVED. THE GIVEN ROWS OF THIS SEAT. 9 by the template 'for every input the law returns true; each argument reads behind the call as it read before'; 0 by the template 'total and deterministic' (their statements: YtahnabijaoimfaaTotals.lean).
  GIVEN WITH THE SEED: the statements are not yours to turn. If you find one false, say at which input.
  Laid BY PROGRAM, IN A SANDBOX (cutbox-rows.mjs): the forced cells as the released guide's own fill.sh prints them over the translation 677626c73b5c1d89… (all of the seat's roots in one cut). By AI agents, Wed Nov 11 2026. No macro, syntax, notation, axiom, sorry.
-/
import Derived.Test.YtahnabijaoimfaaChecked
import GoSem.Claim
import GoSem.ClaimJoined
import GoSem.ClaimMapViews
import Derived.JoinedTies
import Derived.KernelRfl
namespace Go.Proofs.Ytahnabijaoimfaa
/- THE CELL 'sum', in the pinned program and in every row, IS THE sha256 OF THE DUMP (.gsa) THAT YtahnabijaoimfaaProg.lean LOADS. Nothing in Lean hashes anything: it is a label: what it is worth is what the hold of that sum in a sandbox is worth. -/
noncomputable def Try.pinned : Pinned := { name := "ytahnabijaoimfaa", sum := "677626c73b5c1d89db8ae7946005e7110168fea2ba9ed02e1b1be47ba27614a2", checked := Try.checked }
namespace Rows
def none {H : Type} : Left H := { results := [], args := [] }

/-- 'laws.FnKeyRowsNeg': WHATEVER THE INPUT: true; the input reads as it did. -/
def fnKeyRowsNegSpec : ChangeSpec := { name := "fnKeyRowsNeg", fn := fun _ => fun
  | [d1, d2] => { results := [.lit (.bool true)], args := [d1, d2] }
  | _ => none }
def fnKeyRowsNegRow : OpenClaim := { program := "ytahnabijaoimfaa", sum := "677626c73b5c1d89db8ae7946005e7110168fea2ba9ed02e1b1be47ba27614a2", func := "loop.example/disclosurecontrol/laws.FnKeyRowsNeg", spec := "fnKeyRowsNeg", apart := false }
def FnKeyRowsNegSaid : Prop := fnKeyRowsNegRow.holds Try.pinned (OpenSpec.ofChange fnKeyRowsNegSpec)

/-- ITS FALSE NEIGHBOUR: 'it returns false'. Refute it at one input. -/
def fnKeyRowsNegWrong : ChangeSpec := { name := "fnKeyRowsNeg", fn := fun _ => fun
  | [d1, d2] => { results := [.lit (.bool false)], args := [d1, d2] }
  | _ => none }
def FnKeyRowsNegWrongFalsely : Prop := fnKeyRowsNegRow.holds Try.pinned (OpenSpec.ofChange fnKeyRowsNegWrong)

/-- 'laws.FnExactKeyRows': WHATEVER THE INPUT: true; the input reads as it did. -/
def fnExactKeyRowsSpec : ChangeSpec := { name := "fnExactKeyRows", fn := fun _ => fun
  | [d] => { results := [.lit (.bool true)], args := [d] }
  | _ => none }
def fnExactKeyRowsRow : OpenClaim := { program := "ytahnabijaoimfaa", sum := "677626c73b5c1d89db8ae7946005e7110168fea2ba9ed02e1b1be47ba27614a2", func := "loop.example/disclosurecontrol/laws.FnExactKeyRows", spec := "fnExactKeyRows", apart := false }
def FnExactKeyRowsSaid : Prop := fnExactKeyRowsRow.holds Try.pinned (OpenSpec.ofChange fnExactKeyRowsSpec)

/-- ITS FALSE NEIGHBOUR: 'it returns false'. Refute it at one input. -/
def fnExactKeyRowsWrong : ChangeSpec := { name := "fnExactKeyRows", fn := fun _ => fun
  | [d] => { results := [.lit (.bool false)], args := [d] }
  | _ => none }
def FnExactKeyRowsWrongFalsely : Prop := fnExactKeyRowsRow.holds Try.pinned (OpenSpec.ofChange fnExactKeyRowsWrong)

/-- 'laws.FnKeyRows': WHATEVER THE INPUT: true; the input reads as it did. -/
def fnKeyRowsSpec : ChangeSpec := { name := "fnKeyRows", fn := fun _ => fun
  | [d1, d2] => { results := [.lit (.bool true)], args := [d1, d2] }
  | _ => none }
def fnKeyRowsRow : OpenClaim := { program := "ytahnabijaoimfaa", sum := "677626c73b5c1d89db8ae7946005e7110168fea2ba9ed02e1b1be47ba27614a2", func := "loop.example/disclosurecontrol/laws.FnKeyRows", spec := "fnKeyRows", apart := false }
def FnKeyRowsSaid : Prop := fnKeyRowsRow.holds Try.pinned (OpenSpec.ofChange fnKeyRowsSpec)

/-- ITS FALSE NEIGHBOUR: 'it returns false'. Refute it at one input. -/
def fnKeyRowsWrong : ChangeSpec := { name := "fnKeyRows", fn := fun _ => fun
  | [d1, d2] => { results := [.lit (.bool false)], args := [d1, d2] }
  | _ => none }
def FnKeyRowsWrongFalsely : Prop := fnKeyRowsRow.holds Try.pinned (OpenSpec.ofChange fnKeyRowsWrong)

/-- 'laws.FnKeyRowsTurn': WHATEVER THE INPUT: true; the input reads as it did. -/
def fnKeyRowsTurnSpec : ChangeSpec := { name := "fnKeyRowsTurn", fn := fun _ => fun
  | [d1, d2] => { results := [.lit (.bool true)], args := [d1, d2] }
  | _ => none }
def fnKeyRowsTurnRow : OpenClaim := { program := "ytahnabijaoimfaa", sum := "677626c73b5c1d89db8ae7946005e7110168fea2ba9ed02e1b1be47ba27614a2", func := "loop.example/disclosurecontrol/laws.FnKeyRowsTurn", spec := "fnKeyRowsTurn", apart := false }
def FnKeyRowsTurnSaid : Prop := fnKeyRowsTurnRow.holds Try.pinned (OpenSpec.ofChange fnKeyRowsTurnSpec)

/-- ITS FALSE NEIGHBOUR: 'it returns false'. Refute it at one input. -/
def fnKeyRowsTurnWrong : ChangeSpec := { name := "fnKeyRowsTurn", fn := fun _ => fun
  | [d1, d2] => { results := [.lit (.bool false)], args := [d1, d2] }
  | _ => none }
def FnKeyRowsTurnWrongFalsely : Prop := fnKeyRowsTurnRow.holds Try.pinned (OpenSpec.ofChange fnKeyRowsTurnWrong)

/-- 'laws.FnKeyMean': WHATEVER THE INPUT: true; the input reads as it did. -/
def fnKeyMeanSpec : ChangeSpec := { name := "fnKeyMean", fn := fun _ => fun
  | [d] => { results := [.lit (.bool true)], args := [d] }
  | _ => none }
def fnKeyMeanRow : OpenClaim := { program := "ytahnabijaoimfaa", sum := "677626c73b5c1d89db8ae7946005e7110168fea2ba9ed02e1b1be47ba27614a2", func := "loop.example/disclosurecontrol/laws.FnKeyMean", spec := "fnKeyMean", apart := false }
def FnKeyMeanSaid : Prop := fnKeyMeanRow.holds Try.pinned (OpenSpec.ofChange fnKeyMeanSpec)

/-- ITS FALSE NEIGHBOUR: 'it returns false'. Refute it at one input. -/
def fnKeyMeanWrong : ChangeSpec := { name := "fnKeyMean", fn := fun _ => fun
  | [d] => { results := [.lit (.bool false)], args := [d] }
  | _ => none }
def FnKeyMeanWrongFalsely : Prop := fnKeyMeanRow.holds Try.pinned (OpenSpec.ofChange fnKeyMeanWrong)

/-- 'laws.FnKeyMeanFirst': WHATEVER THE INPUT: true; the input reads as it did. -/
def fnKeyMeanFirstSpec : ChangeSpec := { name := "fnKeyMeanFirst", fn := fun _ => fun
  | [d1, d2] => { results := [.lit (.bool true)], args := [d1, d2] }
  | _ => none }
def fnKeyMeanFirstRow : OpenClaim := { program := "ytahnabijaoimfaa", sum := "677626c73b5c1d89db8ae7946005e7110168fea2ba9ed02e1b1be47ba27614a2", func := "loop.example/disclosurecontrol/laws.FnKeyMeanFirst", spec := "fnKeyMeanFirst", apart := false }
def FnKeyMeanFirstSaid : Prop := fnKeyMeanFirstRow.holds Try.pinned (OpenSpec.ofChange fnKeyMeanFirstSpec)

/-- ITS FALSE NEIGHBOUR: 'it returns false'. Refute it at one input. -/
def fnKeyMeanFirstWrong : ChangeSpec := { name := "fnKeyMeanFirst", fn := fun _ => fun
  | [d1, d2] => { results := [.lit (.bool false)], args := [d1, d2] }
  | _ => none }
def FnKeyMeanFirstWrongFalsely : Prop := fnKeyMeanFirstRow.holds Try.pinned (OpenSpec.ofChange fnKeyMeanFirstWrong)

/-- 'laws.FnKeySpread': WHATEVER THE INPUT: true; the input reads as it did. -/
def fnKeySpreadSpec : ChangeSpec := { name := "fnKeySpread", fn := fun _ => fun
  | [d1, d2] => { results := [.lit (.bool true)], args := [d1, d2] }
  | _ => none }
def fnKeySpreadRow : OpenClaim := { program := "ytahnabijaoimfaa", sum := "677626c73b5c1d89db8ae7946005e7110168fea2ba9ed02e1b1be47ba27614a2", func := "loop.example/disclosurecontrol/laws.FnKeySpread", spec := "fnKeySpread", apart := false }
def FnKeySpreadSaid : Prop := fnKeySpreadRow.holds Try.pinned (OpenSpec.ofChange fnKeySpreadSpec)

/-- ITS FALSE NEIGHBOUR: 'it returns false'. Refute it at one input. -/
def fnKeySpreadWrong : ChangeSpec := { name := "fnKeySpread", fn := fun _ => fun
  | [d1, d2] => { results := [.lit (.bool false)], args := [d1, d2] }
  | _ => none }
def FnKeySpreadWrongFalsely : Prop := fnKeySpreadRow.holds Try.pinned (OpenSpec.ofChange fnKeySpreadWrong)

/-- 'laws.FnExactKeyMean': WHATEVER THE INPUT: true; the input reads as it did. -/
def fnExactKeyMeanSpec : ChangeSpec := { name := "fnExactKeyMean", fn := fun _ => fun
  | [d1, d2] => { results := [.lit (.bool true)], args := [d1, d2] }
  | _ => none }
def fnExactKeyMeanRow : OpenClaim := { program := "ytahnabijaoimfaa", sum := "677626c73b5c1d89db8ae7946005e7110168fea2ba9ed02e1b1be47ba27614a2", func := "loop.example/disclosurecontrol/laws.FnExactKeyMean", spec := "fnExactKeyMean", apart := false }
def FnExactKeyMeanSaid : Prop := fnExactKeyMeanRow.holds Try.pinned (OpenSpec.ofChange fnExactKeyMeanSpec)

/-- ITS FALSE NEIGHBOUR: 'it returns false'. Refute it at one input. -/
def fnExactKeyMeanWrong : ChangeSpec := { name := "fnExactKeyMean", fn := fun _ => fun
  | [d1, d2] => { results := [.lit (.bool false)], args := [d1, d2] }
  | _ => none }
def FnExactKeyMeanWrongFalsely : Prop := fnExactKeyMeanRow.holds Try.pinned (OpenSpec.ofChange fnExactKeyMeanWrong)

/-- 'laws.FnExactKeySpread': WHATEVER THE INPUT: true; the input reads as it did. -/
def fnExactKeySpreadSpec : ChangeSpec := { name := "fnExactKeySpread", fn := fun _ => fun
  | [d] => { results := [.lit (.bool true)], args := [d] }
  | _ => none }
def fnExactKeySpreadRow : OpenClaim := { program := "ytahnabijaoimfaa", sum := "677626c73b5c1d89db8ae7946005e7110168fea2ba9ed02e1b1be47ba27614a2", func := "loop.example/disclosurecontrol/laws.FnExactKeySpread", spec := "fnExactKeySpread", apart := false }
def FnExactKeySpreadSaid : Prop := fnExactKeySpreadRow.holds Try.pinned (OpenSpec.ofChange fnExactKeySpreadSpec)

/-- ITS FALSE NEIGHBOUR: 'it returns false'. Refute it at one input. -/
def fnExactKeySpreadWrong : ChangeSpec := { name := "fnExactKeySpread", fn := fun _ => fun
  | [d] => { results := [.lit (.bool false)], args := [d] }
  | _ => none }
def FnExactKeySpreadWrongFalsely : Prop := fnExactKeySpreadRow.holds Try.pinned (OpenSpec.ofChange fnExactKeySpreadWrong)

/- THE SECOND FORM. 'bulk': how many values and letters a reading holds, each counted each time it is reached (what is shared counts as often as it is met; a slice's spare places count too). A statement '..UptoSaid' is the law's where the arguments, and the package variables that the reading takes, are together of bulk at most 1048576: NARROWER than '..Said'. Prove '..Said' where nothing that the law and all that it calls make is longer than what came in: it says more and counts as full. Else prove '..UptoSaid'. A law counts once. -/
mutual
def uptoBulk {H : Type} : DataW H → Nat
  | .lit (.string bytes) => bytes.length + 1
  | .lit _ => 1
  | .nil => 1
  | .ptr d => uptoBulk d + 1
  | .slice elems spare => uptoBulkAll elems + uptoBulkAll spare + 1
  | .agg parts => uptoBulkAll parts + 1
  | .iface _ d => uptoBulk d + 1
  | .map entries => uptoBulkEntries entries + 1
  | .held _ => 1
def uptoBulkAll {H : Type} : List (DataW H) → Nat
  | [] => 0
  | d :: r => uptoBulk d + uptoBulkAll r
def uptoBulkEntries {H : Type} : List (Lit × DataW H) → Nat
  | [] => 0
  | x :: r => uptoBulkEntry x + uptoBulkEntries r
def uptoBulkEntry {H : Type} : Lit × DataW H → Nat
  | (.string bytes, d) => bytes.length + uptoBulk d + 1
  | (_, d) => uptoBulk d + 1
 end
def uptoSmall : (H : Type) → List (DataW H) → Bool := fun _ ds => decide (uptoBulkAll ds ≤ 1048576)
def OpenSpec.upto (s : _root_.Go.ChangeSpec) : _root_.Go.OpenSpec := { _root_.Go.OpenSpec.ofChange s with cond := some uptoSmall }

/-- 'laws.FnKeyRowsNeg', WHERE WHAT IT READS IS OF BULK AT MOST 1048576: true; the input reads as it did. -/
def fnKeyRowsNegUptoRow : OpenClaim := { program := "ytahnabijaoimfaa", sum := "677626c73b5c1d89db8ae7946005e7110168fea2ba9ed02e1b1be47ba27614a2", func := "loop.example/disclosurecontrol/laws.FnKeyRowsNeg", spec := "fnKeyRowsNeg", apart := false, narrowed := true }
def FnKeyRowsNegUptoSaid : Prop := fnKeyRowsNegUptoRow.holds Try.pinned (OpenSpec.upto fnKeyRowsNegSpec)

/-- 'laws.FnExactKeyRows', WHERE WHAT IT READS IS OF BULK AT MOST 1048576: true; the input reads as it did. -/
def fnExactKeyRowsUptoRow : OpenClaim := { program := "ytahnabijaoimfaa", sum := "677626c73b5c1d89db8ae7946005e7110168fea2ba9ed02e1b1be47ba27614a2", func := "loop.example/disclosurecontrol/laws.FnExactKeyRows", spec := "fnExactKeyRows", apart := false, narrowed := true }
def FnExactKeyRowsUptoSaid : Prop := fnExactKeyRowsUptoRow.holds Try.pinned (OpenSpec.upto fnExactKeyRowsSpec)

/-- 'laws.FnKeyRows', WHERE WHAT IT READS IS OF BULK AT MOST 1048576: true; the input reads as it did. -/
def fnKeyRowsUptoRow : OpenClaim := { program := "ytahnabijaoimfaa", sum := "677626c73b5c1d89db8ae7946005e7110168fea2ba9ed02e1b1be47ba27614a2", func := "loop.example/disclosurecontrol/laws.FnKeyRows", spec := "fnKeyRows", apart := false, narrowed := true }
def FnKeyRowsUptoSaid : Prop := fnKeyRowsUptoRow.holds Try.pinned (OpenSpec.upto fnKeyRowsSpec)

/-- 'laws.FnKeyRowsTurn', WHERE WHAT IT READS IS OF BULK AT MOST 1048576: true; the input reads as it did. -/
def fnKeyRowsTurnUptoRow : OpenClaim := { program := "ytahnabijaoimfaa", sum := "677626c73b5c1d89db8ae7946005e7110168fea2ba9ed02e1b1be47ba27614a2", func := "loop.example/disclosurecontrol/laws.FnKeyRowsTurn", spec := "fnKeyRowsTurn", apart := false, narrowed := true }
def FnKeyRowsTurnUptoSaid : Prop := fnKeyRowsTurnUptoRow.holds Try.pinned (OpenSpec.upto fnKeyRowsTurnSpec)

/-- 'laws.FnKeyMean', WHERE WHAT IT READS IS OF BULK AT MOST 1048576: true; the input reads as it did. -/
def fnKeyMeanUptoRow : OpenClaim := { program := "ytahnabijaoimfaa", sum := "677626c73b5c1d89db8ae7946005e7110168fea2ba9ed02e1b1be47ba27614a2", func := "loop.example/disclosurecontrol/laws.FnKeyMean", spec := "fnKeyMean", apart := false, narrowed := true }
def FnKeyMeanUptoSaid : Prop := fnKeyMeanUptoRow.holds Try.pinned (OpenSpec.upto fnKeyMeanSpec)

/-- 'laws.FnKeyMeanFirst', WHERE WHAT IT READS IS OF BULK AT MOST 1048576: true; the input reads as it did. -/
def fnKeyMeanFirstUptoRow : OpenClaim := { program := "ytahnabijaoimfaa", sum := "677626c73b5c1d89db8ae7946005e7110168fea2ba9ed02e1b1be47ba27614a2", func := "loop.example/disclosurecontrol/laws.FnKeyMeanFirst", spec := "fnKeyMeanFirst", apart := false, narrowed := true }
def FnKeyMeanFirstUptoSaid : Prop := fnKeyMeanFirstUptoRow.holds Try.pinned (OpenSpec.upto fnKeyMeanFirstSpec)

/-- 'laws.FnKeySpread', WHERE WHAT IT READS IS OF BULK AT MOST 1048576: true; the input reads as it did. -/
def fnKeySpreadUptoRow : OpenClaim := { program := "ytahnabijaoimfaa", sum := "677626c73b5c1d89db8ae7946005e7110168fea2ba9ed02e1b1be47ba27614a2", func := "loop.example/disclosurecontrol/laws.FnKeySpread", spec := "fnKeySpread", apart := false, narrowed := true }
def FnKeySpreadUptoSaid : Prop := fnKeySpreadUptoRow.holds Try.pinned (OpenSpec.upto fnKeySpreadSpec)

/-- 'laws.FnExactKeyMean', WHERE WHAT IT READS IS OF BULK AT MOST 1048576: true; the input reads as it did. -/
def fnExactKeyMeanUptoRow : OpenClaim := { program := "ytahnabijaoimfaa", sum := "677626c73b5c1d89db8ae7946005e7110168fea2ba9ed02e1b1be47ba27614a2", func := "loop.example/disclosurecontrol/laws.FnExactKeyMean", spec := "fnExactKeyMean", apart := false, narrowed := true }
def FnExactKeyMeanUptoSaid : Prop := fnExactKeyMeanUptoRow.holds Try.pinned (OpenSpec.upto fnExactKeyMeanSpec)

/-- 'laws.FnExactKeySpread', WHERE WHAT IT READS IS OF BULK AT MOST 1048576: true; the input reads as it did. -/
def fnExactKeySpreadUptoRow : OpenClaim := { program := "ytahnabijaoimfaa", sum := "677626c73b5c1d89db8ae7946005e7110168fea2ba9ed02e1b1be47ba27614a2", func := "loop.example/disclosurecontrol/laws.FnExactKeySpread", spec := "fnExactKeySpread", apart := false, narrowed := true }
def FnExactKeySpreadUptoSaid : Prop := fnExactKeySpreadUptoRow.holds Try.pinned (OpenSpec.upto fnExactKeySpreadSpec)

end Rows
end Go.Proofs.Ytahnabijaoimfaa
