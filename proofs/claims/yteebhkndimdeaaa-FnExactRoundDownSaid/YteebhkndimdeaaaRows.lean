/-
  No cell of these rows narrows 'for every input' (looked for: loops, veiled, ifaces, maps, wideKeys, modest, calm, conditions, laid).
  DERIVED. THE GIVEN ROWS OF THIS SEAT. 12 by the template 'for every input the law returns true; each argument reads behind the call as it read before'; 0 by the template 'total and deterministic' (their statements: YteebhkndimdeaaaTotals.lean).
  GIVEN WITH THE SEED: the statements are not yours to turn. If you find one false, say at which input.
  Laid BY PROGRAM, IN A SANDBOX (cutbox-rows.mjs): the forced cells as the released guide's own fill.sh prints them over the translation 30df001e01e4dfd8… (all of the seat's roots in one cut). By AI agents, Wed Nov 11 2026. No macro, syntax, notation, axiom, sorry.
-/
import Derived.Test.YteebhkndimdeaaaChecked
import GoSem.Claim
import GoSem.ClaimJoined
import GoSem.ClaimMapViews
import Derived.JoinedTies
import Derived.KernelRfl
namespace Go.Proofs.Yteebhkndimdeaaa
/- THE CELL 'sum', in the pinned program and in every row, IS THE sha256 OF THE DUMP (.gsa) THAT YteebhkndimdeaaaProg.lean LOADS. Nothing in Lean hashes anything: it is a label: what it is worth is what the hold of that sum in a sandbox is worth. -/
noncomputable def Try.pinned : Pinned := { name := "yteebhkndimdeaaa", sum := "30df001e01e4dfd8e6b660c1c83192c04ba296c1dc31427ab335e44a77588c89", checked := Try.checked }
namespace Rows
def none {H : Type} : Left H := { results := [], args := [] }

/-- 'laws.FnExactRoundDown': WHATEVER THE INPUT: true; the input reads as it did. -/
def fnExactRoundDownSpec : ChangeSpec := { name := "fnExactRoundDown", fn := fun _ => fun
  | [d1, d2] => { results := [.lit (.bool true)], args := [d1, d2] }
  | _ => none }
def fnExactRoundDownRow : OpenClaim := { program := "yteebhkndimdeaaa", sum := "30df001e01e4dfd8e6b660c1c83192c04ba296c1dc31427ab335e44a77588c89", func := "loop.example/disclosurecontrol/laws.FnExactRoundDown", spec := "fnExactRoundDown", apart := false }
def FnExactRoundDownSaid : Prop := fnExactRoundDownRow.holds Try.pinned (OpenSpec.ofChange fnExactRoundDownSpec)

/-- ITS FALSE NEIGHBOUR: 'it returns false'. Refute it at one input. -/
def fnExactRoundDownWrong : ChangeSpec := { name := "fnExactRoundDown", fn := fun _ => fun
  | [d1, d2] => { results := [.lit (.bool false)], args := [d1, d2] }
  | _ => none }
def FnExactRoundDownWrongFalsely : Prop := fnExactRoundDownRow.holds Try.pinned (OpenSpec.ofChange fnExactRoundDownWrong)

/-- 'laws.FnExactRoundLow': WHATEVER THE INPUT: true; the input reads as it did. -/
def fnExactRoundLowSpec : ChangeSpec := { name := "fnExactRoundLow", fn := fun _ => fun
  | [d1, d2] => { results := [.lit (.bool true)], args := [d1, d2] }
  | _ => none }
def fnExactRoundLowRow : OpenClaim := { program := "yteebhkndimdeaaa", sum := "30df001e01e4dfd8e6b660c1c83192c04ba296c1dc31427ab335e44a77588c89", func := "loop.example/disclosurecontrol/laws.FnExactRoundLow", spec := "fnExactRoundLow", apart := false }
def FnExactRoundLowSaid : Prop := fnExactRoundLowRow.holds Try.pinned (OpenSpec.ofChange fnExactRoundLowSpec)

/-- ITS FALSE NEIGHBOUR: 'it returns false'. Refute it at one input. -/
def fnExactRoundLowWrong : ChangeSpec := { name := "fnExactRoundLow", fn := fun _ => fun
  | [d1, d2] => { results := [.lit (.bool false)], args := [d1, d2] }
  | _ => none }
def FnExactRoundLowWrongFalsely : Prop := fnExactRoundLowRow.holds Try.pinned (OpenSpec.ofChange fnExactRoundLowWrong)

/-- 'laws.FnExactRoundNear': WHATEVER THE INPUT: true; the input reads as it did. -/
def fnExactRoundNearSpec : ChangeSpec := { name := "fnExactRoundNear", fn := fun _ => fun
  | [d1, d2] => { results := [.lit (.bool true)], args := [d1, d2] }
  | _ => none }
def fnExactRoundNearRow : OpenClaim := { program := "yteebhkndimdeaaa", sum := "30df001e01e4dfd8e6b660c1c83192c04ba296c1dc31427ab335e44a77588c89", func := "loop.example/disclosurecontrol/laws.FnExactRoundNear", spec := "fnExactRoundNear", apart := false }
def FnExactRoundNearSaid : Prop := fnExactRoundNearRow.holds Try.pinned (OpenSpec.ofChange fnExactRoundNearSpec)

/-- ITS FALSE NEIGHBOUR: 'it returns false'. Refute it at one input. -/
def fnExactRoundNearWrong : ChangeSpec := { name := "fnExactRoundNear", fn := fun _ => fun
  | [d1, d2] => { results := [.lit (.bool false)], args := [d1, d2] }
  | _ => none }
def FnExactRoundNearWrongFalsely : Prop := fnExactRoundNearRow.holds Try.pinned (OpenSpec.ofChange fnExactRoundNearWrong)

/-- 'laws.FnExactRoundHigh': WHATEVER THE INPUT: true; the input reads as it did. -/
def fnExactRoundHighSpec : ChangeSpec := { name := "fnExactRoundHigh", fn := fun _ => fun
  | [d1, d2] => { results := [.lit (.bool true)], args := [d1, d2] }
  | _ => none }
def fnExactRoundHighRow : OpenClaim := { program := "yteebhkndimdeaaa", sum := "30df001e01e4dfd8e6b660c1c83192c04ba296c1dc31427ab335e44a77588c89", func := "loop.example/disclosurecontrol/laws.FnExactRoundHigh", spec := "fnExactRoundHigh", apart := false }
def FnExactRoundHighSaid : Prop := fnExactRoundHighRow.holds Try.pinned (OpenSpec.ofChange fnExactRoundHighSpec)

/-- ITS FALSE NEIGHBOUR: 'it returns false'. Refute it at one input. -/
def fnExactRoundHighWrong : ChangeSpec := { name := "fnExactRoundHigh", fn := fun _ => fun
  | [d1, d2] => { results := [.lit (.bool false)], args := [d1, d2] }
  | _ => none }
def FnExactRoundHighWrongFalsely : Prop := fnExactRoundHighRow.holds Try.pinned (OpenSpec.ofChange fnExactRoundHighWrong)

/-- 'laws.FnExactRoundDraw': WHATEVER THE INPUT: true; the input reads as it did. -/
def fnExactRoundDrawSpec : ChangeSpec := { name := "fnExactRoundDraw", fn := fun _ => fun
  | [d1, d2, d3] => { results := [.lit (.bool true)], args := [d1, d2, d3] }
  | _ => none }
def fnExactRoundDrawRow : OpenClaim := { program := "yteebhkndimdeaaa", sum := "30df001e01e4dfd8e6b660c1c83192c04ba296c1dc31427ab335e44a77588c89", func := "loop.example/disclosurecontrol/laws.FnExactRoundDraw", spec := "fnExactRoundDraw", apart := false }
def FnExactRoundDrawSaid : Prop := fnExactRoundDrawRow.holds Try.pinned (OpenSpec.ofChange fnExactRoundDrawSpec)

/-- ITS FALSE NEIGHBOUR: 'it returns false'. Refute it at one input. -/
def fnExactRoundDrawWrong : ChangeSpec := { name := "fnExactRoundDraw", fn := fun _ => fun
  | [d1, d2, d3] => { results := [.lit (.bool false)], args := [d1, d2, d3] }
  | _ => none }
def FnExactRoundDrawWrongFalsely : Prop := fnExactRoundDrawRow.holds Try.pinned (OpenSpec.ofChange fnExactRoundDrawWrong)

/-- 'laws.FnDown': WHATEVER THE INPUT: true; the input reads as it did. -/
def fnDownSpec : ChangeSpec := { name := "fnDown", fn := fun _ => fun
  | [d] => { results := [.lit (.bool true)], args := [d] }
  | _ => none }
def fnDownRow : OpenClaim := { program := "yteebhkndimdeaaa", sum := "30df001e01e4dfd8e6b660c1c83192c04ba296c1dc31427ab335e44a77588c89", func := "loop.example/disclosurecontrol/laws.FnDown", spec := "fnDown", apart := false }
def FnDownSaid : Prop := fnDownRow.holds Try.pinned (OpenSpec.ofChange fnDownSpec)

/-- ITS FALSE NEIGHBOUR: 'it returns false'. Refute it at one input. -/
def fnDownWrong : ChangeSpec := { name := "fnDown", fn := fun _ => fun
  | [d] => { results := [.lit (.bool false)], args := [d] }
  | _ => none }
def FnDownWrongFalsely : Prop := fnDownRow.holds Try.pinned (OpenSpec.ofChange fnDownWrong)

/-- 'laws.FnDownRises': WHATEVER THE INPUT: true; the input reads as it did. -/
def fnDownRisesSpec : ChangeSpec := { name := "fnDownRises", fn := fun _ => fun
  | [d] => { results := [.lit (.bool true)], args := [d] }
  | _ => none }
def fnDownRisesRow : OpenClaim := { program := "yteebhkndimdeaaa", sum := "30df001e01e4dfd8e6b660c1c83192c04ba296c1dc31427ab335e44a77588c89", func := "loop.example/disclosurecontrol/laws.FnDownRises", spec := "fnDownRises", apart := false }
def FnDownRisesSaid : Prop := fnDownRisesRow.holds Try.pinned (OpenSpec.ofChange fnDownRisesSpec)

/-- ITS FALSE NEIGHBOUR: 'it returns false'. Refute it at one input. -/
def fnDownRisesWrong : ChangeSpec := { name := "fnDownRises", fn := fun _ => fun
  | [d] => { results := [.lit (.bool false)], args := [d] }
  | _ => none }
def FnDownRisesWrongFalsely : Prop := fnDownRisesRow.holds Try.pinned (OpenSpec.ofChange fnDownRisesWrong)

/-- 'laws.FnDownTwice': WHATEVER THE INPUT: true; the input reads as it did. -/
def fnDownTwiceSpec : ChangeSpec := { name := "fnDownTwice", fn := fun _ => fun
  | [d] => { results := [.lit (.bool true)], args := [d] }
  | _ => none }
def fnDownTwiceRow : OpenClaim := { program := "yteebhkndimdeaaa", sum := "30df001e01e4dfd8e6b660c1c83192c04ba296c1dc31427ab335e44a77588c89", func := "loop.example/disclosurecontrol/laws.FnDownTwice", spec := "fnDownTwice", apart := false }
def FnDownTwiceSaid : Prop := fnDownTwiceRow.holds Try.pinned (OpenSpec.ofChange fnDownTwiceSpec)

/-- ITS FALSE NEIGHBOUR: 'it returns false'. Refute it at one input. -/
def fnDownTwiceWrong : ChangeSpec := { name := "fnDownTwice", fn := fun _ => fun
  | [d] => { results := [.lit (.bool false)], args := [d] }
  | _ => none }
def FnDownTwiceWrongFalsely : Prop := fnDownTwiceRow.holds Try.pinned (OpenSpec.ofChange fnDownTwiceWrong)

/-- 'laws.FnNear': WHATEVER THE INPUT: true; the input reads as it did. -/
def fnNearSpec : ChangeSpec := { name := "fnNear", fn := fun _ => fun
  | [d] => { results := [.lit (.bool true)], args := [d] }
  | _ => none }
def fnNearRow : OpenClaim := { program := "yteebhkndimdeaaa", sum := "30df001e01e4dfd8e6b660c1c83192c04ba296c1dc31427ab335e44a77588c89", func := "loop.example/disclosurecontrol/laws.FnNear", spec := "fnNear", apart := false }
def FnNearSaid : Prop := fnNearRow.holds Try.pinned (OpenSpec.ofChange fnNearSpec)

/-- ITS FALSE NEIGHBOUR: 'it returns false'. Refute it at one input. -/
def fnNearWrong : ChangeSpec := { name := "fnNear", fn := fun _ => fun
  | [d] => { results := [.lit (.bool false)], args := [d] }
  | _ => none }
def FnNearWrongFalsely : Prop := fnNearRow.holds Try.pinned (OpenSpec.ofChange fnNearWrong)

/-- 'laws.FnNearDown': WHATEVER THE INPUT: true; the input reads as it did. -/
def fnNearDownSpec : ChangeSpec := { name := "fnNearDown", fn := fun _ => fun
  | [d] => { results := [.lit (.bool true)], args := [d] }
  | _ => none }
def fnNearDownRow : OpenClaim := { program := "yteebhkndimdeaaa", sum := "30df001e01e4dfd8e6b660c1c83192c04ba296c1dc31427ab335e44a77588c89", func := "loop.example/disclosurecontrol/laws.FnNearDown", spec := "fnNearDown", apart := false }
def FnNearDownSaid : Prop := fnNearDownRow.holds Try.pinned (OpenSpec.ofChange fnNearDownSpec)

/-- ITS FALSE NEIGHBOUR: 'it returns false'. Refute it at one input. -/
def fnNearDownWrong : ChangeSpec := { name := "fnNearDown", fn := fun _ => fun
  | [d] => { results := [.lit (.bool false)], args := [d] }
  | _ => none }
def FnNearDownWrongFalsely : Prop := fnNearDownRow.holds Try.pinned (OpenSpec.ofChange fnNearDownWrong)

/-- 'laws.FnNearRises': WHATEVER THE INPUT: true; the input reads as it did. -/
def fnNearRisesSpec : ChangeSpec := { name := "fnNearRises", fn := fun _ => fun
  | [d] => { results := [.lit (.bool true)], args := [d] }
  | _ => none }
def fnNearRisesRow : OpenClaim := { program := "yteebhkndimdeaaa", sum := "30df001e01e4dfd8e6b660c1c83192c04ba296c1dc31427ab335e44a77588c89", func := "loop.example/disclosurecontrol/laws.FnNearRises", spec := "fnNearRises", apart := false }
def FnNearRisesSaid : Prop := fnNearRisesRow.holds Try.pinned (OpenSpec.ofChange fnNearRisesSpec)

/-- ITS FALSE NEIGHBOUR: 'it returns false'. Refute it at one input. -/
def fnNearRisesWrong : ChangeSpec := { name := "fnNearRises", fn := fun _ => fun
  | [d] => { results := [.lit (.bool false)], args := [d] }
  | _ => none }
def FnNearRisesWrongFalsely : Prop := fnNearRisesRow.holds Try.pinned (OpenSpec.ofChange fnNearRisesWrong)

/-- 'laws.FnDownAdd': WHATEVER THE INPUT: true; the input reads as it did. -/
def fnDownAddSpec : ChangeSpec := { name := "fnDownAdd", fn := fun _ => fun
  | [d1, d2] => { results := [.lit (.bool true)], args := [d1, d2] }
  | _ => none }
def fnDownAddRow : OpenClaim := { program := "yteebhkndimdeaaa", sum := "30df001e01e4dfd8e6b660c1c83192c04ba296c1dc31427ab335e44a77588c89", func := "loop.example/disclosurecontrol/laws.FnDownAdd", spec := "fnDownAdd", apart := false }
def FnDownAddSaid : Prop := fnDownAddRow.holds Try.pinned (OpenSpec.ofChange fnDownAddSpec)

/-- ITS FALSE NEIGHBOUR: 'it returns false'. Refute it at one input. -/
def fnDownAddWrong : ChangeSpec := { name := "fnDownAdd", fn := fun _ => fun
  | [d1, d2] => { results := [.lit (.bool false)], args := [d1, d2] }
  | _ => none }
def FnDownAddWrongFalsely : Prop := fnDownAddRow.holds Try.pinned (OpenSpec.ofChange fnDownAddWrong)

/- THE SECOND FORM. 'bulk': how many values and letters a reading holds, each counted each time it is reached (what is shared counts as often as it is met; a slice's spare places count too). A statement '..UptoSaid' is the law's where the arguments, and the package variables that the reading takes, are together of bulk at most 1048576: NARROWER than '..Said'. Prove '..Said' where nothing that the law and all that it calls make is longer than what came in: it says more and counts as full. Else prove '..UptoSaid'. A law counts once. -/
mutual
def uptoBulk {H : Type} : DataW H → Nat
  | .lit (.string bytes) => bytes.length + 1
  | .lit _ => 1
  | .nil => 1
  | .ptr d => uptoBulk d + 1
  | .slice elems spare => uptoBulkAll elems + uptoBulkAll spare + 1
  | .agg parts => uptoBulkAll parts + 1
  | .iface _ d => uptoBulk d + 1
  | .map entries => uptoBulkEntries entries + 1
  | .held _ => 1
def uptoBulkAll {H : Type} : List (DataW H) → Nat
  | [] => 0
  | d :: r => uptoBulk d + uptoBulkAll r
def uptoBulkEntries {H : Type} : List (Lit × DataW H) → Nat
  | [] => 0
  | x :: r => uptoBulkEntry x + uptoBulkEntries r
def uptoBulkEntry {H : Type} : Lit × DataW H → Nat
  | (.string bytes, d) => bytes.length + uptoBulk d + 1
  | (_, d) => uptoBulk d + 1
 end
def uptoSmall : (H : Type) → List (DataW H) → Bool := fun _ ds => decide (uptoBulkAll ds ≤ 1048576)
def OpenSpec.upto (s : _root_.Go.ChangeSpec) : _root_.Go.OpenSpec := { _root_.Go.OpenSpec.ofChange s with cond := some uptoSmall }

/-- 'laws.FnExactRoundDown', WHERE WHAT IT READS IS OF BULK AT MOST 1048576: true; the input reads as it did. -/
def fnExactRoundDownUptoRow : OpenClaim := { program := "yteebhkndimdeaaa", sum := "30df001e01e4dfd8e6b660c1c83192c04ba296c1dc31427ab335e44a77588c89", func := "loop.example/disclosurecontrol/laws.FnExactRoundDown", spec := "fnExactRoundDown", apart := false, narrowed := true }
def FnExactRoundDownUptoSaid : Prop := fnExactRoundDownUptoRow.holds Try.pinned (OpenSpec.upto fnExactRoundDownSpec)

/-- 'laws.FnExactRoundLow', WHERE WHAT IT READS IS OF BULK AT MOST 1048576: true; the input reads as it did. -/
def fnExactRoundLowUptoRow : OpenClaim := { program := "yteebhkndimdeaaa", sum := "30df001e01e4dfd8e6b660c1c83192c04ba296c1dc31427ab335e44a77588c89", func := "loop.example/disclosurecontrol/laws.FnExactRoundLow", spec := "fnExactRoundLow", apart := false, narrowed := true }
def FnExactRoundLowUptoSaid : Prop := fnExactRoundLowUptoRow.holds Try.pinned (OpenSpec.upto fnExactRoundLowSpec)

/-- 'laws.FnExactRoundNear', WHERE WHAT IT READS IS OF BULK AT MOST 1048576: true; the input reads as it did. -/
def fnExactRoundNearUptoRow : OpenClaim := { program := "yteebhkndimdeaaa", sum := "30df001e01e4dfd8e6b660c1c83192c04ba296c1dc31427ab335e44a77588c89", func := "loop.example/disclosurecontrol/laws.FnExactRoundNear", spec := "fnExactRoundNear", apart := false, narrowed := true }
def FnExactRoundNearUptoSaid : Prop := fnExactRoundNearUptoRow.holds Try.pinned (OpenSpec.upto fnExactRoundNearSpec)

/-- 'laws.FnExactRoundHigh', WHERE WHAT IT READS IS OF BULK AT MOST 1048576: true; the input reads as it did. -/
def fnExactRoundHighUptoRow : OpenClaim := { program := "yteebhkndimdeaaa", sum := "30df001e01e4dfd8e6b660c1c83192c04ba296c1dc31427ab335e44a77588c89", func := "loop.example/disclosurecontrol/laws.FnExactRoundHigh", spec := "fnExactRoundHigh", apart := false, narrowed := true }
def FnExactRoundHighUptoSaid : Prop := fnExactRoundHighUptoRow.holds Try.pinned (OpenSpec.upto fnExactRoundHighSpec)

/-- 'laws.FnExactRoundDraw', WHERE WHAT IT READS IS OF BULK AT MOST 1048576: true; the input reads as it did. -/
def fnExactRoundDrawUptoRow : OpenClaim := { program := "yteebhkndimdeaaa", sum := "30df001e01e4dfd8e6b660c1c83192c04ba296c1dc31427ab335e44a77588c89", func := "loop.example/disclosurecontrol/laws.FnExactRoundDraw", spec := "fnExactRoundDraw", apart := false, narrowed := true }
def FnExactRoundDrawUptoSaid : Prop := fnExactRoundDrawUptoRow.holds Try.pinned (OpenSpec.upto fnExactRoundDrawSpec)

/-- 'laws.FnDown', WHERE WHAT IT READS IS OF BULK AT MOST 1048576: true; the input reads as it did. -/
def fnDownUptoRow : OpenClaim := { program := "yteebhkndimdeaaa", sum := "30df001e01e4dfd8e6b660c1c83192c04ba296c1dc31427ab335e44a77588c89", func := "loop.example/disclosurecontrol/laws.FnDown", spec := "fnDown", apart := false, narrowed := true }
def FnDownUptoSaid : Prop := fnDownUptoRow.holds Try.pinned (OpenSpec.upto fnDownSpec)

/-- 'laws.FnDownRises', WHERE WHAT IT READS IS OF BULK AT MOST 1048576: true; the input reads as it did. -/
def fnDownRisesUptoRow : OpenClaim := { program := "yteebhkndimdeaaa", sum := "30df001e01e4dfd8e6b660c1c83192c04ba296c1dc31427ab335e44a77588c89", func := "loop.example/disclosurecontrol/laws.FnDownRises", spec := "fnDownRises", apart := false, narrowed := true }
def FnDownRisesUptoSaid : Prop := fnDownRisesUptoRow.holds Try.pinned (OpenSpec.upto fnDownRisesSpec)

/-- 'laws.FnDownTwice', WHERE WHAT IT READS IS OF BULK AT MOST 1048576: true; the input reads as it did. -/
def fnDownTwiceUptoRow : OpenClaim := { program := "yteebhkndimdeaaa", sum := "30df001e01e4dfd8e6b660c1c83192c04ba296c1dc31427ab335e44a77588c89", func := "loop.example/disclosurecontrol/laws.FnDownTwice", spec := "fnDownTwice", apart := false, narrowed := true }
def FnDownTwiceUptoSaid : Prop := fnDownTwiceUptoRow.holds Try.pinned (OpenSpec.upto fnDownTwiceSpec)

/-- 'laws.FnNear', WHERE WHAT IT READS IS OF BULK AT MOST 1048576: true; the input reads as it did. -/
def fnNearUptoRow : OpenClaim := { program := "yteebhkndimdeaaa", sum := "30df001e01e4dfd8e6b660c1c83192c04ba296c1dc31427ab335e44a77588c89", func := "loop.example/disclosurecontrol/laws.FnNear", spec := "fnNear", apart := false, narrowed := true }
def FnNearUptoSaid : Prop := fnNearUptoRow.holds Try.pinned (OpenSpec.upto fnNearSpec)

/-- 'laws.FnNearDown', WHERE WHAT IT READS IS OF BULK AT MOST 1048576: true; the input reads as it did. -/
def fnNearDownUptoRow : OpenClaim := { program := "yteebhkndimdeaaa", sum := "30df001e01e4dfd8e6b660c1c83192c04ba296c1dc31427ab335e44a77588c89", func := "loop.example/disclosurecontrol/laws.FnNearDown", spec := "fnNearDown", apart := false, narrowed := true }
def FnNearDownUptoSaid : Prop := fnNearDownUptoRow.holds Try.pinned (OpenSpec.upto fnNearDownSpec)

/-- 'laws.FnNearRises', WHERE WHAT IT READS IS OF BULK AT MOST 1048576: true; the input reads as it did. -/
def fnNearRisesUptoRow : OpenClaim := { program := "yteebhkndimdeaaa", sum := "30df001e01e4dfd8e6b660c1c83192c04ba296c1dc31427ab335e44a77588c89", func := "loop.example/disclosurecontrol/laws.FnNearRises", spec := "fnNearRises", apart := false, narrowed := true }
def FnNearRisesUptoSaid : Prop := fnNearRisesUptoRow.holds Try.pinned (OpenSpec.upto fnNearRisesSpec)

/-- 'laws.FnDownAdd', WHERE WHAT IT READS IS OF BULK AT MOST 1048576: true; the input reads as it did. -/
def fnDownAddUptoRow : OpenClaim := { program := "yteebhkndimdeaaa", sum := "30df001e01e4dfd8e6b660c1c83192c04ba296c1dc31427ab335e44a77588c89", func := "loop.example/disclosurecontrol/laws.FnDownAdd", spec := "fnDownAdd", apart := false, narrowed := true }
def FnDownAddUptoSaid : Prop := fnDownAddUptoRow.holds Try.pinned (OpenSpec.upto fnDownAddSpec)

end Rows
end Go.Proofs.Yteebhkndimdeaaa
