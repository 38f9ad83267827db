/-
  No cell of these rows narrows 'for every input' (looked for: loops, veiled, ifaces, maps, wideKeys, modest, calm, conditions, laid).
  DERIVED. THE GIVEN ROWS OF THIS SEAT. 4 by the template 'for every input the law returns true; each argument reads behind the call as it read before'; 0 by the template 'total and deterministic' (their statements: YtgkndjplpnpikaaTotals.lean).
  GIVEN WITH THE SEED: the statements are not yours to turn. If you find one false, say at which input.
  Laid BY PROGRAM, IN A SANDBOX (cutbox-rows.mjs): the forced cells as the released guide's own fill.sh prints them over the translation 3b37d057a3ce29f5… (all of the seat's roots in one cut). By AI agents, Wed Nov 11 2026. No macro, syntax, notation, axiom, sorry.
-/
import Derived.Test.YtgkndjplpnpikaaChecked
import GoSem.Claim
import GoSem.ClaimJoined
import GoSem.ClaimMapViews
import Derived.JoinedTies
import Derived.KernelRfl
namespace Go.Proofs.Ytgkndjplpnpikaa
/- THE CELL 'sum', in the pinned program and in every row, IS THE sha256 OF THE DUMP (.gsa) THAT YtgkndjplpnpikaaProg.lean LOADS. Nothing in Lean hashes anything: it is a label: what it is worth is what the hold of that sum in a sandbox is worth. -/
noncomputable def Try.pinned : Pinned := { name := "ytgkndjplpnpikaa", sum := "3b37d057a3ce29f5fe7f1056c4a6e36afbe6831b610e3ad77ce806599dc59a22", checked := Try.checked }
namespace Rows
def none {H : Type} : Left H := { results := [], args := [] }

/-- 'laws.FnExactKeySum': WHATEVER THE INPUT: true; the input reads as it did. -/
def fnExactKeySumSpec : ChangeSpec := { name := "fnExactKeySum", fn := fun _ => fun
  | [d] => { results := [.lit (.bool true)], args := [d] }
  | _ => none }
def fnExactKeySumRow : OpenClaim := { program := "ytgkndjplpnpikaa", sum := "3b37d057a3ce29f5fe7f1056c4a6e36afbe6831b610e3ad77ce806599dc59a22", func := "loop.example/disclosurecontrol/laws.FnExactKeySum", spec := "fnExactKeySum", apart := false }
def FnExactKeySumSaid : Prop := fnExactKeySumRow.holds Try.pinned (OpenSpec.ofChange fnExactKeySumSpec)

/-- ITS FALSE NEIGHBOUR: 'it returns false'. Refute it at one input. -/
def fnExactKeySumWrong : ChangeSpec := { name := "fnExactKeySum", fn := fun _ => fun
  | [d] => { results := [.lit (.bool false)], args := [d] }
  | _ => none }
def FnExactKeySumWrongFalsely : Prop := fnExactKeySumRow.holds Try.pinned (OpenSpec.ofChange fnExactKeySumWrong)

/-- 'laws.FnKeySum': WHATEVER THE INPUT: true; the input reads as it did. -/
def fnKeySumSpec : ChangeSpec := { name := "fnKeySum", fn := fun _ => fun
  | [d1, d2] => { results := [.lit (.bool true)], args := [d1, d2] }
  | _ => none }
def fnKeySumRow : OpenClaim := { program := "ytgkndjplpnpikaa", sum := "3b37d057a3ce29f5fe7f1056c4a6e36afbe6831b610e3ad77ce806599dc59a22", func := "loop.example/disclosurecontrol/laws.FnKeySum", spec := "fnKeySum", apart := false }
def FnKeySumSaid : Prop := fnKeySumRow.holds Try.pinned (OpenSpec.ofChange fnKeySumSpec)

/-- ITS FALSE NEIGHBOUR: 'it returns false'. Refute it at one input. -/
def fnKeySumWrong : ChangeSpec := { name := "fnKeySum", fn := fun _ => fun
  | [d1, d2] => { results := [.lit (.bool false)], args := [d1, d2] }
  | _ => none }
def FnKeySumWrongFalsely : Prop := fnKeySumRow.holds Try.pinned (OpenSpec.ofChange fnKeySumWrong)

/-- 'laws.FnKeySumNone': WHATEVER THE INPUT: true; the input reads as it did. -/
def fnKeySumNoneSpec : ChangeSpec := { name := "fnKeySumNone", fn := fun _ => fun
  | [d1, d2] => { results := [.lit (.bool true)], args := [d1, d2] }
  | _ => none }
def fnKeySumNoneRow : OpenClaim := { program := "ytgkndjplpnpikaa", sum := "3b37d057a3ce29f5fe7f1056c4a6e36afbe6831b610e3ad77ce806599dc59a22", func := "loop.example/disclosurecontrol/laws.FnKeySumNone", spec := "fnKeySumNone", apart := false }
def FnKeySumNoneSaid : Prop := fnKeySumNoneRow.holds Try.pinned (OpenSpec.ofChange fnKeySumNoneSpec)

/-- ITS FALSE NEIGHBOUR: 'it returns false'. Refute it at one input. -/
def fnKeySumNoneWrong : ChangeSpec := { name := "fnKeySumNone", fn := fun _ => fun
  | [d1, d2] => { results := [.lit (.bool false)], args := [d1, d2] }
  | _ => none }
def FnKeySumNoneWrongFalsely : Prop := fnKeySumNoneRow.holds Try.pinned (OpenSpec.ofChange fnKeySumNoneWrong)

/-- 'laws.FnKeySumOne': WHATEVER THE INPUT: true; the input reads as it did. -/
def fnKeySumOneSpec : ChangeSpec := { name := "fnKeySumOne", fn := fun _ => fun
  | [d1, d2] => { results := [.lit (.bool true)], args := [d1, d2] }
  | _ => none }
def fnKeySumOneRow : OpenClaim := { program := "ytgkndjplpnpikaa", sum := "3b37d057a3ce29f5fe7f1056c4a6e36afbe6831b610e3ad77ce806599dc59a22", func := "loop.example/disclosurecontrol/laws.FnKeySumOne", spec := "fnKeySumOne", apart := false }
def FnKeySumOneSaid : Prop := fnKeySumOneRow.holds Try.pinned (OpenSpec.ofChange fnKeySumOneSpec)

/-- ITS FALSE NEIGHBOUR: 'it returns false'. Refute it at one input. -/
def fnKeySumOneWrong : ChangeSpec := { name := "fnKeySumOne", fn := fun _ => fun
  | [d1, d2] => { results := [.lit (.bool false)], args := [d1, d2] }
  | _ => none }
def FnKeySumOneWrongFalsely : Prop := fnKeySumOneRow.holds Try.pinned (OpenSpec.ofChange fnKeySumOneWrong)

/- THE SECOND FORM. 'bulk': how many values and letters a reading holds, each counted each time it is reached (what is shared counts as often as it is met; a slice's spare places count too). A statement '..UptoSaid' is the law's where the arguments, and the package variables that the reading takes, are together of bulk at most 1048576: NARROWER than '..Said'. Prove '..Said' where nothing that the law and all that it calls make is longer than what came in: it says more and counts as full. Else prove '..UptoSaid'. A law counts once. -/
mutual
def uptoBulk {H : Type} : DataW H → Nat
  | .lit (.string bytes) => bytes.length + 1
  | .lit _ => 1
  | .nil => 1
  | .ptr d => uptoBulk d + 1
  | .slice elems spare => uptoBulkAll elems + uptoBulkAll spare + 1
  | .agg parts => uptoBulkAll parts + 1
  | .iface _ d => uptoBulk d + 1
  | .map entries => uptoBulkEntries entries + 1
  | .held _ => 1
def uptoBulkAll {H : Type} : List (DataW H) → Nat
  | [] => 0
  | d :: r => uptoBulk d + uptoBulkAll r
def uptoBulkEntries {H : Type} : List (Lit × DataW H) → Nat
  | [] => 0
  | x :: r => uptoBulkEntry x + uptoBulkEntries r
def uptoBulkEntry {H : Type} : Lit × DataW H → Nat
  | (.string bytes, d) => bytes.length + uptoBulk d + 1
  | (_, d) => uptoBulk d + 1
 end
def uptoSmall : (H : Type) → List (DataW H) → Bool := fun _ ds => decide (uptoBulkAll ds ≤ 1048576)
def OpenSpec.upto (s : _root_.Go.ChangeSpec) : _root_.Go.OpenSpec := { _root_.Go.OpenSpec.ofChange s with cond := some uptoSmall }

/-- 'laws.FnExactKeySum', WHERE WHAT IT READS IS OF BULK AT MOST 1048576: true; the input reads as it did. -/
def fnExactKeySumUptoRow : OpenClaim := { program := "ytgkndjplpnpikaa", sum := "3b37d057a3ce29f5fe7f1056c4a6e36afbe6831b610e3ad77ce806599dc59a22", func := "loop.example/disclosurecontrol/laws.FnExactKeySum", spec := "fnExactKeySum", apart := false, narrowed := true }
def FnExactKeySumUptoSaid : Prop := fnExactKeySumUptoRow.holds Try.pinned (OpenSpec.upto fnExactKeySumSpec)

/-- 'laws.FnKeySum', WHERE WHAT IT READS IS OF BULK AT MOST 1048576: true; the input reads as it did. -/
def fnKeySumUptoRow : OpenClaim := { program := "ytgkndjplpnpikaa", sum := "3b37d057a3ce29f5fe7f1056c4a6e36afbe6831b610e3ad77ce806599dc59a22", func := "loop.example/disclosurecontrol/laws.FnKeySum", spec := "fnKeySum", apart := false, narrowed := true }
def FnKeySumUptoSaid : Prop := fnKeySumUptoRow.holds Try.pinned (OpenSpec.upto fnKeySumSpec)

/-- 'laws.FnKeySumNone', WHERE WHAT IT READS IS OF BULK AT MOST 1048576: true; the input reads as it did. -/
def fnKeySumNoneUptoRow : OpenClaim := { program := "ytgkndjplpnpikaa", sum := "3b37d057a3ce29f5fe7f1056c4a6e36afbe6831b610e3ad77ce806599dc59a22", func := "loop.example/disclosurecontrol/laws.FnKeySumNone", spec := "fnKeySumNone", apart := false, narrowed := true }
def FnKeySumNoneUptoSaid : Prop := fnKeySumNoneUptoRow.holds Try.pinned (OpenSpec.upto fnKeySumNoneSpec)

/-- 'laws.FnKeySumOne', WHERE WHAT IT READS IS OF BULK AT MOST 1048576: true; the input reads as it did. -/
def fnKeySumOneUptoRow : OpenClaim := { program := "ytgkndjplpnpikaa", sum := "3b37d057a3ce29f5fe7f1056c4a6e36afbe6831b610e3ad77ce806599dc59a22", func := "loop.example/disclosurecontrol/laws.FnKeySumOne", spec := "fnKeySumOne", apart := false, narrowed := true }
def FnKeySumOneUptoSaid : Prop := fnKeySumOneUptoRow.holds Try.pinned (OpenSpec.upto fnKeySumOneSpec)

end Rows
end Go.Proofs.Ytgkndjplpnpikaa
