/-
  No cell of these rows narrows 'for every input' (looked for: loops, veiled, ifaces, maps, wideKeys, modest, calm, conditions, laid).
  DERIVED. THE GIVEN ROWS OF THIS SEAT. 3 by the template 'for every input the law returns true; each argument reads behind the call as it read before'; 0 by the template 'total and deterministic' (their statements: YtigdgcpjkeaooaaTotals.lean).
  GIVEN WITH THE SEED: the statements are not yours to turn. If you find one false, say at which input.
  Laid BY PROGRAM, IN A SANDBOX (cutbox-rows.mjs): the forced cells as the released guide's own fill.sh prints them over the translation 12d9bbd140bb182d… (all of the seat's roots in one cut). By AI agents, Wed Nov 11 2026. No macro, syntax, notation, axiom, sorry.
-/
import Derived.Test.YtigdgcpjkeaooaaChecked
import GoSem.Claim
import GoSem.ClaimJoined
import GoSem.ClaimMapViews
import Derived.JoinedTies
import Derived.KernelRfl
namespace Go.Proofs.Ytigdgcpjkeaooaa
/- THE CELL 'sum', in the pinned program and in every row, IS THE sha256 OF THE DUMP (.gsa) THAT YtigdgcpjkeaooaaProg.lean LOADS. Nothing in Lean hashes anything: it is a label: what it is worth is what the hold of that sum in a sandbox is worth. -/
noncomputable def Try.pinned : Pinned := { name := "ytigdgcpjkeaooaa", sum := "12d9bbd140bb182d381e22da6be01d85e1d1b64f537e1711371df83b212d0a32", checked := Try.checked }
namespace Rows
def none {H : Type} : Left H := { results := [], args := [] }

/-- 'laws.FnControlLess': WHATEVER THE INPUT: true; the input reads as it did. -/
def fnControlLessSpec : ChangeSpec := { name := "fnControlLess", fn := fun _ => fun
  | [d] => { results := [.lit (.bool true)], args := [d] }
  | _ => none }
def fnControlLessRow : OpenClaim := { program := "ytigdgcpjkeaooaa", sum := "12d9bbd140bb182d381e22da6be01d85e1d1b64f537e1711371df83b212d0a32", func := "loop.example/disclosurecontrol/laws.FnControlLess", spec := "fnControlLess", unfollowed := true, recurses := true, apart := false }
def FnControlLessSaid : Prop := fnControlLessRow.holds Try.pinned (OpenSpec.ofChange fnControlLessSpec)

/-- ITS FALSE NEIGHBOUR: 'it returns false'. Refute it at one input. -/
def fnControlLessWrong : ChangeSpec := { name := "fnControlLess", fn := fun _ => fun
  | [d] => { results := [.lit (.bool false)], args := [d] }
  | _ => none }
def FnControlLessWrongFalsely : Prop := fnControlLessRow.holds Try.pinned (OpenSpec.ofChange fnControlLessWrong)

/-- 'laws.FnControlFits': WHATEVER THE INPUT: true; the input reads as it did. -/
def fnControlFitsSpec : ChangeSpec := { name := "fnControlFits", fn := fun _ => fun
  | [d] => { results := [.lit (.bool true)], args := [d] }
  | _ => none }
def fnControlFitsRow : OpenClaim := { program := "ytigdgcpjkeaooaa", sum := "12d9bbd140bb182d381e22da6be01d85e1d1b64f537e1711371df83b212d0a32", func := "loop.example/disclosurecontrol/laws.FnControlFits", spec := "fnControlFits", unfollowed := true, recurses := true, apart := false }
def FnControlFitsSaid : Prop := fnControlFitsRow.holds Try.pinned (OpenSpec.ofChange fnControlFitsSpec)

/-- ITS FALSE NEIGHBOUR: 'it returns false'. Refute it at one input. -/
def fnControlFitsWrong : ChangeSpec := { name := "fnControlFits", fn := fun _ => fun
  | [d] => { results := [.lit (.bool false)], args := [d] }
  | _ => none }
def FnControlFitsWrongFalsely : Prop := fnControlFitsRow.holds Try.pinned (OpenSpec.ofChange fnControlFitsWrong)

/-- 'laws.FnControlFitsTurn': WHATEVER THE INPUT: true; the input reads as it did. -/
def fnControlFitsTurnSpec : ChangeSpec := { name := "fnControlFitsTurn", fn := fun _ => fun
  | [d] => { results := [.lit (.bool true)], args := [d] }
  | _ => none }
def fnControlFitsTurnRow : OpenClaim := { program := "ytigdgcpjkeaooaa", sum := "12d9bbd140bb182d381e22da6be01d85e1d1b64f537e1711371df83b212d0a32", func := "loop.example/disclosurecontrol/laws.FnControlFitsTurn", spec := "fnControlFitsTurn", unfollowed := true, recurses := true, apart := false }
def FnControlFitsTurnSaid : Prop := fnControlFitsTurnRow.holds Try.pinned (OpenSpec.ofChange fnControlFitsTurnSpec)

/-- ITS FALSE NEIGHBOUR: 'it returns false'. Refute it at one input. -/
def fnControlFitsTurnWrong : ChangeSpec := { name := "fnControlFitsTurn", fn := fun _ => fun
  | [d] => { results := [.lit (.bool false)], args := [d] }
  | _ => none }
def FnControlFitsTurnWrongFalsely : Prop := fnControlFitsTurnRow.holds Try.pinned (OpenSpec.ofChange fnControlFitsTurnWrong)

/- THE SECOND FORM. 'bulk': how many values and letters a reading holds, each counted each time it is reached (what is shared counts as often as it is met; a slice's spare places count too). A statement '..UptoSaid' is the law's where the arguments, and the package variables that the reading takes, are together of bulk at most 1048576: NARROWER than '..Said'. Prove '..Said' where nothing that the law and all that it calls make is longer than what came in: it says more and counts as full. Else prove '..UptoSaid'. A law counts once. -/
mutual
def uptoBulk {H : Type} : DataW H → Nat
  | .lit (.string bytes) => bytes.length + 1
  | .lit _ => 1
  | .nil => 1
  | .ptr d => uptoBulk d + 1
  | .slice elems spare => uptoBulkAll elems + uptoBulkAll spare + 1
  | .agg parts => uptoBulkAll parts + 1
  | .iface _ d => uptoBulk d + 1
  | .map entries => uptoBulkEntries entries + 1
  | .held _ => 1
def uptoBulkAll {H : Type} : List (DataW H) → Nat
  | [] => 0
  | d :: r => uptoBulk d + uptoBulkAll r
def uptoBulkEntries {H : Type} : List (Lit × DataW H) → Nat
  | [] => 0
  | x :: r => uptoBulkEntry x + uptoBulkEntries r
def uptoBulkEntry {H : Type} : Lit × DataW H → Nat
  | (.string bytes, d) => bytes.length + uptoBulk d + 1
  | (_, d) => uptoBulk d + 1
 end
def uptoSmall : (H : Type) → List (DataW H) → Bool := fun _ ds => decide (uptoBulkAll ds ≤ 1048576)
def OpenSpec.upto (s : _root_.Go.ChangeSpec) : _root_.Go.OpenSpec := { _root_.Go.OpenSpec.ofChange s with cond := some uptoSmall }

/-- 'laws.FnControlLess', WHERE WHAT IT READS IS OF BULK AT MOST 1048576: true; the input reads as it did. -/
def fnControlLessUptoRow : OpenClaim := { program := "ytigdgcpjkeaooaa", sum := "12d9bbd140bb182d381e22da6be01d85e1d1b64f537e1711371df83b212d0a32", func := "loop.example/disclosurecontrol/laws.FnControlLess", spec := "fnControlLess", unfollowed := true, recurses := true, apart := false, narrowed := true }
def FnControlLessUptoSaid : Prop := fnControlLessUptoRow.holds Try.pinned (OpenSpec.upto fnControlLessSpec)

/-- 'laws.FnControlFits', WHERE WHAT IT READS IS OF BULK AT MOST 1048576: true; the input reads as it did. -/
def fnControlFitsUptoRow : OpenClaim := { program := "ytigdgcpjkeaooaa", sum := "12d9bbd140bb182d381e22da6be01d85e1d1b64f537e1711371df83b212d0a32", func := "loop.example/disclosurecontrol/laws.FnControlFits", spec := "fnControlFits", unfollowed := true, recurses := true, apart := false, narrowed := true }
def FnControlFitsUptoSaid : Prop := fnControlFitsUptoRow.holds Try.pinned (OpenSpec.upto fnControlFitsSpec)

/-- 'laws.FnControlFitsTurn', WHERE WHAT IT READS IS OF BULK AT MOST 1048576: true; the input reads as it did. -/
def fnControlFitsTurnUptoRow : OpenClaim := { program := "ytigdgcpjkeaooaa", sum := "12d9bbd140bb182d381e22da6be01d85e1d1b64f537e1711371df83b212d0a32", func := "loop.example/disclosurecontrol/laws.FnControlFitsTurn", spec := "fnControlFitsTurn", unfollowed := true, recurses := true, apart := false, narrowed := true }
def FnControlFitsTurnUptoSaid : Prop := fnControlFitsTurnUptoRow.holds Try.pinned (OpenSpec.upto fnControlFitsTurnSpec)

end Rows
end Go.Proofs.Ytigdgcpjkeaooaa
