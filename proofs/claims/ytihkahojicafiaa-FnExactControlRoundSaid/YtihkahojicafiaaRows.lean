/-
  No cell of these rows narrows 'for every input' (looked for: loops, veiled, ifaces, maps, wideKeys, modest, calm, conditions, laid).
  DERIVED. THE GIVEN ROWS OF THIS SEAT. 8 by the template 'for every input the law returns true; each argument reads behind the call as it read before'; 0 by the template 'total and deterministic' (their statements: YtihkahojicafiaaTotals.lean).
  GIVEN WITH THE SEED: the statements are not yours to turn. If you find one false, say at which input.
  Laid BY PROGRAM, IN A SANDBOX (cutbox-rows.mjs): the forced cells as the released guide's own fill.sh prints them over the translation f4eb5f970beac649… (all of the seat's roots in one cut). By AI agents, Wed Nov 11 2026. No macro, syntax, notation, axiom, sorry.
-/
import Derived.Test.YtihkahojicafiaaChecked
import GoSem.Claim
import GoSem.ClaimJoined
import GoSem.ClaimMapViews
import Derived.JoinedTies
import Derived.KernelRfl
namespace Go.Proofs.Ytihkahojicafiaa
/- THE CELL 'sum', in the pinned program and in every row, IS THE sha256 OF THE DUMP (.gsa) THAT YtihkahojicafiaaProg.lean LOADS. Nothing in Lean hashes anything: it is a label: what it is worth is what the hold of that sum in a sandbox is worth. -/
noncomputable def Try.pinned : Pinned := { name := "ytihkahojicafiaa", sum := "f4eb5f970beac6493acdecf8d62ea8b5cc4b3a541638adf499114d6e318da3c4", checked := Try.checked }
namespace Rows
def none {H : Type} : Left H := { results := [], args := [] }

/-- 'laws.FnControlExists': WHATEVER THE INPUT: true; the input reads as it did. -/
def fnControlExistsSpec : ChangeSpec := { name := "fnControlExists", fn := fun _ => fun
  | [d] => { results := [.lit (.bool true)], args := [d] }
  | _ => none }
def fnControlExistsRow : OpenClaim := { program := "ytihkahojicafiaa", sum := "f4eb5f970beac6493acdecf8d62ea8b5cc4b3a541638adf499114d6e318da3c4", func := "loop.example/disclosurecontrol/laws.FnControlExists", spec := "fnControlExists", unfollowed := true, recurses := true, apart := false }
def FnControlExistsSaid : Prop := fnControlExistsRow.holds Try.pinned (OpenSpec.ofChange fnControlExistsSpec)

/-- ITS FALSE NEIGHBOUR: 'it returns false'. Refute it at one input. -/
def fnControlExistsWrong : ChangeSpec := { name := "fnControlExists", fn := fun _ => fun
  | [d] => { results := [.lit (.bool false)], args := [d] }
  | _ => none }
def FnControlExistsWrongFalsely : Prop := fnControlExistsRow.holds Try.pinned (OpenSpec.ofChange fnControlExistsWrong)

/-- 'laws.FnControlFarTurn': WHATEVER THE INPUT: true; the input reads as it did. -/
def fnControlFarTurnSpec : ChangeSpec := { name := "fnControlFarTurn", fn := fun _ => fun
  | [d] => { results := [.lit (.bool true)], args := [d] }
  | _ => none }
def fnControlFarTurnRow : OpenClaim := { program := "ytihkahojicafiaa", sum := "f4eb5f970beac6493acdecf8d62ea8b5cc4b3a541638adf499114d6e318da3c4", func := "loop.example/disclosurecontrol/laws.FnControlFarTurn", spec := "fnControlFarTurn", unfollowed := true, recurses := true, apart := false }
def FnControlFarTurnSaid : Prop := fnControlFarTurnRow.holds Try.pinned (OpenSpec.ofChange fnControlFarTurnSpec)

/-- ITS FALSE NEIGHBOUR: 'it returns false'. Refute it at one input. -/
def fnControlFarTurnWrong : ChangeSpec := { name := "fnControlFarTurn", fn := fun _ => fun
  | [d] => { results := [.lit (.bool false)], args := [d] }
  | _ => none }
def FnControlFarTurnWrongFalsely : Prop := fnControlFarTurnRow.holds Try.pinned (OpenSpec.ofChange fnControlFarTurnWrong)

/-- 'laws.FnControlLess': WHATEVER THE INPUT: true; the input reads as it did. -/
def fnControlLessSpec : ChangeSpec := { name := "fnControlLess", fn := fun _ => fun
  | [d] => { results := [.lit (.bool true)], args := [d] }
  | _ => none }
def fnControlLessRow : OpenClaim := { program := "ytihkahojicafiaa", sum := "f4eb5f970beac6493acdecf8d62ea8b5cc4b3a541638adf499114d6e318da3c4", func := "loop.example/disclosurecontrol/laws.FnControlLess", spec := "fnControlLess", unfollowed := true, recurses := true, apart := false }
def FnControlLessSaid : Prop := fnControlLessRow.holds Try.pinned (OpenSpec.ofChange fnControlLessSpec)

/-- ITS FALSE NEIGHBOUR: 'it returns false'. Refute it at one input. -/
def fnControlLessWrong : ChangeSpec := { name := "fnControlLess", fn := fun _ => fun
  | [d] => { results := [.lit (.bool false)], args := [d] }
  | _ => none }
def FnControlLessWrongFalsely : Prop := fnControlLessRow.holds Try.pinned (OpenSpec.ofChange fnControlLessWrong)

/-- 'laws.FnExactControlRound': WHATEVER THE INPUT: true; the input reads as it did. -/
def fnExactControlRoundSpec : ChangeSpec := { name := "fnExactControlRound", fn := fun _ => fun
  | [d1, d2] => { results := [.lit (.bool true)], args := [d1, d2] }
  | _ => none }
def fnExactControlRoundRow : OpenClaim := { program := "ytihkahojicafiaa", sum := "f4eb5f970beac6493acdecf8d62ea8b5cc4b3a541638adf499114d6e318da3c4", func := "loop.example/disclosurecontrol/laws.FnExactControlRound", spec := "fnExactControlRound", unfollowed := true, recurses := true, apart := false }
def FnExactControlRoundSaid : Prop := fnExactControlRoundRow.holds Try.pinned (OpenSpec.ofChange fnExactControlRoundSpec)

/-- ITS FALSE NEIGHBOUR: 'it returns false'. Refute it at one input. -/
def fnExactControlRoundWrong : ChangeSpec := { name := "fnExactControlRound", fn := fun _ => fun
  | [d1, d2] => { results := [.lit (.bool false)], args := [d1, d2] }
  | _ => none }
def FnExactControlRoundWrongFalsely : Prop := fnExactControlRoundRow.holds Try.pinned (OpenSpec.ofChange fnExactControlRoundWrong)

/-- 'laws.FnControlRound': WHATEVER THE INPUT: true; the input reads as it did. -/
def fnControlRoundSpec : ChangeSpec := { name := "fnControlRound", fn := fun _ => fun
  | [d] => { results := [.lit (.bool true)], args := [d] }
  | _ => none }
def fnControlRoundRow : OpenClaim := { program := "ytihkahojicafiaa", sum := "f4eb5f970beac6493acdecf8d62ea8b5cc4b3a541638adf499114d6e318da3c4", func := "loop.example/disclosurecontrol/laws.FnControlRound", spec := "fnControlRound", unfollowed := true, recurses := true, apart := false }
def FnControlRoundSaid : Prop := fnControlRoundRow.holds Try.pinned (OpenSpec.ofChange fnControlRoundSpec)

/-- ITS FALSE NEIGHBOUR: 'it returns false'. Refute it at one input. -/
def fnControlRoundWrong : ChangeSpec := { name := "fnControlRound", fn := fun _ => fun
  | [d] => { results := [.lit (.bool false)], args := [d] }
  | _ => none }
def FnControlRoundWrongFalsely : Prop := fnControlRoundRow.holds Try.pinned (OpenSpec.ofChange fnControlRoundWrong)

/-- 'laws.FnControlSame': WHATEVER THE INPUT: true; the input reads as it did. -/
def fnControlSameSpec : ChangeSpec := { name := "fnControlSame", fn := fun _ => fun
  | [d] => { results := [.lit (.bool true)], args := [d] }
  | _ => none }
def fnControlSameRow : OpenClaim := { program := "ytihkahojicafiaa", sum := "f4eb5f970beac6493acdecf8d62ea8b5cc4b3a541638adf499114d6e318da3c4", func := "loop.example/disclosurecontrol/laws.FnControlSame", spec := "fnControlSame", unfollowed := true, recurses := true, apart := false }
def FnControlSameSaid : Prop := fnControlSameRow.holds Try.pinned (OpenSpec.ofChange fnControlSameSpec)

/-- ITS FALSE NEIGHBOUR: 'it returns false'. Refute it at one input. -/
def fnControlSameWrong : ChangeSpec := { name := "fnControlSame", fn := fun _ => fun
  | [d] => { results := [.lit (.bool false)], args := [d] }
  | _ => none }
def FnControlSameWrongFalsely : Prop := fnControlSameRow.holds Try.pinned (OpenSpec.ofChange fnControlSameWrong)

/-- 'laws.FnControlZero': WHATEVER THE INPUT: true; the input reads as it did. -/
def fnControlZeroSpec : ChangeSpec := { name := "fnControlZero", fn := fun _ => fun
  | [d] => { results := [.lit (.bool true)], args := [d] }
  | _ => none }
def fnControlZeroRow : OpenClaim := { program := "ytihkahojicafiaa", sum := "f4eb5f970beac6493acdecf8d62ea8b5cc4b3a541638adf499114d6e318da3c4", func := "loop.example/disclosurecontrol/laws.FnControlZero", spec := "fnControlZero", unfollowed := true, recurses := true, apart := false }
def FnControlZeroSaid : Prop := fnControlZeroRow.holds Try.pinned (OpenSpec.ofChange fnControlZeroSpec)

/-- ITS FALSE NEIGHBOUR: 'it returns false'. Refute it at one input. -/
def fnControlZeroWrong : ChangeSpec := { name := "fnControlZero", fn := fun _ => fun
  | [d] => { results := [.lit (.bool false)], args := [d] }
  | _ => none }
def FnControlZeroWrongFalsely : Prop := fnControlZeroRow.holds Try.pinned (OpenSpec.ofChange fnControlZeroWrong)

/-- 'laws.FnControlBest': WHATEVER THE INPUT: true; the input reads as it did. -/
def fnControlBestSpec : ChangeSpec := { name := "fnControlBest", fn := fun _ => fun
  | [d1, d2] => { results := [.lit (.bool true)], args := [d1, d2] }
  | _ => none }
def fnControlBestRow : OpenClaim := { program := "ytihkahojicafiaa", sum := "f4eb5f970beac6493acdecf8d62ea8b5cc4b3a541638adf499114d6e318da3c4", func := "loop.example/disclosurecontrol/laws.FnControlBest", spec := "fnControlBest", unfollowed := true, recurses := true, apart := false }
def FnControlBestSaid : Prop := fnControlBestRow.holds Try.pinned (OpenSpec.ofChange fnControlBestSpec)

/-- ITS FALSE NEIGHBOUR: 'it returns false'. Refute it at one input. -/
def fnControlBestWrong : ChangeSpec := { name := "fnControlBest", fn := fun _ => fun
  | [d1, d2] => { results := [.lit (.bool false)], args := [d1, d2] }
  | _ => none }
def FnControlBestWrongFalsely : Prop := fnControlBestRow.holds Try.pinned (OpenSpec.ofChange fnControlBestWrong)

/- THE SECOND FORM. 'bulk': how many values and letters a reading holds, each counted each time it is reached (what is shared counts as often as it is met; a slice's spare places count too). A statement '..UptoSaid' is the law's where the arguments, and the package variables that the reading takes, are together of bulk at most 1048576: NARROWER than '..Said'. Prove '..Said' where nothing that the law and all that it calls make is longer than what came in: it says more and counts as full. Else prove '..UptoSaid'. A law counts once. -/
mutual
def uptoBulk {H : Type} : DataW H → Nat
  | .lit (.string bytes) => bytes.length + 1
  | .lit _ => 1
  | .nil => 1
  | .ptr d => uptoBulk d + 1
  | .slice elems spare => uptoBulkAll elems + uptoBulkAll spare + 1
  | .agg parts => uptoBulkAll parts + 1
  | .iface _ d => uptoBulk d + 1
  | .map entries => uptoBulkEntries entries + 1
  | .held _ => 1
def uptoBulkAll {H : Type} : List (DataW H) → Nat
  | [] => 0
  | d :: r => uptoBulk d + uptoBulkAll r
def uptoBulkEntries {H : Type} : List (Lit × DataW H) → Nat
  | [] => 0
  | x :: r => uptoBulkEntry x + uptoBulkEntries r
def uptoBulkEntry {H : Type} : Lit × DataW H → Nat
  | (.string bytes, d) => bytes.length + uptoBulk d + 1
  | (_, d) => uptoBulk d + 1
 end
def uptoSmall : (H : Type) → List (DataW H) → Bool := fun _ ds => decide (uptoBulkAll ds ≤ 1048576)
def OpenSpec.upto (s : _root_.Go.ChangeSpec) : _root_.Go.OpenSpec := { _root_.Go.OpenSpec.ofChange s with cond := some uptoSmall }

/-- 'laws.FnControlExists', WHERE WHAT IT READS IS OF BULK AT MOST 1048576: true; the input reads as it did. -/
def fnControlExistsUptoRow : OpenClaim := { program := "ytihkahojicafiaa", sum := "f4eb5f970beac6493acdecf8d62ea8b5cc4b3a541638adf499114d6e318da3c4", func := "loop.example/disclosurecontrol/laws.FnControlExists", spec := "fnControlExists", unfollowed := true, recurses := true, apart := false, narrowed := true }
def FnControlExistsUptoSaid : Prop := fnControlExistsUptoRow.holds Try.pinned (OpenSpec.upto fnControlExistsSpec)

/-- 'laws.FnControlFarTurn', WHERE WHAT IT READS IS OF BULK AT MOST 1048576: true; the input reads as it did. -/
def fnControlFarTurnUptoRow : OpenClaim := { program := "ytihkahojicafiaa", sum := "f4eb5f970beac6493acdecf8d62ea8b5cc4b3a541638adf499114d6e318da3c4", func := "loop.example/disclosurecontrol/laws.FnControlFarTurn", spec := "fnControlFarTurn", unfollowed := true, recurses := true, apart := false, narrowed := true }
def FnControlFarTurnUptoSaid : Prop := fnControlFarTurnUptoRow.holds Try.pinned (OpenSpec.upto fnControlFarTurnSpec)

/-- 'laws.FnControlLess', WHERE WHAT IT READS IS OF BULK AT MOST 1048576: true; the input reads as it did. -/
def fnControlLessUptoRow : OpenClaim := { program := "ytihkahojicafiaa", sum := "f4eb5f970beac6493acdecf8d62ea8b5cc4b3a541638adf499114d6e318da3c4", func := "loop.example/disclosurecontrol/laws.FnControlLess", spec := "fnControlLess", unfollowed := true, recurses := true, apart := false, narrowed := true }
def FnControlLessUptoSaid : Prop := fnControlLessUptoRow.holds Try.pinned (OpenSpec.upto fnControlLessSpec)

/-- 'laws.FnExactControlRound', WHERE WHAT IT READS IS OF BULK AT MOST 1048576: true; the input reads as it did. -/
def fnExactControlRoundUptoRow : OpenClaim := { program := "ytihkahojicafiaa", sum := "f4eb5f970beac6493acdecf8d62ea8b5cc4b3a541638adf499114d6e318da3c4", func := "loop.example/disclosurecontrol/laws.FnExactControlRound", spec := "fnExactControlRound", unfollowed := true, recurses := true, apart := false, narrowed := true }
def FnExactControlRoundUptoSaid : Prop := fnExactControlRoundUptoRow.holds Try.pinned (OpenSpec.upto fnExactControlRoundSpec)

/-- 'laws.FnControlRound', WHERE WHAT IT READS IS OF BULK AT MOST 1048576: true; the input reads as it did. -/
def fnControlRoundUptoRow : OpenClaim := { program := "ytihkahojicafiaa", sum := "f4eb5f970beac6493acdecf8d62ea8b5cc4b3a541638adf499114d6e318da3c4", func := "loop.example/disclosurecontrol/laws.FnControlRound", spec := "fnControlRound", unfollowed := true, recurses := true, apart := false, narrowed := true }
def FnControlRoundUptoSaid : Prop := fnControlRoundUptoRow.holds Try.pinned (OpenSpec.upto fnControlRoundSpec)

/-- 'laws.FnControlSame', WHERE WHAT IT READS IS OF BULK AT MOST 1048576: true; the input reads as it did. -/
def fnControlSameUptoRow : OpenClaim := { program := "ytihkahojicafiaa", sum := "f4eb5f970beac6493acdecf8d62ea8b5cc4b3a541638adf499114d6e318da3c4", func := "loop.example/disclosurecontrol/laws.FnControlSame", spec := "fnControlSame", unfollowed := true, recurses := true, apart := false, narrowed := true }
def FnControlSameUptoSaid : Prop := fnControlSameUptoRow.holds Try.pinned (OpenSpec.upto fnControlSameSpec)

/-- 'laws.FnControlZero', WHERE WHAT IT READS IS OF BULK AT MOST 1048576: true; the input reads as it did. -/
def fnControlZeroUptoRow : OpenClaim := { program := "ytihkahojicafiaa", sum := "f4eb5f970beac6493acdecf8d62ea8b5cc4b3a541638adf499114d6e318da3c4", func := "loop.example/disclosurecontrol/laws.FnControlZero", spec := "fnControlZero", unfollowed := true, recurses := true, apart := false, narrowed := true }
def FnControlZeroUptoSaid : Prop := fnControlZeroUptoRow.holds Try.pinned (OpenSpec.upto fnControlZeroSpec)

/-- 'laws.FnControlBest', WHERE WHAT IT READS IS OF BULK AT MOST 1048576: true; the input reads as it did. -/
def fnControlBestUptoRow : OpenClaim := { program := "ytihkahojicafiaa", sum := "f4eb5f970beac6493acdecf8d62ea8b5cc4b3a541638adf499114d6e318da3c4", func := "loop.example/disclosurecontrol/laws.FnControlBest", spec := "fnControlBest", unfollowed := true, recurses := true, apart := false, narrowed := true }
def FnControlBestUptoSaid : Prop := fnControlBestUptoRow.holds Try.pinned (OpenSpec.upto fnControlBestSpec)

end Rows
end Go.Proofs.Ytihkahojicafiaa
