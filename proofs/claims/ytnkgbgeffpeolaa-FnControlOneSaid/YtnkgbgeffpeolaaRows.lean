/-
  No cell of these rows narrows 'for every input' (looked for: loops, veiled, ifaces, maps, wideKeys, modest, calm, conditions, laid).
  DERIVED. THE GIVEN ROWS OF THIS SEAT. 8 by the template 'for every input the law returns true; each argument reads behind the call as it read before'; 0 by the template 'total and deterministic' (their statements: YtnkgbgeffpeolaaTotals.lean).
  GIVEN WITH THE SEED: the statements are not yours to turn. If you find one false, say at which input.
  Laid BY PROGRAM, IN A SANDBOX (cutbox-rows.mjs): the forced cells as the released guide's own fill.sh prints them over the translation f034612a0f17e5c2… (all of the seat's roots in one cut). By AI agents, Wed Nov 11 2026. No macro, syntax, notation, axiom, sorry.
-/
import Derived.Test.YtnkgbgeffpeolaaChecked
import GoSem.Claim
import GoSem.ClaimJoined
import GoSem.ClaimMapViews
import Derived.JoinedTies
import Derived.KernelRfl
namespace Go.Proofs.Ytnkgbgeffpeolaa
/- THE CELL 'sum', in the pinned program and in every row, IS THE sha256 OF THE DUMP (.gsa) THAT YtnkgbgeffpeolaaProg.lean LOADS. Nothing in Lean hashes anything: it is a label: what it is worth is what the hold of that sum in a sandbox is worth. -/
noncomputable def Try.pinned : Pinned := { name := "ytnkgbgeffpeolaa", sum := "f034612a0f17e5c2a43b6c8a4859be26de25ff587b44195e8554051aa7db3a08", checked := Try.checked }
namespace Rows
def none {H : Type} : Left H := { results := [], args := [] }

/-- 'laws.FnExactControlMany': WHATEVER THE INPUT: true; the input reads as it did. -/
def fnExactControlManySpec : ChangeSpec := { name := "fnExactControlMany", fn := fun _ => fun
  | [d1, d2] => { results := [.lit (.bool true)], args := [d1, d2] }
  | _ => none }
def fnExactControlManyRow : OpenClaim := { program := "ytnkgbgeffpeolaa", sum := "f034612a0f17e5c2a43b6c8a4859be26de25ff587b44195e8554051aa7db3a08", func := "loop.example/disclosurecontrol/laws.FnExactControlMany", spec := "fnExactControlMany", unfollowed := true, recurses := true, apart := false }
def FnExactControlManySaid : Prop := fnExactControlManyRow.holds Try.pinned (OpenSpec.ofChange fnExactControlManySpec)

/-- ITS FALSE NEIGHBOUR: 'it returns false'. Refute it at one input. -/
def fnExactControlManyWrong : ChangeSpec := { name := "fnExactControlMany", fn := fun _ => fun
  | [d1, d2] => { results := [.lit (.bool false)], args := [d1, d2] }
  | _ => none }
def FnExactControlManyWrongFalsely : Prop := fnExactControlManyRow.holds Try.pinned (OpenSpec.ofChange fnExactControlManyWrong)

/-- 'laws.FnControlOne': WHATEVER THE INPUT: true; the input reads as it did. -/
def fnControlOneSpec : ChangeSpec := { name := "fnControlOne", fn := fun _ => fun
  | [d] => { results := [.lit (.bool true)], args := [d] }
  | _ => none }
def fnControlOneRow : OpenClaim := { program := "ytnkgbgeffpeolaa", sum := "f034612a0f17e5c2a43b6c8a4859be26de25ff587b44195e8554051aa7db3a08", func := "loop.example/disclosurecontrol/laws.FnControlOne", spec := "fnControlOne", unfollowed := true, recurses := true, apart := false }
def FnControlOneSaid : Prop := fnControlOneRow.holds Try.pinned (OpenSpec.ofChange fnControlOneSpec)

/-- ITS FALSE NEIGHBOUR: 'it returns false'. Refute it at one input. -/
def fnControlOneWrong : ChangeSpec := { name := "fnControlOne", fn := fun _ => fun
  | [d] => { results := [.lit (.bool false)], args := [d] }
  | _ => none }
def FnControlOneWrongFalsely : Prop := fnControlOneRow.holds Try.pinned (OpenSpec.ofChange fnControlOneWrong)

/-- 'laws.FnControlOrder': WHATEVER THE INPUT: true; the input reads as it did. -/
def fnControlOrderSpec : ChangeSpec := { name := "fnControlOrder", fn := fun _ => fun
  | [d] => { results := [.lit (.bool true)], args := [d] }
  | _ => none }
def fnControlOrderRow : OpenClaim := { program := "ytnkgbgeffpeolaa", sum := "f034612a0f17e5c2a43b6c8a4859be26de25ff587b44195e8554051aa7db3a08", func := "loop.example/disclosurecontrol/laws.FnControlOrder", spec := "fnControlOrder", unfollowed := true, recurses := true, apart := false }
def FnControlOrderSaid : Prop := fnControlOrderRow.holds Try.pinned (OpenSpec.ofChange fnControlOrderSpec)

/-- ITS FALSE NEIGHBOUR: 'it returns false'. Refute it at one input. -/
def fnControlOrderWrong : ChangeSpec := { name := "fnControlOrder", fn := fun _ => fun
  | [d] => { results := [.lit (.bool false)], args := [d] }
  | _ => none }
def FnControlOrderWrongFalsely : Prop := fnControlOrderRow.holds Try.pinned (OpenSpec.ofChange fnControlOrderWrong)

/-- 'laws.FnControlFits': WHATEVER THE INPUT: true; the input reads as it did. -/
def fnControlFitsSpec : ChangeSpec := { name := "fnControlFits", fn := fun _ => fun
  | [d] => { results := [.lit (.bool true)], args := [d] }
  | _ => none }
def fnControlFitsRow : OpenClaim := { program := "ytnkgbgeffpeolaa", sum := "f034612a0f17e5c2a43b6c8a4859be26de25ff587b44195e8554051aa7db3a08", func := "loop.example/disclosurecontrol/laws.FnControlFits", spec := "fnControlFits", unfollowed := true, recurses := true, apart := false }
def FnControlFitsSaid : Prop := fnControlFitsRow.holds Try.pinned (OpenSpec.ofChange fnControlFitsSpec)

/-- ITS FALSE NEIGHBOUR: 'it returns false'. Refute it at one input. -/
def fnControlFitsWrong : ChangeSpec := { name := "fnControlFits", fn := fun _ => fun
  | [d] => { results := [.lit (.bool false)], args := [d] }
  | _ => none }
def FnControlFitsWrongFalsely : Prop := fnControlFitsRow.holds Try.pinned (OpenSpec.ofChange fnControlFitsWrong)

/-- 'laws.FnControlOther': WHATEVER THE INPUT: true; the input reads as it did. -/
def fnControlOtherSpec : ChangeSpec := { name := "fnControlOther", fn := fun _ => fun
  | [d] => { results := [.lit (.bool true)], args := [d] }
  | _ => none }
def fnControlOtherRow : OpenClaim := { program := "ytnkgbgeffpeolaa", sum := "f034612a0f17e5c2a43b6c8a4859be26de25ff587b44195e8554051aa7db3a08", func := "loop.example/disclosurecontrol/laws.FnControlOther", spec := "fnControlOther", unfollowed := true, recurses := true, apart := false }
def FnControlOtherSaid : Prop := fnControlOtherRow.holds Try.pinned (OpenSpec.ofChange fnControlOtherSpec)

/-- ITS FALSE NEIGHBOUR: 'it returns false'. Refute it at one input. -/
def fnControlOtherWrong : ChangeSpec := { name := "fnControlOther", fn := fun _ => fun
  | [d] => { results := [.lit (.bool false)], args := [d] }
  | _ => none }
def FnControlOtherWrongFalsely : Prop := fnControlOtherRow.holds Try.pinned (OpenSpec.ofChange fnControlOtherWrong)

/-- 'laws.FnControlShift': WHATEVER THE INPUT: true; the input reads as it did. -/
def fnControlShiftSpec : ChangeSpec := { name := "fnControlShift", fn := fun _ => fun
  | [d1, d2] => { results := [.lit (.bool true)], args := [d1, d2] }
  | _ => none }
def fnControlShiftRow : OpenClaim := { program := "ytnkgbgeffpeolaa", sum := "f034612a0f17e5c2a43b6c8a4859be26de25ff587b44195e8554051aa7db3a08", func := "loop.example/disclosurecontrol/laws.FnControlShift", spec := "fnControlShift", unfollowed := true, recurses := true, apart := false }
def FnControlShiftSaid : Prop := fnControlShiftRow.holds Try.pinned (OpenSpec.ofChange fnControlShiftSpec)

/-- ITS FALSE NEIGHBOUR: 'it returns false'. Refute it at one input. -/
def fnControlShiftWrong : ChangeSpec := { name := "fnControlShift", fn := fun _ => fun
  | [d1, d2] => { results := [.lit (.bool false)], args := [d1, d2] }
  | _ => none }
def FnControlShiftWrongFalsely : Prop := fnControlShiftRow.holds Try.pinned (OpenSpec.ofChange fnControlShiftWrong)

/-- 'laws.FnControlFitsTurn': WHATEVER THE INPUT: true; the input reads as it did. -/
def fnControlFitsTurnSpec : ChangeSpec := { name := "fnControlFitsTurn", fn := fun _ => fun
  | [d] => { results := [.lit (.bool true)], args := [d] }
  | _ => none }
def fnControlFitsTurnRow : OpenClaim := { program := "ytnkgbgeffpeolaa", sum := "f034612a0f17e5c2a43b6c8a4859be26de25ff587b44195e8554051aa7db3a08", func := "loop.example/disclosurecontrol/laws.FnControlFitsTurn", spec := "fnControlFitsTurn", unfollowed := true, recurses := true, apart := false }
def FnControlFitsTurnSaid : Prop := fnControlFitsTurnRow.holds Try.pinned (OpenSpec.ofChange fnControlFitsTurnSpec)

/-- ITS FALSE NEIGHBOUR: 'it returns false'. Refute it at one input. -/
def fnControlFitsTurnWrong : ChangeSpec := { name := "fnControlFitsTurn", fn := fun _ => fun
  | [d] => { results := [.lit (.bool false)], args := [d] }
  | _ => none }
def FnControlFitsTurnWrongFalsely : Prop := fnControlFitsTurnRow.holds Try.pinned (OpenSpec.ofChange fnControlFitsTurnWrong)

/-- 'laws.FnControlTurn': WHATEVER THE INPUT: true; the input reads as it did. -/
def fnControlTurnSpec : ChangeSpec := { name := "fnControlTurn", fn := fun _ => fun
  | [d] => { results := [.lit (.bool true)], args := [d] }
  | _ => none }
def fnControlTurnRow : OpenClaim := { program := "ytnkgbgeffpeolaa", sum := "f034612a0f17e5c2a43b6c8a4859be26de25ff587b44195e8554051aa7db3a08", func := "loop.example/disclosurecontrol/laws.FnControlTurn", spec := "fnControlTurn", unfollowed := true, recurses := true, apart := false }
def FnControlTurnSaid : Prop := fnControlTurnRow.holds Try.pinned (OpenSpec.ofChange fnControlTurnSpec)

/-- ITS FALSE NEIGHBOUR: 'it returns false'. Refute it at one input. -/
def fnControlTurnWrong : ChangeSpec := { name := "fnControlTurn", fn := fun _ => fun
  | [d] => { results := [.lit (.bool false)], args := [d] }
  | _ => none }
def FnControlTurnWrongFalsely : Prop := fnControlTurnRow.holds Try.pinned (OpenSpec.ofChange fnControlTurnWrong)

/- THE SECOND FORM. 'bulk': how many values and letters a reading holds, each counted each time it is reached (what is shared counts as often as it is met; a slice's spare places count too). A statement '..UptoSaid' is the law's where the arguments, and the package variables that the reading takes, are together of bulk at most 1048576: NARROWER than '..Said'. Prove '..Said' where nothing that the law and all that it calls make is longer than what came in: it says more and counts as full. Else prove '..UptoSaid'. A law counts once. -/
mutual
def uptoBulk {H : Type} : DataW H → Nat
  | .lit (.string bytes) => bytes.length + 1
  | .lit _ => 1
  | .nil => 1
  | .ptr d => uptoBulk d + 1
  | .slice elems spare => uptoBulkAll elems + uptoBulkAll spare + 1
  | .agg parts => uptoBulkAll parts + 1
  | .iface _ d => uptoBulk d + 1
  | .map entries => uptoBulkEntries entries + 1
  | .held _ => 1
def uptoBulkAll {H : Type} : List (DataW H) → Nat
  | [] => 0
  | d :: r => uptoBulk d + uptoBulkAll r
def uptoBulkEntries {H : Type} : List (Lit × DataW H) → Nat
  | [] => 0
  | x :: r => uptoBulkEntry x + uptoBulkEntries r
def uptoBulkEntry {H : Type} : Lit × DataW H → Nat
  | (.string bytes, d) => bytes.length + uptoBulk d + 1
  | (_, d) => uptoBulk d + 1
 end
def uptoSmall : (H : Type) → List (DataW H) → Bool := fun _ ds => decide (uptoBulkAll ds ≤ 1048576)
def OpenSpec.upto (s : _root_.Go.ChangeSpec) : _root_.Go.OpenSpec := { _root_.Go.OpenSpec.ofChange s with cond := some uptoSmall }

/-- 'laws.FnExactControlMany', WHERE WHAT IT READS IS OF BULK AT MOST 1048576: true; the input reads as it did. -/
def fnExactControlManyUptoRow : OpenClaim := { program := "ytnkgbgeffpeolaa", sum := "f034612a0f17e5c2a43b6c8a4859be26de25ff587b44195e8554051aa7db3a08", func := "loop.example/disclosurecontrol/laws.FnExactControlMany", spec := "fnExactControlMany", unfollowed := true, recurses := true, apart := false, narrowed := true }
def FnExactControlManyUptoSaid : Prop := fnExactControlManyUptoRow.holds Try.pinned (OpenSpec.upto fnExactControlManySpec)

/-- 'laws.FnControlOne', WHERE WHAT IT READS IS OF BULK AT MOST 1048576: true; the input reads as it did. -/
def fnControlOneUptoRow : OpenClaim := { program := "ytnkgbgeffpeolaa", sum := "f034612a0f17e5c2a43b6c8a4859be26de25ff587b44195e8554051aa7db3a08", func := "loop.example/disclosurecontrol/laws.FnControlOne", spec := "fnControlOne", unfollowed := true, recurses := true, apart := false, narrowed := true }
def FnControlOneUptoSaid : Prop := fnControlOneUptoRow.holds Try.pinned (OpenSpec.upto fnControlOneSpec)

/-- 'laws.FnControlOrder', WHERE WHAT IT READS IS OF BULK AT MOST 1048576: true; the input reads as it did. -/
def fnControlOrderUptoRow : OpenClaim := { program := "ytnkgbgeffpeolaa", sum := "f034612a0f17e5c2a43b6c8a4859be26de25ff587b44195e8554051aa7db3a08", func := "loop.example/disclosurecontrol/laws.FnControlOrder", spec := "fnControlOrder", unfollowed := true, recurses := true, apart := false, narrowed := true }
def FnControlOrderUptoSaid : Prop := fnControlOrderUptoRow.holds Try.pinned (OpenSpec.upto fnControlOrderSpec)

/-- 'laws.FnControlFits', WHERE WHAT IT READS IS OF BULK AT MOST 1048576: true; the input reads as it did. -/
def fnControlFitsUptoRow : OpenClaim := { program := "ytnkgbgeffpeolaa", sum := "f034612a0f17e5c2a43b6c8a4859be26de25ff587b44195e8554051aa7db3a08", func := "loop.example/disclosurecontrol/laws.FnControlFits", spec := "fnControlFits", unfollowed := true, recurses := true, apart := false, narrowed := true }
def FnControlFitsUptoSaid : Prop := fnControlFitsUptoRow.holds Try.pinned (OpenSpec.upto fnControlFitsSpec)

/-- 'laws.FnControlOther', WHERE WHAT IT READS IS OF BULK AT MOST 1048576: true; the input reads as it did. -/
def fnControlOtherUptoRow : OpenClaim := { program := "ytnkgbgeffpeolaa", sum := "f034612a0f17e5c2a43b6c8a4859be26de25ff587b44195e8554051aa7db3a08", func := "loop.example/disclosurecontrol/laws.FnControlOther", spec := "fnControlOther", unfollowed := true, recurses := true, apart := false, narrowed := true }
def FnControlOtherUptoSaid : Prop := fnControlOtherUptoRow.holds Try.pinned (OpenSpec.upto fnControlOtherSpec)

/-- 'laws.FnControlShift', WHERE WHAT IT READS IS OF BULK AT MOST 1048576: true; the input reads as it did. -/
def fnControlShiftUptoRow : OpenClaim := { program := "ytnkgbgeffpeolaa", sum := "f034612a0f17e5c2a43b6c8a4859be26de25ff587b44195e8554051aa7db3a08", func := "loop.example/disclosurecontrol/laws.FnControlShift", spec := "fnControlShift", unfollowed := true, recurses := true, apart := false, narrowed := true }
def FnControlShiftUptoSaid : Prop := fnControlShiftUptoRow.holds Try.pinned (OpenSpec.upto fnControlShiftSpec)

/-- 'laws.FnControlFitsTurn', WHERE WHAT IT READS IS OF BULK AT MOST 1048576: true; the input reads as it did. -/
def fnControlFitsTurnUptoRow : OpenClaim := { program := "ytnkgbgeffpeolaa", sum := "f034612a0f17e5c2a43b6c8a4859be26de25ff587b44195e8554051aa7db3a08", func := "loop.example/disclosurecontrol/laws.FnControlFitsTurn", spec := "fnControlFitsTurn", unfollowed := true, recurses := true, apart := false, narrowed := true }
def FnControlFitsTurnUptoSaid : Prop := fnControlFitsTurnUptoRow.holds Try.pinned (OpenSpec.upto fnControlFitsTurnSpec)

/-- 'laws.FnControlTurn', WHERE WHAT IT READS IS OF BULK AT MOST 1048576: true; the input reads as it did. -/
def fnControlTurnUptoRow : OpenClaim := { program := "ytnkgbgeffpeolaa", sum := "f034612a0f17e5c2a43b6c8a4859be26de25ff587b44195e8554051aa7db3a08", func := "loop.example/disclosurecontrol/laws.FnControlTurn", spec := "fnControlTurn", unfollowed := true, recurses := true, apart := false, narrowed := true }
def FnControlTurnUptoSaid : Prop := fnControlTurnUptoRow.holds Try.pinned (OpenSpec.upto fnControlTurnSpec)

end Rows
end Go.Proofs.Ytnkgbgeffpeolaa
