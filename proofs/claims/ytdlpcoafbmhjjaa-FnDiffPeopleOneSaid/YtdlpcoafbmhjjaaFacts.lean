/- The closed facts on this program that every row of the seat asks, each proved once and cheaply (its list of roots is a long text: the kernel takes it as a list of signs, not sign by sign out of its bytes). -/
import Derived.Test.YtdlpcoafbmhjjaaRows
import Derived.ProofKit
namespace Go.Proofs.Ytdlpcoafbmhjjaa
set_option maxRecDepth 100000

theorem toL {s : String} {l : List Char} (h : s = String.ofList l) : s.toList = l := by rw [h, String.toList_ofList]
theorem consOf {α : Type} {l : List α} {x : α} (h : l.head? = some x) : ∃ r, l = x :: r := by
  cases l with
  | nil => cases h
  | cons a r => exact ⟨r, by simp at h; rw [h]⟩
theorem head_cut : (behindMainWord (wordsSigns Try.prog.initOrder.toList)).head? = some "cut".toList := by
  rw [show Try.prog.initOrder.toList = _ from toL rfl]
  kernel_rfl

theorem make_of (P : Program) (r : List (List Char)) (h : behindMainWord (wordsSigns P.initOrder.toList) = "cut".toList :: r) : P.make = some .cut := by
  unfold Program.make
  rw [h]
  rfl
theorem strip_cut (r : List (List Char)) : stripLifts liftWords ("cut".toList :: r) = ([], "cut".toList :: r) := by
  rfl
theorem lifts_of (P : Program) (r : List (List Char)) (h : behindMainWord (wordsSigns P.initOrder.toList) = "cut".toList :: r) : P.headLifts = [] := by
  unfold Program.headLifts
  rw [h, strip_cut]
  rfl
theorem final_of (P : Program) (r : List (List Char)) (h : behindMainWord (wordsSigns P.initOrder.toList) = "cut".toList :: r) : P.liftsFinal = false := by
  unfold Program.liftsFinal
  rw [lifts_of P r h, h]
  rfl
theorem enter_of (P : Program) (r : List (List Char)) (h : behindMainWord (wordsSigns P.initOrder.toList) = "cut".toList :: r)
    (h1 : P.laysLater = false) (h2 : P.bearsReflect = false) (h3 : P.doorRows = []) : P.mayEnter = true := by
  unfold Program.mayEnter Program.doorFits
  rw [h, h1, h2, h3]
  simp only [strip_cut]
  rfl

theorem fMake : Try.prog.make = some .cut := by
  obtain ⟨r, h⟩ := consOf head_cut
  exact make_of _ r h
theorem fFinal : Try.prog.liftsFinal = false := by
  obtain ⟨r, h⟩ := consOf head_cut
  exact final_of _ r h
theorem fLater : Try.prog.laysLater = false := by kernel_rfl
theorem fRefl : Try.prog.bearsReflect = false := by kernel_rfl
theorem fDoor : Try.prog.doorRows = [] := by kernel_rfl
theorem fEnter : Try.prog.mayEnter = true := by
  obtain ⟨r, h⟩ := consOf head_cut
  exact enter_of _ r h fLater fRefl fDoor
theorem fOut : laidOutB Try.prog = true := by kernel_rfl
theorem fRowed : mapsRowed Try.prog = true := by kernel_rfl
theorem fHeard : Try.prog.stopsHeard = true := by kernel_rfl

end Go.Proofs.Ytdlpcoafbmhjjaa
