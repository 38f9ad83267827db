/- Contracts of ControlFar, of the program and of the reference. -/
import Derived.Test.YtdlpcoafbmhjjaaCells
import Derived.Test.YtdlpcoafbmhjjaaInRnd
import Derived.Test.YtdlpcoafbmhjjaaDraw2
namespace Go.Proofs.Ytdlpcoafbmhjjaa
open Go.RowKit Go.Shelf

attribute [local go_sem] Oper.semAt_some

/-- the absolute value of a difference, as Go reckons it -/
def absW (a b : Int) : Int := max (wrap64 (a - b)) (wrap64 (-(wrap64 (a - b))))
/-- the sum of the differences of some cells -/
def farL (a b : List (List Int)) (l : List (Nat × Nat)) : Int := l.foldl (fun n p => wrap64 (n + absW (cel a p.1 p.2) (cel b p.1 p.2))) 0
theorem farL_snoc (a b : List (List Int)) (l : List (Nat × Nat)) (p : Nat × Nat) : farL a b (l ++ [p]) = wrap64 (farL a b l + absW (cel a p.1 p.2) (cel b p.1 p.2)) := by
  unfold farL; rw [List.foldl_append]; rfl
def farOf (a b : List (List Int)) : Int := if same a b then farL a b (cellsN a) else -1

end Go.Proofs.Ytdlpcoafbmhjjaa
