/- Contract of the reference's ControlFar. -/
import Derived.Test.YtdlpcoafbmhjjaaFar
namespace Go.Proofs.Ytdlpcoafbmhjjaa
open Go.RowKit Go.Shelf

theorem wrap_neg (x : Int) : wrap64 (-(wrap64 x)) = wrap64 (-x) := by
  unfold wrap64; omega
theorem absW_eq (a b : Int) : absW a b = max (wrap64 (a - b)) (wrap64 (b - a)) := by
  unfold absW; rw [wrap_neg, show -(a - b) = b - a by omega]

end Go.Proofs.Ytdlpcoafbmhjjaa
