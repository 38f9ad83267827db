/- Contracts of RoundDraw, RoundLow and RoundHigh, of the program and of the reference. -/
import Derived.Test.YtnkgbgeffpeolaaRound
namespace Go.Proofs.Ytnkgbgeffpeolaa
open Go.RowKit

end Go.Proofs.Ytnkgbgeffpeolaa
