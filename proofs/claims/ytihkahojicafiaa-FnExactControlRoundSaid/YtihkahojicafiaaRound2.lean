/- Contracts of RoundDraw, RoundLow and RoundHigh, of the program and of the reference. -/
import Derived.Test.YtihkahojicafiaaRound
namespace Go.Proofs.Ytihkahojicafiaa
open Go.RowKit

end Go.Proofs.Ytihkahojicafiaa
