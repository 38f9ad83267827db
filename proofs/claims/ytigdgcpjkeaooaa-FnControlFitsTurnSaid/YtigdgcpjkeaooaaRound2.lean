/- Contracts of RoundDraw, RoundLow and RoundHigh, of the program and of the reference. -/
import Derived.Test.YtigdgcpjkeaooaaRound
namespace Go.Proofs.Ytigdgcpjkeaooaa
open Go.RowKit

end Go.Proofs.Ytigdgcpjkeaooaa
