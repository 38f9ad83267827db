/- Contract: how many roundings there are, in the reference. -/
import Derived.Test.YtigdgcpjkeaooaaSpecA
namespace Go.Proofs.Ytigdgcpjkeaooaa
open Go.RowKit

theorem below_of_keeps {w w1 w2 : World} {vx : Value} {xs : List Value} {X : List (List Int)} {bX : Nat} (h1 : Below w.heap.size w w1) (ho : OwnU w1 bX vx X xs) (hb : w.heap.size ≤ bX) (hk : Keeps (fun k => ¬ blksU vx xs k) w1 w2) : Below w.heap.size w w2 :=
  h1.trans (hk.below h1.size (fun k hk hb2 => by have := (ho.blk hb2).1; omega))

end Go.Proofs.Ytigdgcpjkeaooaa
