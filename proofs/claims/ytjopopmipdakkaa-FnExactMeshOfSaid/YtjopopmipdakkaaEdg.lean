/- edges between neighbours in a grid: counted from below, or from the inside -/
import Derived.Test.YtjopopmipdakkaaUni
namespace Go.Proofs.Ytjopopmipdakkaa
open Go
def negAt (g : GridT) (k : Int) : Bool := negF ((g.vals[k.toNat]?).getD 0)
end Go.Proofs.Ytjopopmipdakkaa
