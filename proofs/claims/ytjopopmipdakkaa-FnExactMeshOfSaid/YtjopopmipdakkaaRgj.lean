/- Regions in any order with stores into known blocks, beside which a word on the world is kept. -/
import Derived.Test.YtjopopmipdakkaaRgw
namespace Go.Proofs.Ytjopopmipdakkaa
open Go Go.RowKit
end Go.Proofs.Ytjopopmipdakkaa
