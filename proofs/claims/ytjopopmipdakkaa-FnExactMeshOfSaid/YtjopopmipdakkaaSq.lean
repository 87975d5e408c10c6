/- The square root of a 32-bit number fits a 32-bit number; how great the rounded numbers are. -/
import Derived.Test.YtjopopmipdakkaaSl
import Derived.Laws.Externs
namespace Go.Proofs.Ytjopopmipdakkaa
open Go Ieee Go.RowKit
end Go.Proofs.Ytjopopmipdakkaa
