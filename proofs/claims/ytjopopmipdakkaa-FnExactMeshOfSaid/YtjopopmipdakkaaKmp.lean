/- the keys of the maps -/
import Derived.Test.YtjopopmipdakkaaMap
import Derived.Test.YtjopopmipdakkaaChecked
namespace Go.Proofs.Ytjopopmipdakkaa
open Go Go.RowKit
set_option maxRecDepth 100000
theorem kE117 : KeyE Try.prog 117 (Int × Int) encP okP := KeyE.pair (e := 2) ⟨Try.underlying117, by kernel_rfl, by kernel_rfl, by kernel_rfl⟩ Try.underlying2 ⟨Try.prog.types.size - 1, by kernel_rfl⟩
end Go.Proofs.Ytjopopmipdakkaa
