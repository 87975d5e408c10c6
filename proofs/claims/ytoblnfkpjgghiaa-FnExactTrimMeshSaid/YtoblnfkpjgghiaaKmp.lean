/- the keys of the maps -/
import Derived.Test.YtoblnfkpjgghiaaMap
import Derived.Test.YtoblnfkpjgghiaaChecked
namespace Go.Proofs.Ytoblnfkpjgghiaa
open Go Go.RowKit
set_option maxRecDepth 100000
theorem kE2 : KeyE Try.prog 2 Int (Value.int .i64) okK := KeyE.int Try.underlying2
theorem kE66 : KeyE Try.prog 66 (Int × Int) encP okP := KeyE.pair (e := 2) ⟨Try.underlying66, by kernel_rfl, by kernel_rfl, by kernel_rfl⟩ Try.underlying2 ⟨Try.prog.types.size - 1, by kernel_rfl⟩
end Go.Proofs.Ytoblnfkpjgghiaa
