/- what the shelf asks of math/bits.Mul, laid at this program -/
import Derived.Test.YtlfpeihlfmdmdaaChecked
import Derived.Test.YtlfpeihlfmdmdaaBase
import Derived.Shelf.Bits.Mul64
namespace Go.Proofs.Ytlfpeihlfmdmdaa
open Go Go.Shelf Go.RowKit
set_option maxRecDepth 100000
def MulA_ren : Ren := ⟨fun | 212 => 64 | 263 => 68 | 264 => 69 | n => n, fun | 46 => 93 | 51 => 98 | 146 => 99 | 53 => 101 | 148 => 102 | n => n, fun n => n⟩
theorem MulA : Lays.n212 Try.prog MulA_ren := {
  mixed := by kernel_rfl,
  f212 := Try.func64.trans (congrArg some (by kernel_rfl)),
  f263 := Try.func68.trans (congrArg some (by kernel_rfl)),
  f264 := Try.func69.trans (congrArg some (by kernel_rfl)),
  t46 := Try.underlying93,
  a46 := Try.isAgg93,
  z46 := Try.sizeOf93,
  v46 := Try.zeroValue93,
  t51 := Try.underlying98,
  a51 := Try.isAgg98,
  z51 := Try.sizeOf98,
  v51 := Try.zeroValue98,
  t53 := Try.underlying101,
  a53 := Try.isAgg101,
  z53 := Try.sizeOf101,
  v53 := Try.zeroValue101,
  t146 := Try.underlying99,
  a146 := Try.isAgg99,
  z146 := Try.sizeOf99,
  v146 := Try.zeroValue99,
  t148 := Try.underlying102,
  a148 := Try.isAgg102,
  z148 := Try.sizeOf102,
  v148 := Try.zeroValue102 }
theorem c_bits_Mul (m n : Int) (w : World) (hm : m = 1) (h : 0 ≤ n ∧ n ≤ 1000000) : Gives Try.prog 64 #[.int .u64 m, .int .u64 n] w (fun v _ => ∃ i_1 : Int, v = .tuple #[.int .u64 i_1, .int .u64 n] ∧ (i_1 = 0)) := by
  subst hm
  have hc := Any.bits_Mul MulA 1 n.toNat (by omega) (by omega) w
  change Calls Try.prog 64 _ _ _ at hc
  rw [show ((n.toNat : Nat) : Int) = n by omega] at hc
  refine Calls.mono hc fun e w' ⟨he, hw⟩ => ?_
  refine ⟨_, he, by rw [hw]; exact Ext.refl _, 0, ?_, rfl⟩
  rw [Nat.one_mul, Nat.div_eq_of_lt (by omega), Nat.mod_eq_of_lt (by omega), show ((n.toNat : Nat) : Int) = n by omega]; rfl
end Go.Proofs.Ytlfpeihlfmdmdaa
