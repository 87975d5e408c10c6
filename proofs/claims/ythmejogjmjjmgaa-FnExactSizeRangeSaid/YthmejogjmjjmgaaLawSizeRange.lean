/- It is proved that for every input, the law of this name returns true: the program's function returns what the reference's returns. -/
import Derived.Test.YthmejogjmjjmgaaRows
import Derived.Test.YthmejogjmjjmgaaA
import Derived.Test.YthmejogjmjjmgaaOpen
import Derived.WalkKit
import Derived.ProofKit
import Derived.OpenShut
import Derived.ChangeOld
import Derived.Below
namespace Go.Proofs.Ythmejogjmjjmgaa.fnExactSizeRange
open Go Go.ChangeShapes Go.WideShapes Go.ChangeAt Go.RowKit
open Go.ChangeMaps (open_string shut_string)
set_option linter.unusedVariables false

theorem own : ownKnob Try.prog.godebug = none := by kernel_rfl
theorem laidOut : laidOutB Try.prog = true := by kernel_rfl

set_option maxRecDepth 100000 in
theorem lifted (os : Os) (started : os.Started) (H : Type) (enc : TypeId × Value → H) :
    ReturnsInHanded {} Try.checked os 6 .any (Rows.fnExactSizeRangeSpec.pre6 enc Try.prog Try.f6 Rows.fnExactSizeRangeRow.domain false) (Rows.fnExactSizeRangeSpec.post enc Try.prog Try.f6 false true false false) := by
  refine returnsInHanded_of_change (C := Try.checked) own started (by kernel_rfl) Try.func6
    (ChangeSpec.witness6 (enc := enc) (C := Try.checked) false ⟨#[], #[(.agg #[(.float .f32 0), (.float .f32 0)])], []⟩ 8 (by kernel_rfl) (by kernel_rfl) (by kernel_rfl) (by kernel_rfl)) ?_
  intro W base args ds gs before hval0 hW hcnd _
  have hval : ∀ (j : Nat) t v, Try.f6.params[j]? = some t → args[j]? = some v → Value.okWide Try.prog W .any base t v := hval0
  have hW' := hW
  obtain ⟨p, q, hA0, hV, rfl, hfz, hnd⟩ := hW
  have hA : DataW.TrodAll enc Try.prog W 0 (fun _ => true) true Try.f6.params.toList args.toList ds p := hA0
  rw [show Try.f6.params = #[40] from rfl] at hA hval
  obtain ⟨v0, vs0, d0, ds0, p0, q0, hargs, rfl, rfl, h0, r0⟩ := trodAll_cons hA
  obtain ⟨rfl, rfl, rfl⟩ := trodAll_nil r0
  obtain rfl : args = #[v0] := by cases args; simp_all
  obtain ⟨rfl, rfl⟩ := trodVars_none hV
  have k0 := h0
  have lt0 : ∀ x ∈ p0, x.block < W.heap.size := by obtain ⟨m, hm⟩ := k0; exact DataW.trod_lt m _ _ _ hm
  obtain ⟨cs0, rfl, hl0, hk0⟩ := okAgg (P := Try.prog) (ts := [25, 25]) 2 (by rw [Try.underlying40]) (by kernel_rfl) (by kernel_rfl) rfl (hval 0 40 v0 rfl rfl)
  obtain ⟨x0_0, y0_0, rfl, hl0_0⟩ := listS hl0
  obtain ⟨x0_1, y0_1, rfl, hl0_1⟩ := listS hl0_0
  obtain rfl := list0 hl0_1
  obtain ⟨a0_0, rfl⟩ := okWide_float Try.underlying25 (cell_okWide (P := Try.prog) (by rw [Try.underlying25]) (hk0 0 _ _ rfl rfl))
  obtain ⟨a0_1, rfl⟩ := okWide_float Try.underlying25 (cell_okWide (P := Try.prog) (by rw [Try.underlying25]) (hk0 1 _ _ rfl rfl))
  clear hA0 hval0
  refine (law_of (c_laws_FnExactSizeRange a0_0 a0_1 W)).mono fun e W' ⟨he, bel⟩ => ?_
  subst he
  exact ⟨_, rfl, _, _, _, [], _, [], hW', trodAll_mk1 (shut_bool Try.underlying4 _), (trodAll_cons_mk (Below.trod laidOut (by kernel_rfl) (of_decide_eq_true (by kernel_rfl)) k0 bel lt0) trodAll_mk0), rfl, bel.frame _, fun h => by cases h⟩

theorem over : Rows.fnExactSizeRangeRow.holds Try.pinned (OpenSpec.ofChange Rows.fnExactSizeRangeSpec) :=
  OpenClaim.holds_of_wide 6 Try.f6 rfl rfl rfl rfl rfl rfl rfl ⟨rfl, rfl, rfl, rfl, rfl⟩ rfl rfl rfl rfl rfl (by kernel_rfl) Try.func6 (by kernel_rfl)
    (of_decide_eq_true (by kernel_rfl)) (by unfold Func.isWrapper; first | (rw [if_pos (by decide +kernel)]; kernel_rfl) | (rw [if_neg (by decide +kernel)]; exact ⟨rfl, rfl⟩))
    (fun os started H enc _ => lifted os started H enc)

theorem proved : Rows.FnExactSizeRangeSaid := over
#print axioms proved
end Go.Proofs.Ythmejogjmjjmgaa.fnExactSizeRange
