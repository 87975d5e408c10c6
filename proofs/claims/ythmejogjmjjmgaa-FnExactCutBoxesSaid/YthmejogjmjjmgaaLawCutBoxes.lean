/- It is proved that for every input, the law of this name returns true: the program's function returns what the reference's returns. -/
import Derived.Test.YthmejogjmjjmgaaRows
import Derived.Test.YthmejogjmjjmgaaE2
import Derived.Test.YthmejogjmjjmgaaOpen
import Derived.WalkKit
import Derived.ProofKit
import Derived.OpenShut
import Derived.ChangeOld
import Derived.Below
namespace Go.Proofs.Ythmejogjmjjmgaa.fnExactCutBoxes
open Go Go.ChangeShapes Go.WideShapes Go.ChangeAt Go.RowKit
open Go.ChangeMaps (open_string shut_string)
set_option linter.unusedVariables false

theorem own : ownKnob Try.prog.godebug = none := by kernel_rfl
theorem laidOut : laidOutB Try.prog = true := by kernel_rfl

set_option maxRecDepth 100000 in
theorem lifted (os : Os) (started : os.Started) (H : Type) (enc : TypeId × Value → H) :
    ReturnsInHanded {} Try.checked os 12 .any (Rows.fnExactCutBoxesSpec.pre6 enc Try.prog Try.f12 Rows.fnExactCutBoxesRow.domain false) (Rows.fnExactCutBoxesSpec.post enc Try.prog Try.f12 false true false false) := by
  refine returnsInHanded_of_change (C := Try.checked) own started (by kernel_rfl) Try.func12
    (ChangeSpec.witness6 (enc := enc) (C := Try.checked) false ⟨#[], #[(.agg #[(Fl 0), (Fl 0), (Fl 0), (Fl 0), (Fl 0), (Fl 0)]), (.agg #[(Fl 0), (Fl 0), (Fl 0), (Fl 0), (Fl 0), (Fl 0)])], []⟩ 8 (by kernel_rfl) (by kernel_rfl) (by kernel_rfl) (by kernel_rfl)) ?_
  intro W base args ds gs before hval0 hW hcnd _
  have hval : ∀ (j : Nat) t v, Try.f12.params[j]? = some t → args[j]? = some v → Value.okWide Try.prog W .any base t v := hval0
  have hW' := hW
  obtain ⟨p, q, hA0, hV, rfl, hfz, hnd⟩ := hW
  have hA : DataW.TrodAll enc Try.prog W 0 (fun _ => true) true Try.f12.params.toList args.toList ds p := hA0
  rw [show Try.f12.params = #[29, 29] from rfl] at hA hval
  obtain ⟨v0, vs0, d0, ds0, p0, q0, hargs, rfl, rfl, h0, r0⟩ := trodAll_cons hA
  obtain ⟨v1, vs1, d1, ds1, p1, q1, rfl, rfl, rfl, h1, r1⟩ := trodAll_cons r0
  obtain ⟨rfl, rfl, rfl⟩ := trodAll_nil r1
  obtain rfl : args = #[v0, v1] := by cases args; simp_all
  obtain ⟨rfl, rfl⟩ := trodVars_none hV
  have k0 := h0
  have lt0 : ∀ x ∈ p0, x.block < W.heap.size := by obtain ⟨m, hm⟩ := k0; exact DataW.trod_lt m _ _ _ hm
  obtain ⟨cs0, rfl, hl0, hk0⟩ := okAgg (P := Try.prog) (ts := [25, 25, 25, 25, 25, 25]) 6 (by rw [Try.underlying29]) (by kernel_rfl) (by kernel_rfl) rfl (hval 0 29 v0 rfl rfl)
  obtain ⟨x0_0, y0_0, rfl, hl0_0⟩ := listS hl0
  obtain ⟨x0_1, y0_1, rfl, hl0_1⟩ := listS hl0_0
  obtain ⟨x0_2, y0_2, rfl, hl0_2⟩ := listS hl0_1
  obtain ⟨x0_3, y0_3, rfl, hl0_3⟩ := listS hl0_2
  obtain ⟨x0_4, y0_4, rfl, hl0_4⟩ := listS hl0_3
  obtain ⟨x0_5, y0_5, rfl, hl0_5⟩ := listS hl0_4
  obtain rfl := list0 hl0_5
  obtain ⟨a0_0, rfl⟩ := okWide_float Try.underlying25 (cell_okWide (P := Try.prog) (by rw [Try.underlying25]) (hk0 0 _ _ rfl rfl))
  obtain ⟨a0_1, rfl⟩ := okWide_float Try.underlying25 (cell_okWide (P := Try.prog) (by rw [Try.underlying25]) (hk0 1 _ _ rfl rfl))
  obtain ⟨a0_2, rfl⟩ := okWide_float Try.underlying25 (cell_okWide (P := Try.prog) (by rw [Try.underlying25]) (hk0 2 _ _ rfl rfl))
  obtain ⟨a0_3, rfl⟩ := okWide_float Try.underlying25 (cell_okWide (P := Try.prog) (by rw [Try.underlying25]) (hk0 3 _ _ rfl rfl))
  obtain ⟨a0_4, rfl⟩ := okWide_float Try.underlying25 (cell_okWide (P := Try.prog) (by rw [Try.underlying25]) (hk0 4 _ _ rfl rfl))
  obtain ⟨a0_5, rfl⟩ := okWide_float Try.underlying25 (cell_okWide (P := Try.prog) (by rw [Try.underlying25]) (hk0 5 _ _ rfl rfl))
  have k1 := h1
  have lt1 : ∀ x ∈ p1, x.block < W.heap.size := by obtain ⟨m, hm⟩ := k1; exact DataW.trod_lt m _ _ _ hm
  obtain ⟨cs1, rfl, hl1, hk1⟩ := okAgg (P := Try.prog) (ts := [25, 25, 25, 25, 25, 25]) 6 (by rw [Try.underlying29]) (by kernel_rfl) (by kernel_rfl) rfl (hval 1 29 v1 rfl rfl)
  obtain ⟨x1_0, y1_0, rfl, hl1_0⟩ := listS hl1
  obtain ⟨x1_1, y1_1, rfl, hl1_1⟩ := listS hl1_0
  obtain ⟨x1_2, y1_2, rfl, hl1_2⟩ := listS hl1_1
  obtain ⟨x1_3, y1_3, rfl, hl1_3⟩ := listS hl1_2
  obtain ⟨x1_4, y1_4, rfl, hl1_4⟩ := listS hl1_3
  obtain ⟨x1_5, y1_5, rfl, hl1_5⟩ := listS hl1_4
  obtain rfl := list0 hl1_5
  obtain ⟨a1_0, rfl⟩ := okWide_float Try.underlying25 (cell_okWide (P := Try.prog) (by rw [Try.underlying25]) (hk1 0 _ _ rfl rfl))
  obtain ⟨a1_1, rfl⟩ := okWide_float Try.underlying25 (cell_okWide (P := Try.prog) (by rw [Try.underlying25]) (hk1 1 _ _ rfl rfl))
  obtain ⟨a1_2, rfl⟩ := okWide_float Try.underlying25 (cell_okWide (P := Try.prog) (by rw [Try.underlying25]) (hk1 2 _ _ rfl rfl))
  obtain ⟨a1_3, rfl⟩ := okWide_float Try.underlying25 (cell_okWide (P := Try.prog) (by rw [Try.underlying25]) (hk1 3 _ _ rfl rfl))
  obtain ⟨a1_4, rfl⟩ := okWide_float Try.underlying25 (cell_okWide (P := Try.prog) (by rw [Try.underlying25]) (hk1 4 _ _ rfl rfl))
  obtain ⟨a1_5, rfl⟩ := okWide_float Try.underlying25 (cell_okWide (P := Try.prog) (by rw [Try.underlying25]) (hk1 5 _ _ rfl rfl))
  clear hA0 hval0
  refine (law_of (c_laws_FnExactCutBoxes [(Fl a0_0), (Fl a0_1), (Fl a0_2), (Fl a0_3), (Fl a0_4), (Fl a0_5)] (Bx.mk (V3.mk (cf .f32 a0_0) (cf .f32 a0_1) (cf .f32 a0_2)) (V3.mk (cf .f32 a0_3) (cf .f32 a0_4) (cf .f32 a0_5))) [(Fl a1_0), (Fl a1_1), (Fl a1_2), (Fl a1_3), (Fl a1_4), (Fl a1_5)] (Bx.mk (V3.mk (cf .f32 a1_0) (cf .f32 a1_1) (cf .f32 a1_2)) (V3.mk (cf .f32 a1_3) (cf .f32 a1_4) (cf .f32 a1_5))) W ⟨a0_0, a0_1, a0_2, a0_3, a0_4, a0_5, rfl, rfl, rfl, rfl, rfl, rfl, rfl⟩ ⟨a1_0, a1_1, a1_2, a1_3, a1_4, a1_5, rfl, rfl, rfl, rfl, rfl, rfl, rfl⟩)).mono fun e W' ⟨he, bel⟩ => ?_
  subst he
  exact ⟨_, rfl, _, _, _, [], _, [], hW', trodAll_mk1 (shut_bool Try.underlying4 _), (trodAll_cons_mk (Below.trod laidOut (by kernel_rfl) (of_decide_eq_true (by kernel_rfl)) k0 bel lt0) (trodAll_cons_mk (Below.trod laidOut (by kernel_rfl) (of_decide_eq_true (by kernel_rfl)) k1 bel lt1) trodAll_mk0)), rfl, bel.frame _, fun h => by cases h⟩

theorem over : Rows.fnExactCutBoxesRow.holds Try.pinned (OpenSpec.ofChange Rows.fnExactCutBoxesSpec) :=
  OpenClaim.holds_of_wide 12 Try.f12 rfl rfl rfl rfl rfl rfl rfl ⟨rfl, rfl, rfl, rfl, rfl⟩ rfl rfl rfl rfl rfl (by kernel_rfl) Try.func12 (by kernel_rfl)
    (of_decide_eq_true (by kernel_rfl)) (by unfold Func.isWrapper; first | (rw [if_pos (by decide +kernel)]; kernel_rfl) | (rw [if_neg (by decide +kernel)]; exact ⟨rfl, rfl⟩))
    (fun os started H enc _ => lifted os started H enc)

theorem proved : Rows.FnExactCutBoxesSaid := over
#print axioms proved
end Go.Proofs.Ythmejogjmjjmgaa.fnExactCutBoxes
