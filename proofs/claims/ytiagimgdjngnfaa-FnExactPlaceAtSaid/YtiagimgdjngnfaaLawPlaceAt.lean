/- It is proved that for every input, the law of this name returns true: the program's function returns what the reference's returns. -/
import Derived.Test.YtiagimgdjngnfaaRows
import Derived.Test.YtiagimgdjngnfaaP5
import Derived.Test.YtiagimgdjngnfaaOpen
import Derived.Test.YtiagimgdjngnfaaRd
import Derived.WalkKit
import Derived.ProofKit
import Derived.OpenShut
import Derived.ChangeOld
import Derived.Below
namespace Go.Proofs.Ytiagimgdjngnfaa.fnExactPlaceAt
open Go Go.ChangeShapes Go.WideShapes Go.ChangeAt Go.RowKit
open Go.ChangeMaps (open_string shut_string)
set_option linter.unusedVariables false

theorem own : ownKnob Try.prog.godebug = none := by kernel_rfl
theorem laidOut : laidOutB Try.prog = true := by kernel_rfl

set_option maxRecDepth 100000 in
theorem lifted (os : Os) (started : os.Started) (H : Type) (enc : TypeId × Value → H) :
    ReturnsInHanded {} Try.checked os 4 .any (Rows.fnExactPlaceAtSpec.pre6 enc Try.prog Try.f4 Rows.fnExactPlaceAtRow.domain false) (Rows.fnExactPlaceAtSpec.post enc Try.prog Try.f4 false true false false) := by
  refine returnsInHanded_of_change (C := Try.checked) own started (by kernel_rfl) Try.func4
    (ChangeSpec.witness6 (enc := enc) (C := Try.checked) false ⟨#[], #[(.agg #[(.string (⟨#[]⟩)), (.slice none 0 0), (.slice none 0 0)]), (Iv 0)], []⟩ 8 (by kernel_rfl) (by kernel_rfl) (by kernel_rfl) (by kernel_rfl)) ?_
  intro W base args ds gs before hval0 hW hcnd _
  have hval : ∀ (j : Nat) t v, Try.f4.params[j]? = some t → args[j]? = some v → Value.okWide Try.prog W .any base t v := hval0
  have hW' := hW
  obtain ⟨p, q, hA0, hV, rfl, hfz, hnd⟩ := hW
  have hA : DataW.TrodAll enc Try.prog W 0 (fun _ => true) true Try.f4.params.toList args.toList ds p := hA0
  rw [show Try.f4.params = #[36, 2] from rfl] at hA hval
  obtain ⟨v0, vs0, d0, ds0, p0, q0, hargs, rfl, rfl, h0, r0⟩ := trodAll_cons hA
  obtain ⟨v1, vs1, d1, ds1, p1, q1, rfl, rfl, rfl, h1, r1⟩ := trodAll_cons r0
  obtain ⟨rfl, rfl, rfl⟩ := trodAll_nil r1
  obtain rfl : args = #[v0, v1] := by cases args; simp_all
  obtain ⟨rfl, rfl⟩ := trodVars_none hV
  have k0 := h0
  have lt0 : ∀ x ∈ p0, x.block < W.heap.size := by obtain ⟨m, hm⟩ := k0; exact DataW.trod_lt m _ _ _ hm
  obtain ⟨cs0, rfl⟩ := okStruct (P := Try.prog) (t := 36) (by rw [Try.underlying36]) (hval 0 36 v0 rfl rfl)
  obtain ⟨X0, hX0⟩ : ∃ X, RThingT W X cs0 := by obtain ⟨m, hm⟩ := h0; exact rd36 _ _ _ _ _ _ _ _ hm
  have k1 := h1
  have lt1 : ∀ x ∈ p1, x.block < W.heap.size := by obtain ⟨m, hm⟩ := k1; exact DataW.trod_lt m _ _ _ hm
  obtain ⟨a1, rfl⟩ := okWide_int Try.underlying2 (hval 1 2 v1 rfl rfl)
  clear hA0 hval0
  refine (law_of (c_laws_FnExactPlaceAt cs0 X0 a1 W hX0)).mono fun e W' ⟨he, bel⟩ => ?_
  subst he
  exact ⟨_, rfl, _, _, _, [], _, [], hW', trodAll_mk1 (shut_bool Try.underlying4 _), (trodAll_cons_mk (Below.trod laidOut (by kernel_rfl) (of_decide_eq_true (by kernel_rfl)) k0 bel lt0) (trodAll_cons_mk (Below.trod laidOut (by kernel_rfl) (of_decide_eq_true (by kernel_rfl)) k1 bel lt1) trodAll_mk0)), rfl, bel.frame _, fun h => by cases h⟩

theorem closed0 : (Rows.fnExactPlaceAtRow.wf (OpenSpec.ofChange Rows.fnExactPlaceAtSpec)) = true := by kernel_rfl
theorem closed1 : (laidOutB Try.prog) = true := by kernel_rfl
theorem closed2 : (mapsRowed Try.prog) = true := by kernel_rfl
theorem closed3 : (Try.f4.params.all (Try.prog.readableRec ·) && namedTie Try.prog Rows.fnExactPlaceAtRow.named Rows.fnExactPlaceAtSpec.vars) = true := by kernel_rfl
theorem closed4 : ((Rows.fnExactPlaceAtRow.stops == []) && (Try.prog.stops == []) && (Rows.fnExactPlaceAtRow.knobs == []) && (Try.prog.stopKnobs == [])) = true := by kernel_rfl
theorem closed5 : (Rows.fnExactPlaceAtRow.inPlace == Try.prog.inPlace 4) = true := by kernel_rfl
theorem closed6 : (Rows.fnExactPlaceAtRow.unfollowed == Try.prog.unfollowed 4) = true := by kernel_rfl
theorem closed7 : (Rows.fnExactPlaceAtRow.recurses == Try.prog.recurses 4) = true := by kernel_rfl
theorem closed8 : (Rows.fnExactPlaceAtRow.named == Try.prog.varsNamed 4) = true := by kernel_rfl
theorem closed9 : ((Rows.fnExactPlaceAtRow.maps == (Try.f4.params.toList ++ Rows.fnExactPlaceAtSpec.plain.varTypes Try.prog).any (Try.prog.mapsRec ·)) && (Rows.fnExactPlaceAtRow.ifaces == (Try.f4.params.toList ++ Rows.fnExactPlaceAtSpec.plain.varTypes Try.prog).any (Try.prog.ifacesRec ·)) && (Rows.fnExactPlaceAtRow.mapsOut == Try.prog.mapsAmong Try.f4.resultTypes.toList)) = true := by kernel_rfl
theorem closed10 : ((Rows.fnExactPlaceAtRow.loops == (Try.f4.params.toList ++ Rows.fnExactPlaceAtSpec.plain.varTypes Try.prog).any (Try.prog.loopsFrom ·)) && (Rows.fnExactPlaceAtRow.wideKeys == (Try.f4.params.toList ++ Rows.fnExactPlaceAtSpec.plain.varTypes Try.prog ++ Try.f4.resultTypes.toList).any (Try.prog.wideKeysFrom ·))) = true := by kernel_rfl
theorem closed11 : (Rows.fnExactPlaceAtSpec.vars.all (Try.prog.varReadable ·) && Try.f4.resultTypes.all (fun t => Try.prog.readableRec t && decide (t < Try.prog.types.size)) && (Rows.fnExactPlaceAtRow.ifacesOut == Try.f4.resultTypes.toList.any (Try.prog.ifacesRec ·)) && (Rows.fnExactPlaceAtRow.loopsOut == Try.f4.resultTypes.toList.any (Try.prog.loopsFrom ·))) = true := by kernel_rfl
theorem closed12 : (Rows.fnExactPlaceAtRow.plainKeys == Try.prog.plainKeys) = true := by kernel_rfl
theorem closed13 : (Rows.fnExactPlaceAtRow.shortTexts.isNone && Try.prog.stopsHeard) = true := by kernel_rfl
theorem closed14 : ((Rows.fnExactPlaceAtRow.veiled == (Try.f4.params.toList ++ Rows.fnExactPlaceAtSpec.plain.varTypes Try.prog ++ Try.f4.resultTypes.toList).any (Try.prog.veiledRec ·)) && Rows.fnExactPlaceAtRow.veiledFits Try.prog Try.f4.params.toList (Try.f4.params.toList ++ Rows.fnExactPlaceAtSpec.plain.varTypes Try.prog ++ Try.f4.resultTypes.toList)) = true := by kernel_rfl
theorem closed15 : (Try.prog.mayEnter) = true := by kernel_rfl
theorem closed16 : (Rows.fnExactPlaceAtRow.lifted == Try.prog.liftsFinal) = true := by kernel_rfl
theorem closed17 : (Try.prog.make == some Rows.fnExactPlaceAtRow.make) = true := by kernel_rfl
theorem closed18 : (kindsFit Try.prog Try.f4 Rows.fnExactPlaceAtRow) = true := by kernel_rfl
theorem closed19 : (Rows.fnExactPlaceAtRow.pinned == Rows.fnExactPlaceAtRow.pinnedBy) = true := by kernel_rfl
set_option maxRecDepth 100000 in
theorem closed : joinedFacts Try.prog 4 Try.f4 Rows.fnExactPlaceAtSpec Rows.fnExactPlaceAtRow = true := joined_of closed0 closed1 closed2 closed3 closed4 closed5 closed6 closed7 closed8 closed9 closed10 closed11 closed12 closed13 closed14 closed15 closed16 closed17 closed18 closed19
theorem named : Try.prog.funcNamed Rows.fnExactPlaceAtRow.func = some 4 := by kernel_rfl

theorem over : Rows.fnExactPlaceAtRow.holds Try.pinned (OpenSpec.ofChange Rows.fnExactPlaceAtSpec) :=
  OpenClaim.holds_of_wide 4 Try.f4 rfl rfl rfl rfl rfl rfl rfl ⟨rfl, rfl, rfl, rfl, rfl⟩ rfl rfl rfl rfl rfl named Try.func4 closed
    (of_decide_eq_true (by kernel_rfl)) (by unfold Func.isWrapper; first | (rw [if_pos (by decide +kernel)]; kernel_rfl) | (rw [if_neg (by decide +kernel)]; exact ⟨rfl, rfl⟩))
    (fun os started H enc _ => lifted os started H enc)

theorem proved : Rows.FnExactPlaceAtSaid := over
#print axioms proved
end Go.Proofs.Ytiagimgdjngnfaa.fnExactPlaceAt
