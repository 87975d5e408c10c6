/- It is proved that for every input, the law of this name returns true: the program's function returns what the reference's returns. -/
import Derived.Test.YtbbidfadenmmjaaRows
import Derived.Test.YtbbidfadenmmjaaO2
import Derived.Test.YtbbidfadenmmjaaOpen
import Derived.Test.YtbbidfadenmmjaaRd
import Derived.WalkKit
import Derived.ProofKit
import Derived.OpenShut
import Derived.ChangeOld
import Derived.Below
namespace Go.Proofs.Ytbbidfadenmmjaa.fnExactOverlapOf
open Go Go.ChangeShapes Go.WideShapes Go.ChangeAt Go.RowKit
open Go.ChangeMaps (open_string shut_string)
set_option linter.unusedVariables false

theorem own : ownKnob Try.prog.godebug = none := by kernel_rfl
theorem laidOut : laidOutB Try.prog = true := by kernel_rfl

set_option maxRecDepth 100000 in
theorem lifted (os : Os) (started : os.Started) (H : Type) (enc : TypeId × Value → H) :
    ReturnsInHanded {} Try.checked os 11 .any (Rows.fnExactOverlapOfSpec.pre6 enc Try.prog Try.f11 Rows.fnExactOverlapOfRow.domain false) (Rows.fnExactOverlapOfSpec.post enc Try.prog Try.f11 false true false false) := by
  refine returnsInHanded_of_change (C := Try.checked) own started (by kernel_rfl) Try.func11
    (ChangeSpec.witness6 (enc := enc) (C := Try.checked) false ⟨#[], #[(.slice none 0 0), (.slice none 0 0)], []⟩ 8 (by kernel_rfl) (by kernel_rfl) (by kernel_rfl) (by kernel_rfl)) ?_
  intro W base args ds gs before hval0 hW hcnd _
  have hval : ∀ (j : Nat) t v, Try.f11.params[j]? = some t → args[j]? = some v → Value.okWide Try.prog W .any base t v := hval0
  have hW' := hW
  obtain ⟨p, q, hA0, hV, rfl, hfz, hnd⟩ := hW
  have hA : DataW.TrodAll enc Try.prog W 0 (fun _ => true) true Try.f11.params.toList args.toList ds p := hA0
  rw [show Try.f11.params = #[22, 75] from rfl] at hA hval
  obtain ⟨v0, vs0, d0, ds0, p0, q0, hargs, rfl, rfl, h0, r0⟩ := trodAll_cons hA
  obtain ⟨v1, vs1, d1, ds1, p1, q1, rfl, rfl, rfl, h1, r1⟩ := trodAll_cons r0
  obtain ⟨rfl, rfl, rfl⟩ := trodAll_nil r1
  obtain rfl : args = #[v0, v1] := by cases args; simp_all
  obtain ⟨rfl, rfl⟩ := trodVars_none hV
  have k0 := h0
  have lt0 : ∀ x ∈ p0, x.block < W.heap.size := by obtain ⟨m, hm⟩ := k0; exact DataW.trod_lt m _ _ _ hm
  obtain ⟨ad0, ln0, cp0, rfl⟩ := okWide_slice Try.underlying22 (hval 0 22 v0 rfl rfl)
  obtain ⟨X0, hX0⟩ : ∃ X, Sl RV3 3 W (.slice ad0 ln0 cp0) X := by obtain ⟨m, hm⟩ := h0; obtain ⟨X, y, e, s⟩ := rd22 _ _ _ _ _ _ _ _ hm; cases e; exact ⟨X, s⟩
  have k1 := h1
  have lt1 : ∀ x ∈ p1, x.block < W.heap.size := by obtain ⟨m, hm⟩ := k1; exact DataW.trod_lt m _ _ _ hm
  obtain ⟨ad1, ln1, cp1, rfl⟩ := okWide_slice Try.underlying75 (hval 1 75 v1 rfl rfl)
  obtain ⟨X1, hX1⟩ : ∃ X, Sl RF 1 W (.slice ad1 ln1 cp1) X := by obtain ⟨m, hm⟩ := h1; obtain ⟨X, y, e, s⟩ := rd75 _ _ _ _ _ _ _ _ hm; cases e; exact ⟨X, s⟩
  clear hA0 hval0
  refine (law_of (c_laws_FnExactOverlapOf (.slice ad0 ln0 cp0) X0 (.slice ad1 ln1 cp1) X1 W hX0 hX1)).mono fun e W' ⟨he, bel⟩ => ?_
  subst he
  exact ⟨_, rfl, _, _, _, [], _, [], hW', trodAll_mk1 (shut_bool Try.underlying4 _), (trodAll_cons_mk (Below.trod laidOut (by kernel_rfl) (of_decide_eq_true (by kernel_rfl)) k0 bel lt0) (trodAll_cons_mk (Below.trod laidOut (by kernel_rfl) (of_decide_eq_true (by kernel_rfl)) k1 bel lt1) trodAll_mk0)), rfl, bel.frame _, fun h => by cases h⟩

theorem closed0 : (Rows.fnExactOverlapOfRow.wf (OpenSpec.ofChange Rows.fnExactOverlapOfSpec)) = true := by kernel_rfl
theorem closed1 : (laidOutB Try.prog) = true := by kernel_rfl
theorem closed2 : (mapsRowed Try.prog) = true := by kernel_rfl
theorem closed3 : (Try.f11.params.all (Try.prog.readableRec ·) && namedTie Try.prog Rows.fnExactOverlapOfRow.named Rows.fnExactOverlapOfSpec.vars) = true := by kernel_rfl
theorem closed4 : ((Rows.fnExactOverlapOfRow.stops == []) && (Try.prog.stops == []) && (Rows.fnExactOverlapOfRow.knobs == []) && (Try.prog.stopKnobs == [])) = true := by kernel_rfl
theorem closed5 : (Rows.fnExactOverlapOfRow.inPlace == Try.prog.inPlace 11) = true := by kernel_rfl
theorem closed6 : (Rows.fnExactOverlapOfRow.unfollowed == Try.prog.unfollowed 11) = true := by kernel_rfl
theorem closed7 : (Rows.fnExactOverlapOfRow.recurses == Try.prog.recurses 11) = true := by kernel_rfl
theorem closed8 : (Rows.fnExactOverlapOfRow.named == Try.prog.varsNamed 11) = true := by kernel_rfl
theorem closed9 : ((Rows.fnExactOverlapOfRow.maps == (Try.f11.params.toList ++ Rows.fnExactOverlapOfSpec.plain.varTypes Try.prog).any (Try.prog.mapsRec ·)) && (Rows.fnExactOverlapOfRow.ifaces == (Try.f11.params.toList ++ Rows.fnExactOverlapOfSpec.plain.varTypes Try.prog).any (Try.prog.ifacesRec ·)) && (Rows.fnExactOverlapOfRow.mapsOut == Try.prog.mapsAmong Try.f11.resultTypes.toList)) = true := by kernel_rfl
theorem closed10 : ((Rows.fnExactOverlapOfRow.loops == (Try.f11.params.toList ++ Rows.fnExactOverlapOfSpec.plain.varTypes Try.prog).any (Try.prog.loopsFrom ·)) && (Rows.fnExactOverlapOfRow.wideKeys == (Try.f11.params.toList ++ Rows.fnExactOverlapOfSpec.plain.varTypes Try.prog ++ Try.f11.resultTypes.toList).any (Try.prog.wideKeysFrom ·))) = true := by kernel_rfl
theorem closed11 : (Rows.fnExactOverlapOfSpec.vars.all (Try.prog.varReadable ·) && Try.f11.resultTypes.all (fun t => Try.prog.readableRec t && decide (t < Try.prog.types.size)) && (Rows.fnExactOverlapOfRow.ifacesOut == Try.f11.resultTypes.toList.any (Try.prog.ifacesRec ·)) && (Rows.fnExactOverlapOfRow.loopsOut == Try.f11.resultTypes.toList.any (Try.prog.loopsFrom ·))) = true := by kernel_rfl
theorem closed12 : (Rows.fnExactOverlapOfRow.plainKeys == Try.prog.plainKeys) = true := by kernel_rfl
theorem closed13 : (Rows.fnExactOverlapOfRow.shortTexts.isNone && Try.prog.stopsHeard) = true := by kernel_rfl
theorem closed14 : ((Rows.fnExactOverlapOfRow.veiled == (Try.f11.params.toList ++ Rows.fnExactOverlapOfSpec.plain.varTypes Try.prog ++ Try.f11.resultTypes.toList).any (Try.prog.veiledRec ·)) && Rows.fnExactOverlapOfRow.veiledFits Try.prog Try.f11.params.toList (Try.f11.params.toList ++ Rows.fnExactOverlapOfSpec.plain.varTypes Try.prog ++ Try.f11.resultTypes.toList)) = true := by kernel_rfl
theorem closed15 : (Try.prog.mayEnter) = true := by kernel_rfl
theorem closed16 : (Rows.fnExactOverlapOfRow.lifted == Try.prog.liftsFinal) = true := by kernel_rfl
theorem closed17 : (Try.prog.make == some Rows.fnExactOverlapOfRow.make) = true := by kernel_rfl
theorem closed18 : (kindsFit Try.prog Try.f11 Rows.fnExactOverlapOfRow) = true := by kernel_rfl
theorem closed19 : (Rows.fnExactOverlapOfRow.pinned == Rows.fnExactOverlapOfRow.pinnedBy) = true := by kernel_rfl
set_option maxRecDepth 100000 in
theorem closed : joinedFacts Try.prog 11 Try.f11 Rows.fnExactOverlapOfSpec Rows.fnExactOverlapOfRow = true := joined_of closed0 closed1 closed2 closed3 closed4 closed5 closed6 closed7 closed8 closed9 closed10 closed11 closed12 closed13 closed14 closed15 closed16 closed17 closed18 closed19
theorem named : Try.prog.funcNamed Rows.fnExactOverlapOfRow.func = some 11 := by kernel_rfl

theorem over : Rows.fnExactOverlapOfRow.holds Try.pinned (OpenSpec.ofChange Rows.fnExactOverlapOfSpec) :=
  OpenClaim.holds_of_wide 11 Try.f11 rfl rfl rfl rfl rfl rfl rfl ⟨rfl, rfl, rfl, rfl, rfl⟩ rfl rfl rfl rfl rfl named Try.func11 closed
    (of_decide_eq_true (by kernel_rfl)) (by unfold Func.isWrapper; first | (rw [if_pos (by decide +kernel)]; kernel_rfl) | (rw [if_neg (by decide +kernel)]; exact ⟨rfl, rfl⟩))
    (fun os started H enc _ => lifted os started H enc)

theorem proved : Rows.FnExactOverlapOfSaid := over
#print axioms proved
end Go.Proofs.Ytbbidfadenmmjaa.fnExactOverlapOf
