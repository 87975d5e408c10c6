/- It is proved that for every input, the law of this name returns true: the program's function returns what the reference's returns. -/
import Derived.Test.YtoblnfkpjgghiaaRows
import Derived.Test.YtoblnfkpjgghiaaO2
import Derived.Test.YtoblnfkpjgghiaaOpen
import Derived.Test.YtoblnfkpjgghiaaRd
import Derived.WalkKit
import Derived.ProofKit
import Derived.OpenShut
import Derived.ChangeOld
import Derived.Below
namespace Go.Proofs.Ytoblnfkpjgghiaa.fnExactOpenEdges
open Go Go.ChangeShapes Go.WideShapes Go.ChangeAt Go.RowKit
open Go.ChangeMaps (open_string shut_string)
set_option linter.unusedVariables false

theorem own : ownKnob Try.prog.godebug = none := by kernel_rfl
theorem laidOut : laidOutB Try.prog = true := by kernel_rfl

set_option maxRecDepth 100000 in
theorem lifted (os : Os) (started : os.Started) (H : Type) (enc : TypeId × Value → H) :
    ReturnsInHanded {} Try.checked os 6 .any (Rows.fnExactOpenEdgesSpec.pre6 enc Try.prog Try.f6 Rows.fnExactOpenEdgesRow.domain false) (Rows.fnExactOpenEdgesSpec.post enc Try.prog Try.f6 false true false false) := by
  refine returnsInHanded_of_change (C := Try.checked) own started (by kernel_rfl) Try.func6
    (ChangeSpec.witness6 (enc := enc) (C := Try.checked) false ⟨#[], #[(.agg #[(.slice none 0 0), (.slice none 0 0)])], []⟩ 8 (by kernel_rfl) (by kernel_rfl) (by kernel_rfl) (by kernel_rfl)) ?_
  intro W base args ds gs before hval0 hW hcnd _
  have hval : ∀ (j : Nat) t v, Try.f6.params[j]? = some t → args[j]? = some v → Value.okWide Try.prog W .any base t v := hval0
  have hW' := hW
  obtain ⟨p, q, hA0, hV, rfl, hfz, hnd⟩ := hW
  have hA : DataW.TrodAll enc Try.prog W 0 (fun _ => true) true Try.f6.params.toList args.toList ds p := hA0
  rw [show Try.f6.params = #[25] from rfl] at hA hval
  obtain ⟨v0, vs0, d0, ds0, p0, q0, hargs, rfl, rfl, h0, r0⟩ := trodAll_cons hA
  obtain ⟨rfl, rfl, rfl⟩ := trodAll_nil r0
  obtain rfl : args = #[v0] := by cases args; simp_all
  obtain ⟨rfl, rfl⟩ := trodVars_none hV
  have k0 := h0
  have lt0 : ∀ x ∈ p0, x.block < W.heap.size := by obtain ⟨m, hm⟩ := k0; exact DataW.trod_lt m _ _ _ hm
  obtain ⟨cs0, rfl⟩ := okStruct (P := Try.prog) (t := 25) (by rw [Try.underlying25]) (hval 0 25 v0 rfl rfl)
  obtain ⟨X0, hX0⟩ : ∃ X, RMeshT W X cs0 := by obtain ⟨m, hm⟩ := h0; exact rd25 _ _ _ _ _ _ _ _ hm
  clear hA0 hval0
  refine (law_of (c_laws_FnExactOpenEdges cs0 X0 W hX0)).mono fun e W' ⟨he, bel⟩ => ?_
  subst he
  exact ⟨_, rfl, _, _, _, [], _, [], hW', trodAll_mk1 (shut_bool Try.underlying4 _), (trodAll_cons_mk (Below.trod laidOut (by kernel_rfl) (of_decide_eq_true (by kernel_rfl)) k0 bel lt0) trodAll_mk0), rfl, bel.frame _, fun h => by cases h⟩

theorem closed0 : (Rows.fnExactOpenEdgesRow.wf (OpenSpec.ofChange Rows.fnExactOpenEdgesSpec)) = true := by kernel_rfl
theorem closed1 : (laidOutB Try.prog) = true := by kernel_rfl
theorem closed2 : (mapsRowed Try.prog) = true := by kernel_rfl
theorem closed3 : (Try.f6.params.all (Try.prog.readableRec ·) && namedTie Try.prog Rows.fnExactOpenEdgesRow.named Rows.fnExactOpenEdgesSpec.vars) = true := by kernel_rfl
theorem closed4 : ((Rows.fnExactOpenEdgesRow.stops == []) && (Try.prog.stops == []) && (Rows.fnExactOpenEdgesRow.knobs == []) && (Try.prog.stopKnobs == [])) = true := by kernel_rfl
theorem closed5 : (Rows.fnExactOpenEdgesRow.inPlace == Try.prog.inPlace 6) = true := by kernel_rfl
theorem closed6 : (Rows.fnExactOpenEdgesRow.unfollowed == Try.prog.unfollowed 6) = true := by kernel_rfl
theorem closed7 : (Rows.fnExactOpenEdgesRow.recurses == Try.prog.recurses 6) = true := by kernel_rfl
theorem closed8 : (Rows.fnExactOpenEdgesRow.named == Try.prog.varsNamed 6) = true := by kernel_rfl
theorem closed9 : ((Rows.fnExactOpenEdgesRow.maps == (Try.f6.params.toList ++ Rows.fnExactOpenEdgesSpec.plain.varTypes Try.prog).any (Try.prog.mapsRec ·)) && (Rows.fnExactOpenEdgesRow.ifaces == (Try.f6.params.toList ++ Rows.fnExactOpenEdgesSpec.plain.varTypes Try.prog).any (Try.prog.ifacesRec ·)) && (Rows.fnExactOpenEdgesRow.mapsOut == Try.prog.mapsAmong Try.f6.resultTypes.toList)) = true := by kernel_rfl
theorem closed10 : ((Rows.fnExactOpenEdgesRow.loops == (Try.f6.params.toList ++ Rows.fnExactOpenEdgesSpec.plain.varTypes Try.prog).any (Try.prog.loopsFrom ·)) && (Rows.fnExactOpenEdgesRow.wideKeys == (Try.f6.params.toList ++ Rows.fnExactOpenEdgesSpec.plain.varTypes Try.prog ++ Try.f6.resultTypes.toList).any (Try.prog.wideKeysFrom ·))) = true := by kernel_rfl
theorem closed11 : (Rows.fnExactOpenEdgesSpec.vars.all (Try.prog.varReadable ·) && Try.f6.resultTypes.all (fun t => Try.prog.readableRec t && decide (t < Try.prog.types.size)) && (Rows.fnExactOpenEdgesRow.ifacesOut == Try.f6.resultTypes.toList.any (Try.prog.ifacesRec ·)) && (Rows.fnExactOpenEdgesRow.loopsOut == Try.f6.resultTypes.toList.any (Try.prog.loopsFrom ·))) = true := by kernel_rfl
theorem closed12 : (Rows.fnExactOpenEdgesRow.plainKeys == Try.prog.plainKeys) = true := by kernel_rfl
theorem closed13 : (Rows.fnExactOpenEdgesRow.shortTexts.isNone && Try.prog.stopsHeard) = true := by kernel_rfl
theorem closed14 : ((Rows.fnExactOpenEdgesRow.veiled == (Try.f6.params.toList ++ Rows.fnExactOpenEdgesSpec.plain.varTypes Try.prog ++ Try.f6.resultTypes.toList).any (Try.prog.veiledRec ·)) && Rows.fnExactOpenEdgesRow.veiledFits Try.prog Try.f6.params.toList (Try.f6.params.toList ++ Rows.fnExactOpenEdgesSpec.plain.varTypes Try.prog ++ Try.f6.resultTypes.toList)) = true := by kernel_rfl
theorem closed15 : (Try.prog.mayEnter) = true := by kernel_rfl
theorem closed16 : (Rows.fnExactOpenEdgesRow.lifted == Try.prog.liftsFinal) = true := by kernel_rfl
theorem closed17 : (Try.prog.make == some Rows.fnExactOpenEdgesRow.make) = true := by kernel_rfl
theorem closed18 : (kindsFit Try.prog Try.f6 Rows.fnExactOpenEdgesRow) = true := by kernel_rfl
theorem closed19 : (Rows.fnExactOpenEdgesRow.pinned == Rows.fnExactOpenEdgesRow.pinnedBy) = true := by kernel_rfl
set_option maxRecDepth 100000 in
theorem closed : joinedFacts Try.prog 6 Try.f6 Rows.fnExactOpenEdgesSpec Rows.fnExactOpenEdgesRow = true := joined_of closed0 closed1 closed2 closed3 closed4 closed5 closed6 closed7 closed8 closed9 closed10 closed11 closed12 closed13 closed14 closed15 closed16 closed17 closed18 closed19
theorem named : Try.prog.funcNamed Rows.fnExactOpenEdgesRow.func = some 6 := by kernel_rfl

theorem over : Rows.fnExactOpenEdgesRow.holds Try.pinned (OpenSpec.ofChange Rows.fnExactOpenEdgesSpec) :=
  OpenClaim.holds_of_wide 6 Try.f6 rfl rfl rfl rfl rfl rfl rfl ⟨rfl, rfl, rfl, rfl, rfl⟩ rfl rfl rfl rfl rfl named Try.func6 closed
    (of_decide_eq_true (by kernel_rfl)) (by unfold Func.isWrapper; first | (rw [if_pos (by decide +kernel)]; kernel_rfl) | (rw [if_neg (by decide +kernel)]; exact ⟨rfl, rfl⟩))
    (fun os started H enc _ => lifted os started H enc)

theorem proved : Rows.FnExactOpenEdgesSaid := over
#print axioms proved
end Go.Proofs.Ytoblnfkpjgghiaa.fnExactOpenEdges
