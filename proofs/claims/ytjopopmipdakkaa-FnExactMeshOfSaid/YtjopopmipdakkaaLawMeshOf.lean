/- It is proved that for every input, the law of this name returns true: the program's function returns what the reference's returns. -/
import Derived.Test.YtjopopmipdakkaaRows
import Derived.Test.YtjopopmipdakkaaB2
import Derived.Test.YtjopopmipdakkaaOpen
import Derived.Test.YtjopopmipdakkaaRd
import Derived.WalkKit
import Derived.ProofKit
import Derived.OpenShut
import Derived.ChangeOld
import Derived.Below
namespace Go.Proofs.Ytjopopmipdakkaa.fnExactMeshOf
open Go Go.ChangeShapes Go.WideShapes Go.ChangeAt Go.RowKit
open Go.ChangeMaps (open_string shut_string)
set_option linter.unusedVariables false

theorem own : ownKnob Try.prog.godebug = none := by kernel_rfl
theorem laidOut : laidOutB Try.prog = true := by kernel_rfl

set_option maxRecDepth 100000 in
theorem lifted (os : Os) (started : os.Started) (H : Type) (enc : TypeId × Value → H) :
    ReturnsInHanded {} Try.checked os 3 .any (Rows.fnExactMeshOfSpec.pre6 enc Try.prog Try.f3 Rows.fnExactMeshOfRow.domain false) (Rows.fnExactMeshOfSpec.post enc Try.prog Try.f3 false true false false) := by
  refine returnsInHanded_of_change (C := Try.checked) own started (by kernel_rfl) Try.func3
    (ChangeSpec.witness6 (enc := enc) (C := Try.checked) false ⟨#[], #[(.agg #[(Fl 0), (Fl 0), (Fl 0), (Fl 0), (Iv 0), (Iv 0), (Iv 0), (.slice none 0 0)])], []⟩ 8 (by kernel_rfl) (by kernel_rfl) (by kernel_rfl) (by kernel_rfl)) ?_
  intro W base args ds gs before hval0 hW hcnd _
  have hval : ∀ (j : Nat) t v, Try.f3.params[j]? = some t → args[j]? = some v → Value.okWide Try.prog W .any base t v := hval0
  have hW' := hW
  obtain ⟨p, q, hA0, hV, rfl, hfz, hnd⟩ := hW
  have hA : DataW.TrodAll enc Try.prog W 0 (fun _ => true) true Try.f3.params.toList args.toList ds p := hA0
  rw [show Try.f3.params = #[27] from rfl] at hA hval
  obtain ⟨v0, vs0, d0, ds0, p0, q0, hargs, rfl, rfl, h0, r0⟩ := trodAll_cons hA
  obtain ⟨rfl, rfl, rfl⟩ := trodAll_nil r0
  obtain rfl : args = #[v0] := by cases args; simp_all
  obtain ⟨rfl, rfl⟩ := trodVars_none hV
  have k0 := h0
  have lt0 : ∀ x ∈ p0, x.block < W.heap.size := by obtain ⟨m, hm⟩ := k0; exact DataW.trod_lt m _ _ _ hm
  obtain ⟨cs0, rfl⟩ := okStruct (P := Try.prog) (t := 27) (by rw [Try.underlying27]) (hval 0 27 v0 rfl rfl)
  obtain ⟨X0, hX0⟩ : ∃ X, RGridT W X cs0 := by obtain ⟨m, hm⟩ := h0; exact rd27 _ _ _ _ _ _ _ _ hm
  clear hA0 hval0
  refine (law_of (c_laws_FnExactMeshOf cs0 X0 W hX0)).mono fun e W' ⟨he, bel⟩ => ?_
  subst he
  exact ⟨_, rfl, _, _, _, [], _, [], hW', trodAll_mk1 (shut_bool Try.underlying4 _), (trodAll_cons_mk (Below.trod laidOut (by kernel_rfl) (of_decide_eq_true (by kernel_rfl)) k0 bel lt0) trodAll_mk0), rfl, bel.frame _, fun h => by cases h⟩

theorem closed0 : (Rows.fnExactMeshOfRow.wf (OpenSpec.ofChange Rows.fnExactMeshOfSpec)) = true := by kernel_rfl
theorem closed1 : (laidOutB Try.prog) = true := by kernel_rfl
theorem closed2 : (mapsRowed Try.prog) = true := by kernel_rfl
theorem closed3 : (Try.f3.params.all (Try.prog.readableRec ·) && namedTie Try.prog Rows.fnExactMeshOfRow.named Rows.fnExactMeshOfSpec.vars) = true := by kernel_rfl
theorem closed4 : ((Rows.fnExactMeshOfRow.stops == []) && (Try.prog.stops == []) && (Rows.fnExactMeshOfRow.knobs == []) && (Try.prog.stopKnobs == [])) = true := by kernel_rfl
theorem closed5 : (Rows.fnExactMeshOfRow.inPlace == Try.prog.inPlace 3) = true := by kernel_rfl
theorem closed6 : (Rows.fnExactMeshOfRow.unfollowed == Try.prog.unfollowed 3) = true := by kernel_rfl
theorem closed7 : (Rows.fnExactMeshOfRow.recurses == Try.prog.recurses 3) = true := by kernel_rfl
theorem closed8 : (Rows.fnExactMeshOfRow.named == Try.prog.varsNamed 3) = true := by kernel_rfl
theorem closed9 : ((Rows.fnExactMeshOfRow.maps == (Try.f3.params.toList ++ Rows.fnExactMeshOfSpec.plain.varTypes Try.prog).any (Try.prog.mapsRec ·)) && (Rows.fnExactMeshOfRow.ifaces == (Try.f3.params.toList ++ Rows.fnExactMeshOfSpec.plain.varTypes Try.prog).any (Try.prog.ifacesRec ·)) && (Rows.fnExactMeshOfRow.mapsOut == Try.prog.mapsAmong Try.f3.resultTypes.toList)) = true := by kernel_rfl
theorem closed10 : ((Rows.fnExactMeshOfRow.loops == (Try.f3.params.toList ++ Rows.fnExactMeshOfSpec.plain.varTypes Try.prog).any (Try.prog.loopsFrom ·)) && (Rows.fnExactMeshOfRow.wideKeys == (Try.f3.params.toList ++ Rows.fnExactMeshOfSpec.plain.varTypes Try.prog ++ Try.f3.resultTypes.toList).any (Try.prog.wideKeysFrom ·))) = true := by kernel_rfl
theorem closed11 : (Rows.fnExactMeshOfSpec.vars.all (Try.prog.varReadable ·) && Try.f3.resultTypes.all (fun t => Try.prog.readableRec t && decide (t < Try.prog.types.size)) && (Rows.fnExactMeshOfRow.ifacesOut == Try.f3.resultTypes.toList.any (Try.prog.ifacesRec ·)) && (Rows.fnExactMeshOfRow.loopsOut == Try.f3.resultTypes.toList.any (Try.prog.loopsFrom ·))) = true := by kernel_rfl
theorem closed12 : (Rows.fnExactMeshOfRow.plainKeys == Try.prog.plainKeys) = true := by kernel_rfl
theorem closed13 : (Rows.fnExactMeshOfRow.shortTexts.isNone && Try.prog.stopsHeard) = true := by kernel_rfl
theorem closed14 : ((Rows.fnExactMeshOfRow.veiled == (Try.f3.params.toList ++ Rows.fnExactMeshOfSpec.plain.varTypes Try.prog ++ Try.f3.resultTypes.toList).any (Try.prog.veiledRec ·)) && Rows.fnExactMeshOfRow.veiledFits Try.prog Try.f3.params.toList (Try.f3.params.toList ++ Rows.fnExactMeshOfSpec.plain.varTypes Try.prog ++ Try.f3.resultTypes.toList)) = true := by kernel_rfl
theorem closed15 : (Try.prog.mayEnter) = true := by kernel_rfl
theorem closed16 : (Rows.fnExactMeshOfRow.lifted == Try.prog.liftsFinal) = true := by kernel_rfl
theorem closed17 : (Try.prog.make == some Rows.fnExactMeshOfRow.make) = true := by kernel_rfl
theorem closed18 : (kindsFit Try.prog Try.f3 Rows.fnExactMeshOfRow) = true := by kernel_rfl
theorem closed19 : (Rows.fnExactMeshOfRow.pinned == Rows.fnExactMeshOfRow.pinnedBy) = true := by kernel_rfl
set_option maxRecDepth 100000 in
theorem closed : joinedFacts Try.prog 3 Try.f3 Rows.fnExactMeshOfSpec Rows.fnExactMeshOfRow = true := joined_of closed0 closed1 closed2 closed3 closed4 closed5 closed6 closed7 closed8 closed9 closed10 closed11 closed12 closed13 closed14 closed15 closed16 closed17 closed18 closed19
theorem named : Try.prog.funcNamed Rows.fnExactMeshOfRow.func = some 3 := by kernel_rfl

theorem over : Rows.fnExactMeshOfRow.holds Try.pinned (OpenSpec.ofChange Rows.fnExactMeshOfSpec) :=
  OpenClaim.holds_of_wide 3 Try.f3 rfl rfl rfl rfl rfl rfl rfl ⟨rfl, rfl, rfl, rfl, rfl⟩ rfl rfl rfl rfl rfl named Try.func3 closed
    (of_decide_eq_true (by kernel_rfl)) (by unfold Func.isWrapper; first | (rw [if_pos (by decide +kernel)]; kernel_rfl) | (rw [if_neg (by decide +kernel)]; exact ⟨rfl, rfl⟩))
    (fun os started H enc _ => lifted os started H enc)

theorem proved : Rows.FnExactMeshOfSaid := over
#print axioms proved
end Go.Proofs.Ytjopopmipdakkaa.fnExactMeshOf
