/- It is proved that for every input, the law of this name returns true: the program's function returns what the reference's returns. -/
import Derived.Test.YtlpgjgombdcheaaRows
import Derived.Test.YtlpgjgombdcheaaK5
import Derived.Test.YtlpgjgombdcheaaOpen
import Derived.Test.YtlpgjgombdcheaaRd
import Derived.WalkKit
import Derived.ProofKit
import Derived.OpenShut
import Derived.ChangeOld
import Derived.Below
namespace Go.Proofs.Ytlpgjgombdcheaa.fnExactSlopeBetween
open Go Go.ChangeShapes Go.WideShapes Go.ChangeAt Go.RowKit
open Go.ChangeMaps (open_string shut_string)
set_option linter.unusedVariables false

theorem own : ownKnob Try.prog.godebug = none := by kernel_rfl
theorem laidOut : laidOutB Try.prog = true := by kernel_rfl

set_option maxRecDepth 100000 in
theorem lifted (os : Os) (started : os.Started) (H : Type) (enc : TypeId × Value → H) :
    ReturnsInHanded {} Try.checked os 4 .any (Rows.fnExactSlopeBetweenSpec.pre6 enc Try.prog Try.f4 Rows.fnExactSlopeBetweenRow.domain false) (Rows.fnExactSlopeBetweenSpec.post enc Try.prog Try.f4 false true false false) := by
  refine returnsInHanded_of_change (C := Try.checked) own started (by kernel_rfl) Try.func4
    (ChangeSpec.witness6 (enc := enc) (C := Try.checked) false ⟨#[], #[(.agg #[(Fl 0), (Fl 0), (Fl 0), (Fl 0), (Iv 0), (Iv 0), (Iv 0), (.slice none 0 0)]), (.agg #[(Fl 0), (Fl 0), (Fl 0)])], []⟩ 8 (by kernel_rfl) (by kernel_rfl) (by kernel_rfl) (by kernel_rfl)) ?_
  intro W base args ds gs before hval0 hW hcnd _
  have hval : ∀ (j : Nat) t v, Try.f4.params[j]? = some t → args[j]? = some v → Value.okWide Try.prog W .any base t v := hval0
  have hW' := hW
  obtain ⟨p, q, hA0, hV, rfl, hfz, hnd⟩ := hW
  have hA : DataW.TrodAll enc Try.prog W 0 (fun _ => true) true Try.f4.params.toList args.toList ds p := hA0
  rw [show Try.f4.params = #[27, 24] from rfl] at hA hval
  obtain ⟨v0, vs0, d0, ds0, p0, q0, hargs, rfl, rfl, h0, r0⟩ := trodAll_cons hA
  obtain ⟨v1, vs1, d1, ds1, p1, q1, rfl, rfl, rfl, h1, r1⟩ := trodAll_cons r0
  obtain ⟨rfl, rfl, rfl⟩ := trodAll_nil r1
  obtain rfl : args = #[v0, v1] := by cases args; simp_all
  obtain ⟨rfl, rfl⟩ := trodVars_none hV
  have k0 := h0
  have lt0 : ∀ x ∈ p0, x.block < W.heap.size := by obtain ⟨m, hm⟩ := k0; exact DataW.trod_lt m _ _ _ hm
  obtain ⟨cs0, rfl⟩ := okStruct (P := Try.prog) (t := 27) (by rw [Try.underlying27]) (hval 0 27 v0 rfl rfl)
  obtain ⟨X0, hX0⟩ : ∃ X, RGridT W X cs0 := by obtain ⟨m, hm⟩ := h0; exact rd27 _ _ _ _ _ _ _ _ hm
  have k1 := h1
  have lt1 : ∀ x ∈ p1, x.block < W.heap.size := by obtain ⟨m, hm⟩ := k1; exact DataW.trod_lt m _ _ _ hm
  obtain ⟨cs1, rfl⟩ := okStruct (P := Try.prog) (t := 24) (by rw [Try.underlying24]) (hval 1 24 v1 rfl rfl)
  obtain ⟨X1, hX1⟩ : ∃ X, RV3 W X cs1 := by obtain ⟨m, hm⟩ := h1; exact rd24 _ _ _ _ _ _ _ _ hm
  clear hA0 hval0
  refine (law_of (c_laws_FnExactSlopeBetween cs0 X0 cs1 X1 W hX0 hX1)).mono fun e W' ⟨he, bel⟩ => ?_
  subst he
  exact ⟨_, rfl, _, _, _, [], _, [], hW', trodAll_mk1 (shut_bool Try.underlying4 _), (trodAll_cons_mk (Below.trod laidOut (by kernel_rfl) (of_decide_eq_true (by kernel_rfl)) k0 bel lt0) (trodAll_cons_mk (Below.trod laidOut (by kernel_rfl) (of_decide_eq_true (by kernel_rfl)) k1 bel lt1) trodAll_mk0)), rfl, bel.frame _, fun h => by cases h⟩

theorem closed0 : (Rows.fnExactSlopeBetweenRow.wf (OpenSpec.ofChange Rows.fnExactSlopeBetweenSpec)) = true := by kernel_rfl
theorem closed1 : (laidOutB Try.prog) = true := by kernel_rfl
theorem closed2 : (mapsRowed Try.prog) = true := by kernel_rfl
theorem closed3 : (Try.f4.params.all (Try.prog.readableRec ·) && namedTie Try.prog Rows.fnExactSlopeBetweenRow.named Rows.fnExactSlopeBetweenSpec.vars) = true := by kernel_rfl
theorem closed4 : ((Rows.fnExactSlopeBetweenRow.stops == []) && (Try.prog.stops == []) && (Rows.fnExactSlopeBetweenRow.knobs == []) && (Try.prog.stopKnobs == [])) = true := by kernel_rfl
theorem closed5 : (Rows.fnExactSlopeBetweenRow.inPlace == Try.prog.inPlace 4) = true := by kernel_rfl
theorem closed6 : (Rows.fnExactSlopeBetweenRow.unfollowed == Try.prog.unfollowed 4) = true := by kernel_rfl
theorem closed7 : (Rows.fnExactSlopeBetweenRow.recurses == Try.prog.recurses 4) = true := by kernel_rfl
theorem closed8 : (Rows.fnExactSlopeBetweenRow.named == Try.prog.varsNamed 4) = true := by kernel_rfl
theorem closed9 : ((Rows.fnExactSlopeBetweenRow.maps == (Try.f4.params.toList ++ Rows.fnExactSlopeBetweenSpec.plain.varTypes Try.prog).any (Try.prog.mapsRec ·)) && (Rows.fnExactSlopeBetweenRow.ifaces == (Try.f4.params.toList ++ Rows.fnExactSlopeBetweenSpec.plain.varTypes Try.prog).any (Try.prog.ifacesRec ·)) && (Rows.fnExactSlopeBetweenRow.mapsOut == Try.prog.mapsAmong Try.f4.resultTypes.toList)) = true := by kernel_rfl
theorem closed10 : ((Rows.fnExactSlopeBetweenRow.loops == (Try.f4.params.toList ++ Rows.fnExactSlopeBetweenSpec.plain.varTypes Try.prog).any (Try.prog.loopsFrom ·)) && (Rows.fnExactSlopeBetweenRow.wideKeys == (Try.f4.params.toList ++ Rows.fnExactSlopeBetweenSpec.plain.varTypes Try.prog ++ Try.f4.resultTypes.toList).any (Try.prog.wideKeysFrom ·))) = true := by kernel_rfl
theorem closed11 : (Rows.fnExactSlopeBetweenSpec.vars.all (Try.prog.varReadable ·) && Try.f4.resultTypes.all (fun t => Try.prog.readableRec t && decide (t < Try.prog.types.size)) && (Rows.fnExactSlopeBetweenRow.ifacesOut == Try.f4.resultTypes.toList.any (Try.prog.ifacesRec ·)) && (Rows.fnExactSlopeBetweenRow.loopsOut == Try.f4.resultTypes.toList.any (Try.prog.loopsFrom ·))) = true := by kernel_rfl
theorem closed12 : (Rows.fnExactSlopeBetweenRow.plainKeys == Try.prog.plainKeys) = true := by kernel_rfl
theorem closed13 : (Rows.fnExactSlopeBetweenRow.shortTexts.isNone && Try.prog.stopsHeard) = true := by kernel_rfl
theorem closed14 : ((Rows.fnExactSlopeBetweenRow.veiled == (Try.f4.params.toList ++ Rows.fnExactSlopeBetweenSpec.plain.varTypes Try.prog ++ Try.f4.resultTypes.toList).any (Try.prog.veiledRec ·)) && Rows.fnExactSlopeBetweenRow.veiledFits Try.prog Try.f4.params.toList (Try.f4.params.toList ++ Rows.fnExactSlopeBetweenSpec.plain.varTypes Try.prog ++ Try.f4.resultTypes.toList)) = true := by kernel_rfl
theorem closed15 : (Try.prog.mayEnter) = true := by kernel_rfl
theorem closed16 : (Rows.fnExactSlopeBetweenRow.lifted == Try.prog.liftsFinal) = true := by kernel_rfl
theorem closed17 : (Try.prog.make == some Rows.fnExactSlopeBetweenRow.make) = true := by kernel_rfl
theorem closed18 : (kindsFit Try.prog Try.f4 Rows.fnExactSlopeBetweenRow) = true := by kernel_rfl
theorem closed19 : (Rows.fnExactSlopeBetweenRow.pinned == Rows.fnExactSlopeBetweenRow.pinnedBy) = true := by kernel_rfl
set_option maxRecDepth 100000 in
theorem closed : joinedFacts Try.prog 4 Try.f4 Rows.fnExactSlopeBetweenSpec Rows.fnExactSlopeBetweenRow = true := joined_of closed0 closed1 closed2 closed3 closed4 closed5 closed6 closed7 closed8 closed9 closed10 closed11 closed12 closed13 closed14 closed15 closed16 closed17 closed18 closed19
theorem named : Try.prog.funcNamed Rows.fnExactSlopeBetweenRow.func = some 4 := by kernel_rfl

theorem over : Rows.fnExactSlopeBetweenRow.holds Try.pinned (OpenSpec.ofChange Rows.fnExactSlopeBetweenSpec) :=
  OpenClaim.holds_of_wide 4 Try.f4 rfl rfl rfl rfl rfl rfl rfl ⟨rfl, rfl, rfl, rfl, rfl⟩ rfl rfl rfl rfl rfl named Try.func4 closed
    (of_decide_eq_true (by kernel_rfl)) (by unfold Func.isWrapper; first | (rw [if_pos (by decide +kernel)]; kernel_rfl) | (rw [if_neg (by decide +kernel)]; exact ⟨rfl, rfl⟩))
    (fun os started H enc _ => lifted os started H enc)

theorem proved : Rows.FnExactSlopeBetweenSaid := over
#print axioms proved
end Go.Proofs.Ytlpgjgombdcheaa.fnExactSlopeBetween
