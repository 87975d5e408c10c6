/- It is proved that for every input, the law of this name returns true: the program's function returns what the reference's returns. -/
import Derived.Test.YtcmcooabaglbpaaRows
import Derived.Test.YtcmcooabaglbpaaB3
import Derived.Test.YtcmcooabaglbpaaOpen
import Derived.Test.YtcmcooabaglbpaaRd
import Derived.WalkKit
import Derived.ProofKit
import Derived.OpenShut
import Derived.ChangeOld
import Derived.Below
namespace Go.Proofs.Ytcmcooabaglbpaa.fnExactPartBalls
open Go Go.ChangeShapes Go.WideShapes Go.ChangeAt Go.RowKit
open Go.ChangeMaps (open_string shut_string)
set_option linter.unusedVariables false

theorem own : ownKnob Try.prog.godebug = none := by kernel_rfl
theorem laidOut : laidOutB Try.prog = true := by kernel_rfl

set_option maxRecDepth 100000 in
theorem lifted (os : Os) (started : os.Started) (H : Type) (enc : TypeId × Value → H) :
    ReturnsInHanded {} Try.checked os 5 .any (Rows.fnExactPartBallsSpec.pre6 enc Try.prog Try.f5 Rows.fnExactPartBallsRow.domain false) (Rows.fnExactPartBallsSpec.post enc Try.prog Try.f5 false true false false) := by
  refine returnsInHanded_of_change (C := Try.checked) own started (by kernel_rfl) Try.func5
    (ChangeSpec.witness6 (enc := enc) (C := Try.checked) false ⟨#[], #[(.slice none 0 0), (.slice none 0 0), (Iv 0)], []⟩ 8 (by kernel_rfl) (by kernel_rfl) (by kernel_rfl) (by kernel_rfl)) ?_
  intro W base args ds gs before hval0 hW hcnd _
  have hval : ∀ (j : Nat) t v, Try.f5.params[j]? = some t → args[j]? = some v → Value.okWide Try.prog W .any base t v := hval0
  have hW' := hW
  obtain ⟨p, q, hA0, hV, rfl, hfz, hnd⟩ := hW
  have hA : DataW.TrodAll enc Try.prog W 0 (fun _ => true) true Try.f5.params.toList args.toList ds p := hA0
  rw [show Try.f5.params = #[41, 25, 2] from rfl] at hA hval
  obtain ⟨v0, vs0, d0, ds0, p0, q0, hargs, rfl, rfl, h0, r0⟩ := trodAll_cons hA
  obtain ⟨v1, vs1, d1, ds1, p1, q1, rfl, rfl, rfl, h1, r1⟩ := trodAll_cons r0
  obtain ⟨v2, vs2, d2, ds2, p2, q2, rfl, rfl, rfl, h2, r2⟩ := trodAll_cons r1
  obtain ⟨rfl, rfl, rfl⟩ := trodAll_nil r2
  obtain rfl : args = #[v0, v1, v2] := by cases args; simp_all
  obtain ⟨rfl, rfl⟩ := trodVars_none hV
  have k0 := h0
  have lt0 : ∀ x ∈ p0, x.block < W.heap.size := by obtain ⟨m, hm⟩ := k0; exact DataW.trod_lt m _ _ _ hm
  obtain ⟨ad0, ln0, cp0, rfl⟩ := okWide_slice Try.underlying41 (hval 0 41 v0 rfl rfl)
  obtain ⟨X0, hX0⟩ : ∃ X, Sl RV3 3 W (.slice ad0 ln0 cp0) X := by obtain ⟨m, hm⟩ := h0; obtain ⟨X, y, e, s⟩ := rd41 _ _ _ _ _ _ _ _ hm; cases e; exact ⟨X, s⟩
  have k1 := h1
  have lt1 : ∀ x ∈ p1, x.block < W.heap.size := by obtain ⟨m, hm⟩ := k1; exact DataW.trod_lt m _ _ _ hm
  obtain ⟨ad1, ln1, cp1, rfl⟩ := okWide_slice Try.underlying25 (hval 1 25 v1 rfl rfl)
  obtain ⟨X1, hX1⟩ : ∃ X, Sl RF 1 W (.slice ad1 ln1 cp1) X := by obtain ⟨m, hm⟩ := h1; obtain ⟨X, y, e, s⟩ := rd25 _ _ _ _ _ _ _ _ hm; cases e; exact ⟨X, s⟩
  have k2 := h2
  have lt2 : ∀ x ∈ p2, x.block < W.heap.size := by obtain ⟨m, hm⟩ := k2; exact DataW.trod_lt m _ _ _ hm
  obtain ⟨a2, rfl⟩ := okWide_int Try.underlying2 (hval 2 2 v2 rfl rfl)
  clear hA0 hval0
  refine (law_of (c_laws_FnExactPartBalls (.slice ad0 ln0 cp0) X0 (.slice ad1 ln1 cp1) X1 a2 W hX0 hX1)).mono fun e W' ⟨he, bel⟩ => ?_
  subst he
  exact ⟨_, rfl, _, _, _, [], _, [], hW', trodAll_mk1 (shut_bool Try.underlying4 _), (trodAll_cons_mk (Below.trod laidOut (by kernel_rfl) (of_decide_eq_true (by kernel_rfl)) k0 bel lt0) (trodAll_cons_mk (Below.trod laidOut (by kernel_rfl) (of_decide_eq_true (by kernel_rfl)) k1 bel lt1) (trodAll_cons_mk (Below.trod laidOut (by kernel_rfl) (of_decide_eq_true (by kernel_rfl)) k2 bel lt2) trodAll_mk0))), rfl, bel.frame _, fun h => by cases h⟩

theorem closed0 : (Rows.fnExactPartBallsRow.wf (OpenSpec.ofChange Rows.fnExactPartBallsSpec)) = true := by kernel_rfl
theorem closed1 : (laidOutB Try.prog) = true := by kernel_rfl
theorem closed2 : (mapsRowed Try.prog) = true := by kernel_rfl
theorem closed3 : (Try.f5.params.all (Try.prog.readableRec ·) && namedTie Try.prog Rows.fnExactPartBallsRow.named Rows.fnExactPartBallsSpec.vars) = true := by kernel_rfl
theorem closed4 : ((Rows.fnExactPartBallsRow.stops == []) && (Try.prog.stops == []) && (Rows.fnExactPartBallsRow.knobs == []) && (Try.prog.stopKnobs == [])) = true := by kernel_rfl
theorem closed5 : (Rows.fnExactPartBallsRow.inPlace == Try.prog.inPlace 5) = true := by kernel_rfl
theorem closed6 : (Rows.fnExactPartBallsRow.unfollowed == Try.prog.unfollowed 5) = true := by kernel_rfl
theorem closed7 : (Rows.fnExactPartBallsRow.recurses == Try.prog.recurses 5) = true := by kernel_rfl
theorem closed8 : (Rows.fnExactPartBallsRow.named == Try.prog.varsNamed 5) = true := by kernel_rfl
theorem closed9 : ((Rows.fnExactPartBallsRow.maps == (Try.f5.params.toList ++ Rows.fnExactPartBallsSpec.plain.varTypes Try.prog).any (Try.prog.mapsRec ·)) && (Rows.fnExactPartBallsRow.ifaces == (Try.f5.params.toList ++ Rows.fnExactPartBallsSpec.plain.varTypes Try.prog).any (Try.prog.ifacesRec ·)) && (Rows.fnExactPartBallsRow.mapsOut == Try.prog.mapsAmong Try.f5.resultTypes.toList)) = true := by kernel_rfl
theorem closed10 : ((Rows.fnExactPartBallsRow.loops == (Try.f5.params.toList ++ Rows.fnExactPartBallsSpec.plain.varTypes Try.prog).any (Try.prog.loopsFrom ·)) && (Rows.fnExactPartBallsRow.wideKeys == (Try.f5.params.toList ++ Rows.fnExactPartBallsSpec.plain.varTypes Try.prog ++ Try.f5.resultTypes.toList).any (Try.prog.wideKeysFrom ·))) = true := by kernel_rfl
theorem closed11 : (Rows.fnExactPartBallsSpec.vars.all (Try.prog.varReadable ·) && Try.f5.resultTypes.all (fun t => Try.prog.readableRec t && decide (t < Try.prog.types.size)) && (Rows.fnExactPartBallsRow.ifacesOut == Try.f5.resultTypes.toList.any (Try.prog.ifacesRec ·)) && (Rows.fnExactPartBallsRow.loopsOut == Try.f5.resultTypes.toList.any (Try.prog.loopsFrom ·))) = true := by kernel_rfl
theorem closed12 : (Rows.fnExactPartBallsRow.plainKeys == Try.prog.plainKeys) = true := by kernel_rfl
theorem closed13 : (Rows.fnExactPartBallsRow.shortTexts.isNone && Try.prog.stopsHeard) = true := by kernel_rfl
theorem closed14 : ((Rows.fnExactPartBallsRow.veiled == (Try.f5.params.toList ++ Rows.fnExactPartBallsSpec.plain.varTypes Try.prog ++ Try.f5.resultTypes.toList).any (Try.prog.veiledRec ·)) && Rows.fnExactPartBallsRow.veiledFits Try.prog Try.f5.params.toList (Try.f5.params.toList ++ Rows.fnExactPartBallsSpec.plain.varTypes Try.prog ++ Try.f5.resultTypes.toList)) = true := by kernel_rfl
theorem closed15 : (Try.prog.mayEnter) = true := by kernel_rfl
theorem closed16 : (Rows.fnExactPartBallsRow.lifted == Try.prog.liftsFinal) = true := by kernel_rfl
theorem closed17 : (Try.prog.make == some Rows.fnExactPartBallsRow.make) = true := by kernel_rfl
theorem closed18 : (kindsFit Try.prog Try.f5 Rows.fnExactPartBallsRow) = true := by kernel_rfl
theorem closed19 : (Rows.fnExactPartBallsRow.pinned == Rows.fnExactPartBallsRow.pinnedBy) = true := by kernel_rfl
set_option maxRecDepth 100000 in
theorem closed : joinedFacts Try.prog 5 Try.f5 Rows.fnExactPartBallsSpec Rows.fnExactPartBallsRow = true := joined_of closed0 closed1 closed2 closed3 closed4 closed5 closed6 closed7 closed8 closed9 closed10 closed11 closed12 closed13 closed14 closed15 closed16 closed17 closed18 closed19
theorem named : Try.prog.funcNamed Rows.fnExactPartBallsRow.func = some 5 := by kernel_rfl

theorem over : Rows.fnExactPartBallsRow.holds Try.pinned (OpenSpec.ofChange Rows.fnExactPartBallsSpec) :=
  OpenClaim.holds_of_wide 5 Try.f5 rfl rfl rfl rfl rfl rfl rfl ⟨rfl, rfl, rfl, rfl, rfl⟩ rfl rfl rfl rfl rfl named Try.func5 closed
    (of_decide_eq_true (by kernel_rfl)) (by unfold Func.isWrapper; first | (rw [if_pos (by decide +kernel)]; kernel_rfl) | (rw [if_neg (by decide +kernel)]; exact ⟨rfl, rfl⟩))
    (fun os started H enc _ => lifted os started H enc)

theorem proved : Rows.FnExactPartBallsSaid := over
#print axioms proved
end Go.Proofs.Ytcmcooabaglbpaa.fnExactPartBalls
