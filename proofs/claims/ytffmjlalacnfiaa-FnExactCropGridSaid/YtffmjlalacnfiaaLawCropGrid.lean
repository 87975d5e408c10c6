/- It is proved that for every input, the law of this name returns true: the program's function returns what the reference's returns. -/
import Derived.Test.YtffmjlalacnfiaaRows
import Derived.Test.YtffmjlalacnfiaaA5
import Derived.Test.YtffmjlalacnfiaaOpen
import Derived.Test.YtffmjlalacnfiaaRd
import Derived.WalkKit
import Derived.ProofKit
import Derived.OpenShut
import Derived.ChangeOld
import Derived.Below
namespace Go.Proofs.Ytffmjlalacnfiaa.fnExactCropGrid
open Go Go.ChangeShapes Go.WideShapes Go.ChangeAt Go.RowKit
open Go.ChangeMaps (open_string shut_string)
set_option linter.unusedVariables false

theorem own : ownKnob Try.prog.godebug = none := by kernel_rfl
theorem laidOut : laidOutB Try.prog = true := by kernel_rfl

set_option maxRecDepth 100000 in
theorem lifted (os : Os) (started : os.Started) (H : Type) (enc : TypeId × Value → H) :
    ReturnsInHanded {} Try.checked os 4 .any (Rows.fnExactCropGridSpec.pre6 enc Try.prog Try.f4 Rows.fnExactCropGridRow.domain false) (Rows.fnExactCropGridSpec.post enc Try.prog Try.f4 false true false false) := by
  refine returnsInHanded_of_change (C := Try.checked) own started (by kernel_rfl) Try.func4
    (ChangeSpec.witness6 (enc := enc) (C := Try.checked) false ⟨#[], #[(.agg #[(Fl 0), (Fl 0), (Fl 0), (Fl 0), (Iv 0), (Iv 0), (Iv 0), (.slice none 0 0)]), (.slice none 0 0), (.slice none 0 0)], []⟩ 8 (by kernel_rfl) (by kernel_rfl) (by kernel_rfl) (by kernel_rfl)) ?_
  intro W base args ds gs before hval0 hW hcnd _
  have hval : ∀ (j : Nat) t v, Try.f4.params[j]? = some t → args[j]? = some v → Value.okWide Try.prog W .any base t v := hval0
  have hW' := hW
  obtain ⟨p, q, hA0, hV, rfl, hfz, hnd⟩ := hW
  have hA : DataW.TrodAll enc Try.prog W 0 (fun _ => true) true Try.f4.params.toList args.toList ds p := hA0
  rw [show Try.f4.params = #[27, 38, 38] from rfl] at hA hval
  obtain ⟨v0, vs0, d0, ds0, p0, q0, hargs, rfl, rfl, h0, r0⟩ := trodAll_cons hA
  obtain ⟨v1, vs1, d1, ds1, p1, q1, rfl, rfl, rfl, h1, r1⟩ := trodAll_cons r0
  obtain ⟨v2, vs2, d2, ds2, p2, q2, rfl, rfl, rfl, h2, r2⟩ := trodAll_cons r1
  obtain ⟨rfl, rfl, rfl⟩ := trodAll_nil r2
  obtain rfl : args = #[v0, v1, v2] := by cases args; simp_all
  obtain ⟨rfl, rfl⟩ := trodVars_none hV
  have k0 := h0
  have lt0 : ∀ x ∈ p0, x.block < W.heap.size := by obtain ⟨m, hm⟩ := k0; exact DataW.trod_lt m _ _ _ hm
  obtain ⟨cs0, rfl⟩ := okStruct (P := Try.prog) (t := 27) (by rw [Try.underlying27]) (hval 0 27 v0 rfl rfl)
  obtain ⟨X0, hX0⟩ : ∃ X, RGridT W X cs0 := by obtain ⟨m, hm⟩ := h0; exact rd27 _ _ _ _ _ _ _ _ hm
  have k1 := h1
  have lt1 : ∀ x ∈ p1, x.block < W.heap.size := by obtain ⟨m, hm⟩ := k1; exact DataW.trod_lt m _ _ _ hm
  obtain ⟨ad1, ln1, cp1, rfl⟩ := okWide_slice Try.underlying38 (hval 1 38 v1 rfl rfl)
  obtain ⟨X1, hX1⟩ : ∃ X, Sl RI 1 W (.slice ad1 ln1 cp1) X := by obtain ⟨m, hm⟩ := h1; obtain ⟨X, y, e, s⟩ := rd38 _ _ _ _ _ _ _ _ hm; cases e; exact ⟨X, s⟩
  have k2 := h2
  have lt2 : ∀ x ∈ p2, x.block < W.heap.size := by obtain ⟨m, hm⟩ := k2; exact DataW.trod_lt m _ _ _ hm
  obtain ⟨ad2, ln2, cp2, rfl⟩ := okWide_slice Try.underlying38 (hval 2 38 v2 rfl rfl)
  obtain ⟨X2, hX2⟩ : ∃ X, Sl RI 1 W (.slice ad2 ln2 cp2) X := by obtain ⟨m, hm⟩ := h2; obtain ⟨X, y, e, s⟩ := rd38 _ _ _ _ _ _ _ _ hm; cases e; exact ⟨X, s⟩
  clear hA0 hval0
  refine (law_of (c_laws_FnExactCropGrid cs0 X0 (.slice ad1 ln1 cp1) X1 (.slice ad2 ln2 cp2) X2 W hX0 hX1 hX2)).mono fun e W' ⟨he, bel⟩ => ?_
  subst he
  exact ⟨_, rfl, _, _, _, [], _, [], hW', trodAll_mk1 (shut_bool Try.underlying4 _), (trodAll_cons_mk (Below.trod laidOut (by kernel_rfl) (of_decide_eq_true (by kernel_rfl)) k0 bel lt0) (trodAll_cons_mk (Below.trod laidOut (by kernel_rfl) (of_decide_eq_true (by kernel_rfl)) k1 bel lt1) (trodAll_cons_mk (Below.trod laidOut (by kernel_rfl) (of_decide_eq_true (by kernel_rfl)) k2 bel lt2) trodAll_mk0))), rfl, bel.frame _, fun h => by cases h⟩

theorem closed0 : (Rows.fnExactCropGridRow.wf (OpenSpec.ofChange Rows.fnExactCropGridSpec)) = true := by kernel_rfl
theorem closed1 : (laidOutB Try.prog) = true := by kernel_rfl
theorem closed2 : (mapsRowed Try.prog) = true := by kernel_rfl
theorem closed3 : (Try.f4.params.all (Try.prog.readableRec ·) && namedTie Try.prog Rows.fnExactCropGridRow.named Rows.fnExactCropGridSpec.vars) = true := by kernel_rfl
theorem closed4 : ((Rows.fnExactCropGridRow.stops == []) && (Try.prog.stops == []) && (Rows.fnExactCropGridRow.knobs == []) && (Try.prog.stopKnobs == [])) = true := by kernel_rfl
theorem closed5 : (Rows.fnExactCropGridRow.inPlace == Try.prog.inPlace 4) = true := by kernel_rfl
theorem closed6 : (Rows.fnExactCropGridRow.unfollowed == Try.prog.unfollowed 4) = true := by kernel_rfl
theorem closed7 : (Rows.fnExactCropGridRow.recurses == Try.prog.recurses 4) = true := by kernel_rfl
theorem closed8 : (Rows.fnExactCropGridRow.named == Try.prog.varsNamed 4) = true := by kernel_rfl
theorem closed9 : ((Rows.fnExactCropGridRow.maps == (Try.f4.params.toList ++ Rows.fnExactCropGridSpec.plain.varTypes Try.prog).any (Try.prog.mapsRec ·)) && (Rows.fnExactCropGridRow.ifaces == (Try.f4.params.toList ++ Rows.fnExactCropGridSpec.plain.varTypes Try.prog).any (Try.prog.ifacesRec ·)) && (Rows.fnExactCropGridRow.mapsOut == Try.prog.mapsAmong Try.f4.resultTypes.toList)) = true := by kernel_rfl
theorem closed10 : ((Rows.fnExactCropGridRow.loops == (Try.f4.params.toList ++ Rows.fnExactCropGridSpec.plain.varTypes Try.prog).any (Try.prog.loopsFrom ·)) && (Rows.fnExactCropGridRow.wideKeys == (Try.f4.params.toList ++ Rows.fnExactCropGridSpec.plain.varTypes Try.prog ++ Try.f4.resultTypes.toList).any (Try.prog.wideKeysFrom ·))) = true := by kernel_rfl
theorem closed11 : (Rows.fnExactCropGridSpec.vars.all (Try.prog.varReadable ·) && Try.f4.resultTypes.all (fun t => Try.prog.readableRec t && decide (t < Try.prog.types.size)) && (Rows.fnExactCropGridRow.ifacesOut == Try.f4.resultTypes.toList.any (Try.prog.ifacesRec ·)) && (Rows.fnExactCropGridRow.loopsOut == Try.f4.resultTypes.toList.any (Try.prog.loopsFrom ·))) = true := by kernel_rfl
theorem closed12 : (Rows.fnExactCropGridRow.plainKeys == Try.prog.plainKeys) = true := by kernel_rfl
theorem closed13 : (Rows.fnExactCropGridRow.shortTexts.isNone && Try.prog.stopsHeard) = true := by kernel_rfl
theorem closed14 : ((Rows.fnExactCropGridRow.veiled == (Try.f4.params.toList ++ Rows.fnExactCropGridSpec.plain.varTypes Try.prog ++ Try.f4.resultTypes.toList).any (Try.prog.veiledRec ·)) && Rows.fnExactCropGridRow.veiledFits Try.prog Try.f4.params.toList (Try.f4.params.toList ++ Rows.fnExactCropGridSpec.plain.varTypes Try.prog ++ Try.f4.resultTypes.toList)) = true := by kernel_rfl
theorem closed15 : (Try.prog.mayEnter) = true := by kernel_rfl
theorem closed16 : (Rows.fnExactCropGridRow.lifted == Try.prog.liftsFinal) = true := by kernel_rfl
theorem closed17 : (Try.prog.make == some Rows.fnExactCropGridRow.make) = true := by kernel_rfl
theorem closed18 : (kindsFit Try.prog Try.f4 Rows.fnExactCropGridRow) = true := by kernel_rfl
theorem closed19 : (Rows.fnExactCropGridRow.pinned == Rows.fnExactCropGridRow.pinnedBy) = true := by kernel_rfl
set_option maxRecDepth 100000 in
theorem closed : joinedFacts Try.prog 4 Try.f4 Rows.fnExactCropGridSpec Rows.fnExactCropGridRow = true := joined_of closed0 closed1 closed2 closed3 closed4 closed5 closed6 closed7 closed8 closed9 closed10 closed11 closed12 closed13 closed14 closed15 closed16 closed17 closed18 closed19
theorem named : Try.prog.funcNamed Rows.fnExactCropGridRow.func = some 4 := by kernel_rfl

theorem over : Rows.fnExactCropGridRow.holds Try.pinned (OpenSpec.ofChange Rows.fnExactCropGridSpec) :=
  OpenClaim.holds_of_wide 4 Try.f4 rfl rfl rfl rfl rfl rfl rfl ⟨rfl, rfl, rfl, rfl, rfl⟩ rfl rfl rfl rfl rfl named Try.func4 closed
    (of_decide_eq_true (by kernel_rfl)) (by unfold Func.isWrapper; first | (rw [if_pos (by decide +kernel)]; kernel_rfl) | (rw [if_neg (by decide +kernel)]; exact ⟨rfl, rfl⟩))
    (fun os started H enc _ => lifted os started H enc)

theorem proved : Rows.FnExactCropGridSaid := over
#print axioms proved
end Go.Proofs.Ytffmjlalacnfiaa.fnExactCropGrid
