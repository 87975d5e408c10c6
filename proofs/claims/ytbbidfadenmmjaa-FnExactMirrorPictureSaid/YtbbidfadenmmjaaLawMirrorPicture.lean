/- It is proved that for every input, the law of this name returns true: the program's function returns what the reference's returns. -/
import Derived.Test.YtbbidfadenmmjaaRows
import Derived.Test.YtbbidfadenmmjaaQ
import Derived.Test.YtbbidfadenmmjaaOpen
import Derived.Test.YtbbidfadenmmjaaRd
import Derived.WalkKit
import Derived.ProofKit
import Derived.OpenShut
import Derived.ChangeOld
import Derived.Below
namespace Go.Proofs.Ytbbidfadenmmjaa.fnExactMirrorPicture
open Go Go.ChangeShapes Go.WideShapes Go.ChangeAt Go.RowKit
open Go.ChangeMaps (open_string shut_string)
set_option linter.unusedVariables false

theorem own : ownKnob Try.prog.godebug = none := by kernel_rfl
theorem laidOut : laidOutB Try.prog = true := by kernel_rfl

set_option maxRecDepth 100000 in
theorem lifted (os : Os) (started : os.Started) (H : Type) (enc : TypeId × Value → H) :
    ReturnsInHanded {} Try.checked os 7 .any (Rows.fnExactMirrorPictureSpec.pre6 enc Try.prog Try.f7 Rows.fnExactMirrorPictureRow.domain false) (Rows.fnExactMirrorPictureSpec.post enc Try.prog Try.f7 false true false false) := by
  refine returnsInHanded_of_change (C := Try.checked) own started (by kernel_rfl) Try.func7
    (ChangeSpec.witness6 (enc := enc) (C := Try.checked) false ⟨#[], #[(.agg #[(Fl 0), (Fl 0), (Fl 0), (Fl 0), (Fl 0), (Fl 0), (Fl 0), (Iv 0), (Iv 0)]), (.string (⟨#[]⟩))], []⟩ 8 (by kernel_rfl) (by kernel_rfl) (by kernel_rfl) (by kernel_rfl)) ?_
  intro W base args ds gs before hval0 hW hcnd _
  have hval : ∀ (j : Nat) t v, Try.f7.params[j]? = some t → args[j]? = some v → Value.okWide Try.prog W .any base t v := hval0
  have hW' := hW
  obtain ⟨p, q, hA0, hV, rfl, hfz, hnd⟩ := hW
  have hA : DataW.TrodAll enc Try.prog W 0 (fun _ => true) true Try.f7.params.toList args.toList ds p := hA0
  rw [show Try.f7.params = #[45, 9] from rfl] at hA hval
  obtain ⟨v0, vs0, d0, ds0, p0, q0, hargs, rfl, rfl, h0, r0⟩ := trodAll_cons hA
  obtain ⟨v1, vs1, d1, ds1, p1, q1, rfl, rfl, rfl, h1, r1⟩ := trodAll_cons r0
  obtain ⟨rfl, rfl, rfl⟩ := trodAll_nil r1
  obtain rfl : args = #[v0, v1] := by cases args; simp_all
  obtain ⟨rfl, rfl⟩ := trodVars_none hV
  have k0 := h0
  have lt0 : ∀ x ∈ p0, x.block < W.heap.size := by obtain ⟨m, hm⟩ := k0; exact DataW.trod_lt m _ _ _ hm
  obtain ⟨cs0, rfl⟩ := okStruct (P := Try.prog) (t := 45) (by rw [Try.underlying45]) (hval 0 45 v0 rfl rfl)
  obtain ⟨X0, hX0⟩ : ∃ X, RCamT W X cs0 := by obtain ⟨m, hm⟩ := h0; exact rd45 _ _ _ _ _ _ _ _ hm
  have k1 := h1
  have lt1 : ∀ x ∈ p1, x.block < W.heap.size := by obtain ⟨m, hm⟩ := k1; exact DataW.trod_lt m _ _ _ hm
  obtain ⟨a1, rfl, _, _, s1⟩ := open_string Try.underlying9 (hval 1 9 v1 rfl rfl) h1
  clear hA0 hval0
  refine (law_of (c_laws_FnExactMirrorPicture cs0 X0 a1 W hX0)).mono fun e W' ⟨he, bel⟩ => ?_
  subst he
  exact ⟨_, rfl, _, _, _, [], _, [], hW', trodAll_mk1 (shut_bool Try.underlying4 _), (trodAll_cons_mk (Below.trod laidOut (by kernel_rfl) (of_decide_eq_true (by kernel_rfl)) k0 bel lt0) (trodAll_cons_mk (Below.trod laidOut (by kernel_rfl) (of_decide_eq_true (by kernel_rfl)) k1 bel lt1) trodAll_mk0)), rfl, bel.frame _, fun h => by cases h⟩

theorem closed0 : (Rows.fnExactMirrorPictureRow.wf (OpenSpec.ofChange Rows.fnExactMirrorPictureSpec)) = true := by kernel_rfl
theorem closed1 : (laidOutB Try.prog) = true := by kernel_rfl
theorem closed2 : (mapsRowed Try.prog) = true := by kernel_rfl
theorem closed3 : (Try.f7.params.all (Try.prog.readableRec ·) && namedTie Try.prog Rows.fnExactMirrorPictureRow.named Rows.fnExactMirrorPictureSpec.vars) = true := by kernel_rfl
theorem closed4 : ((Rows.fnExactMirrorPictureRow.stops == []) && (Try.prog.stops == []) && (Rows.fnExactMirrorPictureRow.knobs == []) && (Try.prog.stopKnobs == [])) = true := by kernel_rfl
theorem closed5 : (Rows.fnExactMirrorPictureRow.inPlace == Try.prog.inPlace 7) = true := by kernel_rfl
theorem closed6 : (Rows.fnExactMirrorPictureRow.unfollowed == Try.prog.unfollowed 7) = true := by kernel_rfl
theorem closed7 : (Rows.fnExactMirrorPictureRow.recurses == Try.prog.recurses 7) = true := by kernel_rfl
theorem closed8 : (Rows.fnExactMirrorPictureRow.named == Try.prog.varsNamed 7) = true := by kernel_rfl
theorem closed9 : ((Rows.fnExactMirrorPictureRow.maps == (Try.f7.params.toList ++ Rows.fnExactMirrorPictureSpec.plain.varTypes Try.prog).any (Try.prog.mapsRec ·)) && (Rows.fnExactMirrorPictureRow.ifaces == (Try.f7.params.toList ++ Rows.fnExactMirrorPictureSpec.plain.varTypes Try.prog).any (Try.prog.ifacesRec ·)) && (Rows.fnExactMirrorPictureRow.mapsOut == Try.prog.mapsAmong Try.f7.resultTypes.toList)) = true := by kernel_rfl
theorem closed10 : ((Rows.fnExactMirrorPictureRow.loops == (Try.f7.params.toList ++ Rows.fnExactMirrorPictureSpec.plain.varTypes Try.prog).any (Try.prog.loopsFrom ·)) && (Rows.fnExactMirrorPictureRow.wideKeys == (Try.f7.params.toList ++ Rows.fnExactMirrorPictureSpec.plain.varTypes Try.prog ++ Try.f7.resultTypes.toList).any (Try.prog.wideKeysFrom ·))) = true := by kernel_rfl
theorem closed11 : (Rows.fnExactMirrorPictureSpec.vars.all (Try.prog.varReadable ·) && Try.f7.resultTypes.all (fun t => Try.prog.readableRec t && decide (t < Try.prog.types.size)) && (Rows.fnExactMirrorPictureRow.ifacesOut == Try.f7.resultTypes.toList.any (Try.prog.ifacesRec ·)) && (Rows.fnExactMirrorPictureRow.loopsOut == Try.f7.resultTypes.toList.any (Try.prog.loopsFrom ·))) = true := by kernel_rfl
theorem closed12 : (Rows.fnExactMirrorPictureRow.plainKeys == Try.prog.plainKeys) = true := by kernel_rfl
theorem closed13 : (Rows.fnExactMirrorPictureRow.shortTexts.isNone && Try.prog.stopsHeard) = true := by kernel_rfl
theorem closed14 : ((Rows.fnExactMirrorPictureRow.veiled == (Try.f7.params.toList ++ Rows.fnExactMirrorPictureSpec.plain.varTypes Try.prog ++ Try.f7.resultTypes.toList).any (Try.prog.veiledRec ·)) && Rows.fnExactMirrorPictureRow.veiledFits Try.prog Try.f7.params.toList (Try.f7.params.toList ++ Rows.fnExactMirrorPictureSpec.plain.varTypes Try.prog ++ Try.f7.resultTypes.toList)) = true := by kernel_rfl
theorem closed15 : (Try.prog.mayEnter) = true := by kernel_rfl
theorem closed16 : (Rows.fnExactMirrorPictureRow.lifted == Try.prog.liftsFinal) = true := by kernel_rfl
theorem closed17 : (Try.prog.make == some Rows.fnExactMirrorPictureRow.make) = true := by kernel_rfl
theorem closed18 : (kindsFit Try.prog Try.f7 Rows.fnExactMirrorPictureRow) = true := by kernel_rfl
theorem closed19 : (Rows.fnExactMirrorPictureRow.pinned == Rows.fnExactMirrorPictureRow.pinnedBy) = true := by kernel_rfl
set_option maxRecDepth 100000 in
theorem closed : joinedFacts Try.prog 7 Try.f7 Rows.fnExactMirrorPictureSpec Rows.fnExactMirrorPictureRow = true := joined_of closed0 closed1 closed2 closed3 closed4 closed5 closed6 closed7 closed8 closed9 closed10 closed11 closed12 closed13 closed14 closed15 closed16 closed17 closed18 closed19
theorem named : Try.prog.funcNamed Rows.fnExactMirrorPictureRow.func = some 7 := by kernel_rfl

theorem over : Rows.fnExactMirrorPictureRow.holds Try.pinned (OpenSpec.ofChange Rows.fnExactMirrorPictureSpec) :=
  OpenClaim.holds_of_wide 7 Try.f7 rfl rfl rfl rfl rfl rfl rfl ⟨rfl, rfl, rfl, rfl, rfl⟩ rfl rfl rfl rfl rfl named Try.func7 closed
    (of_decide_eq_true (by kernel_rfl)) (by unfold Func.isWrapper; first | (rw [if_pos (by decide +kernel)]; kernel_rfl) | (rw [if_neg (by decide +kernel)]; exact ⟨rfl, rfl⟩))
    (fun os started H enc _ => lifted os started H enc)

theorem proved : Rows.FnExactMirrorPictureSaid := over
#print axioms proved
end Go.Proofs.Ytbbidfadenmmjaa.fnExactMirrorPicture
