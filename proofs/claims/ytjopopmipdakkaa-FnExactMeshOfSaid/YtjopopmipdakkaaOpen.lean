/- what the values that a law is handed are, by their types -/
import Derived.Test.YtjopopmipdakkaaBase
import Derived.ProofKit
import Derived.Below
import Derived.ShutString
import Derived.Laws.Cover2
namespace Go.Proofs.Ytjopopmipdakkaa
open Go Go.RowKit Go.WideShapes
theorem okAgg {P : Program} {w : World} {r : Reach} {base : Nat} {t : TypeId} {v : Value} {ts : List TypeId} (n : Nat) (hu : (match P.underlying t with | some (.struct _) | some (.array _ _) => true | _ => false) = true)
    (hc : P.cellTypes P.depth t = some ts) (hC : P.cellsOf t = n) (_hn : ts.length = n) (h : Value.okWide P w r base t v) :
    ∃ cs : List Value, v = .agg cs.toArray ∧ cs.length = n ∧ ∀ (i : Nat) (x : Value) (u : TypeId), cs[i]? = some x → ts[i]? = some u → Cell.okWide P w r base u x := by
  have h' : ∃ cs : Array Value, v = .agg cs ∧ cs.size = P.cellsOf t ∧ Row.okWide P w r base t cs := by
    unfold Value.okWide at h
    split at hu <;> simp_all
  obtain ⟨cs, rfl, hs, ts', hc', _, hk⟩ := h'
  rw [hc] at hc'; cases hc'
  refine ⟨cs.toList, rfl, by simpa [hC] using hs, fun i x u hi hu => ?_⟩
  obtain ⟨u', hu', hk'⟩ := hk i x (by simpa using hi)
  have hlt : i < ts.length := (List.getElem?_eq_some_iff.1 hu).1
  rw [Nat.mod_eq_of_lt hlt, hu] at hu'
  cases hu'; exact hk'
theorem law_of {P : Program} {f : FuncId} {args : Array Value} {w : World} (h : Gives P f args w (fun v _ => v = .bool true)) :
    Calls P f args w fun e w' => e = .returned (.bool true) ∧ Below w.heap.size w w' := Calls.mono h fun e w' ⟨v, he, hx, hv⟩ => ⟨by rw [he, hv], hx⟩
def kindsFit (P : Program) (fn : Func) (c : OpenClaim) : Bool := (c.kinds == (if c.domain.isEmpty then [] else fn.params.toList.map fun t => match P.underlying t with | some (.int k) => some k | _ => none))
theorem joined_of {P : Program} {f : FuncId} {fn : Func} {s : ChangeSpec} {c : OpenClaim} (h0 : c.wf (OpenSpec.ofChange s) = true) (h1 : laidOutB P = true) (h2 : mapsRowed P = true)
    (h3 : (fn.params.all (P.readableRec ·) && namedTie P c.named s.vars) = true) (h4 : ((c.stops == []) && (P.stops == []) && (c.knobs == []) && (P.stopKnobs == [])) = true)
    (h5 : (c.inPlace == P.inPlace f) = true) (h6 : (c.unfollowed == P.unfollowed f) = true) (h7 : (c.recurses == P.recurses f) = true) (h8 : (c.named == P.varsNamed f) = true)
    (h9 : ((c.maps == (fn.params.toList ++ s.plain.varTypes P).any (P.mapsRec ·)) && (c.ifaces == (fn.params.toList ++ s.plain.varTypes P).any (P.ifacesRec ·)) && (c.mapsOut == P.mapsAmong fn.resultTypes.toList)) = true)
    (h10 : ((c.loops == (fn.params.toList ++ s.plain.varTypes P).any (P.loopsFrom ·)) && (c.wideKeys == (fn.params.toList ++ s.plain.varTypes P ++ fn.resultTypes.toList).any (P.wideKeysFrom ·))) = true)
    (h11 : (s.vars.all (P.varReadable ·) && fn.resultTypes.all (fun t => P.readableRec t && decide (t < P.types.size)) && (c.ifacesOut == fn.resultTypes.toList.any (P.ifacesRec ·)) && (c.loopsOut == fn.resultTypes.toList.any (P.loopsFrom ·))) = true)
    (h12 : (c.plainKeys == P.plainKeys) = true) (h13 : (c.shortTexts.isNone && P.stopsHeard) = true)
    (h14 : ((c.veiled == (fn.params.toList ++ s.plain.varTypes P ++ fn.resultTypes.toList).any (P.veiledRec ·)) && c.veiledFits P fn.params.toList (fn.params.toList ++ s.plain.varTypes P ++ fn.resultTypes.toList)) = true)
    (h15 : P.mayEnter = true) (h16 : (c.lifted == P.liftsFinal) = true) (h17 : (P.make == some c.make) = true) (h18 : kindsFit P fn c = true) (h19 : (c.pinned == c.pinnedBy) = true) :
    joinedFacts P f fn s c = true := by
  simp only [Bool.and_eq_true] at h3 h4 h9 h10 h11 h13 h14
  unfold joinedFacts
  simp only [Bool.and_eq_true, h0, h1, h2, h3, h4, h5, h6, h7, h8, h9, h10, h11, h12, h13, h14, h15, h16, h17, h19, and_true, true_and]
  exact h18
end Go.Proofs.Ytjopopmipdakkaa
