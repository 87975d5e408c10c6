/- what the values that a law is handed are, by their types -/
import Derived.Test.YthmejogjmjjmgaaBase
import Derived.ProofKit
import Derived.Below
import Derived.ShutString
import Derived.Laws.Cover2
namespace Go.Proofs.Ythmejogjmjjmgaa
open Go Go.RowKit Go.WideShapes

theorem okAgg {P : Program} {w : World} {r : Reach} {base : Nat} {t : TypeId} {v : Value} {ts : List TypeId} (n : Nat) (hu : (match P.underlying t with | some (.struct _) | some (.array _ _) => true | _ => false) = true)
    (hc : P.cellTypes P.depth t = some ts) (hC : P.cellsOf t = n) (_hn : ts.length = n) (h : Value.okWide P w r base t v) :
    ∃ cs : List Value, v = .agg cs.toArray ∧ cs.length = n ∧ ∀ (i : Nat) (x : Value) (u : TypeId), cs[i]? = some x → ts[i]? = some u → Cell.okWide P w r base u x := by
  have h' : ∃ cs : Array Value, v = .agg cs ∧ cs.size = P.cellsOf t ∧ Row.okWide P w r base t cs := by
    unfold Value.okWide at h
    split at hu <;> simp_all
  obtain ⟨cs, rfl, hs, ts', hc', _, hk⟩ := h'
  rw [hc] at hc'; cases hc'
  refine ⟨cs.toList, rfl, by simpa [hC] using hs, fun i x u hi hu => ?_⟩
  obtain ⟨u', hu', hk'⟩ := hk i x (by simpa using hi)
  have hlt : i < ts.length := (List.getElem?_eq_some_iff.1 hu).1
  rw [Nat.mod_eq_of_lt hlt, hu] at hu'
  cases hu'; exact hk'
theorem list0 {l : List Value} (h : l.length = 0) : l = [] := List.length_eq_zero_iff.1 h
theorem listS {l : List Value} {n : Nat} (h : l.length = n + 1) : ∃ x l', l = x :: l' ∧ l'.length = n := by
  cases l with
  | nil => simp at h
  | cons x l' => exact ⟨x, l', rfl, by simpa using h⟩
theorem cell_okWide {P : Program} {w : World} {r : Reach} {base : Nat} {t : TypeId} {v : Value} (hu : (match P.underlying t with | some (.struct _) | some (.array _ _) => true | _ => false) = false)
    (h : Cell.okWide P w r base t v) : Value.okWide P w r base t v := by
  unfold Value.okWide
  split at hu <;> simp_all
/-- from the contract to the row's word -/
theorem law_of {P : Program} {f : FuncId} {args : Array Value} {w : World} (h : Gives P f args w (fun v _ => v = .bool true)) :
    Calls P f args w fun e w' => e = .returned (.bool true) ∧ Below w.heap.size w w' := Calls.mono h fun e w' ⟨v, he, hx, hv⟩ => ⟨by rw [he, hv], hx⟩
end Go.Proofs.Ythmejogjmjjmgaa
