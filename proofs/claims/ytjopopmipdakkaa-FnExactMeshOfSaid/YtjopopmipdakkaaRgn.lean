/- Regions in any order that make several new blocks: these lie apart. -/
import Derived.Test.YtjopopmipdakkaaReg
namespace Go.Proofs.Ytjopopmipdakkaa
open Go Go.RowKit
def NewB (w : World) (v : Value) (w' : World) : Prop := ∃ b, v = .pointer (some ⟨b, 0, none⟩) ∧ w.heap.size ≤ b ∧ b < w'.heap.size
theorem doesG.mono {P : Program} {ops : Array Oper} {o : Oper} {a : Act} {w : World} {R R' : Value → World → Prop} (h : doesG P ops o a w R) (hr : ∀ v w', R v w' → R' v w') : doesG P ops o a w R' :=
  ⟨fun hw => (h.1 hw).mono hr, fun hw => hr _ _ (h.2 hw)⟩
def newN (ns : List Nat) (vals : Nat → Value) : Nat → List Value
  | 0 => []
  | k + 1 => if ns.contains k then vals k :: newN ns vals k else newN ns vals k
def Apart (ns : List Nat) (m : Nat) (U : List Nat) (vals : Nat → Value) (w : World) : Prop :=
  (∀ i, i < m → i ∉ U → ns.contains i = true → ∃ b, vals i = .pointer (some ⟨b, 0, none⟩) ∧ b < w.heap.size) ∧ ∀ i j, i < m → j < m → i ∉ U → j ∉ U → ns.contains i = true → ns.contains j = true → i ≠ j → vals i ≠ vals j
theorem newN_mem {ns : List Nat} {vals : Nat → Value} {v : Value} : ∀ {n : Nat}, v ∈ newN ns vals n → ∃ i, i < n ∧ ns.contains i = true ∧ vals i = v
  | 0, h => by cases h
  | n + 1, h => by
    unfold newN at h
    split at h
    · rename_i hc
      rcases List.mem_cons.1 h with rfl | h
      · exact ⟨n, by omega, hc, rfl⟩
      · obtain ⟨i, hi, hr⟩ := newN_mem h; exact ⟨i, by omega, hr⟩
    · obtain ⟨i, hi, hr⟩ := newN_mem h; exact ⟨i, by omega, hr⟩
theorem Apart.nodup {ns : List Nat} {m : Nat} {U : List Nat} {vals : Nat → Value} {w : World} (h : Apart ns m U vals w) (hall : ∀ i, i < m → i ∉ U) : ∀ n, n ≤ m → (newN ns vals n).Nodup
  | 0, _ => List.nodup_nil
  | n + 1, hn => by
    have ih := h.nodup hall n (by omega)
    unfold newN
    split
    · rename_i hc
      refine List.nodup_cons.2 ⟨fun hm => ?_, ih⟩
      obtain ⟨i, hi, hci, he⟩ := newN_mem hm
      exact h.2 i n (by omega) (by omega) (hall i (by omega)) (hall n (by omega)) hci hc (by omega) he
    · exact ih
end Go.Proofs.Ytjopopmipdakkaa
