/- rows: out of slices of one's own, and copies of slices that are read -/
import Derived.Test.YtjopopmipdakkaaRwg
import Derived.Laws.Cover3
namespace Go.Proofs.Ytjopopmipdakkaa
open Go Go.RowKit
section
variable {α : Type} {R : Rel α} {k : Nat} {w u : World} {xs : List α}
theorem Own.rowg {g0 B n q : Nat} {e : TypeId} {p : Option Addr} (h : Own R k e g0 B w (.slice p n q) xs) (hn : 0 < xs.length) : ∃ g, p = some ⟨g, 0, none⟩ ∧ (g = g0 ∨ B ≤ g) ∧ RowG R k w g xs ∧ n ≤ q := by
  obtain ⟨rows, hr, hg, hx⟩ := h
  rcases hr.2 with ⟨hv, hn'⟩ | ⟨g, cap, cur, hv, hb, hgg, hnc, hcm, hsz, ht⟩
  · omega
  · cases hv
    refine ⟨g, rfl, hg g rfl, ⟨cur.toList, ⟨e, by simpa using hgg⟩, by have h := Nat.mul_le_mul_right k hnc; rw [← hsz] at h; simpa using h, fun i x hi => ?_⟩, hnc⟩
    have hlt := (List.getElem?_eq_some_iff.1 hi).1
    have h1 : i * k + k ≤ xs.length * k := by
      calc i * k + k = (i + 1) * k := by rw [Nat.add_mul, Nat.one_mul]
        _ ≤ _ := Nat.mul_le_mul_right _ hlt
    have : (cur.toList.drop (i * k)).take k = (rows.drop (i * k)).take k := by
      rw [← ht, List.drop_take, List.take_take]
      congr 1; omega
    rw [this]; exact hx i x hi
end
end Go.Proofs.Ytjopopmipdakkaa
