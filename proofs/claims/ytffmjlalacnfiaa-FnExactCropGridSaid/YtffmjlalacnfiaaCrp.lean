/- a part of a grid -/
import Derived.Test.YtffmjlalacnfiaaTak
import Derived.Test.YtffmjlalacnfiaaMsh
namespace Go.Proofs.Ytffmjlalacnfiaa
open Go Go.RowKit

theorem sameX_selfI (l : List Int) : sameX eqI l l = true := sameX_self eqI_self l
structure I3T where
  a : Int
  b : Int
  c : Int
def RI3T : Rel I3T := fun _ x cs => cs = [Iv x.a, Iv x.b, Iv x.c]
theorem RI3T.mono : Mono RI3T := fun _ _ _ _ _ h => h
theorem RI3T.flat : Flat RI3T := fun _ _ _ _ h => h
theorem RI3T.any {w u : World} {x : I3T} {cs : List Value} (h : RI3T u x cs) : RI3T w x cs := h
def nth (L : List Int) (i : Nat) : Int := (L[i]?).getD 0
theorem nth_some {L : List Int} {i : Nat} (h : i < L.length) : L[i]? = some (nth L i) := by simp [nth, h]
section
variable {P : Program} {a : Act} {w : World} {dst : Option Tmp} {ty : TypeId} {pos : String} {af : Array Edge} {g : Option (Nat × Bool)}
theorem does_s2ap {t e : TypeId} {x : Operand} {p : Option Addr} {m c : Nat} {xs : List Int} (ht : P.underlying t = some (.array 3 e)) (hx : a.eval x = .slice p m c) (h : Sl RI 1 w (.slice p m c) xs) (hl : xs.length = 3) :
    does P ⟨dst, .sliceToArrayPointer t x, ty, pos, af, g⟩ a w (fun v w' => ∃ b off cs, v = .pointer (some ⟨b, off, none⟩) ∧ Cells w b off cs ∧ RI3T w ⟨nth xs 0, nth xs 1, nth xs 2⟩ cs ∧ w' = w) := by
  have hm : xs.length = m := by obtain ⟨_, p', c', h1, _⟩ := h; cases h1; rfl
  obtain ⟨b, off, c0, rfl, hc0, hr0, _⟩ := h.get 0 _ (nth_some (by omega))
  obtain ⟨b1, off1, c1, e1, hc1, hr1, _⟩ := h.get 1 _ (nth_some (by omega))
  obtain ⟨b2, off2, c2, e2, hc2, hr2, _⟩ := h.get 2 _ (nth_some (by omega))
  cases e1; cases e2
  have h0' : c0 = [Iv (nth xs 0)] := hr0
  have h1' : c1 = [Iv (nth xs 1)] := hr1
  have h2' : c2 = [Iv (nth xs 2)] := hr2
  subst h0' h1' h2'
  refine (does_run (u := .pointer (some ⟨b, off, none⟩)) (w' := w) ?_).mono fun v w' ⟨h1, h2⟩ => ⟨b, off, [Iv (nth xs 0), Iv (nth xs 1), Iv (nth xs 2)], h1, fun i v hi => ?_, rfl, h2⟩
  · have : ¬ m < 3 := by omega
    simp [execOp, hx, Instr.arrayAt, run_underlying ht, this]
  · match i, hi with
    | 0, hi => cases hi; exact hc0 0 _ rfl
    | 1, hi => cases hi; exact hc1 0 _ rfl
    | 2, hi => cases hi; exact hc2 0 _ rfl
    | i + 3, hi => simp at hi
end
def fC (g : GridT) (fr : List Int) (x y z : Int) : Int := idxG g (IntKind.i64.wrap (nth fr 0 + x)) (IntKind.i64.wrap (nth fr 1 + y)) (IntKind.i64.wrap (nth fr 2 + z))
def crpG (g : GridT) (fr ct : List Int) : GridT := ⟨ptG g.low g.step (nth fr 0) (nth fr 1) (nth fr 2), g.step, nth ct 0, nth ct 1, nth ct 2, takG g (fC g fr) (nth ct 0) (nth ct 1) (nth ct 0 * nth ct 1 * nth ct 2).toNat⟩
def crpA (g : GridT) (fr ct : List Int) : Bool := (isGrid g && icmp .eql (fr.length : Int) 3 && icmp .eql (ct.length : Int) 3 && hasG g (nth fr 0) (nth fr 1) (nth fr 2)) && (inI (nth ct 0) 1 (IntKind.i64.wrap (g.x - nth fr 0)) && inI (nth ct 1) 1 (IntKind.i64.wrap (g.y - nth fr 1)) && inI (nth ct 2) 1 (IntKind.i64.wrap (g.z - nth fr 2)))
def crpOk (g : GridT) (fr ct : List Int) : Bool := crpA g fr ct && isGrid (crpG g fr ct)
def crpR (g : GridT) (fr ct : List Int) : GridT := if crpA g fr ct then gvA zG (isGrid (crpG g fr ct)) (crpG g fr ct) else zG
section
variable {g : GridT} {fr ct : List Int}
theorem crpA_f1 (h : ((isGrid g = false ∨ ¬ (fr.length : Int) = 3) ∨ ¬ (ct.length : Int) = 3) ∨ hasG g (nth fr 0) (nth fr 1) (nth fr 2) = false) : crpA g fr ct = false := by
  unfold crpA
  rcases h with ((h | h) | h) | h <;> simp [icmp, h]
theorem crpA_f2 (h : (inI (nth ct 0) 1 (IntKind.i64.wrap (g.x - nth fr 0)) = false ∨ inI (nth ct 1) 1 (IntKind.i64.wrap (g.y - nth fr 1)) = false) ∨ inI (nth ct 2) 1 (IntKind.i64.wrap (g.z - nth fr 2)) = false) : crpA g fr ct = false := by
  unfold crpA
  rcases h with (h | h) | h <;> rw [h] <;> simp
theorem crpA_t (h : ((isGrid g = true ∧ (fr.length : Int) = 3) ∧ (ct.length : Int) = 3) ∧ hasG g (nth fr 0) (nth fr 1) (nth fr 2) = true) (h2 : (inI (nth ct 0) 1 (IntKind.i64.wrap (g.x - nth fr 0)) = true ∧ inI (nth ct 1) 1 (IntKind.i64.wrap (g.y - nth fr 1)) = true) ∧ inI (nth ct 2) 1 (IntKind.i64.wrap (g.z - nth fr 2)) = true) : crpA g fr ct = true := by
  unfold crpA
  simp [icmp, h.1.1.1, h.1.1.2, h.1.2, h.2, h2.1.1, h2.1.2, h2.2]
theorem crpA_i1 (h : (isGrid g = false ∨ ¬ (fr.length : Int) = 3) ∨ ¬ (ct.length : Int) = 3) : crpA g fr ct = false := crpA_f1 (.inl h)
theorem crpA_k0 (h : inI (nth fr 0) 0 (IntKind.i64.wrap (g.x - 1)) = false ∨ inI (nth ct 0) 1 (IntKind.i64.wrap (g.x - nth fr 0)) = false) : crpA g fr ct = false := by
  rcases h with h | h
  · exact crpA_f1 (.inr (by unfold hasG; rw [h]; rfl))
  · exact crpA_f2 (.inl (.inl h))
theorem crpA_k1 (h : inI (nth fr 1) 0 (IntKind.i64.wrap (g.y - 1)) = false ∨ inI (nth ct 1) 1 (IntKind.i64.wrap (g.y - nth fr 1)) = false) : crpA g fr ct = false := by
  rcases h with h | h
  · exact crpA_f1 (.inr (by unfold hasG; rw [h]; simp))
  · exact crpA_f2 (.inl (.inr h))
theorem crpA_k2 (h : inI (nth fr 2) 0 (IntKind.i64.wrap (g.z - 1)) = false ∨ inI (nth ct 2) 1 (IntKind.i64.wrap (g.z - nth fr 2)) = false) : crpA g fr ct = false := by
  rcases h with h | h
  · exact crpA_f1 (.inr (by unfold hasG; rw [h]; simp))
  · exact crpA_f2 (.inr h)
theorem crpA_ti (h : (isGrid g = true ∧ (fr.length : Int) = 3) ∧ (ct.length : Int) = 3) (h0 : inI (nth fr 0) 0 (IntKind.i64.wrap (g.x - 1)) = true ∧ inI (nth ct 0) 1 (IntKind.i64.wrap (g.x - nth fr 0)) = true) (h1 : inI (nth fr 1) 0 (IntKind.i64.wrap (g.y - 1)) = true ∧ inI (nth ct 1) 1 (IntKind.i64.wrap (g.y - nth fr 1)) = true)
    (h2 : inI (nth fr 2) 0 (IntKind.i64.wrap (g.z - 1)) = true ∧ inI (nth ct 2) 1 (IntKind.i64.wrap (g.z - nth fr 2)) = true) : crpA g fr ct = true :=
  crpA_t ⟨h, by unfold hasG; rw [h0.1, h1.1, h2.1]; rfl⟩ ⟨⟨h0.2, h1.2⟩, h2.2⟩
theorem crp_bd (h : crpA g fr ct = true) : isGrid g = true ∧ hasG g (nth fr 0) (nth fr 1) (nth fr 2) = true ∧ (0 ≤ nth fr 0 ∧ 1 ≤ nth ct 0 ∧ nth fr 0 + nth ct 0 ≤ g.x) ∧ (0 ≤ nth fr 1 ∧ 1 ≤ nth ct 1 ∧ nth fr 1 + nth ct 1 ≤ g.y) ∧ (0 ≤ nth fr 2 ∧ 1 ≤ nth ct 2 ∧ nth fr 2 + nth ct 2 ≤ g.z) ∧ (g.x ≤ 16 ∧ g.y ≤ 16 ∧ g.z ≤ 16) ∧ fr.length = 3 ∧ ct.length = 3 := by
  simp only [crpA, Bool.and_eq_true, icmp, beq_iff_eq] at h
  obtain ⟨⟨⟨⟨hg, hl⟩, hm⟩, hh⟩, ⟨i0, i1⟩, i2⟩ := h
  have hc := isGrid_cnt hg
  have hh' := hh
  simp only [hasG, Bool.and_eq_true, inI_iff] at hh
  rw [wrap_in (n := g.x - 1) (by omega) (by omega), wrap_in (n := g.y - 1) (by omega) (by omega), wrap_in (n := g.z - 1) (by omega) (by omega)] at hh
  rw [inI_iff, wrap_in (by omega) (by omega)] at i0
  rw [inI_iff, wrap_in (by omega) (by omega)] at i1
  rw [inI_iff, wrap_in (by omega) (by omega)] at i2
  refine ⟨hg, hh', by omega, by omega, by omega, by omega, by omega, by omega⟩
theorem fC_ok (h : crpA g fr ct = true) {x y z : Int} (hx : 0 ≤ x ∧ x < nth ct 0) (hy : 0 ≤ y ∧ y < nth ct 1) (hz : 0 ≤ z ∧ z < nth ct 2) : 0 ≤ fC g fr x y z ∧ fC g fr x y z < g.vals.length := by
  obtain ⟨hg, hh, b0, b1, b2, b3, _⟩ := crp_bd h
  have hc := isGrid_cnt hg
  unfold fC
  rw [wrap_in (n := nth fr 0 + x) (by omega) (by omega), wrap_in (n := nth fr 1 + y) (by omega) (by omega), wrap_in (n := nth fr 2 + z) (by omega) (by omega)]
  have hk : hasG g (nth fr 0 + x) (nth fr 1 + y) (nth fr 2 + z) = true := by
    simp only [hasG, Bool.and_eq_true, inI_iff]
    rw [wrap_in (n := g.x - 1) (by omega) (by omega), wrap_in (n := g.y - 1) (by omega) (by omega), wrap_in (n := g.z - 1) (by omega) (by omega)]
    omega
  have := idxG_ok hg hk
  exact ⟨this.1, this.2.1⟩
theorem crpOk_f (h : crpA g fr ct = false) : crpOk g fr ct = false := by simp [crpOk, h]
theorem crpOk_t (h : crpA g fr ct = true) : crpOk g fr ct = isGrid (crpG g fr ct) := by simp [crpOk, h]
theorem crpR_f (h : crpA g fr ct = false) : crpR g fr ct = zG := by unfold crpR; rw [h]; rfl
theorem crpR_t (h : crpA g fr ct = true) : crpR g fr ct = gvA zG (isGrid (crpG g fr ct)) (crpG g fr ct) := by unfold crpR; rw [h]; rfl
theorem crpG_end {z : Nat} (h : crpA g fr ct = true) (h1 : (z : Int) ≤ nth ct 2) (h2 : ¬ (z : Int) < nth ct 2) : crpG g fr ct = ⟨ptG g.low g.step (nth fr 0) (nth fr 1) (nth fr 2), g.step, nth ct 0, nth ct 1, nth ct 2, takG g (fC g fr) (nth ct 0) (nth ct 1) (cnt (nth ct 0) (nth ct 1) 0 0 z)⟩ := by
  have hc := crp_bd h
  unfold crpG
  rw [cnt_all (c2 := nth ct 2) (by omega) (by omega) (by omega)]
theorem crpR_len : (crpR g fr ct).vals.length ≤ 5000 := by
  unfold crpR
  split
  · rename_i h
    obtain ⟨hg, hh, b0, b1, b2, b3, _⟩ := crp_bd h
    have hv := vol_le (a := nth ct 0) (b := nth ct 1) (c := nth ct 2) (by omega) (by omega) (by omega)
    unfold gvA; split
    · simp only [crpG, takG_len]; omega
    · exact Nat.zero_le _
  · exact Nat.zero_le _
end
end Go.Proofs.Ytffmjlalacnfiaa
