/- grids of points that are taken out of a grid -/
import Derived.Test.YtlfpeihlfmdmdaaMrk
namespace Go.Proofs.Ytlfpeihlfmdmdaa
open Go Go.RowKit

theorem WL.shape {k B : Nat} {w : World} {L : List Nat} {v : Value} {n : Nat} (h : WL k B w L v n) : ∃ p c, v = .slice p n c := by
  rcases h.2 with ⟨rfl, rfl, _⟩ | ⟨g, cap, cs, _, rfl, _⟩
  · exact ⟨none, 0, rfl⟩
  · exact ⟨_, _, rfl⟩
def zG : GridT := ⟨zV, cf .f32 0, 0, 0, 0, []⟩
def takG (g : GridT) (f : Int → Int → Int → Int) (c0 c1 : Int) (n : Nat) : List Nat := (List.range n).map fun (i : Nat) => (g.vals[(f ((i : Int) % c0) ((i : Int) / c0 % c1) ((i : Int) / c0 / c1)).toNat]?).getD 0
theorem takG_len (g : GridT) (f : Int → Int → Int → Int) (c0 c1 : Int) (n : Nat) : (takG g f c0 c1 n).length = n := by simp [takG]
theorem takG_succ {g : GridT} {f : Int → Int → Int → Int} {c0 c1 : Int} {n e : Nat} (he : g.vals[(f ((n : Int) % c0) ((n : Int) / c0 % c1) ((n : Int) / c0 / c1)).toNat]? = some e) : takG g f c0 c1 (n + 1) = takG g f c0 c1 n ++ [e] := by
  simp only [takG, List.range_succ, List.map_append, List.map_cons, List.map_nil, he, Option.getD_some]
def cnt (c0 c1 : Int) (x y z : Nat) : Nat := x + c0.toNat * (y + c1.toNat * z)
theorem cnt_at {c0 c1 : Int} {x y z : Nat} (hx : (x : Int) < c0) (hy : (y : Int) < c1) : ((cnt c0 c1 x y z : Nat) : Int) % c0 = x ∧ ((cnt c0 c1 x y z : Nat) : Int) / c0 % c1 = y ∧ ((cnt c0 c1 x y z : Nat) : Int) / c0 / c1 = z := by
  obtain ⟨p, rfl⟩ : ∃ p : Nat, c0 = p := ⟨c0.toNat, by omega⟩
  obtain ⟨q, rfl⟩ : ∃ q : Nat, c1 = q := ⟨c1.toNat, by omega⟩
  have hp : x < p := by omega
  have hq : y < q := by omega
  have e : cnt (p : Int) (q : Int) x y z = x + p * (y + q * z) := rfl
  have m1 : (x + p * (y + q * z)) % p = x := by rw [Nat.add_mul_mod_self_left]; exact Nat.mod_eq_of_lt hp
  have d1 : (x + p * (y + q * z)) / p = y + q * z := by rw [Nat.add_mul_div_left _ _ (by omega), Nat.div_eq_of_lt hp, Nat.zero_add]
  have m2 : (y + q * z) % q = y := by rw [Nat.add_mul_mod_self_left]; exact Nat.mod_eq_of_lt hq
  have d2 : (y + q * z) / q = z := by rw [Nat.add_mul_div_left _ _ (by omega), Nat.div_eq_of_lt hq, Nat.zero_add]
  rw [e]
  refine ⟨?_, ?_, ?_⟩
  · rw [← Int.natCast_emod, m1]
  · rw [← Int.natCast_ediv, d1, ← Int.natCast_emod, m2]
  · rw [← Int.natCast_ediv, d1, ← Int.natCast_ediv, d2]
theorem tak_step {g : GridT} {f : Int → Int → Int → Int} {c0 c1 : Int} {x y z e : Nat} (hx : (x : Int) < c0) (hy : (y : Int) < c1) (he : g.vals[(f x y z).toNat]? = some e) :
    takG g f c0 c1 (cnt c0 c1 (x + 1) y z) = takG g f c0 c1 (cnt c0 c1 x y z) ++ [e] := by
  have h := cnt_at (z := z) hx hy
  have e1 : cnt c0 c1 (x + 1) y z = cnt c0 c1 x y z + 1 := by unfold cnt; omega
  rw [e1]
  exact takG_succ (by rw [h.1, h.2.1, h.2.2]; exact he)
theorem cnt_row {c0 c1 : Int} {x y z : Nat} (hx : (x : Int) = c0) : cnt c0 c1 x y z = cnt c0 c1 0 (y + 1) z := by
  subst hx
  unfold cnt
  rw [show y + 1 + c1.toNat * z = (y + c1.toNat * z) + 1 by omega, Nat.mul_succ]
  simp only [Int.toNat_natCast]; omega
theorem cnt_plane {c0 c1 : Int} {y z : Nat} (hy : (y : Int) = c1) : cnt c0 c1 0 y z = cnt c0 c1 0 0 (z + 1) := by
  subst hy
  unfold cnt
  simp only [Int.toNat_natCast, Nat.mul_succ, Nat.zero_add]
  rw [Nat.add_comm y]
theorem cnt_all {c0 c1 c2 : Int} {z : Nat} (h0 : 0 ≤ c0) (h1 : 0 ≤ c1) (hz : (z : Int) = c2) : cnt c0 c1 0 0 z = (c0 * c1 * c2).toNat := by
  subst hz
  obtain ⟨p, rfl⟩ : ∃ p : Nat, c0 = p := ⟨c0.toNat, by omega⟩
  obtain ⟨q, rfl⟩ : ∃ q : Nat, c1 = q := ⟨c1.toNat, by omega⟩
  unfold cnt
  simp only [Int.toNat_natCast, Nat.zero_add]
  rw [← Int.natCast_mul, ← Int.natCast_mul, Int.toNat_natCast, Nat.mul_assoc]
theorem cnt_le {c0 c1 : Int} {x y z : Nat} (h0 : c0 ≤ 16) (h1 : c1 ≤ 16) (hx : x ≤ 16) (hy : y ≤ 16) (hz : z ≤ 16) : cnt c0 c1 x y z ≤ 5000 := by
  have a1 : c1.toNat * z ≤ 16 * 16 := Nat.mul_le_mul (by omega) hz
  have a2 : c0.toNat * (y + c1.toNat * z) ≤ 16 * (16 + 256) := Nat.mul_le_mul (by omega) (by omega)
  unfold cnt; omega
theorem tak_len {g : GridT} {f : Int → Int → Int → Int} {c0 c1 : Int} {x y z : Nat} (h0 : c0 ≤ 16) (h1 : c1 ≤ 16) (hx : x ≤ 16) (hy : y ≤ 16) (hz : z ≤ 16) : (takG g f c0 c1 (cnt c0 c1 x y z)).length ≤ 5000 := by
  rw [takG_len]; exact cnt_le h0 h1 hx hy hz
theorem vol_le {a b c : Int} (ha : 0 ≤ a ∧ a ≤ 16) (hb : 0 ≤ b ∧ b ≤ 16) (hc : 0 ≤ c ∧ c ≤ 16) : (0 ≤ a * b ∧ a * b ≤ 256) ∧ (0 ≤ a * b * c ∧ a * b * c ≤ 4096) := by
  have h1 := Int.mul_nonneg ha.1 hb.1
  have h2 : a * b ≤ 16 * 16 := Int.mul_le_mul ha.2 hb.2 hb.1 (by omega)
  have h3 := Int.mul_nonneg h1 hc.1
  have h4 : a * b * c ≤ 256 * 16 := Int.mul_le_mul (by omega) hc.2 hc.1 (by omega)
  exact ⟨⟨h1, by omega⟩, h3, by omega⟩
/-! ### every second point -/
def fH (g : GridT) (x y z : Int) : Int := idxG g (IntKind.i64.wrap (2 * x)) (IntKind.i64.wrap (2 * y)) (IntKind.i64.wrap (2 * z))
theorem fH_ok {g : GridT} {x y z : Int} (h : isGrid g = true) (hx : 0 ≤ x ∧ x < (g.x + 1) / 2) (hy : 0 ≤ y ∧ y < (g.y + 1) / 2) (hz : 0 ≤ z ∧ z < (g.z + 1) / 2) : 0 ≤ fH g x y z ∧ fH g x y z < g.vals.length := by
  have hc := isGrid_cnt h
  unfold fH
  rw [wrap_in (n := 2 * x) (by omega) (by omega), wrap_in (n := 2 * y) (by omega) (by omega), wrap_in (n := 2 * z) (by omega) (by omega)]
  have hh : hasG g (2 * x) (2 * y) (2 * z) = true := by
    simp only [hasG, Bool.and_eq_true, inI_iff]
    rw [wrap_in (n := g.x - 1) (by omega) (by omega), wrap_in (n := g.y - 1) (by omega) (by omega), wrap_in (n := g.z - 1) (by omega) (by omega)]
    omega
  have := idxG_ok h hh
  exact ⟨this.1, this.2.1⟩
def halG (g : GridT) : GridT := ⟨g.low, fop .mul .f32 (cf .f32 1073741824) g.step, (g.x + 1) / 2, (g.y + 1) / 2, (g.z + 1) / 2, takG g (fH g) ((g.x + 1) / 2) ((g.y + 1) / 2) ((g.x + 1) / 2 * ((g.y + 1) / 2) * ((g.z + 1) / 2)).toNat⟩
def halOk (g : GridT) : Bool := isGrid g && isGrid (halG g)
def halR (g : GridT) : GridT := if isGrid g then gvA zG (isGrid (halG g)) (halG g) else zG
theorem halOk_f {g : GridT} (h : isGrid g = false) : halOk g = false := by simp [halOk, h]
theorem halOk_t {g : GridT} (h : isGrid g = true) : halOk g = isGrid (halG g) := by simp [halOk, h]
theorem halR_f {g : GridT} (h : isGrid g = false) : halR g = zG := by unfold halR; rw [h]; rfl
theorem halR_t {g : GridT} (h : isGrid g = true) : halR g = gvA zG (isGrid (halG g)) (halG g) := by unfold halR; rw [h]; rfl
theorem halG_end {g : GridT} {z : Nat} (h : isGrid g = true) (h1 : (z : Int) ≤ (g.z + 1) / 2) (h2 : ¬ (z : Int) < (g.z + 1) / 2) : halG g = ⟨g.low, fop .mul .f32 (cf .f32 1073741824) g.step, (g.x + 1) / 2, (g.y + 1) / 2, (g.z + 1) / 2, takG g (fH g) ((g.x + 1) / 2) ((g.y + 1) / 2) (cnt ((g.x + 1) / 2) ((g.y + 1) / 2) 0 0 z)⟩ := by
  have hc := isGrid_cnt h
  unfold halG
  rw [cnt_all (c2 := (g.z + 1) / 2) (by omega) (by omega) (by omega)]
theorem place_in {c0 c1 c2 : Int} {k : Nat} (h0 : 1 ≤ c0 ∧ c0 ≤ 16) (h1 : 1 ≤ c1 ∧ c1 ≤ 16) (hk : (k : Int) < c0 * c1 * c2) : (0 ≤ (k : Int) % c0 ∧ (k : Int) % c0 < c0) ∧ (0 ≤ (k : Int) / c0 % c1 ∧ (k : Int) / c0 % c1 < c1) ∧ (0 ≤ (k : Int) / c0 / c1 ∧ (k : Int) / c0 / c1 < c2) := by
  refine ⟨⟨Int.emod_nonneg _ (by omega), Int.emod_lt_of_pos _ (by omega)⟩, ⟨Int.emod_nonneg _ (by omega), Int.emod_lt_of_pos _ (by omega)⟩, Int.ediv_nonneg (Int.ediv_nonneg (by omega) (by omega)) (by omega), ?_⟩
  apply Int.ediv_lt_of_lt_mul (by omega)
  apply Int.ediv_lt_of_lt_mul (by omega)
  rw [Int.mul_comm c2 c1, Int.mul_comm _ c0, ← Int.mul_assoc]; exact hk
theorem taken_b {low : V3} {s : Nat} {c0 c1 c2 : Int} {g : GridT} {f : Int → Int → Int → Int} {k : Nat} {b : Bool} (h1 : (k : Int) ≤ c0 * c1 * c2) (h2 : ¬ (k : Int) < c0 * c1 * c2) (h : isGrid ⟨low, s, c0, c1, c2, takG g f c0 c1 k⟩ = b) : isGrid ⟨low, s, c0, c1, c2, takG g f c0 c1 (c0 * c1 * c2).toNat⟩ = b := by
  rw [show (c0 * c1 * c2).toNat = k by omega]; exact h
theorem taken_f {low : V3} {s : Nat} {c0 c1 c2 : Int} {g : GridT} {f : Int → Int → Int → Int} {k : Nat} (h1 : (k : Int) ≤ c0 * c1 * c2) (h2 : ¬ (k : Int) < c0 * c1 * c2) (h : isGrid ⟨low, s, c0, c1, c2, takG g f c0 c1 k⟩ = false) : gvA zG (isGrid ⟨low, s, c0, c1, c2, takG g f c0 c1 (c0 * c1 * c2).toNat⟩) ⟨low, s, c0, c1, c2, takG g f c0 c1 (c0 * c1 * c2).toNat⟩ = zG := by
  rw [taken_b h1 h2 h]; rfl
theorem taken_t {low : V3} {s : Nat} {c0 c1 c2 : Int} {g : GridT} {f : Int → Int → Int → Int} {k : Nat} (h1 : (k : Int) ≤ c0 * c1 * c2) (h2 : ¬ (k : Int) < c0 * c1 * c2) (h : isGrid ⟨low, s, c0, c1, c2, takG g f c0 c1 k⟩ = true) : gvA zG (isGrid ⟨low, s, c0, c1, c2, takG g f c0 c1 (c0 * c1 * c2).toNat⟩) ⟨low, s, c0, c1, c2, takG g f c0 c1 (c0 * c1 * c2).toNat⟩ = ⟨low, s, c0, c1, c2, takG g f c0 c1 k⟩ := by
  rw [taken_b h1 h2 h, show (c0 * c1 * c2).toNat = k by omega]; rfl
theorem halR_len (g : GridT) : (halR g).vals.length ≤ 5000 := by
  unfold halR
  split
  · rename_i h
    have hc := isGrid_cnt h
    have hv := vol_le (a := (g.x + 1) / 2) (b := (g.y + 1) / 2) (c := (g.z + 1) / 2) (by omega) (by omega) (by omega)
    unfold gvA; split
    · simp only [halG, takG_len]; omega
    · exact Nat.zero_le _
  · exact Nat.zero_le _
theorem sameG_lz {g h : GridT} (e : g = h) : sameG g h = true := by subst e; exact sameG_self g
end Go.Proofs.Ytlfpeihlfmdmdaa
