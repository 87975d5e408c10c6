/- half of a number: by 2, or times one half -/
import Derived.Test.YthffielpjjggeaaUni
namespace Go.Proofs.Ythffielpjjggeaa
open Go Ieee

theorem cut_zero (way : Toward) (neg : Bool) (d : Nat) : way.cut neg 0 d = 0 := by
  unfold Toward.cut
  have hg : 0 < 1 <<< min d ((0 : Nat).log2 + 2) := by rw [Nat.shiftLeft_eq]; exact Nat.mul_pos Nat.one_pos (Nat.two_pow_pos _)
  cases way <;> simp <;> omega
theorem cut_scale (neg : Bool) (n k d : Nat) : Toward.even.cut neg (n <<< k) (d + k) = Toward.even.cut neg n d := by
  by_cases hn : n = 0
  · subst hn; rw [Nat.zero_shiftLeft, cut_zero, cut_zero]
  have hl : (n <<< k).log2 = n.log2 + k := by
    rw [Nat.shiftLeft_eq]
    exact (Nat.log2_eq_iff (by have := Nat.two_pow_pos k; exact Nat.mul_ne_zero hn (by omega))).2 ⟨by
      rw [Nat.pow_add]; exact Nat.mul_le_mul_right _ (Nat.log2_self_le hn), by
      rw [show n.log2 + k + 1 = (n.log2 + 1) + k by omega, Nat.pow_add]
      exact Nat.mul_lt_mul_of_pos_right Nat.lt_log2_self (Nat.two_pow_pos k)⟩
  unfold Toward.cut
  simp only [hl]
  rw [show min (d + k) (n.log2 + k + 2) = min d (n.log2 + 2) + k by omega]
  generalize min d (n.log2 + 2) = g
  have hp := Nat.two_pow_pos k
  simp only [Nat.shiftLeft_eq, Nat.one_mul, Nat.pow_add]
  rw [Nat.mul_div_mul_right _ _ hp, Nat.mul_mod_mul_right]
  have e1 : (2 ^ g * 2 ^ k < 2 * (n % 2 ^ g * 2 ^ k)) = (2 ^ g < 2 * (n % 2 ^ g)) := by
    rw [← Nat.mul_assoc]; exact propext ⟨fun h => Nat.lt_of_mul_lt_mul_right h, fun h => Nat.mul_lt_mul_of_pos_right h hp⟩
  have e2 : (2 ^ g * 2 ^ k == 2 * (n % 2 ^ g * 2 ^ k)) = (2 ^ g == 2 * (n % 2 ^ g)) := by
    rw [← Nat.mul_assoc, Bool.eq_iff_iff, beq_iff_eq, beq_iff_eq]
    exact ⟨fun h => Nat.eq_of_mul_eq_mul_right hp h, fun h => congrArg (· * 2 ^ k) h⟩
  simp only [e1, e2]
theorem nearest_scale (f : Format) (neg : Bool) (m k : Nat) (p : Int) : f.nearest neg (m <<< k) (p - k) = f.nearest neg m p := by
  by_cases hn : m = 0
  · subst hn; rw [Nat.zero_shiftLeft]; unfold Format.nearest; rw [if_pos rfl, if_pos rfl]
  have hm : m <<< k ≠ 0 := by rw [Nat.shiftLeft_eq]; have := Nat.two_pow_pos k; exact Nat.mul_ne_zero hn (by omega)
  have hl : (m <<< k).log2 = m.log2 + k := by
    rw [Nat.shiftLeft_eq]
    exact (Nat.log2_eq_iff (by have := Nat.two_pow_pos k; exact Nat.mul_ne_zero hn (by omega))).2 ⟨by
      rw [Nat.pow_add]; exact Nat.mul_le_mul_right _ (Nat.log2_self_le hn), by
      rw [show m.log2 + k + 1 = (m.log2 + 1) + k by omega, Nat.pow_add]
      exact Nat.mul_lt_mul_of_pos_right Nat.lt_log2_self (Nat.two_pow_pos k)⟩
  unfold Format.nearest
  rw [if_neg hm, if_neg hn, hl]
  simp only
  have e : p - (k : Int) + ((m.log2 + k : Nat) : Int) - f.fractionBits = p + (m.log2 : Int) - f.fractionBits := by omega
  rw [e]
  generalize max (p + (m.log2 : Int) - f.fractionBits) f.leastPlace = last
  have key : Toward.even.cut neg (m <<< k <<< (p - ↑k - last).toNat) (last - (p - ↑k)).toNat = Toward.even.cut neg (m <<< (p - last).toNat) (last - p).toNat := by
    rw [← Nat.shiftLeft_add]
    by_cases h1 : last ≤ p - k
    · rw [show (last - (p - ↑k)).toNat = 0 by omega, show (last - p).toNat = 0 by omega, show k + (p - ↑k - last).toNat = (p - last).toNat by omega]
    · by_cases h2 : last ≤ p
      · have h3 := cut_scale neg (m <<< (p - last).toNat) (k - (p - last).toNat) 0
        rw [← Nat.shiftLeft_add] at h3
        rw [show (last - p).toNat = 0 by omega, ← h3]
        congr 1
        · congr 1; omega
        · omega
      · have h3 := cut_scale neg m k (last - p).toNat
        rw [show (p - last).toNat = 0 by omega, Nat.shiftLeft_zero, ← h3]
        congr 1
        · congr 1; omega
        · omega
  rw [key]
theorem read_two : FloatKind.f32.format.read (cf .f32 1073741824) = .number false 8388608 (-22) := by decide +kernel
theorem read_half : FloatKind.f32.format.read (cf .f32 1056964608) = .number false 8388608 (-24) := by decide +kernel
/-- **x / 2 = x * 0.5** -/
theorem half_two (x : Nat) : fop .quo .f32 x (cf .f32 1073741824) = fop .mul .f32 x (cf .f32 1056964608) := by
  unfold fop fraw Format.div Format.mul
  obtain ⟨N, hN⟩ : ∃ N : Nat, N = 8388608 := ⟨_, rfl⟩
  rw [read_two, read_half, ← hN]
  have h23 : N = 2 ^ 23 := hN.trans (by decide)
  have hN0 : 0 < N := by omega
  clear hN
  cases hx : FloatKind.f32.format.read x with
  | nan s t => rfl
  | infinity s =>
    clear h23
    cases N with
    | zero => omega
    | succ n => simp [Datum.quotient, Datum.product]
  | number s m i =>
    obtain ⟨hm, _, _⟩ := f32_bounds hx
    have hlog : m.log2 ≤ 23 := by
      by_cases h0 : m = 0
      · subst h0; decide
      · exact Nat.le_of_lt_succ ((Nat.log2_lt h0).2 hm)
    have hfb : FloatKind.f32.format.fractionBits = 23 := rfl
    simp only [Datum.quotient, Datum.product, hfb, Option.map_some, Option.getD_some]
    rw [if_neg (show ¬ N = 0 by omega)]
    have hl2 : N.log2 = 23 := by rw [h23]; exact Nat.log2_two_pow
    simp only [hl2, Option.map_some, Option.getD_some]
    generalize hmo : 23 + 2 + 23 - m.log2 = more
    have hmore : 25 ≤ more := by omega
    have e1 : m <<< more = (m <<< (more - 23)) * N := by
      rw [Nat.shiftLeft_eq, Nat.shiftLeft_eq, Nat.mul_assoc, h23, ← Nat.pow_add]; congr 2; omega
    rw [e1, Nat.mul_div_cancel _ hN0, Nat.mul_mod_left]
    have e2 : 2 * (m <<< (more - 23)) + ((0 : Nat) != 0).toNat = m <<< (more - 22) := by
      rw [Nat.shiftLeft_eq, Nat.shiftLeft_eq]
      have : more - 22 = (more - 23) + 1 := by omega
      rw [this, Nat.pow_succ]; simp; rw [Nat.mul_comm 2, Nat.mul_assoc]
    have e3 : m * N = m <<< 23 := by rw [Nat.shiftLeft_eq, h23]
    rw [e2, e3]
    simp only [Format.write]
    have h1 := nearest_scale FloatKind.f32.format (s ^^ false) m (more - 22) (i - 1)
    have h2 := nearest_scale FloatKind.f32.format (s ^^ false) m 23 (i - 1)
    rw [show i - -22 - (more : Int) - 1 = i - 1 - ((more - 22 : Nat) : Int) by omega, show i + -24 = i - 1 - ((23 : Nat) : Int) by omega, h1, h2]
end Go.Proofs.Ythffielpjjggeaa
