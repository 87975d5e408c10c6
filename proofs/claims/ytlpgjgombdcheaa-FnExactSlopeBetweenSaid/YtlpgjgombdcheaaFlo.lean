/- Numbers made whole; how great a number is. -/
import Derived.Test.YtlpgjgombdcheaaUni
namespace Go.Proofs.Ytlpgjgombdcheaa
open Go Ieee Go.RowKit

/-- a number below 2 ^ (B + 1), or nought -/
def smallD (B : Nat) : Datum → Prop
  | .number _ m e => m ≠ 0 → e + m.log2 ≤ B
  | _ => False
def sm32 (B : Nat) (x : Nat) : Prop := smallD B (FloatKind.f32.decode x)
def sm64 (B : Nat) (x : Nat) : Prop := smallD B (FloatKind.f64.decode x)
theorem smallD.le {B C : Nat} (h : B ≤ C) : ∀ {d : Datum}, smallD B d → smallD C d
  | .number _ _ _, hd => fun hm => by have := hd hm; omega
  | .infinity _, hd => hd
  | .nan _ _, hd => hd
theorem smallD.num {B : Nat} : ∀ {d : Datum}, smallD B d → ∃ s m e, d = .number s m e ∧ (m ≠ 0 → e + m.log2 ≤ B)
  | .number s m e, h => ⟨s, m, e, rfl, h⟩
  | .infinity _, h => h.elim
  | .nan _ _, h => h.elim
/-- written and read again -/
theorem small_enc {s : Bool} {m : Nat} {e : Int} (B : Nat) (hB1 : B ≤ 500) (hB : m ≠ 0 → e + m.log2 ≤ B) : sm64 (B + 1) (FloatKind.f64.encode (.number s m e)) := by
  have hs : Ieee.double.signWeight = 9223372036854775808 := by decide
  have hi : Ieee.double.infRung = 9218868437227405312 := by decide
  have hb : Ieee.double.binade = 4503599627370496 := by decide
  have hl : Ieee.double.leastPlace = -1074 := by decide
  have hf : Ieee.double.fractionBits = 52 := rfl
  cases hd : FloatKind.f64.decode (FloatKind.f64.encode (.number s m e)) with
  | nan s' t => have := isN_enc .f64 (d := .number s m e) rfl; simp [isN, hd, Datum.isNaN] at this
  | infinity s' =>
    exfalso
    have hw : ∃ r, FloatKind.f64.encode (.number s m e) = Ieee.double.word s r ∧ r ≤ (B + 1024) * 4503599627370496 := by
      show ∃ r, Ieee.double.nearest s m e = _ ∧ _
      unfold Format.nearest
      split
      · exact ⟨0, rfl, by omega⟩
      · rename_i hm0
        have hB := hB hm0
        refine ⟨_, rfl, ?_⟩
        simp only [hl, hf, hi, hb]
        have hk := kept_le (fb := 52) (m := m) (last := max (e + (m.log2 : Int) - (52 : Nat)) (-1074)) (place := e) .even s (by omega)
        simp only [Nat.reducePow, Nat.reduceAdd] at hk
        generalize Toward.even.cut s _ _ = K at hk ⊢
        have hL : (max (e + (m.log2 : Int) - (52 : Nat)) (-1074) - -1074).toNat ≤ B + 1022 := by omega
        generalize (max (e + (m.log2 : Int) - (52 : Nat)) (-1074) - -1074).toNat = L at hL ⊢
        refine Nat.le_trans (Nat.min_le_left _ _) ?_
        omega
    obtain ⟨r, hr, hrb⟩ := hw
    rw [hr] at hd
    have := isInfinity_word Ieee.double s (r := r) (by rw [hi]; omega)
    have hd' : Ieee.double.read (Ieee.double.word s r) = .infinity s' := hd
    rw [hd'] at this
    cases this
  | number s' m' e' =>
    have h := near64 B hB1 hB hd
    unfold sm64
    rw [hd]
    intro hm
    have hlog : m'.log2 < 53 := (Nat.log2_lt hm).2 h.1
    show e' + (m'.log2 : Int) ≤ ((B + 1 : Nat) : Int)
    omega
theorem small_wid {B : Nat} {x : Nat} (hB1 : B ≤ 400) (h : sm32 B x) : sm64 (B + 1) (fwid x) := by
  obtain ⟨s, m, e, hd, hm⟩ := h.num
  rw [fwid_of (by simp [isN, hd, Datum.isNaN]) hd]
  exact small_enc B (by omega) hm
theorem log2_mul_le {m n : Nat} (hm : m ≠ 0) (hn : n ≠ 0) : (m * n).log2 ≤ m.log2 + n.log2 + 1 := by
  have h1 : m < 2 ^ (m.log2 + 1) := Nat.lt_log2_self
  have h2 : n < 2 ^ (n.log2 + 1) := Nat.lt_log2_self
  have h3 : (m * n).log2 < m.log2 + n.log2 + 2 := (Nat.log2_lt (Nat.mul_ne_zero hm hn)).2 (by
    calc m * n < 2 ^ (m.log2 + 1) * 2 ^ (n.log2 + 1) := Nat.mul_lt_mul'' h1 h2
      _ = 2 ^ (m.log2 + n.log2 + 2) := by rw [← Nat.pow_add]; congr 1; omega)
  omega
theorem small_mul {B C : Nat} {x y : Nat} (hB1 : B + C ≤ 400) (h : sm64 B x) (h' : sm64 C y) : sm64 (B + C + 2) (fop .mul .f64 x y) := by
  obtain ⟨s, m, i, hd, hm⟩ := h.num
  obtain ⟨t, n, j, hd', hn⟩ := h'.num
  have e : fop .mul .f64 x y = FloatKind.f64.encode (.number (s ^^ t) (m * n) (i + j)) := by
    show ((((FloatKind.f64.format.read x).product (FloatKind.f64.format.read y))).map FloatKind.f64.format.write).getD _ = _
    have h1 : FloatKind.f64.format.read x = .number s m i := hd
    have h2 : FloatKind.f64.format.read y = .number t n j := hd'
    rw [h1, h2]; rfl
  rw [e]
  refine small_enc (B + C + 1) (by omega) fun hmn => ?_
  have h1 : m ≠ 0 := fun hz => hmn (by rw [hz, Nat.zero_mul])
  have h2 : n ≠ 0 := fun hz => hmn (by rw [hz, Nat.mul_zero])
  have := log2_mul_le h1 h2
  have := hm h1
  have := hn h2
  omega
theorem signed_abs (s : Bool) (m k : Nat) : (signed s m k).natAbs = m * 2 ^ k := by
  unfold signed
  rw [Nat.shiftLeft_eq]
  cases s
  · exact Int.natAbs_natCast _
  · show (-((m * 2 ^ k : Nat) : Int)).natAbs = _
    rw [Int.natAbs_neg]; exact Int.natAbs_natCast _
theorem cmp_lt {a b : Int} (h : a < b) : compare a b = .lt := by
  show compareOfLessAndEq a b = .lt
  unfold compareOfLessAndEq; rw [if_pos h]
theorem cmp_gt {a b : Int} (h : b < a) : compare a b = .gt := by
  show compareOfLessAndEq a b = .gt
  unfold compareOfLessAndEq; rw [if_neg (by omega), if_neg (by omega)]
theorem part_lt {B : Nat} {m : Nat} {i base : Int} (hb : base ≤ i) (h : m ≠ 0 → i + m.log2 ≤ B) : m * 2 ^ (i - base).toNat < 2 ^ (B + 1 - base).toNat := by
  by_cases hm : m = 0
  · subst hm; rw [Nat.zero_mul]; exact Nat.two_pow_pos _
  · have h1 : m < 2 ^ (m.log2 + 1) := Nat.lt_log2_self
    have h2 := h hm
    calc m * 2 ^ (i - base).toNat < 2 ^ (m.log2 + 1) * 2 ^ (i - base).toNat := Nat.mul_lt_mul_of_pos_right h1 (Nat.two_pow_pos _)
      _ = 2 ^ (m.log2 + 1 + (i - base).toNat) := by rw [← Nat.pow_add]
      _ ≤ 2 ^ (B + 1 - base).toNat := Nat.pow_le_pow_right (by decide) (by omega)
theorem small_add {B : Nat} {x y : Nat} (hB1 : B ≤ 400) (h : sm64 B x) (h' : sm64 B y) : sm64 (B + 2) (fop .add .f64 x y) := by
  obtain ⟨s, m, i, hd, hm⟩ := h.num
  obtain ⟨t, n, j, hd', hn⟩ := h'.num
  have h1 : FloatKind.f64.format.read x = .number s m i := hd
  have h2 : FloatKind.f64.format.read y = .number t n j := hd'
  have e : ∃ q : Bool, fop .add .f64 x y = FloatKind.f64.encode (.number q (signed s m (i - min i j).toNat + signed t n (j - min i j).toNat).natAbs (min i j)) := by
    refine ⟨if signed s m (i - min i j).toNat + signed t n (j - min i j).toNat = 0 then s && t else decide (signed s m (i - min i j).toNat + signed t n (j - min i j).toNat < 0), ?_⟩
    show ((((FloatKind.f64.format.read x).sum (FloatKind.f64.format.read y))).map FloatKind.f64.format.write).getD _ = _
    rw [h1, h2]; rfl
  obtain ⟨q, e⟩ := e
  rw [e]
  have hle1 : min i j ≤ i := Int.min_le_left _ _
  have hle2 : min i j ≤ j := Int.min_le_right _ _
  generalize min i j = base at *
  refine small_enc (B + 1) (by omega) fun hT => ?_
  have p1 := part_lt hle1 hm
  have p2 := part_lt hle2 hn
  have a1 := signed_abs s m (i - base).toNat
  have a2 := signed_abs t n (j - base).toNat
  have hlt : (signed s m (i - base).toNat + signed t n (j - base).toNat).natAbs < 2 ^ ((B + 1 - base).toNat + 1) := by
    rw [Nat.pow_succ]; omega
  have := (Nat.log2_lt hT).2 hlt
  have hbase : base ≤ B + 1 := by
    by_cases hm0 : m = 0
    · by_cases hn0 : n = 0
      · exfalso; apply hT; subst hm0 hn0
        have z1 : (signed s 0 (i - base).toNat).natAbs = 0 := by rw [a1, Nat.zero_mul]
        have z2 : (signed t 0 (j - base).toNat).natAbs = 0 := by rw [a2, Nat.zero_mul]
        omega
      · have := hn hn0; omega
    · have := hm hm0; omega
  omega

/-! ### made whole -/
def ffloor (x : Nat) : Nat := if isN .f64 x then qn .f64 else FloatKind.f64.encode ((FloatKind.f64.decode x).integral .down)
theorem cut_small {B : Nat} {m : Nat} {e : Int} (way : Toward) (neg : Bool) (h : m ≠ 0 → e + m.log2 ≤ B) : way.cut neg (m <<< e.toNat) (-e).toNat ≤ 2 ^ (B + 1) := by
  refine Nat.le_trans (cut_le _ _ _ _) ?_
  rw [Nat.shiftLeft_eq]
  suffices m * 2 ^ e.toNat / 2 ^ (-e).toNat < 2 ^ (B + 1) by omega
  by_cases hm : m = 0
  · subst hm; simp only [Nat.zero_mul, Nat.zero_div]; exact Nat.two_pow_pos _
  · have h1 : m < 2 ^ (m.log2 + 1) := Nat.lt_log2_self
    have h2 := h hm
    rw [Nat.div_lt_iff_lt_mul (Nat.two_pow_pos _), ← Nat.pow_add]
    calc m * 2 ^ e.toNat < 2 ^ (m.log2 + 1) * 2 ^ e.toNat := Nat.mul_lt_mul_of_pos_right h1 (Nat.two_pow_pos _)
      _ = 2 ^ (m.log2 + 1 + e.toNat) := by rw [← Nat.pow_add]
      _ ≤ 2 ^ (B + 1 + (-e).toNat) := Nat.pow_le_pow_right (by decide) (by omega)
theorem small_floor {B : Nat} {x : Nat} (hB1 : B ≤ 400) (h : sm64 B x) : sm64 (B + 2) (ffloor x) := by
  obtain ⟨s, m, e, hd, hm⟩ := h.num
  have he : ffloor x = FloatKind.f64.encode (.number s (Toward.down.cut s (m <<< e.toNat) (-e).toNat) 0) := by
    unfold ffloor
    rw [if_neg (by simp [isN, hd, Datum.isNaN]), hd]; rfl
  rw [he]
  refine small_enc (B + 1) (by omega) fun hc => ?_
  have h1 := cut_small .down s hm
  have h2 : (Toward.down.cut s (m <<< e.toNat) (-e).toNat).log2 < B + 2 := (Nat.log2_lt hc).2 (Nat.lt_of_le_of_lt h1 (Nat.pow_lt_pow_right (by decide) (by omega)))
  omega
def inR (x : Nat) : Prop := (floatToIntVal .f64 x .i64).isSome = true
def intOf (x : Nat) : Int := (floatToIntVal .f64 x .i64).getD 0
theorem small_inR {B : Nat} {x : Nat} (hB : B ≤ 60) (h : sm64 B x) : inR x := by
  obtain ⟨s, m, e, hd, hm⟩ := h.num
  have h1 := cut_small .zero s hm
  have h2 : 2 ^ (B + 1) ≤ 2 ^ 61 := Nat.pow_le_pow_right (by decide) (by omega)
  have a1 := signed_abs s (Toward.zero.cut s (m <<< e.toNat) (-e).toNat) 0
  unfold inR floatToIntVal
  rw [hd]
  show (match some (signed s (Toward.zero.cut s (m <<< e.toNat) (-e).toNat) 0) with | some n => if IntKind.i64.min ≤ n ∧ n ≤ IntKind.i64.max then some n else none | none => none).isSome = true
  simp only
  rw [if_pos]
  · rfl
  · have e1 : IntKind.i64.min = -9223372036854775808 := by decide
    have e2 : IntKind.i64.max = 9223372036854775807 := by decide
    rw [e1, e2]
    simp only [Nat.pow_zero, Nat.mul_one, Nat.reducePow] at *
    omega
theorem toIntVal_cf (x : Nat) : floatToIntVal .f64 (cf .f64 x) .i64 = floatToIntVal .f64 x .i64 := by
  cases h : isN .f64 x
  · rw [cf_of_num h]
  · rw [cf_of_nan h]
    obtain ⟨s, t, hx⟩ := dec_nan h
    obtain ⟨s', t', hx'⟩ := dec_nan (isN_qn .f64)
    simp only [floatToIntVal, FloatKind.decode, hx, hx', Datum.toInt, Datum.integral]
theorem ffloor_cf (x : Nat) : ffloor (cf .f64 x) = ffloor x := by
  unfold ffloor; rw [isN_cf]
  cases h : isN .f64 x
  · rw [cf_of_num h]
  · rfl
theorem integral_num {w : Toward} : ∀ {d : Datum}, d.isNaN = false → (d.integral w).isNaN = false
  | .number _ _ _, _ => rfl
  | .infinity _, _ => rfl
  | .nan _ _, h => by cases h

/-! ### how numbers stand to each other -/
theorem small_le {B : Nat} {x y : Nat} (hy : sm32 B y) (hn : isN .f32 x = false) (h0 : ford .f32 x 0 ≠ some .lt) (h1 : ford .f32 x y ≠ some .gt) : sm32 B x := by
  obtain ⟨t, n, j, hd, hnb⟩ := hy.num
  have h2 : FloatKind.f32.format.read y = .number t n j := hd
  have hz : FloatKind.f32.format.read 0 = .number false 0 (-149) := by decide
  cases hx : FloatKind.f32.decode x with
  | nan s u => simp [isN, hx, Datum.isNaN] at hn
  | infinity s =>
    have hx' : FloatKind.f32.format.read x = .infinity s := hx
    exfalso
    cases s
    · apply h1; simp [ford, Format.order, hx', h2, Datum.order]
    · apply h0; simp [ford, Format.order, hx', hz, Datum.order]
  | number s m e =>
    have hx' : FloatKind.f32.format.read x = .number s m e := hx
    unfold sm32; rw [hx]
    intro hm
    have e0 : ford .f32 x 0 = some (compare (signed s m (e - min e (-149)).toNat) (signed false 0 (-149 - min e (-149)).toNat)) := by simp only [ford, Format.order, hx', hz, Datum.order]
    have e1 : ford .f32 x y = some (compare (signed s m (e - min e j).toNat) (signed t n (j - min e j).toNat)) := by simp only [ford, Format.order, hx', h2, Datum.order]
    rw [e0] at h0
    rw [e1] at h1
    have g0 : ¬ signed s m (e - min e (-149)).toNat < signed false 0 (-149 - min e (-149)).toNat := fun hl => h0 (by rw [cmp_lt hl])
    have g1 : ¬ signed t n (j - min e j).toNat < signed s m (e - min e j).toNat := fun hl => h1 (by rw [cmp_gt hl])
    have z0 : signed false 0 (-149 - min e (-149)).toNat = 0 := by simp [signed]
    rw [z0] at g0
    have hmp : 0 < m * 2 ^ (e - min e (-149)).toNat := Nat.mul_pos (Nat.pos_of_ne_zero hm) (Nat.two_pow_pos _)
    have hs : s = false := by
      cases s
      · rfl
      · exfalso; apply g0
        simp only [signed, Nat.shiftLeft_eq, if_true]; omega
    subst hs
    have hmq : 0 < m * 2 ^ (e - min e j).toNat := Nat.mul_pos (Nat.pos_of_ne_zero hm) (Nat.two_pow_pos _)
    have ht : m * 2 ^ (e - min e j).toNat ≤ n * 2 ^ (j - min e j).toNat := by
      have := signed_abs t n (j - min e j).toNat
      simp only [signed, Nat.shiftLeft_eq, Bool.false_eq_true, if_false] at g1 this
      cases t <;> simp only [Bool.false_eq_true, if_false, if_true] at g1 <;> omega
    have hn0 : n ≠ 0 := fun hz => by subst hz; rw [Nat.zero_mul] at ht; omega
    have hB := hnb hn0
    have hl1 : 2 ^ (m.log2 + (e - min e j).toNat) ≤ m * 2 ^ (e - min e j).toNat := by rw [Nat.pow_add]; exact Nat.mul_le_mul_right _ (Nat.log2_self_le hm)
    have hl2 : n * 2 ^ (j - min e j).toNat < 2 ^ (n.log2 + 1 + (j - min e j).toNat) := by rw [Nat.pow_add]; exact Nat.mul_lt_mul_of_pos_right Nat.lt_log2_self (Nat.two_pow_pos _)
    have hl3 : m.log2 + (e - min e j).toNat < n.log2 + 1 + (j - min e j).toNat := (Nat.pow_lt_pow_iff_right (by decide : 1 < 2)).1 (Nat.lt_of_le_of_lt (Nat.le_trans hl1 ht) hl2)
    have hle1 : min e j ≤ e := Int.min_le_left _ _
    have hle2 : min e j ≤ j := Int.min_le_right _ _
    show e + (m.log2 : Int) ≤ B
    omega
theorem cf_zero : cf .f32 0 = 0 := by decide
theorem byte_lt {x : Nat} (h : fcmp .geq (ford .f32 x (cf .f32 0)) = true) : isN .f32 x = false ∧ ford .f32 x 0 ≠ some .lt := by
  rw [cf_zero] at h
  refine ⟨?_, fun hl => by rw [hl] at h; cases h⟩
  cases hn : isN .f32 x
  · rfl
  · rw [ford_nan_l _ hn] at h; cases h
def byteA (x : Nat) : Nat := fop .add .f64 (fop .mul .f64 (fwid x) (cf .f64 4643176031446892544)) (cf .f64 4602678819172646912)
def byteF (x : Nat) : Int := if fcmp .geq (ford .f32 x (cf .f32 0)) then (if fcmp .gtr (ford .f32 x (cf .f32 1065353216)) then 255 else intOf (ffloor (byteA x))) else 0
theorem byte_in {x : Nat} (h : fcmp .geq (ford .f32 x (cf .f32 0)) = true) (h2 : fcmp .gtr (ford .f32 x (cf .f32 1065353216)) = false) : inR (ffloor (byteA x)) := by
  have h1 := byte_lt h
  have e1 : cf .f32 1065353216 = 1065353216 := by decide
  rw [e1] at h2
  have d1 : FloatKind.f32.decode 1065353216 = .number false 8388608 (-23) := by decide
  have hs := small_le (B := 0) (x := x) (y := 1065353216) (by unfold sm32; rw [d1]; intro _; decide) h1.1 h1.2 (fun hg => by rw [hg] at h2; cases h2)
  have e2 : cf .f64 4643176031446892544 = 4643176031446892544 := by decide
  have e3 : cf .f64 4602678819172646912 = 4602678819172646912 := by decide
  unfold byteA
  rw [e2, e3]
  have d2 : FloatKind.f64.decode 4643176031446892544 = .number false 8972014882652160 (-45) := by decide
  have d3 : FloatKind.f64.decode 4602678819172646912 = .number false 4503599627370496 (-53) := by decide
  have m1 := small_mul (B := 1) (C := 7) (by decide) (small_wid (by decide) hs) (y := 4643176031446892544) (by unfold sm64; rw [d2]; intro _; decide)
  have m2 := small_add (B := 10) (by decide) m1 (y := 4602678819172646912) (by unfold sm64; rw [d3]; intro _; decide)
  exact small_inR (B := 14) (by decide) (small_floor (by decide) m2)
theorem byteF_0 {x : Nat} (h : fcmp .geq (ford .f32 x (cf .f32 0)) = false) : byteF x = 0 := by unfold byteF; rw [h]; rfl
theorem byteF_255 {x : Nat} (h : fcmp .geq (ford .f32 x (cf .f32 0)) = true) (h2 : fcmp .gtr (ford .f32 x (cf .f32 1065353216)) = true) : byteF x = 255 := by unfold byteF; rw [h, h2]; rfl
theorem byteF_in {x : Nat} (h : fcmp .geq (ford .f32 x (cf .f32 0)) = true) (h2 : fcmp .gtr (ford .f32 x (cf .f32 1065353216)) = false) : byteF x = intOf (ffloor (byteA x)) := by unfold byteF; rw [h, h2]; rfl
/-- 'not a number, or below nought' -/
theorem geq_of {x y : Nat} : (fcmp .neq (ford .f32 x x) || fcmp .lss (ford .f32 x (cf .f32 y))) = !fcmp .geq (ford .f32 x (cf .f32 y)) ∨ isN .f32 (cf .f32 y) = true := by
  cases hy : isN .f32 (cf .f32 y)
  · left
    cases hx : isN .f32 x
    · have h' : (FloatKind.f32.format.read x).isNaN = false := hx
      have e1 := ord_self h'
      have e2 : fcmp .neq (ford .f32 x x) = false := by unfold ford; simp only [Format.order, e1, fcmp, bne_self_eq_false]
      rw [e2, Bool.false_or]
      have h3 : (FloatKind.f32.format.read (cf .f32 y)).isNaN = false := hy
      have h4 : ∃ o, ford .f32 x (cf .f32 y) = some o := by
        unfold ford Format.order
        cases hd : FloatKind.f32.format.read x <;> rw [hd] at h' <;> cases he : FloatKind.f32.format.read (cf .f32 y) <;> rw [he] at h3 <;> simp_all [Datum.order, Datum.isNaN]
      obtain ⟨o, ho⟩ := h4
      rw [ho]; cases o <;> rfl
    · rw [ford_nan_l _ hx, ford_nan_l _ hx]; rfl
  · right; rfl
theorem geq_not {x : Nat} (h : (fcmp .neq (ford .f32 x x) || fcmp .lss (ford .f32 x (cf .f32 0))) = true) : fcmp .geq (ford .f32 x (cf .f32 0)) = false := by
  rcases geq_of (x := x) (y := 0) with h1 | h1
  · rw [h1] at h; simpa using h
  · rw [cf_zero] at h1; exact absurd h1 (by decide)
theorem geq_yes {x : Nat} (h : (fcmp .neq (ford .f32 x x) || fcmp .lss (ford .f32 x (cf .f32 0))) = false) : fcmp .geq (ford .f32 x (cf .f32 0)) = true := by
  rcases geq_of (x := x) (y := 0) with h1 | h1
  · rw [h1] at h; simpa using h
  · rw [cf_zero] at h1; exact absurd h1 (by decide)
theorem floor_run (p : Nat) : Extern.MathFloor.toIntegral "math.archFloor" .down #[.float .f64 p] = (match FloatKind.f64.decode p with
    | .nan s t =>
      if FloatKind.f64.format.quiet t = t then pure (.float .f64 p) else do
      let kept ← choose (.extern "math.Floor,Ceil,Trunc,RoundToEven.signallingNaN kept" 2)
      pure (.float .f64 (if kept == 1 then p else FloatKind.f64.encode (.nan s (FloatKind.f64.format.quiet t))))
    | d => pure (.float .f64 (FloatKind.f64.encode (d.integral .down)))) := rfl
theorem geq_yes' {x : Nat} (h : fcmp .neq (ford .f32 x x) = false ∧ fcmp .lss (ford .f32 x (cf .f32 0)) = false) : fcmp .geq (ford .f32 x (cf .f32 0)) = true := geq_yes (by rw [h.1, h.2]; rfl)
theorem geq_not' {x : Nat} (h : fcmp .neq (ford .f32 x x) = true ∨ fcmp .lss (ford .f32 x (cf .f32 0)) = true) : fcmp .geq (ford .f32 x (cf .f32 0)) = false := geq_not (by rcases h with h | h <;> rw [h] <;> simp)
theorem isN_quiet (s : Bool) (t : Nat) : isN .f64 (FloatKind.f64.encode (.nan s (FloatKind.f64.format.quiet t))) = true := by
  have hs : Ieee.double.signWeight = 9223372036854775808 := by decide
  have hi : Ieee.double.infRung = 9218868437227405312 := by decide
  have hb : Ieee.double.binade = 4503599627370496 := by decide
  rw [isN_rung]
  show decide (Ieee.double.infRung < Ieee.double.word s (Ieee.double.infRung + Ieee.double.quiet t % Ieee.double.binade) % Ieee.double.signWeight) = true
  have hq : Ieee.double.quiet t % 4503599627370496 ≠ 0 := fun hz => by
    have h1 : (Ieee.double.quiet t % 2 ^ 52).testBit 51 = true := by
      rw [Nat.testBit_mod_two_pow]
      show (decide (51 < 52) && (t ||| 2 ^ 51).testBit 51) = true
      rw [Nat.testBit_or, Nat.testBit_two_pow_self]; simp
    rw [show (2 : Nat) ^ 52 = 4503599627370496 from rfl, hz] at h1
    simp at h1
  unfold Format.word
  rw [hb, hi, hs]
  have hlt : Ieee.double.quiet t % 4503599627370496 < 4503599627370496 := Nat.mod_lt _ (by decide)
  generalize Ieee.double.quiet t % 4503599627370496 = q at *
  apply decide_eq_true
  split <;> omega
section
variable {P : Program} {a : Act} {w : World} {dst : Option Tmp} {ty : TypeId} {pos : String} {af : Array Edge} {g : Option (Nat × Bool)}
theorem does_conv_fi {src dst' : TypeId} {x : Operand} {p : Nat} {ds : TypeDesc} (hs : P.underlying src = some ds) (hd : P.underlying dst' = some (.int .i64)) (hx : a.eval x = .float .f64 p) (hr : inR (cf .f64 p)) :
    does P ⟨dst, .convert src dst' x, ty, pos, af, g⟩ a w (Is (.int .i64 (intOf (cf .f64 p))) w) := by
  obtain ⟨n, hn⟩ := Option.isSome_iff_exists.1 hr
  have e : intOf (cf .f64 p) = n := by unfold intOf; rw [hn]; rfl
  rw [toIntVal_cf] at hn
  rw [e]
  refine does_run ?_
  have := run_convert_float_int (P := P) w src dst' .f64 .i64 p n (by rw [hs]; rfl) hd hn
  simp only [execOp, hx, Sem.run_bind, this, Result.andThen_ok, Sem.run_pure]
/-- a call of math.archFloor, that has no body -/
theorem does_floor {f : FuncId} {x : Operand} {ats : Array TypeId} {p : Nat} (hx : a.eval x = .float .f64 p)
    (hf : ∀ p w, (callFunc f #[.float .f64 p]).run P w = ((Extern.MathFloor.toIntegral "math.archFloor" .down #[.float .f64 p]).run P w).andThen fun v w' => .ok (.value v) w') :
    does P ⟨dst, .call ⟨.value (.func f), #[x], ats⟩, ty, pos, af, g⟩ a w (fun v w' => ∃ r, v = .float .f64 r ∧ cf .f64 r = ffloor (cf .f64 p) ∧ Ext w w') := by
  rw [ffloor_cf]
  cases hN : isN .f64 p with
  | false =>
    refine (does_run (u := .float .f64 (ffloor p)) (w' := w) ?_).mono fun v w' ⟨h1, h2⟩ => ?_
    · rw [execOp_call_go]
      simp only [Array.empty_append, Array.append_empty, List.map_toArray, List.map_cons, List.map_nil, hx, hf, floor_run]
      unfold ffloor; rw [if_neg (by rw [hN]; decide)]
      cases hd : FloatKind.f64.decode p with
      | nan s t => simp [isN, hd, Datum.isNaN] at hN
      | infinity s => simp
      | number s m e => simp
    · subst h1 h2
      refine ⟨_, rfl, ?_, Ext.refl _⟩
      have : isN .f64 (ffloor p) = false := by
        unfold ffloor; rw [if_neg (by rw [hN]; decide)]
        exact isN_enc .f64 (integral_num hN)
      rw [cf_of_num this]
  | true =>
    have hq : ffloor p = qn .f64 := by unfold ffloor; rw [if_pos hN]
    rw [hq]
    obtain ⟨s, t, hd⟩ := dec_nan hN
    have hd' : FloatKind.f64.decode p = .nan s t := hd
    by_cases hqt : FloatKind.f64.format.quiet t = t
    · refine (does_run (u := .float .f64 p) (w' := w) ?_).mono fun v w' ⟨h1, h2⟩ => ?_
      · rw [execOp_call_go]; simp [hx, hf, floor_run, hd', hqt]
      · subst h1 h2; exact ⟨_, rfl, cf_of_nan hN, Ext.refl _⟩
    · refine (does_run (u := .float .f64 (if (Question.extern "math.Floor,Ceil,Trunc,RoundToEven.signallingNaN kept" 2).cut (w.tape w.drawn (.extern "math.Floor,Ceil,Trunc,RoundToEven.signallingNaN kept" 2)) == 1 then p else FloatKind.f64.encode (.nan s (FloatKind.f64.format.quiet t)))) (w' := { w with drawn := w.drawn + 1 }) ?_).mono fun v w' ⟨h1, h2⟩ => ?_
      · rw [execOp_call_go]; simp [hx, hf, floor_run, hd', hqt, choose, Sem.run, Question.forced]
      · subst h1 h2
        refine ⟨_, rfl, ?_, Ext.draw _⟩
        apply cf_of_nan
        split
        · exact hN
        · exact isN_quiet s t
end
end Go.Proofs.Ytlpgjgombdcheaa
