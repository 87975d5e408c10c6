/- The floats of the model up to the payload of a not-a-number: 'cf' makes all not-a-numbers one; each operation is a function of the 'cf's of its operands. -/
import Derived.WalkKit
import Derived.WalkLawsBesides
import Derived.Laws.FloatBits
namespace Go.Proofs.Ytjopopmipdakkaa
open Go Ieee
def qn : FloatKind → Nat
  | .f32 => 2143289344
  | .f64 => 9221120237041090560
def isN (k : FloatKind) (b : Nat) : Bool := (k.decode b).isNaN
def cf (k : FloatKind) (b : Nat) : Nat := if isN k b then qn k else b
theorem isN_qn (k : FloatKind) : isN k (qn k) = true := by cases k <;> decide
theorem cf_of_nan {k : FloatKind} {b : Nat} (h : isN k b = true) : cf k b = qn k := by simp [cf, h]
theorem cf_of_num {k : FloatKind} {b : Nat} (h : isN k b = false) : cf k b = b := by simp [cf, h]
theorem isN_cf (k : FloatKind) (b : Nat) : isN k (cf k b) = isN k b := by
  cases h : isN k b
  · rw [cf_of_num h, h]
  · rw [cf_of_nan h, isN_qn]
theorem isNaN_iff {d : Datum} : d.isNaN = true ↔ ∃ s t, d = .nan s t := by cases d <;> simp [Datum.isNaN]
theorem dec_nan {k : FloatKind} {b : Nat} (h : isN k b = true) : ∃ s t, k.format.read b = .nan s t := isNaN_iff.1 h
theorem read_word (f : Format) (neg : Bool) {r : Nat} (h : r ≤ f.infRung) : (f.read (f.word neg r)).isNaN = false := by
  have hlt := f.infRung_lt
  have hm : f.word neg r % f.signWeight = r := by
    unfold Format.word
    split
    · rw [Nat.add_mod_left]; exact Nat.mod_eq_of_lt (by omega)
    · exact Nat.mod_eq_of_lt (by omega)
  unfold Format.read
  simp only [hm]
  split
  · rfl
  · split
    · rfl
    · rw [if_pos (by omega)]; rfl
theorem read_write (f : Format) {d : Datum} (h : d.isNaN = false) : (f.read (f.write d)).isNaN = false := by
  cases d with
  | number s m e =>
    simp only [Format.write, Format.nearest]
    split
    · exact read_word f s (Nat.zero_le _)
    · exact read_word f s (Nat.min_le_right _ _)
  | infinity s => exact read_word f s (Nat.le_refl _)
  | nan s t => simp [Datum.isNaN] at h
theorem sum_num {x y d : Datum} (h : x.sum y = some d) : d.isNaN = false := by
  cases x <;> cases y <;> simp [Datum.sum] at h <;> first | (obtain ⟨_, rfl⟩ := h; rfl) | (subst h; rfl)
theorem product_num {x y d : Datum} (h : x.product y = some d) : d.isNaN = false := by
  cases x <;> cases y <;> simp [Datum.product] at h <;> first | (obtain ⟨_, rfl⟩ := h; rfl) | (subst h; rfl)
theorem quotient_num {n : Nat} {x y d : Datum} (h : x.quotient n y = some d) : d.isNaN = false := by
  cases x with
  | nan => simp [Datum.quotient] at h
  | infinity s =>
    cases y <;> simp [Datum.quotient] at h
    subst h; rfl
  | number s m i =>
    cases y with
    | nan => simp [Datum.quotient] at h
    | infinity t => simp [Datum.quotient] at h; subst h; rfl
    | number t n' j =>
      simp only [Datum.quotient] at h
      split at h
      · split at h
        · cases h
        · cases h; rfl
      · cases h; rfl
theorem sum_nan_l (s : Bool) (t : Nat) (y : Datum) : (Datum.nan s t).sum y = none := by cases y <;> rfl
theorem sum_nan_r (s : Bool) (t : Nat) (x : Datum) : x.sum (.nan s t) = none := by cases x <;> rfl
theorem product_nan_l (s : Bool) (t : Nat) (y : Datum) : (Datum.nan s t).product y = none := by cases y <;> rfl
theorem product_nan_r (s : Bool) (t : Nat) (x : Datum) : x.product (.nan s t) = none := by cases x <;> rfl
theorem quotient_nan_l (n : Nat) (s : Bool) (t : Nat) (y : Datum) : (Datum.nan s t).quotient n y = none := by cases y <;> rfl
theorem quotient_nan_r (n : Nat) (s : Bool) (t : Nat) (x : Datum) : x.quotient n (.nan s t) = none := by cases x <;> rfl
theorem order_nan_l (s : Bool) (t : Nat) (y : Datum) : (Datum.nan s t).order y = none := by cases y <;> rfl
theorem order_nan_r (s : Bool) (t : Nat) (x : Datum) : x.order (.nan s t) = none := by cases x <;> rfl
def fraw (op : BinOp) (k : FloatKind) (x y : Nat) : Option Nat :=
  match op with
  | .add => k.format.add x y
  | .sub => k.format.sub x y
  | .mul => k.format.mul x y
  | .quo => k.format.div x y
  | _ => none
def fop (op : BinOp) (k : FloatKind) (x y : Nat) : Nat := (fraw op k x y).getD (qn k)
def ford (k : FloatKind) (x y : Nat) : Option Ordering := k.format.order x y
theorem fraw_nan_l {op : BinOp} {k : FloatKind} {x : Nat} (y : Nat) (h : isN k x = true) : fraw op k x y = none := by
  obtain ⟨s, t, hx⟩ := dec_nan h
  cases op <;> simp [fraw, Format.add, Format.sub, Format.mul, Format.div, hx, sum_nan_l, product_nan_l, quotient_nan_l]
theorem fraw_nan_r {op : BinOp} {k : FloatKind} {y : Nat} (x : Nat) (h : isN k y = true) : fraw op k x y = none := by
  obtain ⟨s, t, hy⟩ := dec_nan h
  cases op <;> simp [fraw, Format.add, Format.sub, Format.mul, Format.div, hy, sum_nan_r, product_nan_r, quotient_nan_r, Datum.opposite]
theorem fraw_cf (op : BinOp) (k : FloatKind) (x y : Nat) : fraw op k (cf k x) (cf k y) = fraw op k x y := by
  cases hx : isN k x
  · rw [cf_of_num hx]
    cases hy : isN k y
    · rw [cf_of_num hy]
    · rw [cf_of_nan hy, fraw_nan_r _ (isN_qn k), fraw_nan_r _ hy]
  · rw [cf_of_nan hx, fraw_nan_l _ (isN_qn k), fraw_nan_l _ hx]
theorem fop_cf (op : BinOp) (k : FloatKind) (x y : Nat) : fop op k (cf k x) (cf k y) = fop op k x y := by unfold fop; rw [fraw_cf]
theorem fraw_num {op : BinOp} {k : FloatKind} {x y r : Nat} (h : fraw op k x y = some r) : isN k r = false := by
  cases op <;> simp [fraw, Format.add, Format.sub, Format.mul, Format.div, Option.map_eq_some_iff] at h
  all_goals
    obtain ⟨d, hd, rfl⟩ := h
    first
      | exact read_write _ (sum_num hd)
      | exact read_write _ (product_num hd)
      | exact read_write _ (quotient_num hd)
theorem ford_nan_l {k : FloatKind} {x : Nat} (y : Nat) (h : isN k x = true) : ford k x y = none := by
  obtain ⟨s, t, hx⟩ := dec_nan h
  simp [ford, Format.order, hx, order_nan_l]
theorem ford_nan_r {k : FloatKind} {y : Nat} (x : Nat) (h : isN k y = true) : ford k x y = none := by
  obtain ⟨s, t, hy⟩ := dec_nan h
  simp [ford, Format.order, hy, order_nan_r]
theorem ford_cf (k : FloatKind) (x y : Nat) : ford k (cf k x) (cf k y) = ford k x y := by
  cases hx : isN k x
  · rw [cf_of_num hx]
    cases hy : isN k y
    · rw [cf_of_num hy]
    · rw [cf_of_nan hy, ford_nan_r _ (isN_qn k), ford_nan_r _ hy]
  · rw [cf_of_nan hx, ford_nan_l _ (isN_qn k), ford_nan_l _ hx]
theorem cut_nan (k : FloatKind) (x y t : Nat) : isN k ((Question.nanBits k x y).cut t) = true := by
  have h1 : t / 2 % (2 ^ 23 - 1) < 2 ^ 23 - 1 := Nat.mod_lt _ (by decide)
  have h2 : t / 2 % (2 ^ 52 - 1) < 2 ^ 52 - 1 := Nat.mod_lt _ (by decide)
  have h3 : t % 2 < 2 := Nat.mod_lt _ (by decide)
  cases k
  · show ((Ieee.single).read ((t % 2) * 2 ^ 31 + 0x7f800000 + 1 + (t / 2) % (2 ^ 23 - 1))).isNaN = true
    generalize t / 2 % (2 ^ 23 - 1) = q at *
    generalize t % 2 = p at *
    have hm : (p * 2 ^ 31 + 0x7f800000 + 1 + q) % 2147483648 = 0x7f800000 + 1 + q := by omega
    have hs : Ieee.single.signWeight = 2147483648 := by decide
    have hi : Ieee.single.infRung = 2139095040 := by decide
    have hb : Ieee.single.binade = 8388608 := by decide
    unfold Format.read
    simp only [hs, hm, hi, hb]
    rw [if_neg (by omega), if_neg (by omega), if_neg (by omega)]; rfl
  · show ((Ieee.double).read ((t % 2) * 2 ^ 63 + 0x7ff0000000000000 + 1 + (t / 2) % (2 ^ 52 - 1))).isNaN = true
    generalize t / 2 % (2 ^ 52 - 1) = q at *
    generalize t % 2 = p at *
    have hm : (p * 2 ^ 63 + 0x7ff0000000000000 + 1 + q) % 9223372036854775808 = 0x7ff0000000000000 + 1 + q := by omega
    have hs : Ieee.double.signWeight = 9223372036854775808 := by decide
    have hi : Ieee.double.infRung = 9218868437227405312 := by decide
    have hb : Ieee.double.binade = 4503599627370496 := by decide
    unfold Format.read
    simp only [hs, hm, hi, hb]
    rw [if_neg (by omega), if_neg (by omega), if_neg (by omega)]; rfl
theorem cut_nanConv (k : FloatKind) (x t : Nat) : isN k ((Question.nanConv k x).cut t) = true := by
  have h := cut_nan k x x t
  cases k <;> exact h
def fwid (x : Nat) : Nat := if isN .f32 x then qn .f64 else FloatKind.f64.encode (FloatKind.f32.decode x)
theorem fwid_cf (x : Nat) : fwid (cf .f32 x) = fwid x := by
  unfold fwid; rw [isN_cf]
  cases h : isN .f32 x
  · rw [cf_of_num h]
  · rfl
theorem isInfinity_word (f : Format) (neg : Bool) {r : Nat} (h : r < f.infRung) : (f.read (f.word neg r)).isInfinity = false := by
  have hlt := f.infRung_lt
  have hm : f.word neg r % f.signWeight = r := by
    unfold Format.word
    split
    · rw [Nat.add_mod_left]; exact Nat.mod_eq_of_lt (by omega)
    · exact Nat.mod_eq_of_lt (by omega)
  unfold Format.read
  simp only [hm]
  by_cases hb : r < f.binade
  · rw [if_pos hb]; rfl
  · rw [if_neg hb, if_pos h]; rfl
theorem wid_fin {x : Nat} {s : Bool} {m : Nat} {e : Int} (h : FloatKind.f32.decode x = .number s m e) : (FloatKind.f64.decode (FloatKind.f64.encode (.number s m e))).isInfinity = false := by
  have hs : Ieee.single.signWeight = 2147483648 := by decide
  have hi : Ieee.single.infRung = 2139095040 := by decide
  have hb : Ieee.single.binade = 8388608 := by decide
  have hl : Ieee.single.leastPlace = -149 := by decide
  have hdi : Ieee.double.infRung = 9218868437227405312 := by decide
  have hdb : Ieee.double.binade = 4503599627370496 := by decide
  have hdl : Ieee.double.leastPlace = -1074 := by decide
  have hdf : Ieee.double.fractionBits = 52 := rfl
  have hm : m < 16777216 ∧ -149 ≤ e ∧ e ≤ 104 := by
    simp only [FloatKind.decode, FloatKind.format, Format.read, hs, hi, hb, hl] at h
    split at h
    · cases h; omega
    · split at h
      · cases h; rename_i h1 h2; refine ⟨?_, ?_, ?_⟩ <;> omega
      · split at h <;> cases h
  show ((Ieee.double).read ((Ieee.double).nearest s m e)).isInfinity = false
  unfold Format.nearest
  split
  · exact isInfinity_word _ _ (by rw [hdi]; omega)
  · rename_i hm0
    have hlog : m.log2 ≤ 23 := by
      have : m.log2 < 24 := (Nat.log2_lt hm0).2 (by omega)
      omega
    have h2 : m < 2 ^ (m.log2 + 1) := Nat.lt_log2_self
    simp only [hdl, hdf, hdi, hdb]
    have e1 : max (e + (m.log2 : Int) - (52 : Nat)) (-1074) = e + m.log2 - 52 := by omega
    rw [e1]
    have e2 : (e - (e + (m.log2 : Int) - 52)).toNat = 52 - m.log2 := by omega
    have e3 : ((e + (m.log2 : Int) - 52) - e).toNat = 0 := by omega
    rw [e2, e3]
    have e4 : Toward.even.cut s (m <<< (52 - m.log2)) 0 = m <<< (52 - m.log2) := by simp [Toward.cut, Nat.mod_one]
    rw [e4]
    have h3 : m <<< (52 - m.log2) < 2 ^ 53 := by
      rw [Nat.shiftLeft_eq]
      calc m * 2 ^ (52 - m.log2) < 2 ^ (m.log2 + 1) * 2 ^ (52 - m.log2) := Nat.mul_lt_mul_of_pos_right h2 (Nat.two_pow_pos _)
        _ = 2 ^ 53 := by rw [← Nat.pow_add, show m.log2 + 1 + (52 - m.log2) = 53 from by omega]
    have h4 : (e + (m.log2 : Int) - 52 - -1074).toNat ≤ 1149 := by omega
    apply isInfinity_word
    rw [hdi]
    generalize m <<< (52 - m.log2) = K at h3 ⊢
    generalize (e + (m.log2 : Int) - 52 - -1074).toNat = L at h4 ⊢
    simp only [Nat.reducePow] at h3
    have h7 : L * 4503599627370496 + K < 9218868437227405312 := by omega
    exact Nat.lt_of_le_of_lt (Nat.min_le_left _ _) h7
theorem isN_enc (k : FloatKind) {d : Datum} (h : d.isNaN = false) : isN k (k.encode d) = false := read_write _ h
theorem fwid_of {x : Nat} {d : Datum} (h : isN .f32 x = false) (hd : FloatKind.f32.decode x = d) : fwid x = FloatKind.f64.encode d := by unfold fwid; rw [h, hd, if_neg Bool.false_ne_true]
theorem fwid_nan {x : Nat} (h : isN .f32 x = true) : fwid x = qn .f64 := by unfold fwid; rw [h, if_pos rfl]
theorem in_i64 {n : Int} (h1 : -9223372036854775808 ≤ n) (h2 : n ≤ 9223372036854775807) : IntKind.i64.wrap n = n := by
  simp [IntKind.wrap, IntKind.bits, IntKind.signed]; omega
end Go.Proofs.Ytjopopmipdakkaa
