/- The square root of a 32-bit number fits a 32-bit number; how great the rounded numbers are. -/
import Derived.Test.YtlfpeihlfmdmdaaSl
import Derived.Laws.Externs
namespace Go.Proofs.Ytlfpeihlfmdmdaa
open Go Ieee Go.RowKit

theorem cut_le (way : Toward) (neg : Bool) (n drop : Nat) : way.cut neg n drop ≤ n / 2 ^ drop + 1 := by
  unfold Toward.cut
  simp only [Nat.one_shiftLeft]
  have hb : ∀ b : Bool, b.toNat ≤ 1 := fun b => by cases b <;> decide
  have h1 : n / 2 ^ min drop (n.log2 + 2) ≤ n / 2 ^ drop := by
    rcases Nat.le_total drop (n.log2 + 2) with h | h
    · rw [Nat.min_eq_left h]; exact Nat.le_refl _
    · rw [Nat.min_eq_right h]
      have : n < 2 ^ (n.log2 + 2) := Nat.lt_of_lt_of_le Nat.lt_log2_self (Nat.pow_le_pow_right (by decide) (by omega))
      rw [Nat.div_eq_of_lt this]; exact Nat.zero_le _
  exact Nat.add_le_add h1 (hb _)
/-- the digits that are kept -/
theorem kept_le {fb m : Nat} {place last : Int} (way : Toward) (neg : Bool) (h : place + m.log2 - fb ≤ last) : way.cut neg (m <<< (place - last).toNat) (last - place).toNat ≤ 2 ^ (fb + 1) := by
  refine Nat.le_trans (cut_le _ _ _ _) ?_
  have h2 : m < 2 ^ (m.log2 + 1) := Nat.lt_log2_self
  rw [Nat.shiftLeft_eq]
  suffices m * 2 ^ (place - last).toNat / 2 ^ (last - place).toNat < 2 ^ (fb + 1) by omega
  rw [Nat.div_lt_iff_lt_mul (Nat.two_pow_pos _), ← Nat.pow_add]
  calc m * 2 ^ (place - last).toNat < 2 ^ (m.log2 + 1) * 2 ^ (place - last).toNat := Nat.mul_lt_mul_of_pos_right h2 (Nat.two_pow_pos _)
    _ = 2 ^ (m.log2 + 1 + (place - last).toNat) := by rw [← Nat.pow_add]
    _ ≤ 2 ^ (fb + 1 + (last - place).toNat) := Nat.pow_le_pow_right (by decide) (by omega)
/-- a 64-bit number rounded, and read again -/
theorem near64 {s s' : Bool} {m m' : Nat} {e e' : Int} (B : Nat) (hB1 : B ≤ 500) (hB : m ≠ 0 → e + m.log2 ≤ B) (h : FloatKind.f64.decode (FloatKind.f64.encode (.number s m e)) = .number s' m' e') : m' < 2 ^ 53 ∧ e' ≤ (B : Int) - 51 := by
  have hs : Ieee.double.signWeight = 9223372036854775808 := by decide
  have hi : Ieee.double.infRung = 9218868437227405312 := by decide
  have hb : Ieee.double.binade = 4503599627370496 := by decide
  have hl : Ieee.double.leastPlace = -1074 := by decide
  have hf : Ieee.double.fractionBits = 52 := rfl
  have hw : ∃ r, FloatKind.f64.encode (.number s m e) = Ieee.double.word s r ∧ r ≤ (B + 1024) * 4503599627370496 := by
    show ∃ r, Ieee.double.nearest s m e = _ ∧ _
    unfold Format.nearest
    split
    · exact ⟨0, rfl, by omega⟩
    · rename_i hm0
      have hB := hB hm0
      refine ⟨_, rfl, ?_⟩
      simp only [hl, hf, hi, hb]
      have hk := kept_le (fb := 52) (m := m) (last := max (e + (m.log2 : Int) - (52 : Nat)) (-1074)) (place := e) .even s (by omega)
      simp only [Nat.reducePow, Nat.reduceAdd] at hk
      generalize Toward.even.cut s _ _ = K at hk ⊢
      have hL : (max (e + (m.log2 : Int) - (52 : Nat)) (-1074) - -1074).toNat ≤ B + 1022 := by omega
      generalize (max (e + (m.log2 : Int) - (52 : Nat)) (-1074) - -1074).toNat = L at hL ⊢
      refine Nat.le_trans (Nat.min_le_left _ _) ?_
      omega
  obtain ⟨r, hr, hrb⟩ := hw
  rw [hr] at h
  have hmod : Ieee.double.word s r % 9223372036854775808 = r := by
    unfold Format.word; rw [hs]; split <;> omega
  simp only [FloatKind.decode, FloatKind.format, Format.read, hs, hi, hb, hl, hmod] at h
  split at h
  · cases h; omega
  · split at h
    · cases h; omega
    · split at h <;> cases h
/-- a number that is not too great is narrowed without leaving the range -/
theorem nov_small {s : Bool} {m : Nat} {e : Int} (hm : m < 2 ^ 53) (he : e ≤ 49) : (FloatKind.f32.decode (FloatKind.f32.encode (.number s m e))).isInfinity = false := by
  have hi : Ieee.single.infRung = 2139095040 := by decide
  have hb : Ieee.single.binade = 8388608 := by decide
  have hl : Ieee.single.leastPlace = -149 := by decide
  have hf : Ieee.single.fractionBits = 23 := rfl
  show ((Ieee.single).read ((Ieee.single).nearest s m e)).isInfinity = false
  unfold Format.nearest
  split
  · exact isInfinity_word _ _ (by rw [hi]; omega)
  · rename_i hm0
    have hlog : m.log2 < 53 := (Nat.log2_lt hm0).2 hm
    simp only [hl, hf, hi, hb]
    have hk := kept_le (fb := 23) (m := m) (last := max (e + (m.log2 : Int) - (23 : Nat)) (-149)) (place := e) .even s (by omega)
    simp only [Nat.reducePow, Nat.reduceAdd] at hk
    generalize Toward.even.cut s _ _ = K at hk ⊢
    have hL : (max (e + (m.log2 : Int) - (23 : Nat)) (-149) - -149).toNat ≤ 228 := by omega
    generalize (max (e + (m.log2 : Int) - (23 : Nat)) (-149) - -149).toNat = L at hL ⊢
    apply isInfinity_word
    rw [hi]
    have h7 : L * 8388608 + K < 2139095040 := by omega
    exact Nat.lt_of_le_of_lt (Nat.min_le_left _ _) h7
theorem f32_bounds {x : Nat} {s : Bool} {m : Nat} {e : Int} (h : FloatKind.f32.decode x = .number s m e) : m < 16777216 ∧ -149 ≤ e ∧ e ≤ 104 := by
  have hs : Ieee.single.signWeight = 2147483648 := by decide
  have hi : Ieee.single.infRung = 2139095040 := by decide
  have hb : Ieee.single.binade = 8388608 := by decide
  have hl : Ieee.single.leastPlace = -149 := by decide
  simp only [FloatKind.decode, FloatKind.format, Format.read, hs, hi, hb, hl] at h
  split at h
  · cases h; omega
  · split at h
    · cases h; refine ⟨?_, ?_, ?_⟩ <;> omega
    · split at h <;> cases h
theorem rootFrom_lt (n : Nat) : ∀ todo root, Datum.rootFrom n todo root < root + 2 ^ todo
  | 0, root => by simp [Datum.rootFrom]
  | todo + 1, root => by
    simp only [Datum.rootFrom, Nat.one_shiftLeft]
    have h2 : 2 ^ (todo + 1) = 2 ^ todo + 2 ^ todo := by rw [Nat.pow_succ]; omega
    split
    · have := rootFrom_lt n todo (root + 2 ^ todo); omega
    · have := rootFrom_lt n todo root
      have := Nat.two_pow_pos todo
      omega
/-- how great a root is -/
theorem root_small {d s m} {e : Int} {s' m'} {e' : Int} (h : (Datum.number s m e).root d = some (.number s' m' e')) (hB : e + m.log2 ≤ 150) : m' = 0 ∨ e' + m'.log2 ≤ 90 ∨ m = 0 := by
  simp only [Datum.root] at h
  split at h
  · exact .inr (.inr ‹_›)
  · split at h
    · cases h
    · rename_i hm0 _
      simp only [Option.some.injEq, Datum.number.injEq] at h
      obtain ⟨_, rfl, rfl⟩ := h
      generalize hq : 2 * d - m.log2 + ((e - (2 * d - m.log2 : Nat)) % 2).toNat = q
      have hlt := rootFrom_lt (m <<< q) ((m <<< q).log2 / 2 + 1) 0
      generalize Datum.rootFrom (m <<< q) ((m <<< q).log2 / 2 + 1) 0 = W at hlt ⊢
      have hlog : (m <<< q).log2 = m.log2 + q := by
        rw [Nat.shiftLeft_eq]
        have hne : m * 2 ^ q ≠ 0 := Nat.mul_ne_zero hm0 (Nat.ne_of_gt (Nat.two_pow_pos q))
        rw [Nat.log2_eq_iff hne]
        refine ⟨by rw [Nat.pow_add]; exact Nat.mul_le_mul_right _ (Nat.log2_self_le hm0), ?_⟩
        rw [show m.log2 + q + 1 = m.log2 + 1 + q by omega, Nat.pow_add]
        exact Nat.mul_lt_mul_of_pos_right Nat.lt_log2_self (Nat.two_pow_pos _)
      rw [hlog] at hlt
      rw [Nat.zero_add] at hlt
      generalize hb : (W * W != m <<< q).toNat = b
      have hb1 : b ≤ 1 := by rw [← hb]; cases (W * W != m <<< q) <;> decide
      by_cases hz : 2 * W + b = 0
      · exact .inl hz
      · refine .inr (.inl ?_)
        have h3 : (2 * W + b).log2 < (m.log2 + q) / 2 + 2 := (Nat.log2_lt hz).2 (by
          rw [show (m.log2 + q) / 2 + 2 = (m.log2 + q) / 2 + 1 + 1 by omega, Nat.pow_succ]; omega)
        omega
/-- the root of a 32-bit number fits -/
theorem nov_sqrt (x : Nat) : nov (fsqrt (fwid x)) = true := by
  have hnan : nov (qn .f64) = true := by
    obtain ⟨s, t, h⟩ := dec_nan (isN_qn .f64)
    simp only [nov, FloatKind.decode, h]
  cases hN : isN .f32 x with
  | true =>
    obtain ⟨s, t, h⟩ := dec_nan (isN_qn .f64)
    rw [fwid_nan hN]
    have : fsqrt (qn .f64) = qn .f64 := by
      unfold fsqrt Format.sqrt
      rw [h, root_nan]; rfl
    rw [this]; exact hnan
  | false =>
    cases hd : FloatKind.f32.decode x with
    | nan s t => simp [isN, hd, Datum.isNaN] at hN
    | infinity s =>
      rw [fwid_of hN hd]
      cases s
      · decide +kernel
      · decide +kernel
    | number s m e =>
      rw [fwid_of hN hd]
      have hm : m < 16777216 ∧ -149 ≤ e ∧ e ≤ 104 := f32_bounds hd
      cases hy : FloatKind.f64.decode (FloatKind.f64.encode (.number s m e)) with
      | nan s' t => have := isN_enc .f64 (d := .number s m e) rfl; simp [isN, hy, Datum.isNaN] at this
      | infinity s' => have := wid_fin hd; rw [hy] at this; simp [Datum.isInfinity] at this
      | number s1 m1 e1 =>
        have h1 := near64 130 (by decide) (fun hm0 => by
          have : m.log2 < 24 := (Nat.log2_lt hm0).2 (by omega)
          omega) hy
        have hfs : fsqrt (FloatKind.f64.encode (.number s m e)) = (((Datum.number s1 m1 e1).root 54).map FloatKind.f64.encode).getD (qn .f64) := by
          show ((((Ieee.double).read _).root 54).map _).getD _ = _
          have : (Ieee.double).read (FloatKind.f64.encode (.number s m e)) = .number s1 m1 e1 := hy
          rw [this]; rfl
        rw [hfs]
        cases hr : (Datum.number s1 m1 e1).root 54 with
        | none => exact hnan
        | some d =>
          simp only [Option.map_some, Option.getD_some]
          cases d with
          | nan s t => have := root_num hr; simp [Datum.isNaN] at this
          | infinity s =>
            simp only [Datum.root] at hr
            split at hr <;> (try split at hr) <;> simp at hr
          | number s2 m2 e2 =>
            cases hz : FloatKind.f64.decode (FloatKind.f64.encode (.number s2 m2 e2)) with
            | nan s t => simp only [nov, hz]
            | infinity s => simp only [nov, hz]
            | number s3 m3 e3 =>
              have h2 := near64 100 (by decide) (fun hm0 => by
                by_cases h10 : m1 = 0
                · exfalso
                  simp only [Datum.root, h10, if_true, Option.some.injEq, Datum.number.injEq] at hr
                  exact hm0 hr.2.1.symm
                · have hl1 : m1.log2 < 53 := (Nat.log2_lt h10).2 h1.1
                  rcases root_small hr (by omega) with h | h | h
                  · exact absurd h hm0
                  · omega
                  · exact absurd h h10) hz
              have h3 := nov_small (s := s3) h2.1 (e := e3) (by omega)
              simp only [nov, hz, h3, Bool.not_false]
theorem sqrt_run (p : Nat) : Extern.MathSqrt.sqrt #[.float .f64 p] = (match FloatKind.f64.format.sqrt p with
    | some r => pure (.float .f64 r)
    | none => do pure (.float .f64 (← choose (.nanBits .f64 p p)))) := rfl
theorem fsqrt_cf (x : Nat) : fsqrt (cf .f64 x) = fsqrt x := by
  cases h : isN .f64 x
  · rw [cf_of_num h]
  · rw [cf_of_nan h]
    obtain ⟨s, t, hx⟩ := dec_nan h
    obtain ⟨s', t', hx'⟩ := dec_nan (isN_qn .f64)
    simp only [fsqrt, Format.sqrt, hx, hx', root_nan]
section
variable {P : Program} {a : Act} {w : World} {dst : Option Tmp} {ty : TypeId} {pos : String} {af : Array Edge} {g : Option (Nat × Bool)}
/-- a call of math.sqrt, that has no body -/
theorem does_sqrt {f : FuncId} {x : Operand} {ats : Array TypeId} {p : Nat} (hx : a.eval x = .float .f64 p)
    (hf : ∀ p w, (callFunc f #[.float .f64 p]).run P w = ((Extern.MathSqrt.sqrt #[.float .f64 p]).run P w).andThen fun v w' => .ok (.value v) w') :
    does P ⟨dst, .call ⟨.value (.func f), #[x], ats⟩, ty, pos, af, g⟩ a w (fun v w' => ∃ r, v = .float .f64 r ∧ cf .f64 r = fsqrt (cf .f64 p) ∧ Ext w w') := by
  rw [fsqrt_cf]
  cases hs : FloatKind.f64.format.sqrt p with
  | some r =>
    refine (does_run (u := .float .f64 r) (w' := w) ?_).mono fun v w' ⟨h1, h2⟩ => ?_
    · rw [execOp_call_go]; simp [hx, hf, sqrt_run, hs]
    · subst h1 h2
      refine ⟨r, rfl, ?_, Ext.refl _⟩
      have hn : isN .f64 r = false := by
        simp only [Format.sqrt, Option.map_eq_some_iff] at hs
        obtain ⟨d, hd, rfl⟩ := hs
        exact read_write _ (root_num hd)
      rw [cf_of_num hn]; simp [fsqrt, hs]
  | none =>
    refine (does_run (u := .float .f64 ((Question.nanBits .f64 p p).cut (w.tape w.drawn (.nanBits .f64 p p)))) (w' := { w with drawn := w.drawn + 1 }) ?_).mono fun v w' ⟨h1, h2⟩ => ?_
    · rw [execOp_call_go]; simp [hx, hf, sqrt_run, hs, choose, Sem.run, Question.forced]
    · subst h1 h2
      exact ⟨_, rfl, by rw [cf_of_nan (cut_nan _ _ _ _)]; simp [fsqrt, hs], Ext.draw _⟩
end
end Go.Proofs.Ytlfpeihlfmdmdaa
