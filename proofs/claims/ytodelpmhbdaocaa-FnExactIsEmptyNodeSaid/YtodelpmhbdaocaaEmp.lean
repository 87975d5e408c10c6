/- nodes that change nothing -/
import Derived.Test.YtodelpmhbdaocaaBit
import Derived.Laws.OwnMore
namespace Go.Proofs.Ytodelpmhbdaocaa
open Go Ieee Go.RowKit

section
variable {P : Program} {a : Act} {w : World} {dst : Option Tmp} {ty : TypeId} {pos : String} {af : Array Edge} {g : Option (Nat × Bool)}
theorem does_makeZ {t e : TypeId} {x y : Operand} {n : Nat} (ht : P.underlying t = some (.slice e)) (hi : ∃ i, P.info? e = some i ∧ i.zero = some (Value.float .f32 0) ∧ i.size = 1 ∧ i.bytes ≤ 1000)
    (hx : a.eval x = .int .i64 n) (hy : a.eval y = .int .i64 n) (hn : n ≤ 2097152) :
    does P ⟨dst, .makeSlice t x y, ty, pos, af, g⟩ a w (fun v w' => Ext w w' ∧ ∃ y, v = y ∧ Sl RF 1 w' y (List.replicate n (cf .f32 0))) := by
  refine (does_makeSlice ht hi hx hy hn).mono fun v w' ⟨b, hv, _, ⟨cs, hB, hl, hc⟩, hx⟩ => ⟨hx, _, hv, ?_⟩
  refine Fill.sl (j := n) ⟨cs, hB, hl, fun i x hi hx' => ?_⟩ (Nat.le_refl _) (by simp) (by omega) (by decide)
  have hc' : cs = List.replicate (n * 1) (Value.float .f32 0) := by rw [hc]; exact toList_madeCells_one _ _
  have hxe : x = cf .f32 0 := (List.mem_replicate.1 (List.mem_of_getElem? hx')).2
  subst hxe
  refine ⟨0, ?_, rfl⟩
  rw [hc', List.drop_replicate, List.take_replicate]
  have : min 1 (n * 1 - i * 1) = 1 := by omega
  rw [this]; rfl
end

def cf0 : Nat := cf .f32 0
theorem one_num {y : Nat} (hy : y < 4294967296) (h : ford .f32 y 1065353216 = some .eq) : y = 1065353216 := by
  have hs : Ieee.single.signWeight = 2147483648 := by decide
  have hi : Ieee.single.infRung = 2139095040 := by decide
  have hb : Ieee.single.binade = 8388608 := by decide
  have hl : Ieee.single.leastPlace = -149 := by decide
  have h1 : FloatKind.f32.format.read 1065353216 = .number false 8388608 (-23) := by decide
  have key : ∀ (s : Bool) (m : Nat) (e : Int), FloatKind.f32.format.read y = .number s m e → m * 2 ^ (e - min e (-23)).toNat = 8388608 * 2 ^ (-23 - min e (-23)).toNat ∧ s = false := fun s m e hd => by
    simp only [ford, Format.order, hd, h1, Datum.order, Option.some.injEq] at h
    have he : signed s m (e - min e (-23)).toNat = signed false 8388608 (-23 - min e (-23)).toNat := by
      have : compareOfLessAndEq (signed s m (e - min e (-23)).toNat) (signed false 8388608 (-23 - min e (-23)).toNat) = .eq := h
      unfold compareOfLessAndEq at this
      split at this
      · cases this
      · split at this
        · assumption
        · cases this
    have hp : 0 < 8388608 * 2 ^ (-23 - min e (-23)).toNat := Nat.mul_pos (by decide) (Nat.two_pow_pos _)
    simp only [signed, Nat.shiftLeft_eq, Bool.false_eq_true, if_false] at he
    cases s
    · simp only [Bool.false_eq_true, if_false] at he
      exact ⟨Int.ofNat.inj he, rfl⟩
    · exfalso
      simp only [if_true] at he
      omega
  have hm : FloatKind.f32.format.read y = (let neg := y / 2147483648 % 2 == 1; let rung := y % 2147483648
      if rung < 8388608 then .number neg rung (-149) else if rung < 2139095040 then .number neg (8388608 + rung % 8388608) (-149 + (rung / 8388608 - 1 : Nat)) else if rung = 2139095040 then .infinity neg else .nan neg (rung - 2139095040)) := by
    simp only [FloatKind.format, Format.read, hs, hi, hb, hl]
  simp only at hm
  split at hm
  · rename_i hr
    exfalso
    obtain ⟨k1, _⟩ := key _ _ _ hm
    have e1 : ((-149 : Int) - min (-149) (-23)).toNat = 0 := by decide
    have e2 : ((-23 : Int) - min (-149) (-23)).toNat = 126 := by decide
    rw [e1, e2] at k1
    simp only [Nat.pow_zero, Nat.mul_one] at k1
    have : 8388608 * 2 ^ 1 ≤ 8388608 * 2 ^ 126 := Nat.mul_le_mul_left _ (Nat.pow_le_pow_right (by decide) (by decide))
    omega
  · split at hm
    · rename_i hr1 hr2
      obtain ⟨k1, k2⟩ := key _ _ _ hm
      have hq : 1 ≤ y % 2147483648 / 8388608 := by omega
      generalize hQ : y % 2147483648 / 8388608 = Q at *
      have he : (-149 : Int) + ((Q - 1 : Nat) : Int) = Q - 150 := by omega
      rw [he] at k1
      have hM : y % 2147483648 % 8388608 < 8388608 := Nat.mod_lt _ (by decide)
      generalize hM' : y % 2147483648 % 8388608 = M at *
      rcases Nat.lt_trichotomy Q 127 with hlt | heq | hgt
      · exfalso
        have e1 : ((Q : Int) - 150 - min ((Q : Int) - 150) (-23)).toNat = 0 := by omega
        have e2 : ((-23 : Int) - min ((Q : Int) - 150) (-23)).toNat = 127 - Q := by omega
        rw [e1, e2] at k1
        simp only [Nat.pow_zero, Nat.mul_one] at k1
        have : 8388608 * 2 ^ 1 ≤ 8388608 * 2 ^ (127 - Q) := Nat.mul_le_mul_left _ (Nat.pow_le_pow_right (by decide) (by omega))
        omega
      · subst heq
        have e1 : (((127 : Nat) : Int) - 150 - min (((127 : Nat) : Int) - 150) (-23)).toNat = 0 := by decide
        have e2 : ((-23 : Int) - min (((127 : Nat) : Int) - 150) (-23)).toNat = 0 := by decide
        rw [e1, e2] at k1
        simp only [Nat.pow_zero, Nat.mul_one] at k1
        have hn : ¬ (y / 2147483648 % 2 = 1) := by simpa using k2
        omega
      · exfalso
        have e1 : ((Q : Int) - 150 - min ((Q : Int) - 150) (-23)).toNat = Q - 127 := by omega
        have e2 : ((-23 : Int) - min ((Q : Int) - 150) (-23)).toNat = 0 := by omega
        rw [e1, e2] at k1
        simp only [Nat.pow_zero, Nat.mul_one] at k1
        have : (8388608 + M) * 2 ^ 1 ≤ (8388608 + M) * 2 ^ (Q - 127) := Nat.mul_le_mul_left _ (Nat.pow_le_pow_right (by decide) (by omega))
        omega
    · exfalso
      split at hm
      · have h' : (Datum.infinity (y / 2147483648 % 2 == 1)).order (.number false 8388608 (-23)) = some .eq := by rw [← hm, ← h1]; exact h
        cases hs2 : (y / 2147483648 % 2 == 1) <;> rw [hs2] at h' <;> cases h'
      · have h' : (Datum.nan (y / 2147483648 % 2 == 1) (y % 2147483648 - 2139095040)).order (.number false 8388608 (-23)) = some .eq := by rw [← hm, ← h1]; exact h
        cases h'
theorem cf_one : cf .f32 1065353216 = 1065353216 := by decide
theorem one_bits {y : Nat} (hy : bdF y) : sBits y (cf .f32 1065353216) = !fcmp .neq (ford .f32 y (cf .f32 1065353216)) := by
  unfold bdF at hy
  rw [cf_one]
  have hb : bitsF 1065353216 = 1065353216 := by decide
  unfold sBits
  rw [hb]
  cases hn : nanF y
  · have e : bitsF y = y := by unfold bitsF; rw [hn]; exact in_i64 (by omega) (by omega)
    rw [e]
    by_cases h : y = 1065353216
    · subst h; decide
    · have h2 : ford .f32 y 1065353216 ≠ some .eq := fun hf => h (one_num hy hf)
      have h3 : icmp .eql (y : Int) 1065353216 = false := by
        have : ¬ ((y : Int) = 1065353216) := by omega
        simp [icmp, this]
      have h4 : fcmp .neq (ford .f32 y 1065353216) = true := by
        show (ford .f32 y 1065353216 != some .eq) = true
        exact bne_iff_ne.2 h2
      rw [h3, h4]; rfl
  · have e : bitsF y = 2143289344 := by unfold bitsF; rw [hn]; rfl
    rw [e]
    rw [nanF_isN] at hn
    rw [ford_nan_l _ hn]; rfl
theorem cf0_bd : bdF (cf .f32 0) := by unfold bdF; decide
def alS (l : List Nat) (x : Nat) : Bool := l.all (fun y => sBits y x)
theorem alS_bad {l : List Nat} {x y : Nat} {k : Nat} (hy : l[k]? = some y) (h : sBits y x = false) : alS l x = false := by unfold alS; exact all_bad hy h
theorem alS_ok {l : List Nat} {x : Nat} {k : Nat} (h : AllTo (fun y => sBits y x) l k) (hk : ¬ (k : Int) < l.length) : alS l x = true := h.all (by omega)
theorem sameX_rep {f : Nat → Nat → Bool} (x : Nat) : ∀ l : List Nat, sameX f l (List.replicate l.length x) = l.all (fun y => f y x)
  | [] => rfl
  | y :: l => by simp [List.replicate_succ, sameX, sameX_rep x l]
def empS (n : NodeT) : Bool := if n.kind = 9 ∨ n.kind = 15 then alS n.nums (cf .f32 0) else if n.kind = 10 ∨ n.kind = 11 then alS n.nums (cf .f32 1065353216) else false
def empI (n : NodeT) : Bool := if n.kind = 9 ∨ n.kind = 15 then sameX sameN n.nums (List.replicate n.nums.length (cf .f32 0)) else if n.kind = 10 ∨ n.kind = 11 then !n.nums.any (fun x => fcmp .neq (ford .f32 x (cf .f32 1065353216))) else false
theorem empS_0 {n : NodeT} (h : n.kind = 9 ∨ n.kind = 15) : empS n = alS n.nums (cf .f32 0) := if_pos h
theorem empS_1 {n : NodeT} (h0 : ¬ (n.kind = 9 ∨ n.kind = 15)) (h : n.kind = 10 ∨ n.kind = 11) : empS n = alS n.nums (cf .f32 1065353216) := by unfold empS; rw [if_neg h0, if_pos h]
theorem empS_2 {n : NodeT} (h0 : ¬ (n.kind = 9 ∨ n.kind = 15)) (h : ¬ (n.kind = 10 ∨ n.kind = 11)) : empS n = false := by unfold empS; rw [if_neg h0, if_neg h]
theorem empI_0 {n : NodeT} (h : n.kind = 9 ∨ n.kind = 15) : empI n = sameX sameN n.nums (List.replicate n.nums.length (cf .f32 0)) := if_pos h
theorem empI_1 {n : NodeT} (h0 : ¬ (n.kind = 9 ∨ n.kind = 15)) (h : n.kind = 10 ∨ n.kind = 11) : empI n = !n.nums.any (fun x => fcmp .neq (ford .f32 x (cf .f32 1065353216))) := by unfold empI; rw [if_neg h0, if_pos h]
theorem empI_2 {n : NodeT} (h0 : ¬ (n.kind = 9 ∨ n.kind = 15)) (h : ¬ (n.kind = 10 ∨ n.kind = 11)) : empI n = false := by unfold empI; rw [if_neg h0, if_neg h]
theorem all_congr' {f g : Nat → Bool} : ∀ {l : List Nat}, (∀ x ∈ l, f x = g x) → l.all f = l.all g
  | [], _ => rfl
  | x :: l, h => by simp only [List.all_cons]; rw [h x (by simp), all_congr' fun y hy => h y (by simp [hy])]
theorem emp_eq {n : NodeT} (h : bdN n) : empS n = empI n := by
  unfold empS empI
  split
  · rw [sameX_rep]; exact all_congr' fun x hx => sBits_eq (h x hx) cf0_bd
  · split
    · unfold alS
      rw [List.not_any_eq_all_not]
      exact all_congr' fun x hx => one_bits (h x hx)
    · rfl
def isEmS (n : NodeT) : Bool := nodeNums n.kind n.nums && empS n
def isEmI (n : NodeT) : Bool := (rlOk n.kind && nodeNums n.kind n.nums) && empI n
theorem isEm_eq {n : NodeT} (h : bdN n) : isEmS n = isEmI n := by
  unfold isEmS isEmI
  rw [emp_eq h]
  cases hr : rlOk n.kind
  · have : empI n = false := empI_2 (by rintro (h | h) <;> rw [h] at hr <;> revert hr <;> decide) (by rintro (h | h) <;> rw [h] at hr <;> revert hr <;> decide)
    rw [this]; simp
  · rw [Bool.true_and]
end Go.Proofs.Ytodelpmhbdaocaa
