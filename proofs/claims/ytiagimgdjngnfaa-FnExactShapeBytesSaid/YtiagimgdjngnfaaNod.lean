/- nodes, steps and programs: what is told alike, how much there is, what is right -/
import Derived.Test.YtiagimgdjngnfaaOwn
import Derived.Test.YtiagimgdjngnfaaUni
namespace Go.Proofs.Ytiagimgdjngnfaa
open Go

def sameNd (a b : NodeT) : Bool := icmp .eql a.kind b.kind && icmp .eql a.a b.a && icmp .eql a.b b.b && sameL a.nums b.nums
def sameSt (a b : StepT) : Bool := icmp .eql a.kind b.kind && icmp .eql a.to b.to && icmp .eql a.a b.a && icmp .eql a.b b.b && sameNd a.node b.node
def samePr (a b : ProgT) : Bool := icmp .eql a.points b.points && icmp .eql a.values b.values && sameX sameSt a.steps b.steps
theorem sameNd_self (a : NodeT) : sameNd a a = true := by simp [sameNd, icmp, sameL_self]
theorem sameSt_self (a : StepT) : sameSt a a = true := by simp [sameSt, icmp, sameNd_self]
theorem samePr_self (a : ProgT) : samePr a a = true := by simp [samePr, icmp, sameX_self sameSt_self]

/-! how much there is -/
def nN (s : StepT) : Nat := s.node.nums.length
def stSum (l : List StepT) : Nat → Nat
  | 0 => 0
  | k + 1 => stSum l k + ((l[k]?).map nN).getD 0
def stTot (l : List StepT) : Nat := l.length + stSum l l.length
theorem stSum_succ {l : List StepT} {k : Nat} {s : StepT} (h : l[k]? = some s) : stSum l (k + 1) = stSum l k + s.node.nums.length := by simp [stSum, h, nN]
theorem stSum_mono (l : List StepT) : ∀ {j k : Nat}, j ≤ k → stSum l j ≤ stSum l k
  | j, 0, h => by have : j = 0 := by omega
                  subst this; exact Nat.le_refl _
  | j, k + 1, h => by
    rcases Nat.lt_or_ge j (k + 1) with h1 | h1
    · have := stSum_mono l (j := j) (k := k) (by omega); simp only [stSum]; omega
    · have : j = k + 1 := by omega
      subst this; exact Nat.le_refl _
theorem stTot_each {l : List StepT} {n : Nat} (h : stTot l ≤ n) : l.length ≤ n ∧ ∀ s ∈ l, s.node.nums.length ≤ n := by
  refine ⟨by unfold stTot at h; omega, fun s hs => ?_⟩
  obtain ⟨k, hk⟩ := List.getElem?_of_mem hs
  have h1 := stSum_succ hk
  have h2 := stSum_mono l (j := k + 1) (k := l.length) (by have := (List.getElem?_eq_some_iff.1 hk).1; omega)
  unfold stTot at h; omega

/-! kinds of nodes -/
def rlNum (k : Int) : Int := if k = 0 then 1 else if k = 1 then 3 else if k = 2 then 2 else if k = 3 then 2 else if k = 4 then 4 else if k = 8 then 1 else if k = 9 then 3 else if k = 10 then 1 else if k = 11 then 3 else if k = 12 then 1 else if k = 14 then 1 else if k = 15 then 1 else if k = 16 then 1 else 0
def rlCh (k : Int) : Int := if inI k 5 8 then 2 else if inI k 9 16 then 1 else 0
def rlAx (k : Int) : Bool := inI k 12 14
def rlSg (k : Int) : Int := if k = 0 ∨ k = 1 ∨ k = 2 ∨ k = 3 ∨ k = 16 then 1 else if k = 8 ∨ k = 10 ∨ k = 11 ∨ k = 14 then 2 else 0
def rlOk (k : Int) : Bool := inI k 0 16
def ruleP (k : Int) : RuleT := ⟨rlNum k, rlCh k, rlAx k, rlSg k⟩
def lssF (x : Nat) : Bool := fcmp .lss (ford .f32 x (cf .f32 0))
def leqF (x : Nat) : Bool := fcmp .leq (ford .f32 x (cf .f32 0))
def numOk (k : Int) (x : Nat) : Bool := finF x && !((rlSg k == 1 && lssF x) || (rlSg k == 2 && leqF x))
def nodeNums (k : Int) (l : List Nat) : Bool := icmp .eql (l.length : Int) (rlNum k) && l.all (numOk k)
theorem nodeNums_len {k : Int} {l : List Nat} (h : ¬ (l.length : Int) = rlNum k) : nodeNums k l = false := by simp [nodeNums, icmp, h]
theorem nodeNums_bad {k : Int} {l : List Nat} {j x : Nat} (hx : l[j]? = some x) (hp : numOk k x = false) : nodeNums k l = false := by simp [nodeNums, all_bad hx hp]
theorem nodeNums_ok {k : Int} {l : List Nat} {j : Nat} (h : (l.length : Int) = rlNum k) (ha : AllTo (numOk k) l j) (hj : ¬ (j : Int) < l.length) : nodeNums k l = true := by simp [nodeNums, icmp, h, ha.all (by omega)]
theorem any_any (f q : Nat → Bool) : ∀ l : List Nat, (!l.any (fun x => !f x) && !l.any q) = l.all (fun x => f x && !q x)
  | [] => rfl
  | x :: l => by
    simp only [List.any_cons, List.all_cons, Bool.not_or, Bool.not_not, ← any_any f q l]
    cases f x <;> cases q x <;> simp
theorem nodeNums_any (k : Int) (l : List Nat) : (icmp .eql (l.length : Int) (rlNum k) && !l.any (fun x => !finF x) && !l.any (fun x => (rlSg k == 1 && lssF x) || (rlSg k == 2 && leqF x))) = nodeNums k l := by
  unfold nodeNums numOk
  rw [Bool.and_assoc, any_any]
/-- a node of a step -/
def nodeOk (n : NodeT) : Bool := rlOk n.kind && nodeNums n.kind n.nums && icmp .eql n.a 0 && (if rlAx n.kind then inI n.b 0 2 else icmp .eql n.b 0)
def ptsK (k : Int) : Bool := inI k 9 14
def stepOk (p : ProgT) (s : StepT) : Bool :=
  nodeOk s.node && (
    if s.kind = 0 then ptsK s.node.kind && inI s.to 1 (IntKind.i64.wrap (p.points - 1)) && inI s.a 0 (IntKind.i64.wrap (p.points - 1)) && icmp .eql s.b 0
    else if s.kind = 1 then inI s.node.kind 0 4 && inI s.to 0 (IntKind.i64.wrap (p.values - 1)) && inI s.a 0 (IntKind.i64.wrap (p.points - 1)) && icmp .eql s.b 0
    else if s.kind = 2 then !inI s.node.kind 0 4 && !(ptsK s.node.kind && icmp .neq s.node.kind 10) && inI s.to 0 (IntKind.i64.wrap (p.values - 1)) && inI s.a 0 (IntKind.i64.wrap (p.values - 1)) &&
      (if inI s.node.kind 5 8 then inI s.b 0 (IntKind.i64.wrap (p.values - 1)) else icmp .eql s.b 0)
    else false)
def lastOk (l : List StepT) : Bool := match l[l.length - 1]? with | some s => icmp .eql s.to 0 && icmp .neq s.kind 0 | none => false
def progOk (p : ProgT) : Bool := inI p.points 1 18 && inI p.values 1 18 && (icmp .geq (p.steps.length : Int) 1 && icmp .leq (p.steps.length : Int) 40) && p.steps.all (stepOk p) && lastOk p.steps
def kindsTo (l : List StepT) (k : Int) : Nat → Int
  | 0 => 0
  | j + 1 => kindsTo l k j + (match l[j]? with | some s => if s.kind = k then 1 else 0 | none => 0)
theorem kindsTo_range (l : List StepT) (k : Int) : ∀ j : Nat, 0 ≤ kindsTo l k j ∧ kindsTo l k j ≤ j
  | 0 => by simp [kindsTo]
  | j + 1 => by
    have := kindsTo_range l k j
    simp only [kindsTo]; split
    · split <;> omega
    · omega
theorem kindsTo_more {l : List StepT} {k : Int} {j : Nat} {s : StepT} {n : Int} (hn : n = kindsTo l k j) (hs : l[j]? = some s) (h : s.kind = k) : n + 1 = kindsTo l k (j + 1) := by simp [kindsTo, hs, h, hn]
theorem kindsTo_same {l : List StepT} {k : Int} {j : Nat} {s : StepT} {n : Int} (hn : n = kindsTo l k j) (hs : l[j]? = some s) (h : ¬ s.kind = k) : n = kindsTo l k (j + 1) := by simp [kindsTo, hs, h, hn]
theorem progOk_f {p : ProgT} (h : inI p.points 1 18 = false ∨ inI p.values 1 18 = false ∨ ¬ (1 ≤ (p.steps.length : Int) ∧ (p.steps.length : Int) ≤ 40)) : progOk p = false := by
  rcases h with h | h | h
  · simp [progOk, h]
  · simp [progOk, h]
  · have : (icmp .geq (p.steps.length : Int) 1 && icmp .leq (p.steps.length : Int) 40) = false := by simp only [icmp, Bool.and_eq_false_iff, decide_eq_false_iff_not]; omega
    simp only [progOk, this, Bool.and_false, Bool.false_and]
theorem progOk_bad {p : ProgT} {j : Nat} {s : StepT} (hs : p.steps[j]? = some s) (h : stepOk p s = false) : progOk p = false := by simp [progOk, all_bad hs h]
theorem progOk_t {p : ProgT} {j : Nat} (h1 : inI p.points 1 18 = true) (h2 : inI p.values 1 18 = true) (h3 : 1 ≤ (p.steps.length : Int) ∧ (p.steps.length : Int) ≤ 40) (ha : AllTo (stepOk p) p.steps j) (hj : ¬ (j : Int) < p.steps.length) : progOk p = lastOk p.steps := by
  have : (icmp .geq (p.steps.length : Int) 1 && icmp .leq (p.steps.length : Int) 40) = true := by simp only [icmp, Bool.and_eq_true, decide_eq_true_eq]; exact h3
  simp only [progOk, h1, h2, this, ha.all (by omega), Bool.and_self, Bool.true_and]
theorem lastOk_of {l : List StepT} {j : Nat} {s : StepT} (hj : j = l.length - 1) (hs : l[j]? = some s) : lastOk l = (icmp .eql s.to 0 && icmp .neq s.kind 0) := by subst hj; simp [lastOk, hs]
theorem rlCh_leaf {k : Int} (h : rlOk k = true) : (icmp .eql (rlCh k) 0 = inI k 0 4) ∧ (icmp .gtr (rlCh k) 0 = !inI k 0 4) ∧ (icmp .eql (rlCh k) 2 = inI k 5 8) := by
  have hk : 0 ≤ k ∧ k ≤ 16 := inI_iff.1 h
  have e : ∀ a b : Int, inI k a b = decide (a ≤ k ∧ k ≤ b) := fun a b => by rw [Bool.eq_iff_iff, inI_iff, decide_eq_true_eq]
  unfold rlCh
  simp only [e, icmp, decide_eq_true_eq]
  by_cases h1 : 5 ≤ k ∧ k ≤ 8
  · simp only [h1, and_self, if_true]; refine ⟨?_, ?_, ?_⟩ <;> simp <;> omega
  · by_cases h2 : 9 ≤ k ∧ k ≤ 16
    · rw [if_neg h1, if_pos h2]; refine ⟨?_, ?_, ?_⟩ <;> simp <;> omega
    · rw [if_neg h1, if_neg h2]; refine ⟨?_, ?_, ?_⟩ <;> simp <;> omega
/-! how the walks tell it -/
theorem icmp_neq (p q : Int) : icmp .neq p q = !icmp .eql p q := rfl
theorem nodeOk_f {n : NodeT} (h : (inI n.kind 0 16 = false ∨ nodeNums n.kind n.nums = false) ∨ ¬ n.a = 0) : nodeOk n = false := by
  rcases h with (h | h) | h
  · simp [nodeOk, rlOk, h]
  · simp [nodeOk, h]
  · simp [nodeOk, icmp, h]
theorem nodeOk_t {n : NodeT} (h : (inI n.kind 0 16 = true ∧ nodeNums n.kind n.nums = true) ∧ n.a = 0) : nodeOk n = if rlAx n.kind then inI n.b 0 2 else icmp .eql n.b 0 := by
  simp [nodeOk, rlOk, icmp, h.1.1, h.1.2, h.2]
theorem nodeI_f {n : NodeT} (h : ((rlOk n.kind = false ∨ rlOk n.kind = false ∨ nodeNums n.kind n.nums = false) ∨ ¬ n.a = 0) ∨ ¬ n.b = 0 ∧ ((ruleP n.kind).ax = false ∨ inI n.b 0 2 = false)) : nodeOk n = false := by
  rcases h with ((h | h | h) | h) | ⟨hb, h⟩
  · simp [nodeOk, h]
  · simp [nodeOk, h]
  · simp [nodeOk, h]
  · simp [nodeOk, icmp, h]
  · have hax : (ruleP n.kind).ax = rlAx n.kind := rfl
    rw [hax] at h
    have : (if rlAx n.kind then inI n.b 0 2 else icmp .eql n.b 0) = false := by
      rcases h with h | h
      · simp [h, icmp, hb]
      · split
        · exact h
        · simp [icmp, hb]
    simp only [nodeOk, this, Bool.and_false]
theorem nodeI_t {n : NodeT} (h : ((rlOk n.kind = true ∧ rlOk n.kind = true ∧ nodeNums n.kind n.nums = true) ∧ n.a = 0) ∧ (n.b = 0 ∨ (ruleP n.kind).ax = true ∧ inI n.b 0 2 = true)) : nodeOk n = true ∧ rlOk n.kind = true := by
  obtain ⟨⟨⟨h1, _, h2⟩, h3⟩, h4⟩ := h
  have hax : (ruleP n.kind).ax = rlAx n.kind := rfl
  rw [hax] at h4
  have : (if rlAx n.kind then inI n.b 0 2 else icmp .eql n.b 0) = true := by
    rcases h4 with h | ⟨h, h'⟩
    · rw [h]; split
      · decide
      · decide
    · simp [h, h']
  exact ⟨by simp [nodeOk, h1, h2, icmp, h3]; simpa [icmp] using this, h1⟩
theorem stepOk_n {p : ProgT} {s : StepT} (h : nodeOk s.node = false) : stepOk p s = false := by simp [stepOk, h]
theorem stepOk_0 {p : ProgT} {s : StepT} (h : nodeOk s.node = true) (hk : s.kind = 0) : stepOk p s = (ptsK s.node.kind && inI s.to 1 (IntKind.i64.wrap (p.points - 1)) && inI s.a 0 (IntKind.i64.wrap (p.points - 1)) && icmp .eql s.b 0) := by simp [stepOk, h, hk]
theorem stepOk_1 {p : ProgT} {s : StepT} (h : nodeOk s.node = true) (hk : s.kind = 1) : stepOk p s = (inI s.node.kind 0 4 && inI s.to 0 (IntKind.i64.wrap (p.values - 1)) && inI s.a 0 (IntKind.i64.wrap (p.points - 1)) && icmp .eql s.b 0) := by simp [stepOk, h, hk]
theorem stepOk_2 {p : ProgT} {s : StepT} (h : nodeOk s.node = true) (hk : s.kind = 2) : stepOk p s = (!inI s.node.kind 0 4 && !(ptsK s.node.kind && icmp .neq s.node.kind 10) && inI s.to 0 (IntKind.i64.wrap (p.values - 1)) && inI s.a 0 (IntKind.i64.wrap (p.values - 1)) &&
      (if inI s.node.kind 5 8 then inI s.b 0 (IntKind.i64.wrap (p.values - 1)) else icmp .eql s.b 0)) := by simp [stepOk, h, hk]
theorem stepOk_x {p : ProgT} {s : StepT} (h0 : ¬ s.kind = 0) (h1 : ¬ s.kind = 1) (h2 : ¬ s.kind = 2) : stepOk p s = false := by simp [stepOk, h0, h1, h2]
theorem stepOk_2f {p : ProgT} {s : StepT} (hk : s.kind = 2) (h : ((inI s.node.kind 0 4 = true ∨ ptsK s.node.kind = true ∧ ¬ s.node.kind = 10) ∨ inI s.to 0 (IntKind.i64.wrap (p.values - 1)) = false) ∨ inI s.a 0 (IntKind.i64.wrap (p.values - 1)) = false) : stepOk p s = false := by
  cases hn : nodeOk s.node with
  | false => exact stepOk_n hn
  | true =>
    rw [stepOk_2 hn hk]
    rcases h with ((h | ⟨h, h'⟩) | h) | h
    · simp [h]
    · simp [h, icmp, h']
    · simp [h]
    · simp [h]
theorem stepOk_2t {p : ProgT} {s : StepT} (hn : nodeOk s.node = true) (hk : s.kind = 2) (h : ((inI s.node.kind 0 4 = false ∧ (ptsK s.node.kind = false ∨ s.node.kind = 10)) ∧ inI s.to 0 (IntKind.i64.wrap (p.values - 1)) = true) ∧ inI s.a 0 (IntKind.i64.wrap (p.values - 1)) = true) :
    stepOk p s = if inI s.node.kind 5 8 then inI s.b 0 (IntKind.i64.wrap (p.values - 1)) else icmp .eql s.b 0 := by
  rw [stepOk_2 hn hk]
  obtain ⟨⟨⟨h1, h2⟩, h3⟩, h4⟩ := h
  rcases h2 with h2 | h2
  · simp [h1, h2, h3, h4]
  · have e : icmp .neq s.node.kind 10 = false := by simp [icmp, h2]
    simp only [h1, e, h3, h4, Bool.and_false, Bool.not_false, Bool.true_and]
theorem in_zero {b m : Int} (h : inI b 0 m = true) (c : Int) (hc : icmp .eql c 0 = true) : inI c 0 m = true := by
  simp only [icmp, beq_iff_eq] at hc; subst hc
  have := inI_iff.1 h
  exact inI_iff.2 (by omega)
theorem in_one (c m : Int) : (icmp .neq c 0 && inI c 0 m) = inI c 1 m := by
  rw [Bool.eq_iff_iff, Bool.and_eq_true, inI_iff, inI_iff]; simp only [icmp, bne_iff_ne]; omega
theorem stepI_0 {p : ProgT} {s : StepT} (h : nodeOk s.node = true) (hk : s.kind = 0) : stepOk p s = (ptsK s.node.kind && icmp .neq s.to 0 && inI s.to 0 (IntKind.i64.wrap (p.points - 1)) && inI s.a 0 (IntKind.i64.wrap (p.points - 1)) && icmp .eql s.b 0) := by
  rw [stepOk_0 h hk, ← in_one s.to]; simp only [Bool.and_assoc]
theorem stepI_1 {p : ProgT} {s : StepT} (h : nodeOk s.node = true) (hr : rlOk s.node.kind = true) (hk : s.kind = 1) : stepOk p s = (icmp .eql (ruleP s.node.kind).ch 0 && inI s.to 0 (IntKind.i64.wrap (p.values - 1)) && inI s.a 0 (IntKind.i64.wrap (p.points - 1)) && icmp .eql s.b 0) := by
  rw [stepOk_1 h hk, ← (rlCh_leaf hr).1]; rfl
theorem stepI_2 {p : ProgT} {s : StepT} (h : nodeOk s.node = true) (hr : rlOk s.node.kind = true) (hk : s.kind = 2) : stepOk p s = (icmp .gtr (ruleP s.node.kind).ch 0 && (!ptsK s.node.kind || icmp .eql s.node.kind 10) && inI s.to 0 (IntKind.i64.wrap (p.values - 1)) && inI s.a 0 (IntKind.i64.wrap (p.values - 1)) &&
      (icmp .eql s.b 0 || icmp .eql (ruleP s.node.kind).ch 2 && inI s.b 0 (IntKind.i64.wrap (p.values - 1)))) := by
  have e1 : icmp .gtr (ruleP s.node.kind).ch 0 = !inI s.node.kind 0 4 := (rlCh_leaf hr).2.1
  have e2 : icmp .eql (ruleP s.node.kind).ch 2 = inI s.node.kind 5 8 := (rlCh_leaf hr).2.2
  rw [stepOk_2 h hk, e1, e2, icmp_neq]
  have hz := fun ht : inI s.to 0 (IntKind.i64.wrap (p.values - 1)) = true => in_zero ht s.b
  revert hz
  generalize inI s.node.kind 0 4 = a1; generalize ptsK s.node.kind = a2; generalize icmp .eql s.node.kind 10 = a3; generalize inI s.to 0 (IntKind.i64.wrap (p.values - 1)) = a4
  generalize inI s.a 0 (IntKind.i64.wrap (p.values - 1)) = a5; generalize inI s.node.kind 5 8 = a6; generalize inI s.b 0 (IntKind.i64.wrap (p.values - 1)) = a7; generalize icmp .eql s.b 0 = a8
  revert a1 a2 a3 a4 a5 a6 a7 a8; decide
theorem progOk_fs {p : ProgT} (h : ((inI p.points 1 18 = false ∨ inI p.values 1 18 = false) ∨ (p.steps.length : Int) < 1) ∨ 40 < (p.steps.length : Int)) : progOk p = false := progOk_f (by
  rcases h with ((h | h) | h) | h
  · exact .inl h
  · exact .inr (.inl h)
  · exact .inr (.inr (by omega))
  · exact .inr (.inr (by omega)))
theorem progOk_fi {p : ProgT} (h : (inI p.points 1 18 = false ∨ inI p.values 1 18 = false) ∨ inI (p.steps.length : Int) 1 40 = false) : progOk p = false := progOk_f (by
  rcases h with (h | h) | h
  · exact .inl h
  · exact .inr (.inl h)
  · refine .inr (.inr fun h' => ?_)
    rw [inI_iff.2 h'] at h; cases h)
theorem progOk_ts {p : ProgT} {j : Nat} (h : ((inI p.points 1 18 = true ∧ inI p.values 1 18 = true) ∧ ¬ (p.steps.length : Int) < 1) ∧ ¬ 40 < (p.steps.length : Int)) (ha : AllTo (stepOk p) p.steps j) (hj : ¬ (j : Int) < p.steps.length) : progOk p = lastOk p.steps := progOk_t h.1.1.1 h.1.1.2 ⟨by omega, by omega⟩ ha hj
theorem progOk_ti {p : ProgT} {j : Nat} (h : (inI p.points 1 18 = true ∧ inI p.values 1 18 = true) ∧ inI (p.steps.length : Int) 1 40 = true) (ha : AllTo (stepOk p) p.steps j) (hj : ¬ (j : Int) < p.steps.length) : progOk p = lastOk p.steps := progOk_t h.1.1 h.1.2 (inI_iff.1 h.2) ha hj
theorem progOk_len {p : ProgT} (h : (inI p.points 1 18 = true ∧ inI p.values 1 18 = true) ∧ inI (p.steps.length : Int) 1 40 = true) : 1 ≤ (p.steps.length : Int) ∧ (p.steps.length : Int) ≤ 40 := inI_iff.1 h.2
theorem lastOk_of' {l : List StepT} {s : StepT} (hs : l[((l.length : Int) - 1).toNat]? = some s) : lastOk l = (icmp .eql s.to 0 && icmp .neq s.kind 0) := lastOk_of (by omega) hs
theorem numI_f {k : Int} {l : List Nat} (h : (rlOk k = false ∨ ¬ (l.length : Int) = (ruleP k).num) ∨ (l.any fun x => !finF x) = true) : (rlOk k && nodeNums k l) = false := by
  have e : (ruleP k).num = rlNum k := rfl
  rw [e] at h
  rw [← nodeNums_any]
  rcases h with (h | h) | h
  · simp [h]
  · simp [icmp, h]
  · rw [h]; simp
theorem numI_t {k : Int} {l : List Nat} (h : (rlOk k = true ∧ (l.length : Int) = (ruleP k).num) ∧ (l.any fun x => !finF x) = false) : (rlOk k && nodeNums k l) = !l.any (fun x => ((ruleP k).sg == 1 && lssF x) || ((ruleP k).sg == 2 && leqF x)) := by
  have e : (ruleP k).num = rlNum k := rfl
  have e2 : (ruleP k).sg = rlSg k := rfl
  rw [e] at h; rw [e2]
  rw [← nodeNums_any]
  simp [h.1.1, h.1.2, h.2, icmp]
end Go.Proofs.Ytiagimgdjngnfaa
