/- shapes: what is right -/
import Derived.Test.YtiagimgdjngnfaaNod
import Derived.Test.YtiagimgdjngnfaaRwg
namespace Go.Proofs.Ytiagimgdjngnfaa
open Go

def incL (l : List Int) (i : Int) : List Int := l.set i.toNat (IntKind.i64.wrap ((l[i.toNat]?).getD 0 + 1))
theorem incL_len (l : List Int) (i : Int) : (incL l i).length = l.length := by simp [incL]
theorem incL_at {l : List Int} {i e : Int} (h : l[i.toNat]? = some e) : l.set i.toNat (IntKind.i64.wrap (e + 1)) = incL l i := by simp [incL, h]
def nodeIn (n : NodeT) (i : Int) : Bool := inI n.kind 0 16 && nodeNums n.kind n.nums &&
  (if inI n.kind 0 4 then icmp .eql n.a 0 && icmp .eql n.b 0 else inI n.a 0 (i - 1) && (if inI n.kind 5 8 then inI n.b 0 (i - 1) else if rlAx n.kind then inI n.b 0 2 else icmp .eql n.b 0))
theorem nodeIn_0 {n : NodeT} {i : Int} (h : inI n.kind 0 16 = false ∨ nodeNums n.kind n.nums = false) : nodeIn n i = false := by rcases h with h | h <;> simp [nodeIn, h]
theorem nodeIn_t {n : NodeT} {i : Int} (h : inI n.kind 0 16 = true ∧ nodeNums n.kind n.nums = true) : nodeIn n i = (if inI n.kind 0 4 then icmp .eql n.a 0 && icmp .eql n.b 0 else inI n.a 0 (i - 1) && (if inI n.kind 5 8 then inI n.b 0 (i - 1) else if rlAx n.kind then inI n.b 0 2 else icmp .eql n.b 0)) := by simp [nodeIn, h.1, h.2]
/-- the children of a node -/
def chL (n : NodeT) : List Int := [n.a, n.b].take (rlCh n.kind).toNat
def axOk (n : NodeT) : Bool := (icmp .gtr (rlCh n.kind) 0 || icmp .eql n.a 0) && ((icmp .eql (rlCh n.kind) 2 || icmp .eql n.b 0) || (rlAx n.kind && inI n.b 0 2))
theorem inI_dec (k a b : Int) : inI k a b = decide (a ≤ k ∧ k ≤ b) := by rw [Bool.eq_iff_iff, inI_iff, decide_eq_true_eq]
theorem kind_cases {k : Int} (h : inI k 0 16 = true) : (inI k 0 4 = true ∧ inI k 5 8 = false ∧ rlCh k = 0 ∧ rlAx k = false) ∨ (inI k 0 4 = false ∧ inI k 5 8 = true ∧ rlCh k = 2 ∧ rlAx k = false) ∨ (inI k 0 4 = false ∧ inI k 5 8 = false ∧ rlCh k = 1) := by
  have hk := inI_iff.1 h
  simp only [rlCh, rlAx, inI_dec, decide_eq_true_eq, decide_eq_false_iff_not]
  by_cases h1 : k ≤ 4
  · left; refine ⟨by omega, by omega, ?_, by omega⟩; rw [if_neg (by omega), if_neg (by omega)]
  · by_cases h2 : k ≤ 8
    · right; left; refine ⟨by omega, by omega, ?_, by omega⟩; rw [if_pos (by omega)]
    · right; right; refine ⟨by omega, by omega, ?_⟩; rw [if_neg (by omega), if_pos (by omega)]
theorem rlCh_le {k : Int} : 0 ≤ rlCh k ∧ rlCh k ≤ 2 := by
  unfold rlCh; split
  · omega
  · split <;> omega
theorem chL_len (n : NodeT) : (chL n).length ≤ 2 := by simp [chL]; omega
/-- the program's way to say it -/
theorem nodeIn_imp {n : NodeT} {i : Int} (h0 : inI n.kind 0 16 = true) : nodeIn n i = (nodeNums n.kind n.nums && axOk n && (chL n).all (fun c => inI c 0 (i - 1))) := by
  unfold nodeIn axOk chL
  rw [h0, Bool.true_and, Bool.and_assoc]
  congr 1
  rcases kind_cases h0 with ⟨h1, h2, h3, h4⟩ | ⟨h1, h2, h3, h4⟩ | ⟨h1, h2, h3⟩
  · simp [h1, h3, h4, icmp]
  · simp [h1, h2, h3, icmp]
  · simp only [h1, h2, h3, icmp, Bool.false_eq_true, if_false]
    have ht : [n.a, n.b].take (Int.toNat 1) = [n.a] := rfl
    simp only [ht, List.all_cons, List.all_nil, Bool.and_true]
    cases hx : rlAx n.kind with
    | true =>
      simp only [if_true, Bool.true_and]
      have : (n.b == 0 || inI n.b 0 2) = inI n.b 0 2 := by
        rw [Bool.eq_iff_iff, Bool.or_eq_true, inI_iff, beq_iff_eq]; omega
      have e1 : decide ((1 : Int) > 0) = true := by decide
      have e2 : ((1 : Int) == 2) = false := by decide
      rw [e1, e2, Bool.true_or, Bool.true_and, Bool.false_or, this, Bool.and_comm]
    | false =>
      have e1 : decide ((1 : Int) > 0) = true := by decide
      have e2 : ((1 : Int) == 2) = false := by decide
      simp only [Bool.false_eq_true, if_false, Bool.false_and, Bool.or_false, e1, e2, Bool.true_or, Bool.true_and, Bool.false_or]
      rw [Bool.and_comm]
theorem nodeIn_kind {n : NodeT} {i : Int} (h : inI n.kind 0 16 = false) : nodeIn n i = false := by simp [nodeIn, h]
/-- one node's children told -/
def useN (l : List Int) (n : NodeT) : List Int := if inI n.kind 5 8 then incL (if inI n.kind 0 4 then l else incL l n.a) n.b else if inI n.kind 0 4 then l else incL l n.a
theorem useN_len (l : List Int) (n : NodeT) : (useN l n).length = l.length := by unfold useN; split <;> split <;> simp [incL_len]
theorem useN_ch {l : List Int} {n : NodeT} (h : inI n.kind 0 16 = true) : useN l n = (chL n).foldl incL l := by
  unfold useN chL
  rcases kind_cases h with ⟨h1, h2, h3, h4⟩ | ⟨h1, h2, h3, h4⟩ | ⟨h1, h2, h3⟩
  · simp [h1, h2, h3]
  · simp [h1, h2, h3]
  · simp [h1, h2, h3]
def useTo (ns : List NodeT) : Nat → List Int
  | 0 => List.replicate ns.length 0
  | k + 1 => match ns[k]? with | some n => useN (useTo ns k) n | none => useTo ns k
theorem useTo_len (ns : List NodeT) : ∀ k, (useTo ns k).length = ns.length
  | 0 => by simp [useTo]
  | k + 1 => by unfold useTo; split <;> simp [useN_len, useTo_len ns k]
theorem useTo_succ {ns : List NodeT} {k : Nat} {n : NodeT} (h : ns[k]? = some n) : useTo ns (k + 1) = useN (useTo ns k) n := by simp [useTo, h]
def okAt (ns : List NodeT) (i : Nat) : Bool := match ns[i]? with | some n => nodeIn n i | none => true
def oneAt (l : List Int) (i : Nat) : Bool := icmp .eql ((l[i]?).getD 0) 1
def isShape (s : ShapeT) : Bool := icmp .geq (s.nodes.length : Int) 1 && icmp .leq (s.nodes.length : Int) 16 && (List.range s.nodes.length).all (okAt s.nodes) && (List.range (s.nodes.length - 1)).all (oneAt (useTo s.nodes s.nodes.length))
def OkTo (ns : List NodeT) (k : Nat) : Prop := ∀ j, j < k → okAt ns j = true
theorem OkTo.zero {ns : List NodeT} : OkTo ns 0 := fun j hj => by omega
theorem OkTo.step {ns : List NodeT} {k : Nat} {n : NodeT} (h : OkTo ns k) (hn : ns[k]? = some n) (hk : nodeIn n k = true) : OkTo ns (k + 1) := fun j hj => by
  rcases Nat.lt_or_ge j k with h' | h'
  · exact h j h'
  · obtain rfl : j = k := by omega
    simp only [okAt, hn]; exact hk
theorem isShape_len {s : ShapeT} (h : ¬ (1 ≤ (s.nodes.length : Int) ∧ (s.nodes.length : Int) ≤ 16)) : isShape s = false := by
  have : (icmp .geq (s.nodes.length : Int) 1 && icmp .leq (s.nodes.length : Int) 16) = false := by simp only [icmp, Bool.and_eq_false_iff, decide_eq_false_iff_not]; omega
  simp only [isShape, this, Bool.false_and]
theorem isShape_bad {s : ShapeT} {k : Nat} {n : NodeT} (hn : s.nodes[k]? = some n) (h : nodeIn n k = false) : isShape s = false := by
  have hl := (List.getElem?_eq_some_iff.1 hn).1
  have : (List.range s.nodes.length).all (okAt s.nodes) = false := by
    rw [List.all_eq_false]; exact ⟨k, List.mem_range.2 hl, by simp [okAt, hn, h]⟩
  simp only [isShape, this, Bool.and_false, Bool.false_and]
theorem isShape_t {s : ShapeT} {k : Nat} (h : 1 ≤ (s.nodes.length : Int) ∧ (s.nodes.length : Int) ≤ 16) (ho : OkTo s.nodes k) (hk : s.nodes.length ≤ k) : isShape s = (List.range (s.nodes.length - 1)).all (oneAt (useTo s.nodes s.nodes.length)) := by
  have h1 : (icmp .geq (s.nodes.length : Int) 1 && icmp .leq (s.nodes.length : Int) 16) = true := by simp only [icmp, Bool.and_eq_true, decide_eq_true_eq]; exact h
  have h2 : (List.range s.nodes.length).all (okAt s.nodes) = true := by
    rw [List.all_eq_true]; intro j hj; exact ho j (by have := List.mem_range.1 hj; omega)
  simp only [isShape, h1, h2, Bool.true_and]
theorem isShape_one {s : ShapeT} {k j : Nat} {e : Int} (h : 1 ≤ (s.nodes.length : Int) ∧ (s.nodes.length : Int) ≤ 16) (ho : OkTo s.nodes k) (hk : ¬ (k : Int) < s.nodes.length) (hk2 : k ≤ s.nodes.length) (hj : (j : Int) < s.nodes.length - 1) (he : (useTo s.nodes k)[j]? = some e) (hne : ¬ e = 1) : isShape s = false := by
  obtain rfl : k = s.nodes.length := by omega
  rw [isShape_t h ho (Nat.le_refl _), List.all_eq_false]
  exact ⟨j, List.mem_range.2 (by omega), by simp [oneAt, he, icmp, hne]⟩
theorem isShape_all {s : ShapeT} {k : Nat} (h : 1 ≤ (s.nodes.length : Int) ∧ (s.nodes.length : Int) ≤ 16) (ho : OkTo s.nodes k) (hk : ¬ (k : Int) < s.nodes.length) (hk2 : k ≤ s.nodes.length) (ha : ∀ i : Nat, (i : Int) < s.nodes.length - 1 → oneAt (useTo s.nodes k) i = true) : isShape s = true := by
  obtain rfl : k = s.nodes.length := by omega
  rw [isShape_t h ho (Nat.le_refl _), List.all_eq_true]
  intro i hi
  exact ha i (by have := List.mem_range.1 hi; omega)
/-- the last node is nobody's child -/
theorem incL_last {l : List Int} {i : Int} {m : Nat} (h : i.toNat ≠ m) : (incL l i)[m]? = l[m]? := by simp [incL, h]
theorem useN_last {l : List Int} {n : NodeT} {i m : Nat} (h : nodeIn n i = true) (hi : i ≤ m) : (useN l n)[m]? = l[m]? := by
  have h0 : inI n.kind 0 16 = true := by
    cases hk : inI n.kind 0 16 with
    | true => rfl
    | false => rw [nodeIn_kind hk] at h; cases h
  rw [nodeIn_imp h0] at h
  simp only [Bool.and_eq_true, List.all_eq_true] at h
  have ha := h.2
  rw [useN_ch h0]
  generalize chL n = cs at ha
  induction cs generalizing l with
  | nil => rfl
  | cons c cs ih =>
    rw [List.foldl_cons, ih (fun x hx => ha x (by simp [hx]))]
    have := inI_iff.1 (ha c (by simp))
    exact incL_last (by omega)
theorem useTo_last {ns : List NodeT} {m : Nat} : ∀ {k : Nat}, OkTo ns k → k ≤ m + 1 → (useTo ns k)[m]? = (List.replicate ns.length (0 : Int))[m]?
  | 0, _, _ => rfl
  | k + 1, h, hk => by
    unfold useTo
    split
    · rename_i n hn
      have := h k (by omega)
      simp only [okAt, hn] at this
      rw [useN_last this (by omega)]
      exact useTo_last (fun j hj => h j (by omega)) (by omega)
    · exact useTo_last (fun j hj => h j (by omega)) (by omega)
theorem isShape_imp {s : ShapeT} {k : Nat} (h : 1 ≤ (s.nodes.length : Int) ∧ (s.nodes.length : Int) ≤ 16) (ho : OkTo s.nodes k) (hk : ¬ (k : Int) < s.nodes.length) (hk2 : k ≤ s.nodes.length) :
    isShape s = !((useTo s.nodes k).take (s.nodes.length - 1)).any (fun x => icmp .neq x 1) := by
  obtain rfl : k = s.nodes.length := by omega
  rw [isShape_t h ho (Nat.le_refl _)]
  have hl := useTo_len s.nodes s.nodes.length
  generalize useTo s.nodes s.nodes.length = l at hl
  rw [Bool.eq_iff_iff, Bool.not_eq_true', List.any_eq_false, List.all_eq_true]
  constructor
  · intro hx x hm
    obtain ⟨i, hi⟩ := List.getElem?_of_mem hm
    rw [List.getElem?_take] at hi
    split at hi
    · have := hx i (List.mem_range.2 (by omega))
      simp only [oneAt, hi, Option.getD_some, icmp, beq_iff_eq] at this
      simp [icmp, this]
    · cases hi
  · intro hx i hi
    have hi' := List.mem_range.1 hi
    have he : l[i]? = some (l[i]'(by omega)) := List.getElem?_eq_getElem (by omega)
    have := hx (l[i]'(by omega)) (by
      refine List.mem_of_getElem? (i := i) ?_
      rw [List.getElem?_take, if_pos hi', he])
    simp only [icmp, bne_iff_ne, ne_eq, Decidable.not_not] at this
    simp [oneAt, he, icmp, this]
theorem last_zero {s : ShapeT} {k : Nat} {e : Int} (ho : OkTo s.nodes k) (hk2 : k ≤ s.nodes.length) (h1 : 1 ≤ (s.nodes.length : Int)) (he : (useTo s.nodes k)[((s.nodes.length : Int) - 1).toNat]? = some e) : e = 0 := by
  rw [useTo_last ho (by omega), List.getElem?_replicate, if_pos (by omega)] at he
  exact (Option.some.inj he).symm
theorem nodeIn_ok {n : NodeT} {i : Int} (h : nodeIn n i = true) : inI n.kind 0 16 = true := by
  cases hk : inI n.kind 0 16 with
  | true => rfl
  | false => rw [nodeIn_kind hk] at h; cases h
theorem nodeIn_a {n : NodeT} {i : Int} (h : nodeIn n i = true) (hl : inI n.kind 0 4 = false) : 0 ≤ n.a ∧ n.a < i := by
  simp only [nodeIn, hl, Bool.and_eq_true, Bool.false_eq_true, if_false] at h
  have := inI_iff.1 h.2.1; omega
theorem nodeIn_b {n : NodeT} {i : Int} (h : nodeIn n i = true) (hl : inI n.kind 5 8 = true) : 0 ≤ n.b ∧ n.b < i := by
  have hl4 : inI n.kind 0 4 = false := by
    rcases kind_cases (nodeIn_ok h) with ⟨_, h2, _⟩ | ⟨h1, _⟩ | ⟨h1, _⟩
    · rw [hl] at h2; cases h2
    · exact h1
    · exact h1
  simp only [nodeIn, hl, hl4, Bool.and_eq_true, Bool.false_eq_true, if_false, if_true] at h
  have := inI_iff.1 h.2.2; omega
theorem fold_take {α β : Type} {f : β → α → β} {l : List α} {b : β} {m : Nat} {x : α} (h : l[m]? = some x) : (l.take (m + 1)).foldl f b = f ((l.take m).foldl f b) x := by
  rw [List.take_add_one, h, Option.toList_some, List.foldl_append]; rfl
theorem foldI_len (l : List Int) : ∀ cs : List Int, (cs.foldl incL l).length = l.length
  | [] => rfl
  | c :: cs => by rw [List.foldl_cons, foldI_len (incL l c) cs, incL_len]
theorem nodeI_bad {n : NodeT} {i : Int} (h : (rlOk n.kind = false ∨ nodeNums n.kind n.nums = false) ∨ axOk n = false) : nodeIn n i = false := by
  cases hk : inI n.kind 0 16 with
  | false => exact nodeIn_kind hk
  | true =>
    rw [nodeIn_imp hk]
    rcases h with (h | h) | h
    · unfold rlOk at h; rw [hk] at h; cases h
    · simp [h]
    · simp [h]
theorem nodeI_bad2 {n : NodeT} {i : Int} {m : Nat} {c : Int} (hk : inI n.kind 0 16 = true) (hc : (chL n)[m]? = some c) (h : inI c 0 (i - 1) = false) : nodeIn n i = false := by
  rw [nodeIn_imp hk, all_bad hc h]; simp
theorem nodeI_good {n : NodeT} {i : Int} {m : Nat} (hk : rlOk n.kind = true) (hn : nodeNums n.kind n.nums = true) (hx : axOk n = true) (ha : AllTo (fun c => inI c 0 (i - 1)) (chL n) m) (hm : ¬ (m : Int) < (chL n).length) : nodeIn n i = true := by
  rw [nodeIn_imp hk, hn, hx, ha.all (by omega)]; rfl
theorem isShape_last {s : ShapeT} {k : Nat} {e : Int} (h : 1 ≤ (s.nodes.length : Int) ∧ (s.nodes.length : Int) ≤ 16) (ho : OkTo s.nodes k) (hk : ¬ (k : Int) < s.nodes.length) (hk2 : k ≤ s.nodes.length) (he : (useTo s.nodes k)[((s.nodes.length : Int) - 1).toNat]? = some e) :
    isShape s = (icmp .eql e 0 && !((useTo s.nodes k).take ((s.nodes.length : Int) - 1).toNat).any (fun x => icmp .neq x 1)) := by
  rw [last_zero ho hk2 h.1 he, isShape_imp h ho hk hk2, show ((s.nodes.length : Int) - 1).toNat = s.nodes.length - 1 by omega]; rfl
theorem one_step {l : List Int} {m : Nat} {e : Int} (h : ∀ j : Nat, j < m → oneAt l j = true) (he : l[m]? = some e) (h1 : e = 1) : ∀ j : Nat, j < m + 1 → oneAt l j = true := fun j hj => by
  rcases Nat.lt_or_ge j m with h' | h'
  · exact h j h'
  · obtain rfl : j = m := by omega
    simp [oneAt, he, icmp, h1]
theorem isShape_bd {s : ShapeT} (h : isShape s = true) : 1 ≤ s.nodes.length ∧ s.nodes.length ≤ 16 := by
  rcases Decidable.em (1 ≤ (s.nodes.length : Int) ∧ (s.nodes.length : Int) ≤ 16) with h1 | h1
  · omega
  · rw [isShape_len h1] at h; cases h
/-! how much there is -/
def ndSum (l : List NodeT) : Nat → Nat
  | 0 => 0
  | k + 1 => ndSum l k + ((l[k]?).map fun n => n.nums.length).getD 0
def ndTot (l : List NodeT) : Nat := l.length + ndSum l l.length
theorem ndSum_succ {l : List NodeT} {k : Nat} {s : NodeT} (h : l[k]? = some s) : ndSum l (k + 1) = ndSum l k + s.nums.length := by simp [ndSum, h]
theorem ndSum_mono (l : List NodeT) : ∀ {j k : Nat}, j ≤ k → ndSum l j ≤ ndSum l k
  | j, 0, h => by have : j = 0 := by omega
                  subst this; exact Nat.le_refl _
  | j, k + 1, h => by
    rcases Nat.lt_or_ge j (k + 1) with h1 | h1
    · have := ndSum_mono l (j := j) (k := k) (by omega); simp only [ndSum]; omega
    · have : j = k + 1 := by omega
      subst this; exact Nat.le_refl _
theorem ndTot_each {l : List NodeT} {n : Nat} (h : ndTot l ≤ n) : l.length ≤ n ∧ ∀ s ∈ l, s.nums.length ≤ n := by
  refine ⟨by unfold ndTot at h; omega, fun s hs => ?_⟩
  obtain ⟨k, hk⟩ := List.getElem?_of_mem hs
  have h1 := ndSum_succ hk
  have h2 := ndSum_mono l (j := k + 1) (k := l.length) (by have := (List.getElem?_eq_some_iff.1 hk).1; omega)
  unfold ndTot at h; omega
def sameShp (a b : ShapeT) : Bool := sameX sameNd a.nodes b.nodes
theorem sameShp_self (a : ShapeT) : sameShp a a = true := sameX_self sameNd_self _
def sameCam (a b : CamT) : Bool := sameV a.frm b.frm && sameV a.to b.to && sameF (fwid a.wide) (fwid b.wide) && icmp .eql a.width b.width && icmp .eql a.height b.height
theorem sameCam_self (a : CamT) : sameCam a a = true := by simp [sameCam, sameV_self, sameF_self, icmp]
def sameMar (a b : MarchT) : Bool := sameF (fwid a.near) (fwid b.near) && sameF (fwid a.most) (fwid b.most) && icmp .eql a.steps b.steps
theorem sameMar_self (a : MarchT) : sameMar a a = true := by simp [sameMar, sameF_self, icmp]
def sameView (a b : ViewT) : Bool := sameShp a.shape b.shape && sameCam a.cam b.cam && sameV a.light b.light && sameMar a.march b.march
theorem sameView_self (a : ViewT) : sameView a a = true := by simp [sameView, sameShp_self, sameCam_self, sameV_self, sameMar_self]
def marchOk (m : MarchT) : Bool := (finF m.near && posF m.near) && finF m.most && fcmp .geq (ford .f32 m.most (cf .f32 0)) && inI m.steps 1 64
def isView (v : ViewT) : Bool := isShape v.shape && isCam v.cam && finV v.light && marchOk v.march
end Go.Proofs.Ytiagimgdjngnfaa
