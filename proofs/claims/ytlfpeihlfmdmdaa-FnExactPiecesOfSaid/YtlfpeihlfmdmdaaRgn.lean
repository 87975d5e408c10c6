/- Regions in any order that make several new blocks: these lie apart. -/
import Derived.Test.YtlfpeihlfmdmdaaReg
namespace Go.Proofs.Ytlfpeihlfmdmdaa
open Go Go.RowKit

/-- a new block behind those of the world -/
def NewB (w : World) (v : Value) (w' : World) : Prop := ∃ b, v = .pointer (some ⟨b, 0, none⟩) ∧ w.heap.size ≤ b ∧ b < w'.heap.size
/-- the walk in the order of the text; what operations 'ns' give is new -/
def RWN (P : Program) (ops : Array Oper) (w0 : World) (ns : List Nat) (fin : List Oper → Act → (World → Prop) → List Value → Prop) : Nat → List Oper → List Fact → Act → (Nat → World → Prop) → (World → Prop) → List Value → Prop
  | k, o :: os, f :: fs, a, F, Φ, N =>
    (∀ w, Ext w0 w → facts F w f.deps → if f.float then (∃ v, Yields P ops o v a ∧ f.S v w) ∧ ns.contains k = false else doesG P ops o a w (fun v w' => f.S v w' ∧ Ext w w' ∧ (ns.contains k = true → NewB w v w'))) ∧
    ∀ v, RWN P ops w0 ns fin (k + 1) os fs (a.put o.dst v) (fun t => if o.dst = some t then f.S v else F t) (fun w => Φ w ∧ f.S v w) (if ns.contains k then v :: N else N)
  | _, os, _, a, _, Φ, N => fin os a Φ N
theorem doesG.mono {P : Program} {ops : Array Oper} {o : Oper} {a : Act} {w : World} {R R' : Value → World → Prop} (h : doesG P ops o a w R) (hr : ∀ v w', R v w' → R' v w') : doesG P ops o a w R' :=
  ⟨fun hw => (h.1 hw).mono hr, fun hw => hr _ _ (h.2 hw)⟩
section
variable {P : Program} {ops : Array Oper} {w0 : World} {ns : List Nat} {fin : List Oper → Act → (World → Prop) → List Value → Prop} {k : Nat} {o : Oper} {os : List Oper} {f : Fact} {fs : List Fact} {l : List Value} {d : Nat} {F : Nat → World → Prop} {Φ : World → Prop} {N : List Value}
/-- an operation that makes no new block of interest -/
theorem RWN_d (l' : Value → List Value) (hn : ns.contains k = false) (hd : o.dst = some d) (hl : ∀ v, l.set d v = l' v)
    (h1 : ∀ w, Ext w0 w → facts F w f.deps → if f.float then ∃ v, Yields P ops o v (fr l) ∧ f.S v w else doesG P ops o (fr l) w (fun v w' => f.S v w' ∧ Ext w w'))
    (h2 : ∀ v, RWN P ops w0 ns fin (k + 1) os fs (fr (l' v)) (fun t => if d = t then f.S v else F t) (fun w => Φ w ∧ f.S v w) N) : RWN P ops w0 ns fin k (o :: os) (f :: fs) (fr l) F Φ N := by
  refine ⟨fun w hx hf => ?_, fun v => ?_⟩
  · have h := h1 w hx hf
    cases hfl : f.float
    · simp only [hfl, Bool.false_eq_true, if_false] at h ⊢
      exact h.mono fun v w' ⟨a, b⟩ => ⟨a, b, fun hc => by rw [hn] at hc; cases hc⟩
    · simp only [hfl, if_true] at h ⊢
      exact ⟨h, hn⟩
  · rw [hd, fr_put, hl, hn, if_neg Bool.false_ne_true]
    have e : (fun t => if (some d : Option Nat) = some t then f.S v else F t) = (fun t => if d = t then f.S v else F t) := by
      funext t; by_cases h : d = t <;> simp [h]
    rw [e]; exact h2 v
/-- one that does -/
theorem RWN_n (l' : Value → List Value) (hn : ns.contains k = true) (hfl : f.float = false) (hd : o.dst = some d) (hl : ∀ v, l.set d v = l' v)
    (h1 : ∀ w, Ext w0 w → facts F w f.deps → doesG P ops o (fr l) w (fun v w' => f.S v w' ∧ Ext w w' ∧ NewB w v w'))
    (h2 : ∀ v, RWN P ops w0 ns fin (k + 1) os fs (fr (l' v)) (fun t => if d = t then f.S v else F t) (fun w => Φ w ∧ f.S v w) (v :: N)) : RWN P ops w0 ns fin k (o :: os) (f :: fs) (fr l) F Φ N := by
  refine ⟨fun w hx hf => ?_, fun v => ?_⟩
  · rw [hfl, if_neg Bool.false_ne_true]
    exact (h1 w hx hf).mono fun v w' ⟨a, b, c⟩ => ⟨a, b, fun _ => c⟩
  · rw [hd, fr_put, hl, hn, if_pos rfl]
    have e : (fun t => if (some d : Option Nat) = some t then f.S v else F t) = (fun t => if d = t then f.S v else F t) := by
      funext t; by_cases h : d = t <;> simp [h]
    rw [e]; exact h2 v
theorem RWN_fin {a : Act} (h : fin os a Φ N) : RWN P ops w0 ns fin k os [] a F Φ N := by cases os <;> exact h
end
def newN (ns : List Nat) (vals : Nat → Value) : Nat → List Value
  | 0 => []
  | k + 1 => if ns.contains k then vals k :: newN ns vals k else newN ns vals k
/-- the new blocks so far lie in the world, and apart -/
def Apart (ns : List Nat) (m : Nat) (U : List Nat) (vals : Nat → Value) (w : World) : Prop :=
  (∀ i, i < m → i ∉ U → ns.contains i = true → ∃ b, vals i = .pointer (some ⟨b, 0, none⟩) ∧ b < w.heap.size) ∧ ∀ i j, i < m → j < m → i ∉ U → j ∉ U → ns.contains i = true → ns.contains j = true → i ≠ j → vals i ≠ vals j
theorem Apart.step {ns : List Nat} {m : Nat} {U : List Nat} {vals : Nat → Value} {w w' : World} {i : Nat} {v : Value} (h : Apart ns m U vals w) (hnd : U.Nodup) (hiU : i ∈ U) (hx : Ext w w') (hn : ns.contains i = true → NewB w v w') : Apart ns m (U.erase i) (fun j => if j = i then v else vals j) w' := by
  have hout : ∀ j, j ∉ U.erase i → j ≠ i → j ∉ U := fun j hj hne hu => hj (hnd.mem_erase_iff.2 ⟨hne, hu⟩)
  refine ⟨fun j hj hjU hc => ?_, fun j k hj hk hjU hkU hcj hck hne => ?_⟩
  · by_cases hji : j = i
    · subst hji
      obtain ⟨b, hv, _, hlt⟩ := hn hc
      exact ⟨b, by simpa using hv, hlt⟩
    · obtain ⟨b, hv, hlt⟩ := h.1 j hj (hout j hjU hji) hc
      exact ⟨b, by simpa [hji] using hv, Nat.lt_of_lt_of_le hlt hx.size⟩
  · by_cases hji : j = i
    · have hki : k ≠ i := fun hh => hne (hji.trans hh.symm)
      obtain ⟨b, hv, hge, _⟩ := hn (hji ▸ hcj)
      obtain ⟨c, hv', hlt⟩ := h.1 k hk (hout k hkU hki) hck
      simp only [if_pos hji, if_neg hki, hv, hv']
      intro he; cases he; omega
    · by_cases hki : k = i
      · obtain ⟨b, hv, hge, _⟩ := hn (hki ▸ hck)
        obtain ⟨c, hv', hlt⟩ := h.1 j hj (hout j hjU hji) hcj
        simp only [if_neg hji, if_pos hki, hv, hv']
        intro he; cases he; omega
      · simp only [if_neg hji, if_neg hki]
        exact h.2 j k hj hk (hout j hjU hji) (hout k hkU hki) hcj hck hne
theorem newN_mem {ns : List Nat} {vals : Nat → Value} {v : Value} : ∀ {n : Nat}, v ∈ newN ns vals n → ∃ i, i < n ∧ ns.contains i = true ∧ vals i = v
  | 0, h => by cases h
  | n + 1, h => by
    unfold newN at h
    split at h
    · rename_i hc
      rcases List.mem_cons.1 h with rfl | h
      · exact ⟨n, by omega, hc, rfl⟩
      · obtain ⟨i, hi, hr⟩ := newN_mem h; exact ⟨i, by omega, hr⟩
    · obtain ⟨i, hi, hr⟩ := newN_mem h; exact ⟨i, by omega, hr⟩
theorem Apart.nodup {ns : List Nat} {m : Nat} {U : List Nat} {vals : Nat → Value} {w : World} (h : Apart ns m U vals w) (hall : ∀ i, i < m → i ∉ U) : ∀ n, n ≤ m → (newN ns vals n).Nodup
  | 0, _ => List.nodup_nil
  | n + 1, hn => by
    have ih := h.nodup hall n (by omega)
    unfold newN
    split
    · rename_i hc
      refine List.nodup_cons.2 ⟨fun hm => ?_, ih⟩
      obtain ⟨i, hi, hci, he⟩ := newN_mem hm
      exact h.2 i n (by omega) (by omega) (hall i (by omega)) (hall n (by omega)) hci hc (by omega) he
    · exact ih
section
variable {P : Program} {ops : Array Oper} {Q : Exit → Act → World → Prop} {w0 : World} {a0 : Act} {fs : List Fact} {ns : List Nat}
theorem RWN_at {fin : List Oper → Act → (World → Prop) → List Value → Prop} (h : RWN P ops w0 ns fin 0 ops.toList fs a0 (fun _ _ => True) (fun _ => True) []) (hm : fs.length ≤ ops.size) (vals : Nat → Value) :
    ∀ k, k ≤ fs.length → RWN P ops w0 ns fin k (ops.toList.drop k) (fs.drop k) (actN ops a0 vals k) (envN ops fs vals k) (phiN fs vals k) (newN ns vals k) := by
  intro k
  induction k with
  | zero => intro _; exact h
  | succ k ih =>
    intro hk
    have h1 := ih (by omega)
    have ho : k < ops.toList.length := by simp; omega
    rw [List.drop_eq_getElem_cons ho, List.drop_eq_getElem_cons (show k < fs.length by omega)] at h1
    have h2 := h1.2 (vals k)
    have hd : dstOf ops k = (ops.toList[k]'ho).dst := by
      have : ops[k]? = some (ops.toList[k]'ho) := by simp at ho ⊢
      simp [dstOf, this]
    have hf : fs[k]? = some (fs[k]'(by omega)) := List.getElem?_eq_getElem _
    simp only [actN, envN, phiN, newN, hd, hf, Option.map_some, Option.getD_some]
    exact h2

/-- **any order** -/
theorem pre_anyN {m : Nat} {deps : List (List Nat)} {fl : List Nat} (G : Good ops m deps fl) (hmf : fs.length = m) (hms : m ≤ ops.size) (hdeps : deps = fs.map (·.deps)) (hfl : ∀ i f, fs[i]? = some f → (f.float = true ↔ i ∈ fl))
    (hQ : ∀ c (a : Act) (d : Option Tmp) v w, Q (.panic c) (a.put d v) w → Q (.panic c) a w)
    (H : RWN P ops w0 ns (fun os a Φ N => ∀ w, Ext w0 w → Φ w → N.Nodup → wpList P ops Q os a w) 0 ops.toList fs a0 (fun _ _ => True) (fun _ => True) []) :
    ∀ (fuel : Nat) (U : List Nat) (listed : Array Bool) (vals : Nat → Value) (w : World), U.Nodup → U.length ≤ fuel → listed.size = ops.size → (∀ j, j < ops.size → (listed.getD j true = false ↔ j ∈ U)) →
      (∀ k, m ≤ k → k < ops.size → k ∈ U) → Ext w0 w → (∀ i f, i < m → i ∉ U → fs[i]? = some f → f.S (vals i) w) → Apart ns m U vals w →
      wpAny P .any ops Q fuel listed (actL ops a0 vals (fun j => !decide (j ∈ U)) m) w := by
  have lis : ∀ {U : List Nat} {listed : Array Bool}, listed.size = ops.size → (∀ j, j < ops.size → (listed.getD j true = false ↔ j ∈ U)) → ∀ j, j < ops.size → (listed.getD j false = true ↔ j ∉ U) := fun {U listed} hsz hU j hj => by
    have h1 := hU j hj
    have h2 : ∀ l : Array Bool, l.size = ops.size → l.getD j false = l.getD j true := fun l hl => by simp [Array.getD_eq_getD_getElem?, hl ▸ hj]
    rw [h2 _ hsz]
    cases hb : listed.getD j true <;> simp_all
  -- what the walk says of operation i, in the state of whatever order
  have at_i : ∀ (U : List Nat) (vals : Nat → Value) (w : World) (i : Nat) (o : Oper) (f : Fact) (listed : Array Bool), i < m → ops[i]? = some o → fs[i]? = some f → listed.size = ops.size → (∀ j, j < ops.size → (listed.getD j true = false ↔ j ∈ U)) →
      i ∈ Region.ready .any ops listed → Ext w0 w → (∀ i f, i < m → i ∉ U → fs[i]? = some f → f.S (vals i) w) →
      if f.float then (∃ v, Yields P ops o v (actL ops a0 vals (fun j => !decide (j ∈ U)) m) ∧ f.S v w) ∧ ns.contains i = false else doesG P ops o (actL ops a0 vals (fun j => !decide (j ∈ U)) m) w (fun v w' => f.S v w' ∧ Ext w w' ∧ (ns.contains i = true → NewB w v w')) := by
    intro U vals w i o f listed him hio hif hsz hU hr hx hS
    have hR := RWN_at H (by omega) vals i (by omega)
    have hol : i < ops.toList.length := by simp; omega
    rw [List.drop_eq_getElem_cons hol, List.drop_eq_getElem_cons (show i < fs.length by omega)] at hR
    have e1 : ops.toList[i]'hol = o := by
      have := (Array.getElem?_eq_some_iff.1 hio).2
      simpa using this
    have e2 : fs[i]'(by omega) = f := (List.getElem?_eq_some_iff.1 hif).2
    rw [e1, e2] at hR
    have hun : ∀ j, dirB ops i j = true → j < ops.size → j ∉ U := fun j hd hj => (lis hsz hU j hj).1 (ready_dir hr hd)
    have hfacts : facts (envN ops fs vals i) w f.deps := by
      refine facts_of fun t ht => ?_
      have hd : deps.getD i [] = f.deps := by rw [hdeps]; simp [List.getD_eq_getElem?_getD, hif]
      obtain ⟨j, hji, hjd, hjb⟩ := G.dep i him t (by rw [hd]; exact ht)
      have hjf : fs[j]? = some (fs[j]'(by omega)) := List.getElem?_eq_getElem _
      have key : ∀ n, j < n → n ≤ i → envN ops fs vals n t w := by
        intro n
        induction n with
        | zero => intro h _; omega
        | succ n ih =>
          intro h1 h2
          by_cases hjn : j = n
          · subst hjn
            simp only [envN, hjd, if_true, hjf, Option.map_some, Option.getD_some]
            exact hS j _ (by omega) (hun j hjb (by omega)) hjf
          · have hne : dstOf ops n ≠ some t := fun hh => G.dst j (by omega) n (by omega) (fun e => hjn e.symm) t hjd hh
            simp only [envN, hne, if_false]
            exact ih (by omega) (by omega)
      exact key i hji (Nat.le_refl _)
    have h1 := hR.1 w hx hfacts
    have slots : ∀ t ∈ o.looksAt ops, (actL ops a0 vals (fun j => !decide (j ∈ U)) m).tmps[t]? = (actN ops a0 vals i).tmps[t]? := fun t ht => by
      have := slot_lex (ops := ops) (a0 := a0) vals (fun j => !decide (j ∈ U)) i t m fun j hj hd => by
        obtain ⟨h1, h2⟩ := G.look i o him hio t ht j hj hd
        exact ⟨h1, by simp [hun j h2 (by omega)]⟩
      rw [this, Nat.min_eq_right (by omega)]
    have hex := execOp_of_slots (ops := ops) (o := o) (fun cs b => Region.noSelect_spec G.sel i o cs b hio) slots
    have hwa := wanted_of_slots (ops := ops) (o := o) slots
    cases hff : f.float with
    | true =>
      simp only [hff, if_true] at h1 ⊢
      obtain ⟨⟨v, hy, hv⟩, hns⟩ := h1
      exact ⟨⟨v, hy.of_same hex hwa, hv⟩, hns⟩
    | false =>
      simp only [hff, if_false, Bool.false_eq_true] at h1 ⊢
      refine ⟨fun hw => does_congr hex.symm (h1.1 (hwa ▸ hw)), fun hw => h1.2 (hwa ▸ hw)⟩
  intro fuel
  induction fuel with
  | zero =>
    intro U listed vals w hnd hlen hsz hU htl hx hS hK
    have hU0 : U = [] := List.length_eq_zero_iff.1 (by omega)
    subst hU0
    have hmn : m = ops.size := by
      rcases Nat.lt_or_ge m ops.size with h | h
      · exact absurd (htl m (Nat.le_refl _) h) (by simp)
      · omega
    have hR := RWN_at H (by omega) vals m (by omega)
    rw [List.drop_eq_nil_of_le (show fs.length ≤ m by omega)] at hR
    have hfin : ∀ w, Ext w0 w → phiN fs vals m w → (newN ns vals m).Nodup → wpList P ops Q (ops.toList.drop m) (actN ops a0 vals m) w := by
      cases hd : ops.toList.drop m <;> rw [hd] at hR <;> exact hR
    have hphi : ∀ n, n ≤ m → phiN fs vals n w := by
      intro n; induction n with
      | zero => intro _; trivial
      | succ n ih => intro hn; refine ⟨ih (by omega), ?_⟩; rw [List.getElem?_eq_getElem (show n < fs.length by omega)]; exact hS n _ (by omega) (by simp) (List.getElem?_eq_getElem _)
    have hact : ∀ n, actL ops a0 vals (fun j => !decide (j ∈ ([] : List Nat))) n = actN ops a0 vals n := by
      intro n; induction n with
      | zero => rfl
      | succ n ih => rw [actL_succ, ih]; simp [actN]
    rw [hact]
    exact tail_any G 0 m listed _ w (by omega) (Nat.le_refl _) hsz (fun j hj => by
      have h1 := (hU j hj)
      simp only [List.not_mem_nil, iff_false, Bool.not_eq_false] at h1
      rw [h1]; simp; omega) (hfin w hx (hphi m (Nat.le_refl _)) (hK.nodup (fun _ _ h => by cases h) m (Nat.le_refl _))) 0 (Nat.le_refl _)
  | succ fuel ih =>
    intro U listed vals w hnd hlen hsz hU htl hx hS hK
    by_cases hall : ∀ i, i < m → i ∉ U
    · -- the tail
      have hR := RWN_at H (by omega) vals m (by omega)
      rw [List.drop_eq_nil_of_le (show fs.length ≤ m by omega)] at hR
      have hfin : ∀ w, Ext w0 w → phiN fs vals m w → (newN ns vals m).Nodup → wpList P ops Q (ops.toList.drop m) (actN ops a0 vals m) w := by
        cases hd : ops.toList.drop m <;> rw [hd] at hR <;> exact hR
      have hphi : ∀ n, n ≤ m → phiN fs vals n w := by
        intro n; induction n with
        | zero => intro _; trivial
        | succ n ihn => intro hn; refine ⟨ihn (by omega), ?_⟩; rw [List.getElem?_eq_getElem (show n < fs.length by omega)]; exact hS n _ (by omega) (hall n (by omega)) (List.getElem?_eq_getElem _)
      have hact : ∀ n, n ≤ m → actL ops a0 vals (fun j => !decide (j ∈ U)) n = actN ops a0 vals n := by
        intro n; induction n with
        | zero => intro _; rfl
        | succ n ihn => intro hn; rw [actL_succ, ihn (by omega)]; simp [actN, hall n (by omega)]
      rw [hact m (Nat.le_refl _)]
      have hlenU : ops.size - m ≤ U.length := by
        have hsub : (List.range' m (ops.size - m)).length ≤ U.length := List.Nodup.length_le_of_subset (List.nodup_range' (step := 1)) fun k hk => by
          rw [List.mem_range'_1] at hk; exact htl k hk.1 (by omega)
        simpa using hsub
      refine tail_any G (ops.size - m) m listed _ w (by omega) (Nat.le_refl _) hsz (fun j hj => ?_) (hfin w hx (hphi m (Nat.le_refl _)) (hK.nodup (fun i hi hu => hall i hi hu) m (Nat.le_refl _))) (fuel + 1) (by omega)
      by_cases hjm : j < m
      · have : ¬ listed.getD j true = false := fun h => hall j hjm ((hU j hj).1 h)
        simp only [Bool.not_eq_false] at this
        rw [this]; simp [hjm]
      · rw [(hU j hj).2 (htl j (by omega) hj)]; simp [hjm]
    · -- the least of those that have not come up
      have hex : ∃ i, i < m ∧ i ∈ U := Classical.byContradiction fun h => hall fun i hi hu => h ⟨i, hi, hu⟩
      have step : ∀ i v, i < m → i ∈ U → ∀ w', Ext w w' → (∀ f, fs[i]? = some f → f.S v w') → (ns.contains i = true → NewB w v w') →
          wpAny P .any ops Q fuel (listed.setIfInBounds i true) ((actL ops a0 vals (fun j => !decide (j ∈ U)) m).put (dstOf ops i) v) w' := fun i v him hiU w' hx' hv hnw => by
        have h1 := ih (U.erase i) (listed.setIfInBounds i true) (fun j => if j = i then v else vals j) w' (hnd.erase i) (by rw [List.length_erase_of_mem hiU]; omega) (by simp [hsz]) (fun j hj => by
          rw [hnd.mem_erase_iff]
          by_cases hji : i = j
          · subst hji; simp [hsz, hj]
          · rw [getD_set_ne true hji, hU j hj]; simp [Ne.symm hji]) (fun k hk hk' => by
          rw [hnd.mem_erase_iff]; exact ⟨by omega, htl k hk hk'⟩) (hx.gr hx') (fun j f hj hjU hf => by
          by_cases hji : j = i
          · subst hji; simpa using hv f hf
          · simp only [if_neg hji]
            refine f.st _ _ _ hx' (hS j f hj (fun hu => hjU ?_) hf)
            rw [hnd.mem_erase_iff]; exact ⟨hji, hu⟩) (hK.step hnd hiU hx' hnw)
        have h2 := actL_set (ops := ops) (a0 := a0) vals (fun j => !decide (j ∈ U)) i v (by simp [hiU]) m (fun j hj hne d hd => G.dst i him j hj hne d hd) m (Nat.le_refl _)
        rw [if_pos him] at h2
        have h3 : (fun j => if j = i then true else !decide (j ∈ U)) = (fun j => !decide (j ∈ U.erase i)) := by
          funext j
          by_cases hji : j = i
          · subst hji; simp [hnd.mem_erase_iff]
          · simp [hji, hnd.mem_erase_iff]
        rw [h3] at h2
        rw [← h2]; exact h1
      have fget : ∀ i, i < m → ∃ f, fs[i]? = some f := fun i hi => ⟨_, List.getElem?_eq_getElem (by omega)⟩
      by_cases hfl' : ∃ i, i ∈ fl ∧ i ∈ U ∧ i ∈ Region.ready .any ops listed
      · obtain ⟨i, hifl, hiU, hir⟩ := hfl'
        obtain ⟨him, hap⟩ := G.float i hifl
        obtain ⟨f, hf⟩ := fget i him
        obtain ⟨_, o, ho, _⟩ := mem_ready.1 hir
        have h1 := at_i U vals w i o f listed him ho hf hsz hU hir hx hS
        simp only [(hfl i f hf).2 hifl, if_true] at h1
        obtain ⟨⟨v, hy, hv⟩, hns⟩ := h1
        refine wpAny_first ho (Region.noSelect_spec G.sel) (fun c a w => hQ c a _ _ w) fuel listed _ w (fun j oj hj hne hun hno => ?_) hir hy ?_
        · rcases hap j o oj ho hj hne with h | h | h
          · have := ready_dir hir h
            rw [lis hsz hU j (Array.getElem?_eq_some_iff.1 hj).1] at this
            exact absurd ((hU j (Array.getElem?_eq_some_iff.1 hj).1).1 hun) this
          · obtain ⟨o', ho', e, he, hb, heq⟩ := dirB_spec.1 h
            rw [hj] at ho'; cases ho'
            exact absurd heq (hno e he hb)
          · exact h
        · have hd : o.dst = dstOf ops i := by simp [dstOf, ho]
          rw [hd]
          exact step i v him hiU w (Ext.refl w) (fun f' hf' => by rw [hf] at hf'; cases hf'; exact hv) (fun hc => by rw [hns] at hc; cases hc)
      · -- some operation that has not come up may
        have least : ∃ i, i < m ∧ i ∈ U ∧ ∀ j, j < i → j ∉ U := by
          obtain ⟨i, hi, hu⟩ := hex
          induction i using Nat.strongRecOn with
          | _ i ihh =>
            by_cases h : ∃ j, j < i ∧ j ∈ U
            · obtain ⟨j, hj, hju⟩ := h; exact ihh j hj (by omega) hju
            · exact ⟨i, hi, hu, fun j hj hju => h ⟨j, hj, hju⟩⟩
        obtain ⟨i0, hi0, hu0, hl0⟩ := least
        have hr0 : i0 ∈ Region.ready .any ops listed := by
          have hlt : i0 < ops.size := by omega
          refine mem_ready.2 ⟨(hU i0 hlt).2 hu0, ops[i0], Array.getElem?_eq_some_iff.2 ⟨hlt, rfl⟩, fun e he hb => ?_⟩
          have hk := G.back i0 _ (Array.getElem?_eq_some_iff.2 ⟨hlt, rfl⟩) e he hb
          exact (lis hsz hU e.on (by omega)).2 (hl0 _ hk)
        refine ⟨fun h0 => (by rw [h0] at hr0; cases hr0), fun i hir => ?_⟩
        obtain ⟨hun, o, ho, _⟩ := mem_ready.1 hir
        have hlt := (Array.getElem?_eq_some_iff.1 ho).1
        have hiU := (hU i hlt).1 hun
        have him : i < m := by
          rcases Nat.lt_or_ge i m with h | h
          · exact h
          · exfalso
            have hnf : i0 ∈ fl := Classical.byContradiction fun hh => by
              have := ready_dir hir ((G.tail i hlt h).1 i0 hi0 hh)
              exact (lis hsz hU i0 (by omega)).1 this hu0
            exact hfl' ⟨i0, hnf, hu0, hr0⟩
        obtain ⟨f, hf⟩ := fget i him
        have hff : f.float = false := by
          cases hff : f.float with
          | false => rfl
          | true => exact absurd ⟨i, (hfl i f hf).1 hff, hiU, hir⟩ hfl'
        have h1 := at_i U vals w i o f listed him ho hf hsz hU hir hx hS
        simp only [hff, if_false, Bool.false_eq_true] at h1
        have hd : o.dst = dstOf ops i := by simp [dstOf, ho]
        unfold wpOp
        rw [ho]
        by_cases hw : Region.wanted o (yielded ops (actL ops a0 vals (fun j => !decide (j ∈ U)) m).tmps) = true
        · simp only [hw, if_true]
          refine .inl ((h1.1 hw).wp fun v w' ⟨hv, hx', hnw⟩ => ?_)
          rw [hd]
          exact step i v him hiU w' hx' (fun f' hf' => by rw [hf] at hf'; cases hf'; exact hv) hnw
        · simp only [Bool.not_eq_true] at hw
          simp only [hw, Bool.false_eq_true, if_false]
          obtain ⟨hv, hx', hnw⟩ := h1.2 hw
          rw [hd]
          exact step i undef him hiU w hx' (fun f' hf' => by rw [hf] at hf'; cases hf'; exact hv) hnw

/-- **A region that draws its order**: 'fs' tells what is known of its first operations; what is left is its tail, in the order of the text. -/
theorem region_drawN {id : Nat} {l : List Oper} {a : Act} {w : World} (ns : List Nat) (fs : List Fact) (hm : P.follows .mixedOrders = true)
    (hchk : (chk l.toArray fs.length (fs.map (·.deps)) ((List.range fs.length).filter fun i => (fs[i]?.map (·.float)).getD false) && decide (fs.length ≤ l.length)) = true)
    (hQ : ∀ c (a : Act) (d : Option Tmp) v w, Q (.panic c) (a.put d v) w → Q (.panic c) a w)
    (H : RWN P l.toArray w.drew ns (fun os a Φ N => ∀ w', Ext w.drew w' → Φ w' → N.Nodup → wpList P l.toArray Q os a w') 0 l fs a (fun _ _ => True) (fun _ => True) []) : (Code.region id l.toArray true).wp P Q a w := by
  simp only [Bool.and_eq_true, decide_eq_true_eq] at hchk
  have hle : fs.length ≤ l.toArray.size := by simpa using hchk.2
  have G := chk_good hchk.1
  refine wp_region_any hm ?_
  have h := pre_anyN (Q := Q) (ns := ns) G rfl hle rfl (fun i f hf => ?_) hQ (by simpa using H) l.toArray.size (List.range l.toArray.size) (Array.replicate l.toArray.size false) (fun _ => undef) w.drew
    List.nodup_range (by simp) (by simp) (fun j hj => by simp at hj; simp [hj]) (fun k _ hk => by simpa using hk) (Ext.refl _) (fun i f him hiU _ => absurd (List.mem_range.2 (by omega)) hiU) ⟨fun i hi hiU => absurd (List.mem_range.2 (by omega)) hiU, fun i j hi hj hiU => absurd (List.mem_range.2 (by omega)) hiU⟩
  · have ha : ∀ n, n ≤ l.toArray.size → actL l.toArray a (fun _ => undef) (fun j => !decide (j ∈ List.range l.toArray.size)) n = a := by
      intro n; induction n with
      | zero => intro _; rfl
      | succ n ih => intro hn; rw [actL_succ, ih (by omega)]; simp at hn ⊢; omega
    rw [ha _ hle] at h
    exact h
  · have hi := (List.getElem?_eq_some_iff.1 hf).1
    have hi2 := (List.getElem?_eq_some_iff.1 hf).2
    simp [hi, hi2]
end
end Go.Proofs.Ytlfpeihlfmdmdaa
