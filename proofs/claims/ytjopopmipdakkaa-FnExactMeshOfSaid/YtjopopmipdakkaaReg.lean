/- A region in whatever order it is carried out: each operation is shown once, in the order of the text, from what is known of the slots that it reads. -/
import Derived.Test.YtjopopmipdakkaaBase
namespace Go.Proofs.Ytjopopmipdakkaa
open Go Go.RowKit
structure Fact where
  deps : List Nat
  S : Value → World → Prop
  st : ∀ v w w', Ext w w' → S v w → S v w'
  float : Bool
def Fact.pure (deps : List Nat) (p : Value → Prop) : Fact := ⟨deps, fun v _ => p v, fun _ _ _ _ h => h, false⟩
def Fact.flt (deps : List Nat) (p : Value → Prop) : Fact := ⟨deps, fun v _ => p v, fun _ _ _ _ h => h, true⟩
def Fact.mem (deps : List Nat) (S : Value → World → Prop) (st : ∀ v w w', Ext w w' → S v w → S v w') : Fact := ⟨deps, S, st, false⟩
def facts (F : Nat → World → Prop) (w : World) : List Nat → Prop
  | [] => True
  | t :: ts => F t w ∧ facts F w ts
theorem facts_of {F : Nat → World → Prop} {w : World} : ∀ {l : List Nat}, (∀ t ∈ l, F t w) → facts F w l
  | [], _ => trivial
  | t :: ts, h => ⟨h t (by simp), facts_of fun u hu => h u (by simp [hu])⟩
def doesG (P : Program) (ops : Array Oper) (o : Oper) (a : Act) (w : World) (R : Value → World → Prop) : Prop :=
  (Region.wanted o (yielded ops a.tmps) = true → does P o a w R) ∧ (Region.wanted o (yielded ops a.tmps) = false → R undef w)
def RW (P : Program) (ops : Array Oper) (w0 : World) (fin : List Oper → Act → (World → Prop) → Prop) : List Oper → List Fact → Act → (Nat → World → Prop) → (World → Prop) → Prop
  | o :: os, f :: fs, a, F, Φ =>
    (∀ w, Ext w0 w → facts F w f.deps → if f.float then ∃ v, Yields P ops o v a ∧ f.S v w else doesG P ops o a w (fun v w' => f.S v w' ∧ Ext w w')) ∧
    ∀ v, RW P ops w0 fin os fs (a.put o.dst v) (fun t => if o.dst = some t then f.S v else F t) (fun w => Φ w ∧ f.S v w)
  | os, _, a, _, Φ => fin os a Φ
theorem RW_d {P : Program} {ops : Array Oper} {w0 : World} {fin : List Oper → Act → (World → Prop) → Prop} {o : Oper} {os : List Oper} {f : Fact} {fs : List Fact} {l : List Value} {d : Nat} {F : Nat → World → Prop} {Φ : World → Prop} (l' : Value → List Value)
    (hd : o.dst = some d) (hl : ∀ v, l.set d v = l' v)
    (h1 : ∀ w, Ext w0 w → facts F w f.deps → if f.float then ∃ v, Yields P ops o v (fr l) ∧ f.S v w else doesG P ops o (fr l) w (fun v w' => f.S v w' ∧ Ext w w'))
    (h2 : ∀ v, RW P ops w0 fin os fs (fr (l' v)) (fun t => if d = t then f.S v else F t) (fun w => Φ w ∧ f.S v w)) : RW P ops w0 fin (o :: os) (f :: fs) (fr l) F Φ := by
  refine ⟨h1, fun v => ?_⟩
  rw [hd, fr_put, hl]
  have e : (fun t => if (some d : Option Nat) = some t then f.S v else F t) = (fun t => if d = t then f.S v else F t) := by
    funext t; by_cases h : d = t <;> simp [h]
  rw [e]; exact h2 v
theorem RW_fin {P : Program} {ops : Array Oper} {w0 : World} {fin : List Oper → Act → (World → Prop) → Prop} {os : List Oper} {a : Act} {F : Nat → World → Prop} {Φ : World → Prop}
    (h : fin os a Φ) : RW P ops w0 fin os [] a F Φ := by cases os <;> exact h
section
variable {P : Program} {ops : Array Oper} {Q : Exit → Act → World → Prop} {w0 : World} {a0 : Act} {fs : List Fact}
def dstOf (ops : Array Oper) (i : Nat) : Option Tmp := (ops[i]?).bind (·.dst)
def dirB (ops : Array Oper) (i j : Nat) : Bool := ((ops[i]?).map fun o => o.after.any fun e => Region.binds .any e && e.on == j).getD false
def actN (ops : Array Oper) (a : Act) (vals : Nat → Value) : Nat → Act
  | 0 => a
  | k + 1 => (actN ops a vals k).put (dstOf ops k) (vals k)
def envN (ops : Array Oper) (fs : List Fact) (vals : Nat → Value) : Nat → Nat → World → Prop
  | 0 => fun _ _ => True
  | k + 1 => fun t => if dstOf ops k = some t then (fs[k]?.map fun f => f.S (vals k)).getD (fun _ => True) else envN ops fs vals k t
def phiN (fs : List Fact) (vals : Nat → Value) : Nat → World → Prop
  | 0 => fun _ => True
  | k + 1 => fun w => phiN fs vals k w ∧ ((fs[k]?.map fun f => f.S (vals k)).getD (fun _ => True)) w
def actL (ops : Array Oper) (a : Act) (vals : Nat → Value) (L : Nat → Bool) : Nat → Act
  | 0 => a
  | k + 1 => if L k then (actL ops a vals L k).put (dstOf ops k) (vals k) else actL ops a vals L k
theorem actL_succ (a : Act) (vals : Nat → Value) (L : Nat → Bool) (k : Nat) : actL ops a vals L (k + 1) = if L k then (actL ops a vals L k).put (dstOf ops k) (vals k) else actL ops a vals L k := rfl
theorem RW_at {fin : List Oper → Act → (World → Prop) → Prop} (h : RW P ops w0 fin ops.toList fs a0 (fun _ _ => True) (fun _ => True)) (hm : fs.length ≤ ops.size) (vals : Nat → Value) :
    ∀ k, k ≤ fs.length → RW P ops w0 fin (ops.toList.drop k) (fs.drop k) (actN ops a0 vals k) (envN ops fs vals k) (phiN fs vals k) := by
  intro k
  induction k with
  | zero => intro _; exact h
  | succ k ih =>
    intro hk
    have h1 := ih (by omega)
    have ho : k < ops.toList.length := by simp; omega
    rw [List.drop_eq_getElem_cons ho, List.drop_eq_getElem_cons (show k < fs.length by omega)] at h1
    have h2 := h1.2 (vals k)
    have hd : dstOf ops k = (ops.toList[k]'ho).dst := by
      have : ops[k]? = some (ops.toList[k]'ho) := by simp at ho ⊢
      simp [dstOf, this]
    have hf : fs[k]? = some (fs[k]'(by omega)) := List.getElem?_eq_getElem _
    simp only [actN, envN, phiN, hd, hf, Option.map_some, Option.getD_some]
    exact h2
theorem put_size (a : Act) (d : Option Tmp) (v : Value) : (a.put d v).tmps.size = a.tmps.size := by cases d <;> simp [Act.put]
theorem actN_size (vals : Nat → Value) : ∀ k, (actN ops a0 vals k).tmps.size = a0.tmps.size
  | 0 => rfl
  | k + 1 => by simp [actN, put_size, actN_size vals k]
theorem actL_size (vals : Nat → Value) (L : Nat → Bool) : ∀ k, (actL ops a0 vals L k).tmps.size = a0.tmps.size
  | 0 => rfl
  | k + 1 => by unfold actL; split <;> simp [put_size, actL_size vals L k]
theorem slot_put_same (a b : Act) (hs : a.tmps.size = b.tmps.size) (d : Option Tmp) (v : Value) (t : Tmp) (hd : d = some t) : (a.put d v).tmps[t]? = (b.put d v).tmps[t]? := by
  subst hd; simp [Act.put, Array.getElem?_setIfInBounds, hs]
theorem slot_put_ne (a : Act) (d : Option Tmp) (v : Value) (t : Tmp) (hd : d ≠ some t) : (a.put d v).tmps[t]? = a.tmps[t]? := by
  cases d with
  | none => rfl
  | some e =>
    have : e ≠ t := fun h => hd (by rw [h])
    simp [Act.put, Array.getElem?_setIfInBounds_ne this]
theorem slot_lex (vals : Nat → Value) (L : Nat → Bool) (i : Nat) (t : Tmp) : ∀ k, (∀ j, j < k → dstOf ops j = some t → j < i ∧ L j = true) →
    (actL ops a0 vals L k).tmps[t]? = (actN ops a0 vals (min k i)).tmps[t]? := by
  intro k
  induction k with
  | zero => intro _; simp [actL, actN]
  | succ k ih =>
    intro h
    have h0 := ih fun j hj => h j (by omega)
    by_cases hd : dstOf ops k = some t
    · obtain ⟨h1, h2⟩ := h k (by omega) hd
      have e1 : min (k + 1) i = k + 1 := by omega
      have e2 : min k i = k := by omega
      rw [e1]
      simp only [actL, h2, if_true, actN]
      exact slot_put_same _ _ (by rw [actL_size, actN_size]) _ _ _ hd
    · have e3 : (actL ops a0 vals L (k + 1)).tmps[t]? = (actL ops a0 vals L k).tmps[t]? := by
        rw [actL_succ]; split
        · exact slot_put_ne _ _ _ _ hd
        · rfl
      rw [e3, h0]
      by_cases hk : k < i
      · have e1 : min (k + 1) i = k + 1 := by omega
        have e2 : min k i = k := by omega
        rw [e1, e2]
        exact (slot_put_ne _ _ _ _ hd).symm
      · have e1 : min (k + 1) i = i := by omega
        have e2 : min k i = i := by omega
        rw [e1, e2]
theorem eval_of_slot {a b : Act} {x : Operand} (h : ∀ t, x = .tmp t → a.tmps[t]? = b.tmps[t]?) : a.eval x = b.eval x := by
  cases x with
  | tmp t => simp [Act.eval, Array.getD_eq_getD_getElem?, h t rfl]
  | _ => rfl
theorem execOp_of_slots {a b : Act} {o : Oper} (hs : ∀ cs c, o.op ≠ .select cs c) (h : ∀ t ∈ o.looksAt ops, a.tmps[t]? = b.tmps[t]?) : execOp a.eval o = execOp b.eval o :=
  execOp_congr o hs fun x hx => eval_of_slot fun t ht => h t (by
    subst ht
    exact List.mem_append_left _ (List.mem_filterMap.2 ⟨.tmp t, by simpa using hx, rfl⟩))
theorem wanted_of_slots {a b : Act} {o : Oper} (h : ∀ t ∈ o.looksAt ops, a.tmps[t]? = b.tmps[t]?) : Region.wanted o (yielded ops a.tmps) = Region.wanted o (yielded ops b.tmps) := by
  unfold Region.wanted
  cases hg : o.guard with
  | none => rfl
  | some gw =>
    obtain ⟨g, want⟩ := gw
    have hy : yielded ops a.tmps g = yielded ops b.tmps g := by
      unfold yielded
      cases ht : (ops[g]?).bind (·.dst) with
      | none => rfl
      | some t =>
        have := h t (by simp [Oper.looksAt, hg, ht])
        simp [this]
    simp only [hy]
theorem does_congr {a b : Act} {o : Oper} {w : World} {R : Value → World → Prop} (h : execOp a.eval o = execOp b.eval o) : does P o a w R → does P o b w R := by
  unfold does; rw [h]; exact id
theorem actL_set (vals : Nat → Value) (L : Nat → Bool) (i : Nat) (v : Value) (hL : L i = false) (m : Nat) (hdis : ∀ j, j < m → j ≠ i → ∀ d, dstOf ops i = some d → dstOf ops j ≠ some d) :
    ∀ k, k ≤ m → actL ops a0 (fun j => if j = i then v else vals j) (fun j => if j = i then true else L j) k =
      if i < k then (actL ops a0 vals L k).put (dstOf ops i) v else actL ops a0 vals L k := by
  intro k
  induction k with
  | zero => intro _; simp [actL]
  | succ k ih =>
    intro hk
    have h := ih (by omega)
    rw [actL_succ, actL_succ]
    by_cases hki : k = i
    · subst hki
      simp only [if_true, hL, h]
      rw [if_neg (by omega), if_pos (by omega)]
      simp
    · simp only [if_neg hki, h]
      by_cases hlt : i < k
      · rw [if_pos hlt, if_pos (show i < k + 1 by omega)]
        split
        · exact Act.put_comm _ _ _ fun d hd => hdis k (by omega) hki d hd
        · rfl
      · rw [if_neg hlt, if_neg (show ¬ i < k + 1 by omega)]
def chk (ops : Array Oper) (m : Nat) (deps : List (List Nat)) (fl : List Nat) : Bool :=
  Region.noSelect ops &&
  (List.range m).all (fun i => (dstOf ops i).isSome && (List.range m).all fun j => i == j || dstOf ops i != dstOf ops j) &&
  (List.range m).all (fun i => ((ops[i]?).map fun o => (o.looksAt ops).all fun t => (List.range m).all fun j => dstOf ops j != some t || (decide (j < i) && dirB ops i j)).getD false) &&
  (List.range m).all (fun i => (deps.getD i []).all fun t => (List.range i).any fun j => dstOf ops j == some t && dirB ops i j) &&
  (List.range ops.size).all (fun k => decide (k < m) || ((List.range m).all fun i => fl.contains i || dirB ops k i) && ((List.range k).all fun j => decide (j < m) || dirB ops k j)) &&
  (List.range ops.size).all (fun k => ((ops[k]?).map fun o => o.after.all fun e => !Region.binds .any e || decide (e.on < k)).getD false) &&
  fl.all (fun i => decide (i < m) && (List.range ops.size).all fun j => j == i || dirB ops i j || dirB ops j i || ((ops[i]?).bind fun oi => (ops[j]?).map fun oj => oi.apart ops oj).getD false)
structure Good (ops : Array Oper) (m : Nat) (deps : List (List Nat)) (fl : List Nat) : Prop where
  sel : Region.noSelect ops = true
  dst : ∀ i, i < m → ∀ j, j < m → j ≠ i → ∀ d, dstOf ops i = some d → dstOf ops j ≠ some d
  look : ∀ i o, i < m → ops[i]? = some o → ∀ t ∈ o.looksAt ops, ∀ j, j < m → dstOf ops j = some t → j < i ∧ dirB ops i j = true
  dep : ∀ i, i < m → ∀ t ∈ deps.getD i [], ∃ j, j < i ∧ dstOf ops j = some t ∧ dirB ops i j = true
  tail : ∀ k, k < ops.size → m ≤ k → (∀ i, i < m → i ∉ fl → dirB ops k i = true) ∧ (∀ j, m ≤ j → j < k → dirB ops k j = true)
  back : ∀ k o, ops[k]? = some o → ∀ e ∈ o.after, Region.binds .any e = true → e.on < k
  float : ∀ i ∈ fl, i < m ∧ ∀ j oi oj, ops[i]? = some oi → ops[j]? = some oj → j ≠ i → dirB ops i j = true ∨ dirB ops j i = true ∨ oi.apart ops oj = true
theorem chk_good {m : Nat} {deps : List (List Nat)} {fl : List Nat} (h : chk ops m deps fl = true) : Good ops m deps fl := by
  simp only [chk, Bool.and_eq_true] at h
  obtain ⟨⟨⟨⟨⟨⟨h0, h1⟩, h2⟩, h3⟩, h4⟩, h5⟩, h6⟩ := h
  simp only [List.all_eq_true, List.mem_range] at h1 h2 h3 h4 h5 h6
  refine ⟨h0, ?_, ?_, ?_, ?_, ?_, ?_⟩
  · intro i hi j hj hne d hd hd'
    have := h1 i hi
    simp only [Bool.and_eq_true, List.all_eq_true, List.mem_range, Bool.or_eq_true, beq_iff_eq, bne_iff_ne] at this
    rcases this.2 j hj with h | h
    · exact hne h.symm
    · exact h (by rw [hd, hd'])
  · intro i o hi ho t ht j hj hd
    have := h2 i hi
    simp only [ho, Option.map_some, Option.getD_some, List.all_eq_true, List.mem_range, Bool.or_eq_true, bne_iff_ne, Bool.and_eq_true, decide_eq_true_eq] at this
    rcases this t ht j hj with h | h
    · exact absurd hd h
    · exact h
  · intro i hi t ht
    have := h3 i hi t ht
    simp only [List.any_eq_true, List.mem_range, Bool.and_eq_true, beq_iff_eq] at this
    obtain ⟨j, hj, hd, hb⟩ := this
    exact ⟨j, hj, hd, hb⟩
  · intro k hk hmk
    have := h4 k hk
    simp only [Bool.or_eq_true, decide_eq_true_eq, Bool.and_eq_true, List.all_eq_true, List.mem_range, List.contains_eq_mem] at this
    rcases this with h | ⟨ha, hb⟩
    · omega
    · exact ⟨fun i hi hf => (ha i hi).resolve_left hf, fun j hj hjk => (hb j hjk).resolve_left (by omega)⟩
  · intro k o ho e he hb
    have := h5 k (Array.getElem?_eq_some_iff.1 ho).1
    simp only [ho, Option.map_some, Option.getD_some, Array.all_eq_true_iff_forall_mem, Bool.or_eq_true, Bool.not_eq_true', decide_eq_true_eq] at this
    exact (this e he).resolve_left (by simp [hb])
  · intro i hi
    have := h6 i hi
    simp only [Bool.and_eq_true, decide_eq_true_eq, List.all_eq_true, List.mem_range, Bool.or_eq_true, beq_iff_eq] at this
    refine ⟨this.1, fun j oi oj hoi hoj hne => ?_⟩
    have h7 := this.2 j (Array.getElem?_eq_some_iff.1 hoj).1
    rcases h7 with ((h | h) | h) | h
    · exact absurd h hne
    · exact .inl h
    · exact .inr (.inl h)
    · exact .inr (.inr (by simpa [hoi, hoj] using h))
theorem dirB_spec {i j : Nat} : dirB ops i j = true ↔ ∃ o, ops[i]? = some o ∧ ∃ e ∈ o.after, Region.binds .any e = true ∧ e.on = j := by
  unfold dirB
  cases h : ops[i]? with
  | none => simp
  | some o =>
    simp only [Option.map_some, Option.getD_some]
    rw [Array.any_eq_true']
    simp
theorem ready_dir {i j : Nat} {listed : Array Bool} (h : i ∈ Region.ready .any ops listed) (hd : dirB ops i j = true) : listed.getD j false = true := by
  obtain ⟨_, o, ho, hall⟩ := mem_ready.1 h
  obtain ⟨o', ho', e, he, hb, rfl⟩ := dirB_spec.1 hd
  rw [ho] at ho'; cases ho'
  exact hall e he hb
theorem tail_any {m : Nat} {deps : List (List Nat)} {fl : List Nat} (G : Good ops m deps fl) : ∀ (d k : Nat) (listed : Array Bool) (a : Act) (w : World), k + d = ops.size → m ≤ k → listed.size = ops.size →
    (∀ j, j < ops.size → listed.getD j true = decide (j < k)) → wpList P ops Q (ops.toList.drop k) a w → ∀ fuel, d ≤ fuel → wpAny P .any ops Q fuel listed a w := by
  intro d
  induction d with
  | zero =>
    intro k listed a w hk hmk hsz hL h fuel _
    have h0 : Region.ready .any ops listed = [] := by
      apply List.eq_nil_iff_forall_not_mem.2
      intro i hi
      obtain ⟨h1, o, ho, _⟩ := mem_ready.1 hi
      have hlt := (Array.getElem?_eq_some_iff.1 ho).1
      rw [hL i hlt] at h1
      simp at h1; omega
    rw [List.drop_eq_nil_of_le (by simp; omega)] at h
    exact wpAny_done h0 h fuel
  | succ d ih =>
    intro k listed a w hk hmk hsz hL h fuel hf
    obtain ⟨fuel, rfl⟩ : ∃ f, fuel = f + 1 := ⟨fuel - 1, by omega⟩
    have hlt : k < ops.size := by omega
    have hko : ops[k]? = some ops[k] := Array.getElem?_eq_some_iff.2 ⟨hlt, rfl⟩
    have hready : k ∈ Region.ready .any ops listed := by
      refine mem_ready.2 ⟨by rw [hL k hlt]; simp, _, hko, fun e he hb => ?_⟩
      have hek := G.back k _ hko e he hb
      have := hL e.on (by omega)
      simp only [hek, decide_true] at this
      rcases Nat.lt_or_ge e.on listed.size with h' | h'
      · simpa [Array.getD_eq_getD_getElem?, h'] using this
      · omega
    refine ⟨fun h0 => (by rw [h0] at hready; cases hready), fun i hi => ?_⟩
    obtain ⟨h1, o, ho, _⟩ := mem_ready.1 hi
    have hilt := (Array.getElem?_eq_some_iff.1 ho).1
    rw [hL i hilt] at h1
    have hik : i = k := by
      simp at h1
      rcases Nat.lt_or_ge k i with hlt' | hge
      · have := ready_dir hi ((G.tail i hilt (by omega)).2 k hmk hlt')
        rw [show listed.getD k false = listed.getD k true from by simp [Array.getD_eq_getD_getElem?, hsz ▸ hlt], hL k hlt] at this
        simp at this
      · omega
    subst hik
    have hdrop : ops.toList.drop i = ops[i] :: ops.toList.drop (i + 1) := by
      rw [List.drop_eq_getElem_cons (by simpa using hlt)]; simp
    rw [hdrop] at h
    have hL' : ∀ j, j < ops.size → (listed.setIfInBounds i true).getD j true = decide (j < i + 1) := fun j hj => by
      by_cases hji : i = j
      · subst hji; simp [hsz, hlt]
      · rw [getD_set_ne true hji, hL j hj]
        apply decide_eq_decide.2; omega
    have next : ∀ a w, wpList P ops Q (ops.toList.drop (i + 1)) a w → wpAny P .any ops Q fuel (listed.setIfInBounds i true) a w := fun a w h =>
      ih (i + 1) _ a w (by omega) (by omega) (by simp [hsz]) hL' h fuel (by omega)
    unfold wpOp
    rw [hko]
    simp only [wpList] at h
    by_cases hw : Region.wanted ops[i] (yielded ops a.tmps) = true
    · simp only [hw, if_true] at h ⊢
      exact h.imp (Oper.wp_mono next) id
    · simp only [hw] at h ⊢
      exact next _ _ h
theorem pre_any {m : Nat} {deps : List (List Nat)} {fl : List Nat} (G : Good ops m deps fl) (hmf : fs.length = m) (hms : m ≤ ops.size) (hdeps : deps = fs.map (·.deps)) (hfl : ∀ i f, fs[i]? = some f → (f.float = true ↔ i ∈ fl))
    (hQ : ∀ c (a : Act) (d : Option Tmp) v w, Q (.panic c) (a.put d v) w → Q (.panic c) a w)
    (H : RW P ops w0 (fun os a Φ => ∀ w, Ext w0 w → Φ w → wpList P ops Q os a w) ops.toList fs a0 (fun _ _ => True) (fun _ => True)) :
    ∀ (fuel : Nat) (U : List Nat) (listed : Array Bool) (vals : Nat → Value) (w : World), U.Nodup → U.length ≤ fuel → listed.size = ops.size → (∀ j, j < ops.size → (listed.getD j true = false ↔ j ∈ U)) →
      (∀ k, m ≤ k → k < ops.size → k ∈ U) → Ext w0 w → (∀ i f, i < m → i ∉ U → fs[i]? = some f → f.S (vals i) w) →
      wpAny P .any ops Q fuel listed (actL ops a0 vals (fun j => !decide (j ∈ U)) m) w := by
  have lis : ∀ {U : List Nat} {listed : Array Bool}, listed.size = ops.size → (∀ j, j < ops.size → (listed.getD j true = false ↔ j ∈ U)) → ∀ j, j < ops.size → (listed.getD j false = true ↔ j ∉ U) := fun {U listed} hsz hU j hj => by
    have h1 := hU j hj
    have h2 : ∀ l : Array Bool, l.size = ops.size → l.getD j false = l.getD j true := fun l hl => by simp [Array.getD_eq_getD_getElem?, hl ▸ hj]
    rw [h2 _ hsz]
    cases hb : listed.getD j true <;> simp_all
  -- what the walk says of operation i, in the state of whatever order
  have at_i : ∀ (U : List Nat) (vals : Nat → Value) (w : World) (i : Nat) (o : Oper) (f : Fact) (listed : Array Bool), i < m → ops[i]? = some o → fs[i]? = some f → listed.size = ops.size → (∀ j, j < ops.size → (listed.getD j true = false ↔ j ∈ U)) →
      i ∈ Region.ready .any ops listed → Ext w0 w → (∀ i f, i < m → i ∉ U → fs[i]? = some f → f.S (vals i) w) →
      if f.float then ∃ v, Yields P ops o v (actL ops a0 vals (fun j => !decide (j ∈ U)) m) ∧ f.S v w else doesG P ops o (actL ops a0 vals (fun j => !decide (j ∈ U)) m) w (fun v w' => f.S v w' ∧ Ext w w') := by
    intro U vals w i o f listed him hio hif hsz hU hr hx hS
    have hR := RW_at H (by omega) vals i (by omega)
    have hol : i < ops.toList.length := by simp; omega
    rw [List.drop_eq_getElem_cons hol, List.drop_eq_getElem_cons (show i < fs.length by omega)] at hR
    have e1 : ops.toList[i]'hol = o := by
      have := (Array.getElem?_eq_some_iff.1 hio).2
      simpa using this
    have e2 : fs[i]'(by omega) = f := (List.getElem?_eq_some_iff.1 hif).2
    rw [e1, e2] at hR
    have hun : ∀ j, dirB ops i j = true → j < ops.size → j ∉ U := fun j hd hj => (lis hsz hU j hj).1 (ready_dir hr hd)
    have hfacts : facts (envN ops fs vals i) w f.deps := by
      refine facts_of fun t ht => ?_
      have hd : deps.getD i [] = f.deps := by rw [hdeps]; simp [List.getD_eq_getElem?_getD, hif]
      obtain ⟨j, hji, hjd, hjb⟩ := G.dep i him t (by rw [hd]; exact ht)
      have hjf : fs[j]? = some (fs[j]'(by omega)) := List.getElem?_eq_getElem _
      have key : ∀ n, j < n → n ≤ i → envN ops fs vals n t w := by
        intro n
        induction n with
        | zero => intro h _; omega
        | succ n ih =>
          intro h1 h2
          by_cases hjn : j = n
          · subst hjn
            simp only [envN, hjd, if_true, hjf, Option.map_some, Option.getD_some]
            exact hS j _ (by omega) (hun j hjb (by omega)) hjf
          · have hne : dstOf ops n ≠ some t := fun hh => G.dst j (by omega) n (by omega) (fun e => hjn e.symm) t hjd hh
            simp only [envN, hne, if_false]
            exact ih (by omega) (by omega)
      exact key i hji (Nat.le_refl _)
    have h1 := hR.1 w hx hfacts
    have slots : ∀ t ∈ o.looksAt ops, (actL ops a0 vals (fun j => !decide (j ∈ U)) m).tmps[t]? = (actN ops a0 vals i).tmps[t]? := fun t ht => by
      have := slot_lex (ops := ops) (a0 := a0) vals (fun j => !decide (j ∈ U)) i t m fun j hj hd => by
        obtain ⟨h1, h2⟩ := G.look i o him hio t ht j hj hd
        exact ⟨h1, by simp [hun j h2 (by omega)]⟩
      rw [this, Nat.min_eq_right (by omega)]
    have hex := execOp_of_slots (ops := ops) (o := o) (fun cs b => Region.noSelect_spec G.sel i o cs b hio) slots
    have hwa := wanted_of_slots (ops := ops) (o := o) slots
    cases hff : f.float with
    | true =>
      simp only [hff, if_true] at h1 ⊢
      obtain ⟨v, hy, hv⟩ := h1
      exact ⟨v, hy.of_same hex hwa, hv⟩
    | false =>
      simp only [hff, if_false, Bool.false_eq_true] at h1 ⊢
      refine ⟨fun hw => does_congr hex.symm (h1.1 (hwa ▸ hw)), fun hw => h1.2 (hwa ▸ hw)⟩
  intro fuel
  induction fuel with
  | zero =>
    intro U listed vals w hnd hlen hsz hU htl hx hS
    have hU0 : U = [] := List.length_eq_zero_iff.1 (by omega)
    subst hU0
    have hmn : m = ops.size := by
      rcases Nat.lt_or_ge m ops.size with h | h
      · exact absurd (htl m (Nat.le_refl _) h) (by simp)
      · omega
    have hR := RW_at H (by omega) vals m (by omega)
    rw [List.drop_eq_nil_of_le (show fs.length ≤ m by omega)] at hR
    have hfin : ∀ w, Ext w0 w → phiN fs vals m w → wpList P ops Q (ops.toList.drop m) (actN ops a0 vals m) w := by
      cases hd : ops.toList.drop m <;> rw [hd] at hR <;> exact hR
    have hphi : ∀ n, n ≤ m → phiN fs vals n w := by
      intro n; induction n with
      | zero => intro _; trivial
      | succ n ih => intro hn; refine ⟨ih (by omega), ?_⟩; rw [List.getElem?_eq_getElem (show n < fs.length by omega)]; exact hS n _ (by omega) (by simp) (List.getElem?_eq_getElem _)
    have hact : ∀ n, actL ops a0 vals (fun j => !decide (j ∈ ([] : List Nat))) n = actN ops a0 vals n := by
      intro n; induction n with
      | zero => rfl
      | succ n ih => rw [actL_succ, ih]; simp [actN]
    rw [hact]
    exact tail_any G 0 m listed _ w (by omega) (Nat.le_refl _) hsz (fun j hj => by
      have h1 := (hU j hj)
      simp only [List.not_mem_nil, iff_false, Bool.not_eq_false] at h1
      rw [h1]; simp; omega) (hfin w hx (hphi m (Nat.le_refl _))) 0 (Nat.le_refl _)
  | succ fuel ih =>
    intro U listed vals w hnd hlen hsz hU htl hx hS
    by_cases hall : ∀ i, i < m → i ∉ U
    · -- the tail
      have hR := RW_at H (by omega) vals m (by omega)
      rw [List.drop_eq_nil_of_le (show fs.length ≤ m by omega)] at hR
      have hfin : ∀ w, Ext w0 w → phiN fs vals m w → wpList P ops Q (ops.toList.drop m) (actN ops a0 vals m) w := by
        cases hd : ops.toList.drop m <;> rw [hd] at hR <;> exact hR
      have hphi : ∀ n, n ≤ m → phiN fs vals n w := by
        intro n; induction n with
        | zero => intro _; trivial
        | succ n ihn => intro hn; refine ⟨ihn (by omega), ?_⟩; rw [List.getElem?_eq_getElem (show n < fs.length by omega)]; exact hS n _ (by omega) (hall n (by omega)) (List.getElem?_eq_getElem _)
      have hact : ∀ n, n ≤ m → actL ops a0 vals (fun j => !decide (j ∈ U)) n = actN ops a0 vals n := by
        intro n; induction n with
        | zero => intro _; rfl
        | succ n ihn => intro hn; rw [actL_succ, ihn (by omega)]; simp [actN, hall n (by omega)]
      rw [hact m (Nat.le_refl _)]
      have hlenU : ops.size - m ≤ U.length := by
        have hsub : (List.range' m (ops.size - m)).length ≤ U.length := List.Nodup.length_le_of_subset (List.nodup_range' (step := 1)) fun k hk => by
          rw [List.mem_range'_1] at hk; exact htl k hk.1 (by omega)
        simpa using hsub
      refine tail_any G (ops.size - m) m listed _ w (by omega) (Nat.le_refl _) hsz (fun j hj => ?_) (hfin w hx (hphi m (Nat.le_refl _))) (fuel + 1) (by omega)
      by_cases hjm : j < m
      · have : ¬ listed.getD j true = false := fun h => hall j hjm ((hU j hj).1 h)
        simp only [Bool.not_eq_false] at this
        rw [this]; simp [hjm]
      · rw [(hU j hj).2 (htl j (by omega) hj)]; simp [hjm]
    · -- the least of those that have not come up
      have hex : ∃ i, i < m ∧ i ∈ U := Classical.byContradiction fun h => hall fun i hi hu => h ⟨i, hi, hu⟩
      have step : ∀ i v, i < m → i ∈ U → ∀ w', Ext w w' → (∀ f, fs[i]? = some f → f.S v w') →
          wpAny P .any ops Q fuel (listed.setIfInBounds i true) ((actL ops a0 vals (fun j => !decide (j ∈ U)) m).put (dstOf ops i) v) w' := fun i v him hiU w' hx' hv => by
        have h1 := ih (U.erase i) (listed.setIfInBounds i true) (fun j => if j = i then v else vals j) w' (hnd.erase i) (by rw [List.length_erase_of_mem hiU]; omega) (by simp [hsz]) (fun j hj => by
          rw [hnd.mem_erase_iff]
          by_cases hji : i = j
          · subst hji; simp [hsz, hj]
          · rw [getD_set_ne true hji, hU j hj]; simp [Ne.symm hji]) (fun k hk hk' => by
          rw [hnd.mem_erase_iff]; exact ⟨by omega, htl k hk hk'⟩) (hx.gr hx') (fun j f hj hjU hf => by
          by_cases hji : j = i
          · subst hji; simpa using hv f hf
          · simp only [if_neg hji]
            refine f.st _ _ _ hx' (hS j f hj (fun hu => hjU ?_) hf)
            rw [hnd.mem_erase_iff]; exact ⟨hji, hu⟩)
        have h2 := actL_set (ops := ops) (a0 := a0) vals (fun j => !decide (j ∈ U)) i v (by simp [hiU]) m (fun j hj hne d hd => G.dst i him j hj hne d hd) m (Nat.le_refl _)
        rw [if_pos him] at h2
        have h3 : (fun j => if j = i then true else !decide (j ∈ U)) = (fun j => !decide (j ∈ U.erase i)) := by
          funext j
          by_cases hji : j = i
          · subst hji; simp [hnd.mem_erase_iff]
          · simp [hji, hnd.mem_erase_iff]
        rw [h3] at h2
        rw [← h2]; exact h1
      have fget : ∀ i, i < m → ∃ f, fs[i]? = some f := fun i hi => ⟨_, List.getElem?_eq_getElem (by omega)⟩
      by_cases hfl' : ∃ i, i ∈ fl ∧ i ∈ U ∧ i ∈ Region.ready .any ops listed
      · obtain ⟨i, hifl, hiU, hir⟩ := hfl'
        obtain ⟨him, hap⟩ := G.float i hifl
        obtain ⟨f, hf⟩ := fget i him
        obtain ⟨_, o, ho, _⟩ := mem_ready.1 hir
        have h1 := at_i U vals w i o f listed him ho hf hsz hU hir hx hS
        simp only [(hfl i f hf).2 hifl, if_true] at h1
        obtain ⟨v, hy, hv⟩ := h1
        refine wpAny_first ho (Region.noSelect_spec G.sel) (fun c a w => hQ c a _ _ w) fuel listed _ w (fun j oj hj hne hun hno => ?_) hir hy ?_
        · rcases hap j o oj ho hj hne with h | h | h
          · have := ready_dir hir h
            rw [lis hsz hU j (Array.getElem?_eq_some_iff.1 hj).1] at this
            exact absurd ((hU j (Array.getElem?_eq_some_iff.1 hj).1).1 hun) this
          · obtain ⟨o', ho', e, he, hb, heq⟩ := dirB_spec.1 h
            rw [hj] at ho'; cases ho'
            exact absurd heq (hno e he hb)
          · exact h
        · have hd : o.dst = dstOf ops i := by simp [dstOf, ho]
          rw [hd]
          exact step i v him hiU w (Ext.refl w) (fun f' hf' => by rw [hf] at hf'; cases hf'; exact hv)
      · -- some operation that has not come up may
        have least : ∃ i, i < m ∧ i ∈ U ∧ ∀ j, j < i → j ∉ U := by
          obtain ⟨i, hi, hu⟩ := hex
          induction i using Nat.strongRecOn with
          | _ i ihh =>
            by_cases h : ∃ j, j < i ∧ j ∈ U
            · obtain ⟨j, hj, hju⟩ := h; exact ihh j hj (by omega) hju
            · exact ⟨i, hi, hu, fun j hj hju => h ⟨j, hj, hju⟩⟩
        obtain ⟨i0, hi0, hu0, hl0⟩ := least
        have hr0 : i0 ∈ Region.ready .any ops listed := by
          have hlt : i0 < ops.size := by omega
          refine mem_ready.2 ⟨(hU i0 hlt).2 hu0, ops[i0], Array.getElem?_eq_some_iff.2 ⟨hlt, rfl⟩, fun e he hb => ?_⟩
          have hk := G.back i0 _ (Array.getElem?_eq_some_iff.2 ⟨hlt, rfl⟩) e he hb
          exact (lis hsz hU e.on (by omega)).2 (hl0 _ hk)
        refine ⟨fun h0 => (by rw [h0] at hr0; cases hr0), fun i hir => ?_⟩
        obtain ⟨hun, o, ho, _⟩ := mem_ready.1 hir
        have hlt := (Array.getElem?_eq_some_iff.1 ho).1
        have hiU := (hU i hlt).1 hun
        have him : i < m := by
          rcases Nat.lt_or_ge i m with h | h
          · exact h
          · exfalso
            have hnf : i0 ∈ fl := Classical.byContradiction fun hh => by
              have := ready_dir hir ((G.tail i hlt h).1 i0 hi0 hh)
              exact (lis hsz hU i0 (by omega)).1 this hu0
            exact hfl' ⟨i0, hnf, hu0, hr0⟩
        obtain ⟨f, hf⟩ := fget i him
        have hff : f.float = false := by
          cases hff : f.float with
          | false => rfl
          | true => exact absurd ⟨i, (hfl i f hf).1 hff, hiU, hir⟩ hfl'
        have h1 := at_i U vals w i o f listed him ho hf hsz hU hir hx hS
        simp only [hff, if_false, Bool.false_eq_true] at h1
        have hd : o.dst = dstOf ops i := by simp [dstOf, ho]
        unfold wpOp
        rw [ho]
        by_cases hw : Region.wanted o (yielded ops (actL ops a0 vals (fun j => !decide (j ∈ U)) m).tmps) = true
        · simp only [hw, if_true]
          refine .inl ((h1.1 hw).wp fun v w' ⟨hv, hx'⟩ => ?_)
          rw [hd]
          exact step i v him hiU w' hx' (fun f' hf' => by rw [hf] at hf'; cases hf'; exact hv)
        · simp only [Bool.not_eq_true] at hw
          simp only [hw, Bool.false_eq_true, if_false]
          obtain ⟨hv, hx'⟩ := h1.2 hw
          rw [hd]
          exact step i undef him hiU w hx' (fun f' hf' => by rw [hf] at hf'; cases hf'; exact hv)
theorem region_draw {id : Nat} {l : List Oper} {a : Act} {w : World} (fs : List Fact) (hm : P.follows .mixedOrders = true)
    (hchk : (chk l.toArray fs.length (fs.map (·.deps)) ((List.range fs.length).filter fun i => (fs[i]?.map (·.float)).getD false) && decide (fs.length ≤ l.length)) = true)
    (hQ : ∀ c (a : Act) (d : Option Tmp) v w, Q (.panic c) (a.put d v) w → Q (.panic c) a w)
    (H : RW P l.toArray w.drew (fun os a Φ => ∀ w', Ext w.drew w' → Φ w' → wpList P l.toArray Q os a w') l fs a (fun _ _ => True) (fun _ => True)) : (Code.region id l.toArray true).wp P Q a w := by
  simp only [Bool.and_eq_true, decide_eq_true_eq] at hchk
  have hle : fs.length ≤ l.toArray.size := by simpa using hchk.2
  have G := chk_good hchk.1
  refine wp_region_any hm ?_
  have h := pre_any (Q := Q) G rfl hle rfl (fun i f hf => ?_) hQ (by simpa using H) l.toArray.size (List.range l.toArray.size) (Array.replicate l.toArray.size false) (fun _ => undef) w.drew
    List.nodup_range (by simp) (by simp) (fun j hj => by simp at hj; simp [hj]) (fun k _ hk => by simpa using hk) (Ext.refl _) (fun i f him hiU _ => absurd (List.mem_range.2 (by omega)) hiU)
  · have ha : ∀ n, n ≤ l.toArray.size → actL l.toArray a (fun _ => undef) (fun j => !decide (j ∈ List.range l.toArray.size)) n = a := by
      intro n; induction n with
      | zero => intro _; rfl
      | succ n ih => intro hn; rw [actL_succ, ih (by omega)]; simp at hn ⊢; omega
    rw [ha _ hle] at h
    exact h
  · have hi := (List.getElem?_eq_some_iff.1 hf).1
    have hi2 := (List.getElem?_eq_some_iff.1 hf).2
    simp [hi, hi2]
theorem doesG_un {o : Oper} {a : Act} {w : World} {R : Value → World → Prop} (hg : o.guard = none) (h : does P o a w R) : doesG P ops o a w R :=
  ⟨fun _ => h, fun hw => by simp [Region.wanted, hg] at hw⟩
theorem doesG_g {o : Oper} {a : Act} {w : World} {R : Value → World → Prop} {j : Nat} {want b : Bool} (hg : o.guard = some (j, want)) (hy : yielded ops a.tmps j = some b)
    (h1 : b = want → does P o a w R) (h2 : b ≠ want → R undef w) : doesG P ops o a w R := by
  refine ⟨fun hw => h1 ?_, fun hw => h2 fun hb => ?_⟩
  · simpa [Region.wanted, hg, hy] using hw
  · simp [Region.wanted, hg, hy, hb] at hw
theorem yields_is {o : Oper} {a : Act} {v : Value} (hg : o.guard = none) (h : ∀ w, (execOp a.eval o).run P w = .ok (.value v) w) : Yields P ops o v a := .inl ⟨by simp [Region.wanted, hg], h⟩
theorem rw_text : ∀ (fs : List Fact) (os : List Oper) (a : Act) (F : Nat → World → Prop) (Φ : World → Prop) (w : World), (∀ f ∈ fs, f.float = false) → Ext w0 w →
    (∀ t w w', Ext w w' → F t w → F t w') → (∀ w w', Ext w w' → Φ w → Φ w') → (∀ t, F t w) → Φ w →
    RW P ops w0 (fun os a Φ => ∀ w, Ext w0 w → Φ w → wpList P ops Q os a w) os fs a F Φ → wpList P ops Q os a w
  | [], os, a, F, Φ, w, _, hx, _, _, _, hΦ, H => by cases os <;> exact H w hx hΦ
  | f :: fs, [], a, F, Φ, w, _, hx, _, _, _, hΦ, H => H w hx hΦ
  | f :: fs, o :: os, a, F, Φ, w, hfl, hx, hF, hΦs, hF0, hΦ, H => by
    have h1 := H.1 w hx (facts_of fun t _ => hF0 t)
    simp only [hfl f (by simp), Bool.false_eq_true, if_false] at h1
    have next : ∀ v w', f.S v w' → Ext w w' → wpList P ops Q os (a.put o.dst v) w' := fun v w' hv hx' =>
      rw_text fs os _ _ _ w' (fun g hg => hfl g (by simp [hg])) (hx.gr hx')
        (fun t u u' hu h => by
          by_cases hd : o.dst = some t
          · simp only [hd, if_true] at h ⊢; exact f.st _ _ _ hu h
          · simp only [hd, if_false] at h ⊢; exact hF t _ _ hu h)
        (fun u u' hu h => ⟨hΦs _ _ hu h.1, f.st _ _ _ hu h.2⟩)
        (fun t => by
          by_cases hd : o.dst = some t
          · simp only [hd, if_true]; exact hv
          · simp only [hd, if_false]; exact hF t _ _ hx' (hF0 t))
        ⟨hΦs _ _ hx' hΦ, hv⟩ (H.2 v)
    unfold wpList
    by_cases hw : Region.wanted o (yielded ops a.tmps) = true
    · rw [if_pos hw]
      exact .inl ((h1.1 hw).wp fun v w' ⟨hv, hx'⟩ => next v w' hv hx')
    · rw [if_neg hw]
      obtain ⟨hv, hx'⟩ := h1.2 (by simpa using hw)
      exact next undef w hv hx'
theorem region_text {id : Nat} {l : List Oper} {a : Act} {w : World} (fs : List Fact) (hfl : ∀ f ∈ fs, f.float = false)
    (H : RW P l.toArray w (fun os a Φ => ∀ w', Ext w w' → Φ w' → wpList P l.toArray Q os a w') l fs a (fun _ _ => True) (fun _ => True)) : (Code.region id l.toArray false).wp P Q a w :=
  wp_region_lit (rw_text fs l a _ _ w hfl (Ext.refl w) (fun _ _ _ _ h => h) (fun _ _ _ h => h) (fun _ => trivial) trivial H)
end
end Go.Proofs.Ytjopopmipdakkaa
