/- A region in whatever order it is carried out, with stores into known blocks among its operations: each operation is shown once, in the order of the text. -/
import Derived.Test.YtjopopmipdakkaaReg
import Derived.Test.YtjopopmipdakkaaSl
namespace Go.Proofs.Ytjopopmipdakkaa
open Go Go.RowKit
structure KpL (L : List Nat) (w w' : World) : Prop where
  os : w'.os = w.os
  tape : w'.tape = w.tape
  output : w'.output = w.output
  size : w.heap.size ≤ w'.heap.size
  other : ∀ k, k < w.heap.size → k ∉ L → w'.heap[k]? = w.heap[k]?
theorem KpL.refl (L : List Nat) (w : World) : KpL L w w := ⟨rfl, rfl, rfl, Nat.le_refl _, fun _ _ _ => rfl⟩
theorem KpL.kl {L L' M : List Nat} {w w1 w2 : World} (h : KpL L w w1) (k : KpL L' w1 w2) (h1 : ∀ b ∈ L, b ∈ M) (h2 : ∀ b ∈ L', b ∈ M) : KpL M w w2 :=
  ⟨k.os.trans h.os, k.tape.trans h.tape, k.output.trans h.output, Nat.le_trans h.size k.size, fun i hi hne => (k.other i (Nat.lt_of_lt_of_le hi h.size) fun hb => hne (h2 _ hb)).trans (h.other i hi fun hb => hne (h1 _ hb))⟩
theorem KpL.mono {L M : List Nat} {w w1 : World} (h : KpL L w w1) (hs : ∀ b ∈ L, b ∈ M) : KpL M w w1 := ⟨h.os, h.tape, h.output, h.size, fun i hi hne => h.other i hi fun hb => hne (hs _ hb)⟩
theorem KpL.of_ext {L : List Nat} {w w1 : World} (h : Ext w w1) : KpL L w w1 := ⟨h.os, h.tape, h.output, h.size, fun i hi _ => h.block i hi⟩
theorem KpL.of_wr {b : Nat} {w w1 : World} (h : Wr b w w1) : KpL [b] w w1 := ⟨h.os, h.tape, h.output, Nat.le_of_eq h.size.symm, fun i _ hne => h.other i fun e => hne (by simp [e])⟩
theorem KpL.ext {L : List Nat} {w w1 w2 : World} (h : KpL L w w1) (k : Ext w1 w2) : KpL L w w2 :=
  ⟨k.os.trans h.os, k.tape.trans h.tape, k.output.trans h.output, Nat.le_trans h.size k.size, fun i hi hne => (k.block i (Nat.lt_of_lt_of_le hi h.size)).trans (h.other i hi hne)⟩
theorem KpL.more {L M : List Nat} {w w1 w2 : World} (h : KpL L w w1) (k : KpL M w1 w2) (hM : ∀ b ∈ M, b ∈ L ∨ w.heap.size ≤ b) : KpL L w w2 :=
  ⟨k.os.trans h.os, k.tape.trans h.tape, k.output.trans h.output, Nat.le_trans h.size k.size, fun i hi hne => (k.other i (Nat.lt_of_lt_of_le hi h.size) fun hb => by rcases hM i hb with hh | hh <;> first | exact hne hh | omega).trans (h.other i hi hne)⟩
theorem KpL.toExt {w w1 : World} (h : KpL [] w w1) : Ext w w1 := ⟨h.os, h.tape, h.output, h.size, fun i hi => h.other i hi (by simp)⟩
theorem Below.kl {B : Nat} {L : List Nat} {w w1 w2 : World} (h : Below B w w1) (k : KpL L w1 w2) (hB : ∀ b ∈ L, B ≤ b) (hs : B ≤ w.heap.size) : Below B w w2 :=
  h.trans ⟨k.os, k.tape, k.output, k.size, fun i hi => k.other i (Nat.lt_of_lt_of_le hi (Nat.le_trans hs h.size)) fun hb => by have := hB _ hb; omega⟩
theorem Cells.kl {w w' : World} {b off : Nat} {L : List Nat} {cs : List Value} (h : Cells w b off cs) (k : KpL L w w') (hne : b ∉ L) : Cells w' b off cs := fun i v hi => by
  have h1 := h i v hi
  rw [World.cell?_of_block (w := w) (k.other b (cell_lt h1) hne)]; exact h1
theorem Blk.kl {w w' : World} {b : Nat} {L : List Nat} {cs : List Value} (h : Blk w b cs) (k : KpL L w w') (hne : b ∉ L) : Blk w' b cs := by
  have hl := h.lt; obtain ⟨T, h⟩ := h; exact ⟨T, by rw [k.other b hl hne]; exact h⟩
theorem Same.kl {B : Nat} {L : List Nat} {w u v : World} (h : Same B w u) (k : KpL L u v) (hb : ∀ b ∈ L, b < B ∨ w.heap.size ≤ b) : Same B w v :=
  ⟨Nat.le_trans h.size k.size, fun i hi hl => (k.other i (Nat.lt_of_lt_of_le hl h.size) fun hm => by have := hb _ hm; omega).trans (h.same i hi hl)⟩
theorem nin0 {b : Nat} : b ∉ ([] : List Nat) := by simp
theorem ninS {b c : Nat} {L : List Nat} (h : b ≠ c) (k : b ∉ L) : b ∉ c :: L := by simp [h, k]
theorem all0 {p : Nat → Prop} : ∀ b ∈ ([] : List Nat), p b := by simp
theorem allS {p : Nat → Prop} {c : Nat} {L : List Nat} (h : p c) (k : ∀ b ∈ L, p b) : ∀ b ∈ c :: L, p b := by
  intro b hb; rcases List.mem_cons.1 hb with rfl | hb
  · exact h
  · exact k b hb
def sel (bs : List Nat) : List Nat → List Nat
  | [] => []
  | i :: I => match bs[i]? with | some b => b :: sel bs I | none => sel bs I
theorem sel_sub {bs I J : List Nat} (h : ∀ i ∈ I, i ∈ J) : ∀ b ∈ sel bs I, b ∈ sel bs J := by
  have one : ∀ J i b, bs[i]? = some b → i ∈ J → b ∈ sel bs J := by
    intro J
    induction J with
    | nil => intro i b _ h; cases h
    | cons c J ih =>
      intro i b hb hi
      unfold sel
      rcases List.mem_cons.1 hi with rfl | hi
      · rw [hb]; simp
      · have := ih i b hb hi
        split
        · exact List.mem_cons_of_mem _ this
        · exact this
  induction I with
  | nil => intro b hb; simp [sel] at hb
  | cons i I ih =>
    intro b hb
    unfold sel at hb
    cases hi : bs[i]? with
    | none => rw [hi] at hb; exact ih (fun j hj => h j (by simp [hj])) b hb
    | some c =>
      rw [hi] at hb
      rcases List.mem_cons.1 hb with rfl | hb
      · exact one J i _ hi (h i (by simp))
      · exact ih (fun j hj => h j (by simp [hj])) b hb
structure FactW (bs : List Nat) where
  deps : List Nat
  bef : List Nat
  wr : List Nat
  safe : List Nat
  live : Bool
  S : Value → World → Prop
  st : ∀ v w w', KpL (sel bs safe) w w' → S v w → S v w'
def FactW.pure {bs : List Nat} (deps bef safe : List Nat) (live : Bool) (p : Value → Prop) : FactW bs := ⟨deps, bef, [], safe, live, fun v _ => p v, fun _ _ _ _ h => h⟩
def FactW.mem {bs : List Nat} (deps bef wr safe : List Nat) (live : Bool) (S : Value → World → Prop) (st : ∀ v w w', KpL (sel bs safe) w w' → S v w → S v w') : FactW bs := ⟨deps, bef, wr, safe, live, S, st⟩
section
variable {P : Program} {ops : Array Oper} {Q : Exit → Act → World → Prop} {w0 : World} {a0 : Act} {bs : List Nat} {fs : List (FactW bs)}
def RW2 (P : Program) (ops : Array Oper) (w0 : World) (fin : List Oper → Act → (World → Prop) → Prop) : Nat → List Oper → List (FactW bs) → Act → (Nat → World → Prop) → (World → Prop) → Prop
  | n, o :: os, f :: fs, a, F, Φ =>
    (∀ w, KpL (sel bs f.bef) w0 w → facts F w f.deps → doesG P ops o a w (fun v w' => f.S v w' ∧ KpL (sel bs f.wr) w w')) ∧
    ∀ v, RW2 P ops w0 fin (n + 1) os fs (a.put o.dst v) (fun t => if t = n then f.S v else F t) (fun w => Φ w ∧ (f.live = true → f.S v w))
  | _, os, _, a, _, Φ => fin os a Φ
theorem RW2_d {fin : List Oper → Act → (World → Prop) → Prop} {n : Nat} {o : Oper} {os : List Oper} {f : FactW bs} {fs : List (FactW bs)} {l : List Value} {d : Nat} {F : Nat → World → Prop} {Φ : World → Prop} (l' : Value → List Value)
    (hd : o.dst = some d) (hl : ∀ v, l.set d v = l' v)
    (h1 : ∀ w, KpL (sel bs f.bef) w0 w → facts F w f.deps → doesG P ops o (fr l) w (fun v w' => f.S v w' ∧ KpL (sel bs f.wr) w w'))
    (h2 : ∀ v, RW2 P ops w0 fin (n + 1) os fs (fr (l' v)) (fun t => if t = n then f.S v else F t) (fun w => Φ w ∧ (f.live = true → f.S v w))) : RW2 P ops w0 fin n (o :: os) (f :: fs) (fr l) F Φ := by
  refine ⟨h1, fun v => ?_⟩
  rw [hd, fr_put, hl]; exact h2 v
theorem RW2_n {fin : List Oper → Act → (World → Prop) → Prop} {n : Nat} {o : Oper} {os : List Oper} {f : FactW bs} {fs : List (FactW bs)} {l : List Value} {F : Nat → World → Prop} {Φ : World → Prop}
    (hd : o.dst = none)
    (h1 : ∀ w, KpL (sel bs f.bef) w0 w → facts F w f.deps → doesG P ops o (fr l) w (fun v w' => f.S v w' ∧ KpL (sel bs f.wr) w w'))
    (h2 : ∀ v, RW2 P ops w0 fin (n + 1) os fs (fr l) (fun t => if t = n then f.S v else F t) (fun w => Φ w ∧ (f.live = true → f.S v w))) : RW2 P ops w0 fin n (o :: os) (f :: fs) (fr l) F Φ := by
  refine ⟨h1, fun v => ?_⟩
  rw [hd]; exact h2 v
theorem RW2_fin {fin : List Oper → Act → (World → Prop) → Prop} {n : Nat} {os : List Oper} {a : Act} {F : Nat → World → Prop} {Φ : World → Prop} (h : fin os a Φ) : RW2 (bs := bs) P ops w0 fin n os [] a F Φ := by cases os <;> exact h
def env2 (fs : List (FactW bs)) (vals : Nat → Value) : Nat → Nat → World → Prop
  | 0 => fun _ _ => True
  | k + 1 => fun t => if t = k then (fs[k]?.map fun f => f.S (vals k)).getD (fun _ => True) else env2 fs vals k t
def phi2 (fs : List (FactW bs)) (vals : Nat → Value) : Nat → World → Prop
  | 0 => fun _ => True
  | k + 1 => fun w => phi2 fs vals k w ∧ ((fs[k]?.map fun f => fun w => f.live = true → f.S (vals k) w).getD (fun _ => True)) w
theorem RW2_at {fin : List Oper → Act → (World → Prop) → Prop} (h : RW2 P ops w0 fin 0 ops.toList fs a0 (fun _ _ => True) (fun _ => True)) (hm : fs.length ≤ ops.size) (vals : Nat → Value) :
    ∀ k, k ≤ fs.length → RW2 P ops w0 fin k (ops.toList.drop k) (fs.drop k) (actN ops a0 vals k) (env2 fs vals k) (phi2 fs vals k) := by
  intro k
  induction k with
  | zero => intro _; exact h
  | succ k ih =>
    intro hk
    have h1 := ih (by omega)
    have ho : k < ops.toList.length := by simp; omega
    rw [List.drop_eq_getElem_cons ho, List.drop_eq_getElem_cons (show k < fs.length by omega)] at h1
    have h2 := h1.2 (vals k)
    have hd : dstOf ops k = (ops.toList[k]'ho).dst := by
      have : ops[k]? = some (ops.toList[k]'ho) := by simp at ho ⊢
      simp [dstOf, this]
    have hf : fs[k]? = some (fs[k]'(by omega)) := List.getElem?_eq_getElem _
    simp only [actN, env2, phi2, hd, hf, Option.map_some, Option.getD_some]
    exact h2
theorem env2_at {vals : Nat → Value} {j : Nat} {f : FactW bs} (hf : fs[j]? = some f) : ∀ k, j < k → env2 fs vals k j = f.S (vals j) := by
  intro k
  induction k with
  | zero => intro h; omega
  | succ k ih =>
    intro h
    by_cases hjk : j = k
    · subst hjk; simp [env2, hf]
    · simp only [env2, hjk, if_false]; exact ih (by omega)
theorem slot_lex2 (vals : Nat → Value) (L : Nat → Bool) (i : Nat) (t : Tmp) : ∀ k, (∀ j, j < k → dstOf ops j = some t → (j < i ∧ L j = true) ∨ (i ≤ j ∧ L j = false)) →
    (actL ops a0 vals L k).tmps[t]? = (actN ops a0 vals (min k i)).tmps[t]? := by
  intro k
  induction k with
  | zero => intro _; simp [actL, actN]
  | succ k ih =>
    intro h
    have h0 := ih fun j hj => h j (by omega)
    by_cases hd : dstOf ops k = some t
    · rcases h k (by omega) hd with ⟨h1, h2⟩ | ⟨h1, h2⟩
      · have e1 : min (k + 1) i = k + 1 := by omega
        rw [e1]
        simp only [actL, h2, if_true, actN]
        exact slot_put_same _ _ (by rw [actL_size, actN_size]) _ _ _ hd
      · have e1 : min (k + 1) i = i := by omega
        have e2 : min k i = i := by omega
        rw [actL_succ, h2, e1]; rw [e2] at h0; exact h0
    · have e3 : (actL ops a0 vals L (k + 1)).tmps[t]? = (actL ops a0 vals L k).tmps[t]? := by
        rw [actL_succ]; split
        · exact slot_put_ne _ _ _ _ hd
        · rfl
      rw [e3, h0]
      by_cases hk : k < i
      · have e1 : min (k + 1) i = k + 1 := by omega
        have e2 : min k i = k := by omega
        rw [e1, e2]
        exact (slot_put_ne _ _ _ _ hd).symm
      · have e1 : min (k + 1) i = i := by omega
        have e2 : min k i = i := by omega
        rw [e1, e2]
def Dp (cl : List Nat) (i j : Nat) : Bool := (cl.getD i 0).testBit j
def orAll : List Nat → Nat
  | [] => 0
  | x :: l => x ||| orAll l
theorem orAll_bit {l : List Nat} {j : Nat} : (orAll l).testBit j = true → ∃ x ∈ l, x.testBit j = true := by
  induction l with
  | nil => simp [orAll]
  | cons x l ih =>
    intro h
    simp only [orAll, Nat.testBit_or, Bool.or_eq_true] at h
    rcases h with h | h
    · exact ⟨x, by simp, h⟩
    · obtain ⟨y, hy, hb⟩ := ih h; exact ⟨y, by simp [hy], hb⟩
def sub (I J : List Nat) : Bool := I.all fun i => J.contains i
theorem sub_spec {I J : List Nat} (h : sub I J = true) : ∀ i ∈ I, i ∈ J := by
  simpa [sub] using h
def clOk (ops : Array Oper) (cl : List Nat) : Bool :=
  (List.range ops.size).all fun i => ((ops[i]?).map fun o =>
    let es := o.after.toList.filter (Region.binds .any)
    es.all (fun e => decide (e.on < i)) && orAll (es.map fun e => 2 ^ e.on ||| cl.getD e.on 0) == cl.getD i 0).getD false
def killB (cl : List Nat) (wr safe : List (List Nat)) (k j : Nat) : Bool := k != j && !Dp cl j k && !sub (wr.getD k []) (safe.getD j [])
def chk2 (ops : Array Oper) (m : Nat) (cl : List Nat) (deps bef wr safe : List (List Nat)) (live : List Bool) : Bool :=
  Region.noSelect ops && clOk ops cl &&
  (List.range m).all (fun i => (List.range m).all fun j => i == j || (dstOf ops i).isNone || dstOf ops i != dstOf ops j) &&
  (List.range m).all (fun i => ((ops[i]?).map fun o => (o.looksAt ops).all fun t => (List.range m).all fun j => dstOf ops j != some t || i == j || (decide (j < i) && Dp cl i j) || (decide (i < j) && Dp cl j i)).getD false) &&
  (List.range m).all (fun i => (deps.getD i []).all fun j => decide (j < i) && Dp cl i j && (List.range m).all fun k => k == i || Dp cl k i || !killB cl wr safe k j) &&
  (List.range m).all (fun i => (List.range m).all fun k => k == i || Dp cl k i || sub (wr.getD k []) (bef.getD i [])) &&
  (List.range m).all (fun j => !(live.getD j false) || (List.range m).all fun k => !killB cl wr safe k j) &&
  (List.range ops.size).all (fun k => decide (k < m) || (List.range k).all fun j => Dp cl k j)
structure Good2 (ops : Array Oper) (m : Nat) (cl : List Nat) (fs : List (FactW bs)) : Prop where
  sel : Region.noSelect ops = true
  clo : ∀ i o, ops[i]? = some o → ∀ j, Dp cl i j = true → ∃ e ∈ o.after, Region.binds .any e = true ∧ (j = e.on ∨ Dp cl e.on j = true)
  back : ∀ i o, ops[i]? = some o → ∀ e ∈ o.after, Region.binds .any e = true → e.on < i
  dst : ∀ i, i < m → ∀ j, j < m → j ≠ i → ∀ d, dstOf ops i = some d → dstOf ops j ≠ some d
  look : ∀ i o, i < m → ops[i]? = some o → ∀ t ∈ o.looksAt ops, ∀ j, j < m → dstOf ops j = some t → i = j ∨ (j < i ∧ Dp cl i j = true) ∨ (i < j ∧ Dp cl j i = true)
  dep : ∀ i f, fs[i]? = some f → ∀ j ∈ f.deps, j < i ∧ Dp cl i j = true ∧ ∀ k, k < m → k ≠ i → Dp cl k i = false → killB cl (fs.map (·.wr)) (fs.map (·.safe)) k j = false
  bef : ∀ i f k g, fs[i]? = some f → fs[k]? = some g → k ≠ i → Dp cl k i = false → ∀ x ∈ g.wr, x ∈ f.bef
  live : ∀ j f, fs[j]? = some f → f.live = true → ∀ k, k < m → killB cl (fs.map (·.wr)) (fs.map (·.safe)) k j = false
  tail : ∀ k, k < ops.size → m ≤ k → ∀ j, j < k → Dp cl k j = true
theorem chk2_good {m : Nat} {cl : List Nat} (hn : fs.length = m) (h : chk2 ops m cl (fs.map (·.deps)) (fs.map (·.bef)) (fs.map (·.wr)) (fs.map (·.safe)) (fs.map (·.live)) = true) : Good2 ops m cl fs := by
  simp only [chk2, Bool.and_eq_true] at h
  obtain ⟨⟨⟨⟨⟨⟨⟨h0, hc⟩, h1⟩, h2⟩, h3⟩, h4⟩, h5⟩, h6⟩ := h
  simp only [clOk, List.all_eq_true, List.mem_range] at hc h1 h2 h3 h4 h5 h6
  refine ⟨h0, ?_, ?_, ?_, ?_, ?_, ?_, ?_, ?_⟩
  · intro i o ho j hj
    have := hc i (Array.getElem?_eq_some_iff.1 ho).1
    simp only [ho, Option.map_some, Option.getD_some, Bool.and_eq_true, beq_iff_eq] at this
    have hj' := hj
    unfold Dp at hj'
    rw [← this.2] at hj'
    obtain ⟨x, hx, hb⟩ := orAll_bit hj'
    obtain ⟨e, he, rfl⟩ := List.mem_map.1 hx
    obtain ⟨he1, he2⟩ := List.mem_filter.1 he
    refine ⟨e, by simpa using he1, he2, ?_⟩
    simp only [Nat.testBit_or, Bool.or_eq_true, Nat.testBit_two_pow, decide_eq_true_eq] at hb
    rcases hb with hb | hb
    · exact .inl hb.symm
    · exact .inr hb
  · intro i o ho e he hb
    have := hc i (Array.getElem?_eq_some_iff.1 ho).1
    simp only [ho, Option.map_some, Option.getD_some, Bool.and_eq_true, beq_iff_eq, List.all_eq_true, decide_eq_true_eq] at this
    exact this.1 e (List.mem_filter.2 ⟨by simpa using he, hb⟩)
  · intro i hi j hj hne d hd hd'
    have := h1 i hi j hj
    simp only [Bool.or_eq_true, beq_iff_eq, bne_iff_ne, Option.isNone_iff_eq_none] at this
    rcases this with (h | h) | h
    · exact hne h.symm
    · rw [hd] at h; cases h
    · exact h (by rw [hd, hd'])
  · intro i o him ho t ht j hj hd
    have := h2 i him
    simp only [ho, Option.map_some, Option.getD_some, List.all_eq_true, List.mem_range] at this
    have := this t ht j hj
    simp only [Bool.or_eq_true, bne_iff_ne, beq_iff_eq, Bool.and_eq_true, decide_eq_true_eq] at this
    rcases this with ((h | h) | h) | h
    · exact absurd hd h
    · exact .inl h
    · exact .inr (.inl h)
    · exact .inr (.inr h)
  · intro i f hf j hj
    have hi := (List.getElem?_eq_some_iff.1 hf).1
    have := h3 i (by omega) j (by simpa [List.getD_eq_getElem?_getD, hf] using hj)
    simp only [Bool.and_eq_true, decide_eq_true_eq, List.all_eq_true, List.mem_range, Bool.or_eq_true, beq_iff_eq, Bool.not_eq_true'] at this
    refine ⟨this.1.1, this.1.2, fun k hk hne hd => ?_⟩
    rcases this.2 k hk with (h | h) | h
    · exact absurd h hne
    · rw [hd] at h; cases h
    · exact h
  · intro i f k g hf hg hne hd
    have hi := (List.getElem?_eq_some_iff.1 hf).1
    have hk := (List.getElem?_eq_some_iff.1 hg).1
    have := h4 i (by omega) k (by omega)
    simp only [Bool.or_eq_true, beq_iff_eq] at this
    rcases this with (h | h) | h
    · exact absurd h hne
    · rw [hd] at h; cases h
    · have := sub_spec h
      simpa [List.getD_eq_getElem?_getD, hf, hg] using this
  · intro j f hf hl k hk
    have hj := (List.getElem?_eq_some_iff.1 hf).1
    have := h5 j (by omega)
    simp only [Bool.or_eq_true, Bool.not_eq_true', List.all_eq_true, List.mem_range] at this
    rcases this with h | h
    · simp [List.getD_eq_getElem?_getD, hf, hl] at h
    · exact h k hk
  · intro k hk hmk j hj
    have := h6 k hk
    simp only [Bool.or_eq_true, decide_eq_true_eq, List.all_eq_true, List.mem_range] at this
    exact this.resolve_left (by omega) j hj
theorem Dp_lt {m : Nat} {cl : List Nat} (G : Good2 ops m cl fs) : ∀ i j, i < ops.size → Dp cl i j = true → j < i := by
  intro i
  induction i using Nat.strongRecOn with
  | _ i ih =>
    intro j hi hd
    have ho : ops[i]? = some ops[i] := Array.getElem?_eq_some_iff.2 ⟨hi, rfl⟩
    obtain ⟨e, he, hb, h⟩ := G.clo i _ ho j hd
    have hei := G.back i _ ho e he hb
    rcases h with rfl | h
    · exact hei
    · have := ih e.on hei j (by omega) h; omega
theorem tail2 {m : Nat} {cl : List Nat} (G : Good2 ops m cl fs) : ∀ (d k : Nat) (listed : Array Bool) (a : Act) (w : World), k + d = ops.size → m ≤ k → listed.size = ops.size →
    (∀ j, j < ops.size → listed.getD j true = decide (j < k)) → wpList P ops Q (ops.toList.drop k) a w → ∀ fuel, d ≤ fuel → wpAny P .any ops Q fuel listed a w := by
  intro d
  induction d with
  | zero =>
    intro k listed a w hk hmk hsz hL h fuel _
    have h0 : Region.ready .any ops listed = [] := by
      apply List.eq_nil_iff_forall_not_mem.2
      intro i hi
      obtain ⟨h1, o, ho, _⟩ := mem_ready.1 hi
      have hlt := (Array.getElem?_eq_some_iff.1 ho).1
      rw [hL i hlt] at h1
      simp at h1; omega
    rw [List.drop_eq_nil_of_le (by simp; omega)] at h
    exact wpAny_done h0 h fuel
  | succ d ih =>
    intro k listed a w hk hmk hsz hL h fuel hf
    obtain ⟨fuel, rfl⟩ : ∃ f, fuel = f + 1 := ⟨fuel - 1, by omega⟩
    have hlt : k < ops.size := by omega
    have hko : ops[k]? = some ops[k] := Array.getElem?_eq_some_iff.2 ⟨hlt, rfl⟩
    have lisT : ∀ j, j < ops.size → (listed.getD j false = true ↔ j < k) := fun j hj => by
      rw [show listed.getD j false = listed.getD j true from by simp [Array.getD_eq_getD_getElem?, hsz ▸ hj], hL j hj]; simp
    have hready : k ∈ Region.ready .any ops listed := by
      refine mem_ready.2 ⟨by rw [hL k hlt]; simp, _, hko, fun e he hb => ?_⟩
      have hek := G.back k _ hko e he hb
      exact (lisT e.on (by omega)).2 hek
    refine ⟨fun h0 => (by rw [h0] at hready; cases hready), fun i hi => ?_⟩
    obtain ⟨h1, o, ho, hall⟩ := mem_ready.1 hi
    have hilt := (Array.getElem?_eq_some_iff.1 ho).1
    rw [hL i hilt] at h1
    have hik : i = k := by
      simp at h1
      rcases Nat.lt_or_ge k i with hlt' | hge
      · obtain ⟨e, he, hb, h⟩ := G.clo i o ho k (G.tail i hilt (by omega) k hlt')
        have hel := hall e he hb
        have hei := G.back i o ho e he hb
        have hek := (lisT e.on (by omega)).1 hel
        rcases h with h | h
        · omega
        · have := Dp_lt G e.on k (by omega) h; omega
      · omega
    subst hik
    have hdrop : ops.toList.drop i = ops[i] :: ops.toList.drop (i + 1) := by
      rw [List.drop_eq_getElem_cons (by simpa using hlt)]; simp
    rw [hdrop] at h
    have hL' : ∀ j, j < ops.size → (listed.setIfInBounds i true).getD j true = decide (j < i + 1) := fun j hj => by
      by_cases hji : i = j
      · subst hji; simp [hsz, hlt]
      · rw [getD_set_ne true hji, hL j hj]
        apply decide_eq_decide.2; omega
    have next : ∀ a w, wpList P ops Q (ops.toList.drop (i + 1)) a w → wpAny P .any ops Q fuel (listed.setIfInBounds i true) a w := fun a w h =>
      ih (i + 1) _ a w (by omega) (by omega) (by simp [hsz]) hL' h fuel (by omega)
    unfold wpOp
    rw [hko]
    simp only [wpList] at h
    by_cases hw : Region.wanted ops[i] (yielded ops a.tmps) = true
    · simp only [hw, if_true] at h ⊢
      exact h.imp (Oper.wp_mono next) id
    · simp only [hw] at h ⊢
      exact next _ _ h
theorem any2 {bs : List Nat} {fs : List (FactW bs)} {m : Nat} {cl : List Nat} (G : Good2 ops m cl fs) (hn : fs.length = m) (hmo : m ≤ ops.size) (all : List Nat) (hall' : ∀ (k : Nat) (f : FactW bs), fs[k]? = some f → ∀ x ∈ f.wr, x ∈ all)
    (H : RW2 P ops w0 (fun os a Φ => ∀ w, KpL (sel bs all) w0 w → Φ w → wpList P ops Q os a w) 0 ops.toList fs a0 (fun _ _ => True) (fun _ => True)) :
    ∀ (fuel : Nat) (U : List Nat) (listed : Array Bool) (vals : Nat → Value) (w : World) (W : List Nat), U.Nodup → U.length ≤ fuel → listed.size = ops.size → (∀ j, j < ops.size → (listed.getD j true = false ↔ j ∈ U)) →
      (∀ i, i < ops.size → i ∉ U → ∀ j, j < ops.size → Dp cl i j = true → j ∉ U) → (∀ k, m ≤ k → k < ops.size → k ∈ U) →
      KpL (sel bs W) w0 w → (∀ x ∈ W, ∃ k f, k < m ∧ k ∉ U ∧ fs[k]? = some f ∧ x ∈ f.wr) →
      (∀ j f, j < m → j ∉ U → fs[j]? = some f → (∀ k, k < m → k ∉ U → killB cl (fs.map (·.wr)) (fs.map (·.safe)) k j = false) → f.S (vals j) w) →
      wpAny P .any ops Q fuel listed (actL ops a0 vals (fun j => !decide (j ∈ U)) m) w := by
  have lis : ∀ {U : List Nat} {listed : Array Bool}, listed.size = ops.size → (∀ j, j < ops.size → (listed.getD j true = false ↔ j ∈ U)) → ∀ j, j < ops.size → (listed.getD j false = true ↔ j ∉ U) := fun {U listed} hsz hU j hj => by
    have h1 := hU j hj
    have h2 : ∀ l : Array Bool, l.size = ops.size → l.getD j false = l.getD j true := fun l hl => by simp [Array.getD_eq_getD_getElem?, hl ▸ hj]
    rw [h2 _ hsz]
    cases hb : listed.getD j true <;> simp_all
  -- what is left when the first m have come up
  have fin : ∀ (U : List Nat) (listed : Array Bool) (vals : Nat → Value) (w : World) (W : List Nat) (fuel : Nat), U.Nodup → U.length ≤ fuel → listed.size = ops.size → (∀ j, j < ops.size → (listed.getD j true = false ↔ j ∈ U)) →
      (∀ k, m ≤ k → k < ops.size → k ∈ U) → (∀ i, i < m → i ∉ U) → KpL (sel bs W) w0 w → (∀ x ∈ W, ∃ k f, k < m ∧ k ∉ U ∧ fs[k]? = some f ∧ x ∈ f.wr) →
      (∀ j f, j < m → j ∉ U → fs[j]? = some f → (∀ k, k < m → k ∉ U → killB cl (fs.map (·.wr)) (fs.map (·.safe)) k j = false) → f.S (vals j) w) →
      wpAny P .any ops Q fuel listed (actL ops a0 vals (fun j => !decide (j ∈ U)) m) w := by
    intro U listed vals w W fuel hnd hlen hsz hU htl hall hx hW hS
    have hR := RW2_at H (by omega) vals m (by omega)
    rw [List.drop_eq_nil_of_le (show fs.length ≤ m by omega)] at hR
    have hfin : ∀ w, KpL (sel bs all) w0 w → phi2 fs vals m w → wpList P ops Q (ops.toList.drop m) (actN ops a0 vals m) w := by
      cases hd : ops.toList.drop m <;> rw [hd] at hR <;> exact hR
    have hphi : ∀ n, n ≤ m → phi2 fs vals n w := by
      intro n; induction n with
      | zero => intro _; trivial
      | succ n ihn =>
        intro hnn; refine ⟨ihn (by omega), ?_⟩
        rw [List.getElem?_eq_getElem (show n < fs.length by omega)]
        exact fun hl => hS n _ (by omega) (hall n (by omega)) (List.getElem?_eq_getElem _) fun k hk _ => G.live n _ (List.getElem?_eq_getElem _) hl k hk
    have hact : ∀ n, n ≤ m → actL ops a0 vals (fun j => !decide (j ∈ U)) n = actN ops a0 vals n := by
      intro n; induction n with
      | zero => intro _; rfl
      | succ n ihn => intro hn; rw [actL_succ, ihn (by omega)]; simp [actN, hall n (by omega)]
    rw [hact _ (Nat.le_refl _)]
    have hlenU : ops.size - m ≤ U.length := by
      have hsub : (List.range' m (ops.size - m)).length ≤ U.length := List.Nodup.length_le_of_subset (List.nodup_range' (step := 1)) fun k hk => by
        rw [List.mem_range'_1] at hk; exact htl k hk.1 (by omega)
      simpa using hsub
    refine tail2 G (ops.size - m) m listed _ w (by omega) (Nat.le_refl _) hsz (fun j hj => ?_) (hfin w (hx.mono (sel_sub fun x hxW => ?_)) (hphi m (Nat.le_refl _))) fuel (by omega)
    · by_cases hjm : j < m
      · have : ¬ listed.getD j true = false := fun h => hall j hjm ((hU j hj).1 h)
        simp only [Bool.not_eq_false] at this
        rw [this]; simp [hjm]
      · rw [(hU j hj).2 (htl j (by omega) hj)]; simp [hjm]
    · obtain ⟨k, f, _, _, hf, hm⟩ := hW x hxW
      exact hall' k f hf x hm
  intro fuel
  induction fuel with
  | zero =>
    intro U listed vals w W hnd hlen hsz hU hcl htl hx hW hS
    have hU0 : U = [] := List.length_eq_zero_iff.1 (by omega)
    subst hU0
    exact fin [] listed vals w W 0 hnd hlen hsz hU htl (by simp) hx hW hS
  | succ fuel ih =>
    intro U listed vals w W hnd hlen hsz hU hcl htl hx hW hS
    by_cases hall : ∀ i, i < m → i ∉ U
    · exact fin U listed vals w W (fuel + 1) hnd hlen hsz hU htl hall hx hW hS
    · have hex : ∃ i, i < m ∧ i ∈ U := Classical.byContradiction fun h => hall fun i hi hu => h ⟨i, hi, hu⟩
      have least : ∃ i, i < m ∧ i ∈ U ∧ ∀ j, j < i → j ∉ U := by
        obtain ⟨i, hi, hu⟩ := hex
        induction i using Nat.strongRecOn with
        | _ i ihh =>
          by_cases h : ∃ j, j < i ∧ j ∈ U
          · obtain ⟨j, hj, hju⟩ := h; exact ihh j hj (by omega) hju
          · exact ⟨i, hi, hu, fun j hj hju => h ⟨j, hj, hju⟩⟩
      obtain ⟨i0, hi0, hu0, hl0⟩ := least
      have hi0' : i0 < ops.size := by omega
      have hr0 : i0 ∈ Region.ready .any ops listed := by
        refine mem_ready.2 ⟨(hU i0 hi0').2 hu0, ops[i0], Array.getElem?_eq_some_iff.2 ⟨hi0', rfl⟩, fun e he hb => ?_⟩
        have hk := G.back i0 _ (Array.getElem?_eq_some_iff.2 ⟨hi0', rfl⟩) e he hb
        exact (lis hsz hU e.on (by omega)).2 (hl0 _ hk)
      refine ⟨fun h0 => (by rw [h0] at hr0; cases hr0), fun i hir => ?_⟩
      obtain ⟨hun, o, ho, hlisted⟩ := mem_ready.1 hir
      have hisz := (Array.getElem?_eq_some_iff.1 ho).1
      have hiU := (hU i hisz).1 hun
      -- what it waits for has come up
      have hdone : ∀ j, Dp cl i j = true → j < ops.size → j ∉ U := fun j hd hj => by
        obtain ⟨e, he, hb, h⟩ := G.clo i o ho j hd
        have hel := hlisted e he hb
        have hei := G.back i o ho e he hb
        have heU := (lis hsz hU e.on (by omega)).1 hel
        rcases h with rfl | h
        · exact heU
        · exact hcl e.on (by omega) heU j hj h
      have hnot : ∀ k, k < ops.size → k ∉ U → Dp cl k i = false := fun k hk hkU => by
        cases hd : Dp cl k i with
        | false => rfl
        | true => exact absurd hiU (hcl k hk hkU i hisz hd)
      have him : i < m := by
        rcases Nat.lt_or_ge i m with h | h
        · exact h
        · exact absurd hu0 (hdone i0 (G.tail i hisz h i0 (by omega)) hi0')
      obtain ⟨f, hf⟩ : ∃ f, fs[i]? = some f := ⟨_, List.getElem?_eq_getElem (by omega)⟩
      have hR := RW2_at H (by omega) vals i (by omega)
      have hol : i < ops.toList.length := by simp; omega
      rw [List.drop_eq_getElem_cons hol, List.drop_eq_getElem_cons (show i < fs.length by omega)] at hR
      have e1 : ops.toList[i]'hol = o := by
        have := (Array.getElem?_eq_some_iff.1 ho).2
        simpa using this
      have e2 : fs[i]'(by omega) = f := (List.getElem?_eq_some_iff.1 hf).2
      rw [e1, e2] at hR
      have hbef : KpL (sel bs f.bef) w0 w := hx.mono (sel_sub fun x hxW => by
        obtain ⟨k, g, hk, hkU, hg, hm⟩ := hW x hxW
        exact G.bef i f k g hf hg (fun e => hkU (e ▸ hiU)) (hnot k (by omega) hkU) x hm)
      have hfacts : facts (env2 fs vals i) w f.deps := facts_of fun j hj => by
        obtain ⟨hji, hjd, hjk⟩ := G.dep i f hf j hj
        have hgj : fs[j]? = some (fs[j]'(by omega)) := List.getElem?_eq_getElem _
        rw [env2_at hgj i hji]
        exact hS j _ (by omega) (hdone j hjd (by omega)) hgj fun k hk hkU => hjk k hk (fun e => hkU (e ▸ hiU)) (hnot k (by omega) hkU)
      have h1 := hR.1 w hbef hfacts
      have slots : ∀ t ∈ o.looksAt ops, (actL ops a0 vals (fun j => !decide (j ∈ U)) m).tmps[t]? = (actN ops a0 vals i).tmps[t]? := fun t ht => by
        have := slot_lex2 (ops := ops) (a0 := a0) vals (fun j => !decide (j ∈ U)) i t m fun j hj hd => by
          rcases G.look i o him ho t ht j hj hd with rfl | ⟨h1, h2⟩ | ⟨h1, h2⟩
          · exact .inr ⟨Nat.le_refl _, by simp [hiU]⟩
          · exact .inl ⟨h1, by simp [hdone j h2 (by omega)]⟩
          · refine .inr ⟨Nat.le_of_lt h1, ?_⟩
            have : j ∈ U := Classical.byContradiction fun h => by
              have := hnot j (by omega) h
              rw [h2] at this; cases this
            simp [this]
        rw [this, Nat.min_eq_right (by omega)]
      have hex' := execOp_of_slots (ops := ops) (o := o) (fun cs b => Region.noSelect_spec G.sel i o cs b ho) slots
      have hwa := wanted_of_slots (ops := ops) (o := o) slots
      have step : ∀ v w', f.S v w' → KpL (sel bs f.wr) w w' →
          wpAny P .any ops Q fuel (listed.setIfInBounds i true) ((actL ops a0 vals (fun j => !decide (j ∈ U)) m).put o.dst v) w' := fun v w' hv hx' => by
        have h1 := ih (U.erase i) (listed.setIfInBounds i true) (fun j => if j = i then v else vals j) w' (W ++ f.wr) (hnd.erase i) (by rw [List.length_erase_of_mem hiU]; omega) (by simp [hsz]) (fun j hj => by
          rw [hnd.mem_erase_iff]
          by_cases hji : i = j
          · subst hji; simp [hsz, hj]
          · rw [getD_set_ne true hji, hU j hj]; simp [Ne.symm hji]) (fun k hk hkU j hj hd => by
          rw [hnd.mem_erase_iff] at hkU ⊢
          rintro ⟨hji, hjU⟩
          by_cases hki : k = i
          · subst hki; exact hdone j hd hj hjU
          · exact hcl k hk (fun h => hkU ⟨hki, h⟩) j hj hd hjU) (fun k hk hk' => by
          rw [hnd.mem_erase_iff]; exact ⟨by omega, htl k hk hk'⟩) (hx.kl hx' (sel_sub fun x hx => List.mem_append_left _ hx) (sel_sub fun x hx => List.mem_append_right _ hx)) (fun x hx => by
          rcases List.mem_append.1 hx with hx | hx
          · obtain ⟨k, g, hk, hkU, hg, hm⟩ := hW x hx
            exact ⟨k, g, hk, fun h => hkU (hnd.mem_erase_iff.1 h).2, hg, hm⟩
          · exact ⟨i, f, him, fun h => (hnd.mem_erase_iff.1 h).1 rfl, hf, hx⟩) (fun j g hj hjU hg hkill => by
          by_cases hji : j = i
          · subst hji; rw [hf] at hg; cases hg; simpa using hv
          · have hjU' : j ∉ U := fun h => hjU (hnd.mem_erase_iff.2 ⟨hji, h⟩)
            simp only [if_neg hji]
            have hk1 := hkill i him (fun h => (hnd.mem_erase_iff.1 h).1 rfl)
            have hsafe : ∀ x ∈ f.wr, x ∈ g.safe := by
              simp only [killB, Bool.and_eq_false_iff, bne_eq_false_iff_eq, Bool.not_eq_false'] at hk1
              rcases hk1 with (h | h) | h
              · exact absurd h.symm hji
              · exact absurd hiU (hcl j (by omega) hjU' i hisz h)
              · have := sub_spec h
                simpa [List.getD_eq_getElem?_getD, hf, hg] using this
            exact g.st _ _ _ (hx'.mono (sel_sub hsafe)) (hS j g hj hjU' hg fun k hk hkU => hkill k hk fun h => hkU (hnd.mem_erase_iff.1 h).2))
        have hd : o.dst = dstOf ops i := by simp [dstOf, ho]
        have h2 := actL_set (ops := ops) (a0 := a0) vals (fun j => !decide (j ∈ U)) i v (by simp [hiU]) m (fun j hj hne d hd => G.dst i him j hj hne d hd) m (Nat.le_refl _)
        rw [if_pos him, ← hd] at h2
        have h3 : (fun j => if j = i then true else !decide (j ∈ U)) = (fun j => !decide (j ∈ U.erase i)) := by
          funext j
          by_cases hji : j = i
          · subst hji; simp [hnd.mem_erase_iff]
          · simp [hji, hnd.mem_erase_iff]
        rw [h3] at h2
        rw [← h2]; exact h1
      unfold wpOp
      rw [ho]
      by_cases hw : Region.wanted o (yielded ops (actL ops a0 vals (fun j => !decide (j ∈ U)) m).tmps) = true
      · simp only [hw, if_true]
        exact .inl ((does_congr hex'.symm (h1.1 (hwa ▸ hw))).wp fun v w' ⟨hv, hx'⟩ => step v w' hv hx')
      · simp only [Bool.not_eq_true] at hw
        simp only [hw, Bool.false_eq_true, if_false]
        obtain ⟨hv, hx'⟩ := h1.2 (hwa ▸ hw)
        exact step undef w hv hx'
theorem region_any2 {id : Nat} {l : List Oper} {a : Act} {w : World} (bs cl all : List Nat) (fs : List (FactW bs)) (hm : P.follows .mixedOrders = true)
    (hchk : (chk2 l.toArray fs.length cl (fs.map (·.deps)) (fs.map (·.bef)) (fs.map (·.wr)) (fs.map (·.safe)) (fs.map (·.live)) && decide (fs.length ≤ l.length) && fs.all fun f => sub f.wr all) = true)
    (H : RW2 P l.toArray w.drew (fun os a Φ => ∀ w', KpL (sel bs all) w.drew w' → Φ w' → wpList P l.toArray Q os a w') 0 l fs a (fun _ _ => True) (fun _ => True)) : (Code.region id l.toArray true).wp P Q a w := by
  simp only [Bool.and_eq_true, decide_eq_true_eq] at hchk
  have hle : fs.length ≤ l.toArray.size := by simpa using hchk.1.2
  have G := chk2_good rfl hchk.1.1
  refine wp_region_any hm ?_
  have h := any2 (Q := Q) G rfl hle all (fun k f hf => sub_spec (List.all_eq_true.1 hchk.2 f (List.mem_of_getElem? hf))) (by simpa using H) l.toArray.size (List.range l.toArray.size) (Array.replicate l.toArray.size false) (fun _ => undef) w.drew []
    List.nodup_range (by simp) (by simp) (fun j hj => by simp at hj; simp [hj]) (fun i hi hiU => absurd (List.mem_range.2 hi) hiU) (fun k _ hk => by simpa using hk) (KpL.refl _ _) (fun x hx => by cases hx) (fun i f him hiU _ => absurd (List.mem_range.2 (by omega)) hiU)
  have ha : ∀ n, n ≤ l.toArray.size → actL l.toArray a (fun _ => undef) (fun j => !decide (j ∈ List.range l.toArray.size)) n = a := by
    intro n; induction n with
    | zero => intro _; rfl
    | succ n ih => intro hn; rw [actL_succ, ih (by omega)]; simp at hn ⊢; omega
  rw [ha _ hle] at h
  exact h
theorem doesG_gg {o : Oper} {a : Act} {w : World} {R : Value → World → Prop} {j : Nat} {want b : Bool} {c : Prop} (hg : o.guard = some (j, want)) (hy : c → yielded ops a.tmps j = some b) (hn : ¬ c → yielded ops a.tmps j = none)
    (h1 : c → b = want → does P o a w R) (h2 : ¬ (c ∧ b = want) → R undef w) : doesG P ops o a w R := by
  refine ⟨fun hw => ?_, fun hw => h2 fun hb => ?_⟩
  · by_cases hc : c
    · refine h1 hc ?_
      simpa [Region.wanted, hg, hy hc] using hw
    · simp [Region.wanted, hg, hn hc] at hw
  · simp [Region.wanted, hg, hy hb.1, hb.2] at hw
theorem yldn {l : List Value} {ops : List Oper} {j d : Nat} (ho : (ops[j]?).bind (fun o => o.dst) = some d) (hv : l[d]? = some undef) : yielded ops.toArray (fr l).tmps j = none := by
  have h : (ops.toArray[j]?).bind (fun o => o.dst) = some d := by simpa using ho
  unfold yielded; rw [h]; simp [fr, hv, undef]
end
section
variable {P : Program} {a : Act} {w : World} {dst : Option Tmp} {ty : TypeId} {pos : String} {af : Array Edge} {g : Option (Nat × Bool)}
theorem does_iquo {t t' : TypeId} {x y : Operand} {p q : Int} (hx : a.eval x = .int .i64 p) (hy : a.eval y = .int .i64 q) (h0 : 0 ≤ p) (h1 : p ≤ 9223372036854775807) (h2 : 1 ≤ q) :
    does P ⟨dst, .binOp .quo t x y t', ty, pos, af, g⟩ a w (Is (.int .i64 (p / q)) w) := by
  refine does_run ?_
  have hq : q ≠ 0 := by omega
  have hr : IntKind.i64.wrap (p.tdiv q) = p / q := by
    rw [Int.tdiv_eq_ediv_of_nonneg h0]
    have h3 := Int.ediv_nonneg h0 (show 0 ≤ q by omega)
    have h4 := Int.ediv_le_self q h0
    exact in_i64 (by omega) (by omega)
  simp [execOp, hx, hy, eqGuard_at_int, binOp, Op.intDiv, hq, hr]
theorem does_irem {t t' : TypeId} {x y : Operand} {p q : Int} (hx : a.eval x = .int .i64 p) (hy : a.eval y = .int .i64 q) (h0 : 0 ≤ p) (_ : p ≤ 9223372036854775807) (h2 : 1 ≤ q) :
    does P ⟨dst, .binOp .rem t x y t', ty, pos, af, g⟩ a w (Is (.int .i64 (p % q)) w) := by
  refine does_run ?_
  have hq : q ≠ 0 := by omega
  simp [execOp, hx, hy, eqGuard_at_int, binOp, Op.intDiv, hq, Int.tmod_eq_emod_of_nonneg h0]
end
end Go.Proofs.Ytjopopmipdakkaa
