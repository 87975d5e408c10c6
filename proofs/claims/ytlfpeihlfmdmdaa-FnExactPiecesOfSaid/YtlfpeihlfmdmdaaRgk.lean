/- Regions in any order with stores into known blocks and into blocks that the region itself makes. -/
import Derived.Test.YtlfpeihlfmdmdaaRgm
namespace Go.Proofs.Ytlfpeihlfmdmdaa
open Go Go.RowKit

def pblk : Value → Option Nat
  | .pointer (some a) => some a.block
  | _ => none
/-- what is known of one operation. 'own': an earlier one that the fact names; 'ino': this one writes its new block; 'nb': the fact is of a new block (that one's, or its own); 'sn': it stays where other new blocks are written -/
structure FactV (bs : List Nat) (N0 : Nat) where
  deps : List Nat
  bef : List Nat
  wr : List Nat
  safe : List Nat
  own : Option Nat
  ino : Bool
  nb : Bool
  sn : Bool
  live : Bool
  S : Value → Value → World → Prop
  st : ∀ o v w w' L, KpL L w w' → (∀ b ∈ L, b ∈ sel bs safe ∨ (sn = true ∧ N0 ≤ b ∧ (nb = true → pblk (if ino then o else v) ≠ some b))) → S o v w → S o v w'
def ownV (own : Option Nat) (V : Nat → Value) : Value := match own with | some j => V j | none => undef
section
variable {bs : List Nat} {N0 : Nat}
def FactV.pure (deps bef safe : List Nat) (live : Bool) (p : Value → Prop) : FactV bs N0 := ⟨deps, bef, [], safe, none, false, false, true, live, fun _ v _ => p v, fun _ _ _ _ _ _ _ h => h⟩
def FactV.mem (deps bef wr safe : List Nat) (live : Bool) (S : Value → World → Prop) (st : ∀ v w w', KpL (sel bs safe) w w' → S v w → S v w') : FactV bs N0 := ⟨deps, bef, wr, safe, none, false, false, false, live, fun _ => S, fun _ v w w' _ h hL hs => st v w w' (h.mono fun b hb => (hL b hb).elim id fun h => absurd h.1 Bool.false_ne_true) hs⟩
/-- a new block that this one makes -/
def FactV.new (deps bef safe : List Nat) (live : Bool) (S : Value → World → Prop) (st : ∀ v w w' L, KpL L w w' → (∀ b ∈ L, b ∈ sel bs safe ∨ (N0 ≤ b ∧ pblk v ≠ some b)) → S v w → S v w') : FactV bs N0 :=
  ⟨deps, bef, [], safe, none, false, true, true, live, fun _ => S, fun _ v w w' L h hL hs => st v w w' L h (fun b hb => (hL b hb).imp id fun h => ⟨h.2.1, h.2.2 rfl⟩) hs⟩
/-- a store into the new block of an earlier one -/
def FactV.into (deps bef safe : List Nat) (j : Nat) (live : Bool) (S : Value → Value → World → Prop) (st : ∀ o v w w' L, KpL L w w' → (∀ b ∈ L, b ∈ sel bs safe ∨ (N0 ≤ b ∧ pblk o ≠ some b)) → S o v w → S o v w') : FactV bs N0 :=
  ⟨deps, bef, [], safe, some j, true, true, true, live, S, fun o v w w' L h hL hs => st o v w w' L h (fun b hb => (hL b hb).imp id fun h => ⟨h.2.1, h.2.2 rfl⟩) hs⟩
/-- a fact that names the value of an earlier one -/
def FactV.ref (deps bef safe : List Nat) (j : Nat) (live : Bool) (S : Value → Value → World → Prop) (st : ∀ o v w w' L, KpL L w w' → (∀ b ∈ L, b ∈ sel bs safe) → S o v w → S o v w') : FactV bs N0 :=
  ⟨deps, bef, [], safe, some j, false, false, false, live, S, fun o v w w' L h hL hs => st o v w w' L h (fun b hb => (hL b hb).elim id fun h => absurd h.1 Bool.false_ne_true) hs⟩
end
section
variable {P : Program} {ops : Array Oper} {Q : Exit → Act → World → Prop} {w0 : World} {a0 : Act} {bs : List Nat} {N0 : Nat} {fs : List (FactV bs N0)} {ns : List Nat}
def FactV.toW (f : FactV bs N0) : FactW bs := ⟨f.deps, f.bef, f.wr, f.safe, f.live, fun _ _ => True, fun _ _ _ _ h => h⟩
/-- what an operation may have written -/
def Wrote (bs : List Nat) (N0 : Nat) (wr : List Nat) (own : Bool) (o : Value) (w w' : World) : Prop := ∃ L, KpL L w w' ∧ ∀ b ∈ L, b ∈ sel bs wr ∨ (own = true ∧ pblk o = some b ∧ N0 ≤ b)
/-- the walk in the order of the text; what operations 'ns' give is new -/
def RW4 (P : Program) (ops : Array Oper) (w0 : World) (ns : List Nat) (fin : List Oper → Act → (World → Prop) → List Value → Prop) : Nat → List Oper → List (FactV bs N0) → Act → (Nat → Value) → (Nat → World → Prop) → (World → Prop) → List Value → Prop
  | n, o :: os, f :: fs, a, V, F, Φ, N =>
    (∀ w, KpL (sel bs f.bef) w0 w → facts F w f.deps → doesG P ops o a w (fun v w' => f.S (ownV f.own V) v w' ∧ Wrote bs N0 f.wr f.ino (ownV f.own V) w w' ∧ (ns.contains n = true → NewB w v w'))) ∧
    ∀ v, RW4 P ops w0 ns fin (n + 1) os fs (a.put o.dst v) (fun t => if t = n then v else V t) (fun t => if t = n then f.S (ownV f.own V) v else F t) (fun w => Φ w ∧ (f.live = true → f.S (ownV f.own V) v w)) (if ns.contains n then v :: N else N)
  | _, os, _, a, _, _, Φ, N => fin os a Φ N
section
variable {fin : List Oper → Act → (World → Prop) → List Value → Prop} {n : Nat} {o : Oper} {os : List Oper} {f : FactV bs N0} {l : List Value} {d : Nat} {V : Nat → Value} {F : Nat → World → Prop} {Φ : World → Prop} {N : List Value}
theorem RW4_d (l' : Value → List Value) (hn : ns.contains n = false) (hd : o.dst = some d) (hl : ∀ v, l.set d v = l' v)
    (h1 : ∀ w, KpL (sel bs f.bef) w0 w → facts F w f.deps → doesG P ops o (fr l) w (fun v w' => f.S (ownV f.own V) v w' ∧ KpL (sel bs f.wr) w w'))
    (h2 : ∀ v, RW4 P ops w0 ns fin (n + 1) os fs (fr (l' v)) (fun t => if t = n then v else V t) (fun t => if t = n then f.S (ownV f.own V) v else F t) (fun w => Φ w ∧ (f.live = true → f.S (ownV f.own V) v w)) N) : RW4 P ops w0 ns fin n (o :: os) (f :: fs) (fr l) V F Φ N := by
  refine ⟨fun w hx hf => (h1 w hx hf).mono fun v w' ⟨a, b⟩ => ⟨a, ⟨_, b, fun _ h => .inl h⟩, fun hc => by rw [hn] at hc; cases hc⟩, fun v => ?_⟩
  rw [hd, fr_put, hl, hn, if_neg Bool.false_ne_true]; exact h2 v
theorem RW4_b (l' : Value → List Value) (hn : ns.contains n = true) (hd : o.dst = some d) (hl : ∀ v, l.set d v = l' v)
    (h1 : ∀ w, KpL (sel bs f.bef) w0 w → facts F w f.deps → doesG P ops o (fr l) w (fun v w' => f.S (ownV f.own V) v w' ∧ KpL (sel bs f.wr) w w' ∧ NewB w v w'))
    (h2 : ∀ v, RW4 P ops w0 ns fin (n + 1) os fs (fr (l' v)) (fun t => if t = n then v else V t) (fun t => if t = n then f.S (ownV f.own V) v else F t) (fun w => Φ w ∧ (f.live = true → f.S (ownV f.own V) v w)) (v :: N)) : RW4 P ops w0 ns fin n (o :: os) (f :: fs) (fr l) V F Φ N := by
  refine ⟨fun w hx hf => (h1 w hx hf).mono fun v w' ⟨a, b, c⟩ => ⟨a, ⟨_, b, fun _ h => .inl h⟩, fun _ => c⟩, fun v => ?_⟩
  rw [hd, fr_put, hl, hn, if_pos rfl]; exact h2 v
theorem RW4_n (hn : ns.contains n = false) (hd : o.dst = none)
    (h1 : ∀ w, KpL (sel bs f.bef) w0 w → facts F w f.deps → doesG P ops o (fr l) w (fun v w' => f.S (ownV f.own V) v w' ∧ KpL (sel bs f.wr) w w'))
    (h2 : ∀ v, RW4 P ops w0 ns fin (n + 1) os fs (fr l) (fun t => if t = n then v else V t) (fun t => if t = n then f.S (ownV f.own V) v else F t) (fun w => Φ w ∧ (f.live = true → f.S (ownV f.own V) v w)) N) : RW4 P ops w0 ns fin n (o :: os) (f :: fs) (fr l) V F Φ N := by
  refine ⟨fun w hx hf => (h1 w hx hf).mono fun v w' ⟨a, b⟩ => ⟨a, ⟨_, b, fun _ h => .inl h⟩, fun hc => by rw [hn] at hc; cases hc⟩, fun v => ?_⟩
  rw [hd, hn, if_neg Bool.false_ne_true]; exact h2 v
theorem RW4_i (x : Value) (hx' : ownV f.own V = x) (ho : f.ino = true) (hn : ns.contains n = false) (hd : o.dst = none)
    (h1 : ∀ w, KpL (sel bs f.bef) w0 w → facts F w f.deps → doesG P ops o (fr l) w (fun v w' => f.S x v w' ∧ ∃ b, pblk x = some b ∧ N0 ≤ b ∧ KpL [b] w w'))
    (h2 : ∀ v, RW4 P ops w0 ns fin (n + 1) os fs (fr l) (fun t => if t = n then v else V t) (fun t => if t = n then f.S x v else F t) (fun w => Φ w ∧ (f.live = true → f.S x v w)) N) : RW4 P ops w0 ns fin n (o :: os) (f :: fs) (fr l) V F Φ N := by
  subst hx'
  refine ⟨fun w hx hf => (h1 w hx hf).mono fun v w' ⟨a, b, hb, hN, hK⟩ => ⟨a, ⟨[b], hK, fun c hc => .inr ⟨ho, by rw [List.mem_singleton] at hc; rw [hc]; exact hb, by rw [List.mem_singleton] at hc; rw [hc]; exact hN⟩⟩, fun hc => by rw [hn] at hc; cases hc⟩, fun v => ?_⟩
  rw [hd, hn, if_neg Bool.false_ne_true]; exact h2 v
theorem RW4_fin (h : fin os a0 Φ N) : RW4 (bs := bs) (N0 := N0) P ops w0 ns fin n os [] a0 V F Φ N := by cases os <;> exact h
end
def Vn (vals : Nat → Value) : Nat → Nat → Value
  | 0 => fun _ => undef
  | k + 1 => fun t => if t = k then vals k else Vn vals k t
theorem Vn_at (vals : Nat → Value) {j : Nat} : ∀ k, j < k → Vn vals k j = vals j
  | 0, h => by omega
  | k + 1, h => by
    unfold Vn
    by_cases hjk : j = k
    · subst hjk; simp
    · rw [if_neg hjk]; exact Vn_at vals k (by omega)
def env4 (fs : List (FactV bs N0)) (vals : Nat → Value) : Nat → Nat → World → Prop
  | 0 => fun _ _ => True
  | k + 1 => fun t => if t = k then (fs[k]?.map fun f => f.S (ownV f.own (Vn vals k)) (vals k)).getD (fun _ => True) else env4 fs vals k t
def phi4 (fs : List (FactV bs N0)) (vals : Nat → Value) : Nat → World → Prop
  | 0 => fun _ => True
  | k + 1 => fun w => phi4 fs vals k w ∧ ((fs[k]?.map fun f => fun w => f.live = true → f.S (ownV f.own (Vn vals k)) (vals k) w).getD (fun _ => True)) w
theorem env4_at {vals : Nat → Value} {j : Nat} {f : FactV bs N0} (hf : fs[j]? = some f) : ∀ k, j < k → env4 fs vals k j = f.S (ownV f.own (Vn vals j)) (vals j) := by
  intro k
  induction k with
  | zero => intro h; omega
  | succ k ih =>
    intro h
    by_cases hjk : j = k
    · subst hjk; simp [env4, hf]
    · simp only [env4, hjk, if_false]; exact ih (by omega)
theorem RW4_at {fin : List Oper → Act → (World → Prop) → List Value → Prop} (h : RW4 P ops w0 ns fin 0 ops.toList fs a0 (fun _ => undef) (fun _ _ => True) (fun _ => True) []) (hm : fs.length ≤ ops.size) (vals : Nat → Value) :
    ∀ k, k ≤ fs.length → RW4 P ops w0 ns fin k (ops.toList.drop k) (fs.drop k) (actN ops a0 vals k) (Vn vals k) (env4 fs vals k) (phi4 fs vals k) (newN ns vals k) := by
  intro k
  induction k with
  | zero => intro _; exact h
  | succ k ih =>
    intro hk
    have h1 := ih (by omega)
    have ho : k < ops.toList.length := by simp; omega
    rw [List.drop_eq_getElem_cons ho, List.drop_eq_getElem_cons (show k < fs.length by omega)] at h1
    have h2 := h1.2 (vals k)
    have hd : dstOf ops k = (ops.toList[k]'ho).dst := by
      have : ops[k]? = some (ops.toList[k]'ho) := by simp at ho ⊢
      simp [dstOf, this]
    have hf : fs[k]? = some (fs[k]'(by omega)) := List.getElem?_eq_getElem _
    simp only [actN, env4, phi4, Vn, newN, hd, hf, Option.map_some, Option.getD_some]
    exact h2
/-- the writing of a new block by k ends what is known of i -/
def keyN (own : List (Option Nat)) (ino : List Bool) (i : Nat) : Nat := if ino.getD i false then (own.getD i none).getD i else i
def killN (cl : List Nat) (own : List (Option Nat)) (ino nb sn : List Bool) (k i : Nat) : Bool :=
  match own.getD k none with
  | none => false
  | some j => ino.getD k false && k != i && !Dp cl i k && (!sn.getD i false || (nb.getD i false && keyN own ino i == j))
def chkN (m : Nat) (cl ns : List Nat) (deps : List (List Nat)) (own : List (Option Nat)) (ino nb sn live : List Bool) : Bool :=
  (List.range m).all (fun i => match own.getD i none with | none => true | some j => decide (j < i) && Dp cl i j && (!ino.getD i false || ns.contains j)) &&
  (List.range m).all (fun i => (!ino.getD i false || (own.getD i none).isSome) && (!nb.getD i false || ns.contains (keyN own ino i))) &&
  (List.range m).all (fun i => (deps.getD i []).all fun j => (List.range m).all fun k => k == i || Dp cl k i || !killN cl own ino nb sn k j) &&
  (List.range m).all (fun j => !(live.getD j false) || (List.range m).all fun k => !killN cl own ino nb sn k j)
structure GoodN (m : Nat) (cl ns : List Nat) (fs : List (FactV bs N0)) : Prop where
  own : ∀ (i : Nat) (f : FactV bs N0) (j : Nat), fs[i]? = some f → f.own = some j → j < i ∧ Dp cl i j = true ∧ (f.ino = true → ns.contains j = true)
  nb : ∀ (i : Nat) (f : FactV bs N0), fs[i]? = some f → (f.ino = true → f.own.isSome = true) ∧ (f.nb = true → ns.contains (if f.ino then f.own.getD i else i) = true)
  dep : ∀ (i : Nat) (f : FactV bs N0), fs[i]? = some f → ∀ j ∈ f.deps, ∀ k, k < m → k ≠ i → Dp cl k i = false → killN cl (fs.map (·.own)) (fs.map (·.ino)) (fs.map (·.nb)) (fs.map (·.sn)) k j = false
  live : ∀ (j : Nat) (f : FactV bs N0), fs[j]? = some f → f.live = true → ∀ k, k < m → killN cl (fs.map (·.own)) (fs.map (·.ino)) (fs.map (·.nb)) (fs.map (·.sn)) k j = false
theorem chkN_good {m : Nat} {cl : List Nat} (hn : fs.length = m) (h : chkN m cl ns (fs.map (·.deps)) (fs.map (·.own)) (fs.map (·.ino)) (fs.map (·.nb)) (fs.map (·.sn)) (fs.map (·.live)) = true) : GoodN m cl ns fs := by
  simp only [chkN, Bool.and_eq_true] at h
  obtain ⟨⟨⟨h1, h2⟩, h3⟩, h4⟩ := h
  simp only [List.all_eq_true, List.mem_range] at h1 h2 h3 h4
  refine ⟨fun i f j hf hj => ?_, fun i f hf => ?_, fun i f hf j hj k hk hne hd => ?_, fun j f hf hl k hk => ?_⟩
  · have hi := (List.getElem?_eq_some_iff.1 hf).1
    have := h1 i (by omega)
    simp only [List.getD_eq_getElem?_getD, List.getElem?_map, hf, Option.map_some, Option.getD_some, hj, Bool.and_eq_true, decide_eq_true_eq] at this
    exact ⟨this.1.1, this.1.2, fun h => by have h' := this.2; rw [h] at h'; simpa using h'⟩
  · have hi := (List.getElem?_eq_some_iff.1 hf).1
    have := h2 i (by omega)
    simp only [keyN, List.getD_eq_getElem?_getD, List.getElem?_map, hf, Option.map_some, Option.getD_some, Bool.and_eq_true] at this
    exact ⟨fun h => by have h' := this.1; rw [h] at h'; simpa using h', fun h => by have h' := this.2; rw [h] at h'; simpa using h'⟩
  · have hi := (List.getElem?_eq_some_iff.1 hf).1
    have := h3 i (by omega) j (by simpa [List.getD_eq_getElem?_getD, hf] using hj) k hk
    simp only [Bool.or_eq_true, beq_iff_eq, Bool.not_eq_true'] at this
    rcases this with (h | h) | h
    · exact absurd h hne
    · rw [hd] at h; cases h
    · exact h
  · have hj := (List.getElem?_eq_some_iff.1 hf).1
    have := h4 j (by omega)
    simp only [Bool.or_eq_true, Bool.not_eq_true', List.all_eq_true, List.mem_range] at this
    rcases this with h | h
    · simp [List.getD_eq_getElem?_getD, hf, hl] at h
    · exact h k hk

/-- **any order** -/
theorem any4 {bs : List Nat} {N0 : Nat} {fs : List (FactV bs N0)} {m : Nat} {cl : List Nat} (G : Good2 ops m cl (fs.map FactV.toW)) (GN : GoodN m cl ns fs) (hN0 : w0.heap.size ≤ N0) (hn : fs.length = m) (hmo : m ≤ ops.size) (all : List Nat) (hall' : ∀ (k : Nat) (f : FactV bs N0), fs[k]? = some f → ∀ x ∈ f.wr, x ∈ all)
    (H : RW4 P ops w0 ns (fun os a Φ N => ∀ w, KpL (sel bs all) w0 w → Φ w → N.Nodup → wpList P ops Q os a w) 0 ops.toList fs a0 (fun _ => undef) (fun _ _ => True) (fun _ => True) []) :
    ∀ (fuel : Nat) (U : List Nat) (listed : Array Bool) (vals : Nat → Value) (w : World) (W : List Nat), U.Nodup → U.length ≤ fuel → listed.size = ops.size → (∀ j, j < ops.size → (listed.getD j true = false ↔ j ∈ U)) →
      (∀ i, i < ops.size → i ∉ U → ∀ j, j < ops.size → Dp cl i j = true → j ∉ U) → (∀ k, m ≤ k → k < ops.size → k ∈ U) →
      KpL (sel bs W) w0 w → (∀ x ∈ W, ∃ k f, k < m ∧ k ∉ U ∧ fs[k]? = some f ∧ x ∈ f.wr) →
      (∀ j f, j < m → j ∉ U → fs[j]? = some f → (∀ k, k < m → k ∉ U → (killB cl (fs.map (·.wr)) (fs.map (·.safe)) k j = false ∧ killN cl (fs.map (·.own)) (fs.map (·.ino)) (fs.map (·.nb)) (fs.map (·.sn)) k j = false)) → f.S (ownV f.own vals) (vals j) w) → Apart ns m U vals w →
      wpAny P .any ops Q fuel listed (actL ops a0 vals (fun j => !decide (j ∈ U)) m) w := by
  have ew : (fs.map FactV.toW).map (·.wr) = fs.map (·.wr) := by simp [FactV.toW, Function.comp_def]
  have es : (fs.map FactV.toW).map (·.safe) = fs.map (·.safe) := by simp [FactV.toW, Function.comp_def]
  have Gd : ∀ i f, fs[i]? = some f → ∀ j ∈ f.deps, j < i ∧ Dp cl i j = true ∧ ∀ k, k < m → k ≠ i → Dp cl k i = false → killB cl (fs.map (·.wr)) (fs.map (·.safe)) k j = false := fun i f hf j hj => by
    have := G.dep i f.toW (by simp [hf]) j hj
    rwa [ew, es] at this
  have Gb : ∀ i f k g, fs[i]? = some f → fs[k]? = some g → k ≠ i → Dp cl k i = false → ∀ x ∈ g.wr, x ∈ f.bef := fun i f k g hf hg => G.bef i f.toW k g.toW (by simp [hf]) (by simp [hg])
  have Gl : ∀ j f, fs[j]? = some f → f.live = true → ∀ k, k < m → killB cl (fs.map (·.wr)) (fs.map (·.safe)) k j = false := fun j f hf hl => by
    have := G.live j f.toW (by simp [hf]) hl
    rwa [ew, es] at this
  have eOwn : ∀ (vals : Nat → Value) n f, fs[n]? = some f → ownV f.own (Vn vals n) = ownV f.own vals := fun vals n f hf => by
    cases ho : f.own with
    | none => rfl
    | some j => exact Vn_at vals n (GN.own n f j hf ho).1
  have lis : ∀ {U : List Nat} {listed : Array Bool}, listed.size = ops.size → (∀ j, j < ops.size → (listed.getD j true = false ↔ j ∈ U)) → ∀ j, j < ops.size → (listed.getD j false = true ↔ j ∉ U) := fun {U listed} hsz hU j hj => by
    have h1 := hU j hj
    have h2 : ∀ l : Array Bool, l.size = ops.size → l.getD j false = l.getD j true := fun l hl => by simp [Array.getD_eq_getD_getElem?, hl ▸ hj]
    rw [h2 _ hsz]
    cases hb : listed.getD j true <;> simp_all
  -- what is left when the first m have come up
  have fin : ∀ (U : List Nat) (listed : Array Bool) (vals : Nat → Value) (w : World) (W : List Nat) (fuel : Nat), U.Nodup → U.length ≤ fuel → listed.size = ops.size → (∀ j, j < ops.size → (listed.getD j true = false ↔ j ∈ U)) →
      (∀ k, m ≤ k → k < ops.size → k ∈ U) → (∀ i, i < m → i ∉ U) → KpL (sel bs W) w0 w → (∀ x ∈ W, ∃ k f, k < m ∧ k ∉ U ∧ fs[k]? = some f ∧ x ∈ f.wr) →
      (∀ j f, j < m → j ∉ U → fs[j]? = some f → (∀ k, k < m → k ∉ U → (killB cl (fs.map (·.wr)) (fs.map (·.safe)) k j = false ∧ killN cl (fs.map (·.own)) (fs.map (·.ino)) (fs.map (·.nb)) (fs.map (·.sn)) k j = false)) → f.S (ownV f.own vals) (vals j) w) → Apart ns m U vals w →
      wpAny P .any ops Q fuel listed (actL ops a0 vals (fun j => !decide (j ∈ U)) m) w := by
    intro U listed vals w W fuel hnd hlen hsz hU htl hall hx hW hS hK
    have hR := RW4_at H (by omega) vals m (by omega)
    rw [List.drop_eq_nil_of_le (show fs.length ≤ m by omega)] at hR
    have hfin : ∀ w, KpL (sel bs all) w0 w → phi4 fs vals m w → (newN ns vals m).Nodup → wpList P ops Q (ops.toList.drop m) (actN ops a0 vals m) w := by
      cases hd : ops.toList.drop m <;> rw [hd] at hR <;> exact hR
    have hphi : ∀ n, n ≤ m → phi4 fs vals n w := by
      intro n; induction n with
      | zero => intro _; trivial
      | succ n ihn =>
        intro hnn; refine ⟨ihn (by omega), ?_⟩
        rw [List.getElem?_eq_getElem (show n < fs.length by omega)]
        have hfn : fs[n]? = some (fs[n]'(by omega)) := List.getElem?_eq_getElem _
        simp only [Option.map_some, Option.getD_some, eOwn vals n _ hfn]
        exact fun hl => hS n _ (by omega) (hall n (by omega)) hfn fun k hk _ => ⟨Gl n _ hfn hl k hk, GN.live n _ hfn hl k hk⟩
    have hact : ∀ n, n ≤ m → actL ops a0 vals (fun j => !decide (j ∈ U)) n = actN ops a0 vals n := by
      intro n; induction n with
      | zero => intro _; rfl
      | succ n ihn => intro hn; rw [actL_succ, ihn (by omega)]; simp [actN, hall n (by omega)]
    rw [hact _ (Nat.le_refl _)]
    have hlenU : ops.size - m ≤ U.length := by
      have hsub : (List.range' m (ops.size - m)).length ≤ U.length := List.Nodup.length_le_of_subset (List.nodup_range' (step := 1)) fun k hk => by
        rw [List.mem_range'_1] at hk; exact htl k hk.1 (by omega)
      simpa using hsub
    refine tail2 G (ops.size - m) m listed _ w (by omega) (Nat.le_refl _) hsz (fun j hj => ?_) (hfin w (hx.mono (sel_sub fun x hxW => ?_)) (hphi m (Nat.le_refl _)) (hK.nodup hall m (Nat.le_refl _))) fuel (by omega)
    · by_cases hjm : j < m
      · have : ¬ listed.getD j true = false := fun h => hall j hjm ((hU j hj).1 h)
        simp only [Bool.not_eq_false] at this
        rw [this]; simp [hjm]
      · rw [(hU j hj).2 (htl j (by omega) hj)]; simp [hjm]
    · obtain ⟨k, f, _, _, hf, hm⟩ := hW x hxW
      exact hall' k f hf x hm
  intro fuel
  induction fuel with
  | zero =>
    intro U listed vals w W hnd hlen hsz hU hcl htl hx hW hS hK
    have hU0 : U = [] := List.length_eq_zero_iff.1 (by omega)
    subst hU0
    exact fin [] listed vals w W 0 hnd hlen hsz hU htl (by simp) hx hW hS hK
  | succ fuel ih =>
    intro U listed vals w W hnd hlen hsz hU hcl htl hx hW hS hK
    by_cases hall : ∀ i, i < m → i ∉ U
    · exact fin U listed vals w W (fuel + 1) hnd hlen hsz hU htl hall hx hW hS hK
    · have hex : ∃ i, i < m ∧ i ∈ U := Classical.byContradiction fun h => hall fun i hi hu => h ⟨i, hi, hu⟩
      have least : ∃ i, i < m ∧ i ∈ U ∧ ∀ j, j < i → j ∉ U := by
        obtain ⟨i, hi, hu⟩ := hex
        induction i using Nat.strongRecOn with
        | _ i ihh =>
          by_cases h : ∃ j, j < i ∧ j ∈ U
          · obtain ⟨j, hj, hju⟩ := h; exact ihh j hj (by omega) hju
          · exact ⟨i, hi, hu, fun j hj hju => h ⟨j, hj, hju⟩⟩
      obtain ⟨i0, hi0, hu0, hl0⟩ := least
      have hi0' : i0 < ops.size := by omega
      have hr0 : i0 ∈ Region.ready .any ops listed := by
        refine mem_ready.2 ⟨(hU i0 hi0').2 hu0, ops[i0], Array.getElem?_eq_some_iff.2 ⟨hi0', rfl⟩, fun e he hb => ?_⟩
        have hk := G.back i0 _ (Array.getElem?_eq_some_iff.2 ⟨hi0', rfl⟩) e he hb
        exact (lis hsz hU e.on (by omega)).2 (hl0 _ hk)
      refine ⟨fun h0 => (by rw [h0] at hr0; cases hr0), fun i hir => ?_⟩
      obtain ⟨hun, o, ho, hlisted⟩ := mem_ready.1 hir
      have hisz := (Array.getElem?_eq_some_iff.1 ho).1
      have hiU := (hU i hisz).1 hun
      -- what it waits for has come up
      have hdone : ∀ j, Dp cl i j = true → j < ops.size → j ∉ U := fun j hd hj => by
        obtain ⟨e, he, hb, h⟩ := G.clo i o ho j hd
        have hel := hlisted e he hb
        have hei := G.back i o ho e he hb
        have heU := (lis hsz hU e.on (by omega)).1 hel
        rcases h with rfl | h
        · exact heU
        · exact hcl e.on (by omega) heU j hj h
      have hnot : ∀ k, k < ops.size → k ∉ U → Dp cl k i = false := fun k hk hkU => by
        cases hd : Dp cl k i with
        | false => rfl
        | true => exact absurd hiU (hcl k hk hkU i hisz hd)
      have him : i < m := by
        rcases Nat.lt_or_ge i m with h | h
        · exact h
        · exact absurd hu0 (hdone i0 (G.tail i hisz h i0 (by omega)) hi0')
      obtain ⟨f, hf⟩ : ∃ f, fs[i]? = some f := ⟨_, List.getElem?_eq_getElem (by omega)⟩
      have hR := RW4_at H (by omega) vals i (by omega)
      have hol : i < ops.toList.length := by simp; omega
      rw [List.drop_eq_getElem_cons hol, List.drop_eq_getElem_cons (show i < fs.length by omega)] at hR
      have e1 : ops.toList[i]'hol = o := by
        have := (Array.getElem?_eq_some_iff.1 ho).2
        simpa using this
      have e2 : fs[i]'(by omega) = f := (List.getElem?_eq_some_iff.1 hf).2
      rw [e1, e2] at hR
      have hbef : KpL (sel bs f.bef) w0 w := hx.mono (sel_sub fun x hxW => by
        obtain ⟨k, g, hk, hkU, hg, hm⟩ := hW x hxW
        exact Gb i f k g hf hg (fun e => hkU (e ▸ hiU)) (hnot k (by omega) hkU) x hm)
      have hfacts : facts (env4 fs vals i) w f.deps := facts_of fun j hj => by
        obtain ⟨hji, hjd, hjk⟩ := Gd i f hf j hj
        have hjn := GN.dep i f hf j hj
        have hgj : fs[j]? = some (fs[j]'(by omega)) := List.getElem?_eq_getElem _
        rw [env4_at hgj i hji, eOwn vals j _ hgj]
        exact hS j _ (by omega) (hdone j hjd (by omega)) hgj fun k hk hkU => ⟨hjk k hk (fun e => hkU (e ▸ hiU)) (hnot k (by omega) hkU), hjn k hk (fun e => hkU (e ▸ hiU)) (hnot k (by omega) hkU)⟩
      have h1 := hR.1 w hbef hfacts
      rw [eOwn vals i f hf] at h1
      have slots : ∀ t ∈ o.looksAt ops, (actL ops a0 vals (fun j => !decide (j ∈ U)) m).tmps[t]? = (actN ops a0 vals i).tmps[t]? := fun t ht => by
        have := slot_lex2 (ops := ops) (a0 := a0) vals (fun j => !decide (j ∈ U)) i t m fun j hj hd => by
          rcases G.look i o him ho t ht j hj hd with rfl | ⟨h1, h2⟩ | ⟨h1, h2⟩
          · exact .inr ⟨Nat.le_refl _, by simp [hiU]⟩
          · exact .inl ⟨h1, by simp [hdone j h2 (by omega)]⟩
          · refine .inr ⟨Nat.le_of_lt h1, ?_⟩
            have : j ∈ U := Classical.byContradiction fun h => by
              have := hnot j (by omega) h
              rw [h2] at this; cases this
            simp [this]
        rw [this, Nat.min_eq_right (by omega)]
      have hex' := execOp_of_slots (ops := ops) (o := o) (fun cs b => Region.noSelect_spec G.sel i o cs b ho) slots
      have hwa := wanted_of_slots (ops := ops) (o := o) slots
      have step : ∀ v w', f.S (ownV f.own vals) v w' → Wrote bs N0 f.wr f.ino (ownV f.own vals) w w' → (ns.contains i = true → NewB w v w') →
          wpAny P .any ops Q fuel (listed.setIfInBounds i true) ((actL ops a0 vals (fun j => !decide (j ∈ U)) m).put o.dst v) w' := fun v w' hv ⟨L, hx', hL⟩ hnw => by
        have h1 := ih (U.erase i) (listed.setIfInBounds i true) (fun j => if j = i then v else vals j) w' (W ++ f.wr) (hnd.erase i) (by rw [List.length_erase_of_mem hiU]; omega) (by simp [hsz]) (fun j hj => by
          rw [hnd.mem_erase_iff]
          by_cases hji : i = j
          · subst hji; simp [hsz, hj]
          · rw [getD_set_ne true hji, hU j hj]; simp [Ne.symm hji]) (fun k hk hkU j hj hd => by
          rw [hnd.mem_erase_iff] at hkU ⊢
          rintro ⟨hji, hjU⟩
          by_cases hki : k = i
          · subst hki; exact hdone j hd hj hjU
          · exact hcl k hk (fun h => hkU ⟨hki, h⟩) j hj hd hjU) (fun k hk hk' => by
          rw [hnd.mem_erase_iff]; exact ⟨by omega, htl k hk hk'⟩) ((hx.mono (sel_sub fun x hx => List.mem_append_left _ hx)).more hx' fun b hb => (hL b hb).elim (fun h => .inl (sel_sub (fun x hx => List.mem_append_right _ hx) b h)) (fun h => .inr (Nat.le_trans hN0 h.2.2))) (fun x hx => by
          rcases List.mem_append.1 hx with hx | hx
          · obtain ⟨k, g, hk, hkU, hg, hm⟩ := hW x hx
            exact ⟨k, g, hk, fun h => hkU (hnd.mem_erase_iff.1 h).2, hg, hm⟩
          · exact ⟨i, f, him, fun h => (hnd.mem_erase_iff.1 h).1 rfl, hf, hx⟩) (fun j g hj hjU hg hkill => by
          have hown : ownV g.own (fun j => if j = i then v else vals j) = ownV g.own vals := by
            cases hgo : g.own with
            | none => rfl
            | some p =>
              have hp := GN.own j g p hg hgo
              have hpU : p ∉ U := by
                by_cases hji : j = i
                · subst hji; exact hdone p hp.2.1 (by omega)
                · exact hcl j (by omega) (fun h => hjU (hnd.mem_erase_iff.2 ⟨hji, h⟩)) p (by omega) hp.2.1
              have : p ≠ i := fun e => hpU (e ▸ hiU)
              simp [ownV, this]
          by_cases hji : j = i
          · subst hji; rw [hf] at hg; cases hg; rw [hown]; simpa using hv
          · have hjU' : j ∉ U := fun h => hjU (hnd.mem_erase_iff.2 ⟨hji, h⟩)
            rw [hown]
            simp only [if_neg hji]
            obtain ⟨hk1, hk2⟩ := hkill i him (fun h => (hnd.mem_erase_iff.1 h).1 rfl)
            have hdji : Dp cl j i = false := by
              cases hq : Dp cl j i with
              | false => rfl
              | true => exact absurd hiU (hcl j (by omega) hjU' i hisz hq)
            have hsafe : ∀ x ∈ f.wr, x ∈ g.safe := by
              simp only [killB, Bool.and_eq_false_iff, bne_eq_false_iff_eq, Bool.not_eq_false'] at hk1
              rcases hk1 with (h | h) | h
              · exact absurd h.symm hji
              · rw [hdji] at h; cases h
              · have := sub_spec h
                simpa [List.getD_eq_getElem?_getD, hf, hg] using this
            refine g.st _ _ _ _ L hx' (fun b hb => ?_) (hS j g hj hjU' hg fun k hk hkU => hkill k hk fun h => hkU (hnd.mem_erase_iff.1 h).2)
            rcases hL b hb with h | ⟨hos, hob, hNb⟩
            · exact .inl (sel_sub hsafe b h)
            · obtain ⟨q, hq⟩ := Option.isSome_iff_exists.1 ((GN.nb i f hf).1 hos)
              have hqo := GN.own i f q hf hq
              have hqn := hqo.2.2 hos
              have hqU := hdone q hqo.2.1 (by omega)
              rw [hq] at hob
              have hk3 : g.sn = true ∧ (g.nb = true → (if g.ino then g.own.getD j else j) ≠ q) := by
                have e1 : (fs.map (·.own)).getD i none = some q := by simp [List.getD_eq_getElem?_getD, hf, hq]
                have e2 : (fs.map (·.own)).getD j none = g.own := by simp [List.getD_eq_getElem?_getD, hg]
                have e3 : (fs.map (·.nb)).getD j false = g.nb := by simp [List.getD_eq_getElem?_getD, hg]
                have e4 : (fs.map (·.sn)).getD j false = g.sn := by simp [List.getD_eq_getElem?_getD, hg]
                have e5 : (fs.map (·.ino)).getD i false = true := by simp [List.getD_eq_getElem?_getD, hf, hos]
                have e6 : (fs.map (·.ino)).getD j false = g.ino := by simp [List.getD_eq_getElem?_getD, hg]
                unfold killN at hk2
                rw [e1] at hk2
                simp only [keyN, e2, e3, e4, e5, e6, hdji, Bool.not_false, Bool.and_true, Bool.true_and, Bool.and_eq_false_iff, bne_eq_false_iff_eq, Bool.or_eq_false_iff, Bool.not_eq_false'] at hk2
                rcases hk2 with h | ⟨h, h'⟩
                · exact absurd h.symm hji
                · refine ⟨h, fun hnb he => ?_⟩
                  rcases h' with h' | h'
                  · rw [hnb] at h'; cases h'
                  · rw [he] at h'; simp at h'
              refine .inr ⟨hk3.1, hNb, fun hnb => ?_⟩
              have hgI := GN.nb j g hg
              have hkey : (if g.ino then ownV g.own vals else vals j) = vals (if g.ino then g.own.getD j else j) := by
                cases hgi : g.ino with
                | false => rfl
                | true => cases hgo : g.own with
                  | none => have := hgI.1 hgi; rw [hgo] at this; cases this
                  | some p => rfl
              have hkn := hgI.2 hnb
              have hkU : (if g.ino then g.own.getD j else j) ∉ U ∧ (if g.ino then g.own.getD j else j) < m := by
                cases hgi : g.ino with
                | false => exact ⟨hjU', hj⟩
                | true => cases hgo : g.own with
                  | none => exact ⟨hjU', hj⟩
                  | some p =>
                    have hp := GN.own j g p hg hgo
                    exact ⟨hcl j (by omega) hjU' p (by omega) hp.2.1, by show p < m; omega⟩
              rw [hkey]
              have hne := hK.2 _ q hkU.2 (by omega) hkU.1 hqU hkn hqn (hk3.2 hnb)
              obtain ⟨b1, hb1, _⟩ := hK.1 _ hkU.2 hkU.1 hkn
              obtain ⟨b2, hb2, _⟩ := hK.1 q (by omega) hqU hqn
              have hob' : pblk (vals q) = some b := hob
              rw [hb2] at hob'
              simp only [pblk, Option.some.injEq] at hob'
              rw [hb1]
              simp only [pblk, ne_eq, Option.some.injEq]
              intro he
              apply hne
              rw [hb1, hb2, he, hob']) (hK.step' hnd hiU hx'.size hnw)
        have hd : o.dst = dstOf ops i := by simp [dstOf, ho]
        have h2 := actL_set (ops := ops) (a0 := a0) vals (fun j => !decide (j ∈ U)) i v (by simp [hiU]) m (fun j hj hne d hd => G.dst i him j hj hne d hd) m (Nat.le_refl _)
        rw [if_pos him, ← hd] at h2
        have h3 : (fun j => if j = i then true else !decide (j ∈ U)) = (fun j => !decide (j ∈ U.erase i)) := by
          funext j
          by_cases hji : j = i
          · subst hji; simp [hnd.mem_erase_iff]
          · simp [hji, hnd.mem_erase_iff]
        rw [h3] at h2
        rw [← h2]; exact h1
      unfold wpOp
      rw [ho]
      by_cases hw : Region.wanted o (yielded ops (actL ops a0 vals (fun j => !decide (j ∈ U)) m).tmps) = true
      · simp only [hw, if_true]
        exact .inl ((does_congr hex'.symm (h1.1 (hwa ▸ hw))).wp fun v w' ⟨hv, hx', hnw⟩ => step v w' hv hx' hnw)
      · simp only [Bool.not_eq_true] at hw
        simp only [hw, Bool.false_eq_true, if_false]
        obtain ⟨hv, hx', hnw⟩ := h1.2 (hwa ▸ hw)
        exact step undef w hv hx' hnw

/-- **A region that draws its order**, with stores into known blocks and into blocks of its own. -/
theorem region_any4 {id : Nat} {l : List Oper} {a : Act} {w : World} (bs ns cl all : List Nat) (fs : List (FactV bs w.heap.size)) (hm : P.follows .mixedOrders = true)
    (hchk : (chk2 l.toArray fs.length cl (fs.map (·.deps)) (fs.map (·.bef)) (fs.map (·.wr)) (fs.map (·.safe)) (fs.map (·.live)) && chkN fs.length cl ns (fs.map (·.deps)) (fs.map (·.own)) (fs.map (·.ino)) (fs.map (·.nb)) (fs.map (·.sn)) (fs.map (·.live)) && decide (fs.length ≤ l.length) && fs.all fun f => sub f.wr all) = true)
    (H : RW4 P l.toArray w.drew ns (fun os a Φ N => ∀ w', KpL (sel bs all) w.drew w' → Φ w' → N.Nodup → wpList P l.toArray Q os a w') 0 l fs a (fun _ => undef) (fun _ _ => True) (fun _ => True) []) : (Code.region id l.toArray true).wp P Q a w := by
  simp only [Bool.and_eq_true, decide_eq_true_eq] at hchk
  have hle : fs.length ≤ l.toArray.size := by simpa using hchk.1.2
  have e1 : (fs.map FactV.toW).map (·.deps) = fs.map (·.deps) := by simp [FactV.toW, Function.comp_def]
  have e2 : (fs.map FactV.toW).map (·.bef) = fs.map (·.bef) := by simp [FactV.toW, Function.comp_def]
  have e3 : (fs.map FactV.toW).map (·.wr) = fs.map (·.wr) := by simp [FactV.toW, Function.comp_def]
  have e4 : (fs.map FactV.toW).map (·.safe) = fs.map (·.safe) := by simp [FactV.toW, Function.comp_def]
  have e5 : (fs.map FactV.toW).map (·.live) = fs.map (·.live) := by simp [FactV.toW, Function.comp_def]
  have G : Good2 l.toArray fs.length cl (fs.map FactV.toW) := chk2_good (by simp) (by rw [e1, e2, e3, e4, e5]; exact hchk.1.1.1)
  have GN := chkN_good (ns := ns) rfl hchk.1.1.2
  refine wp_region_any hm ?_
  have h := any4 (Q := Q) (ns := ns) (w0 := w.drew) (a0 := a) G GN (Nat.le_refl _) rfl hle all (fun k f hf => sub_spec (List.all_eq_true.1 hchk.2 f (List.mem_of_getElem? hf))) (by simpa using H) l.toArray.size (List.range l.toArray.size) (Array.replicate l.toArray.size false) (fun _ => undef) w.drew []
    List.nodup_range (by simp) (by simp) (fun j hj => by simp at hj; simp [hj]) (fun i hi hiU => absurd (List.mem_range.2 hi) hiU) (fun k _ hk => by simpa using hk) (KpL.refl _ _) (fun x hx => by cases hx) (fun i f him hiU _ => absurd (List.mem_range.2 (by omega)) hiU) ⟨fun i hi hiU => absurd (List.mem_range.2 (by omega)) hiU, fun i j hi hj hiU => absurd (List.mem_range.2 (by omega)) hiU⟩
  have ha : ∀ n, n ≤ l.toArray.size → actL l.toArray a (fun _ => undef) (fun j => !decide (j ∈ List.range l.toArray.size)) n = a := by
    intro n; induction n with
    | zero => intro _; rfl
    | succ n ih => intro hn; rw [actL_succ, ih (by omega)]; simp at hn ⊢; omega
  rw [ha _ hle] at h
  exact h
end
end Go.Proofs.Ytlfpeihlfmdmdaa
