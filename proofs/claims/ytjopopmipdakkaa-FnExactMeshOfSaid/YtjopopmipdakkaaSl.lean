/- Slices that are read: element by element, each what a relation tells. -/
import Derived.Test.YtjopopmipdakkaaReg
import Derived.Laws.MakeOwn
namespace Go.Proofs.Ytjopopmipdakkaa
open Go Go.RowKit
abbrev Rel (α : Type) := World → α → List Value → Prop
def Mono {α : Type} (R : Rel α) : Prop := ∀ w w' x cs, Ext w w' → R w x cs → R w' x cs
def Sl {α : Type} (R : Rel α) (k : Nat) (w : World) (v : Value) (xs : List α) : Prop :=
  xs.length ≤ 9223372036854775807 ∧ ∃ p c, v = .slice p xs.length c ∧ ∀ i x, xs[i]? = some x → ∃ b off cs, p = some ⟨b, off, none⟩ ∧ Cells w b (off + i * k) cs ∧ R w x cs ∧ cs.length = k ∧ 0 < k ∧ i < c
def RF : Rel Nat := fun _ x cs => ∃ r, cs = [.float .f32 r] ∧ cf .f32 r = x
def RI : Rel Int := fun _ n cs => cs = [.int .i64 n]
def RS {α : Type} (R : Rel α) (k : Nat) : Rel (List α) := fun w xs cs => ∃ v, cs = [v] ∧ Sl R k w v xs
theorem RF.mono : Mono RF := fun _ _ _ _ _ h => h
theorem RI.mono : Mono RI := fun _ _ _ _ _ h => h
theorem Sl.ext {α : Type} {R : Rel α} {k : Nat} {w w' : World} {v : Value} {xs : List α} (h : Sl R k w v xs) (hR : Mono R) (hx : Ext w w') : Sl R k w' v xs := by
  obtain ⟨hl, p, c, rfl, h⟩ := h
  refine ⟨hl, p, c, rfl, fun i x hi => ?_⟩
  obtain ⟨b, off, cs, rfl, hc, hr, hk⟩ := h i x hi
  exact ⟨b, off, cs, rfl, hc.ext hx, hR _ _ _ _ hx hr, hk⟩
theorem RS.mono {α : Type} {R : Rel α} {k : Nat} (hR : Mono R) : Mono (RS R k) := fun _ _ _ _ hx ⟨v, hv, hs⟩ => ⟨v, hv, hs.ext hR hx⟩
theorem Sl.len {α : Type} {R : Rel α} {k : Nat} {w : World} {v : Value} {xs : List α} (h : Sl R k w v xs) : xs.length ≤ 9223372036854775807 := h.1
theorem Sl.shape {α : Type} {R : Rel α} {k : Nat} {w : World} {v : Value} {xs : List α} (h : Sl R k w v xs) : ∃ p c, v = .slice p xs.length c := ⟨_, _, h.2.choose_spec.choose_spec.1⟩
theorem Sl.get {α : Type} {R : Rel α} {k : Nat} {w : World} {p : Option Addr} {n c : Nat} {xs : List α} (h : Sl R k w (.slice p n c) xs) (i : Nat) (x : α) (hi : xs[i]? = some x) :
    ∃ b off cs, p = some ⟨b, off, none⟩ ∧ Cells w b (off + i * k) cs ∧ R w x cs ∧ cs.length = k := by
  obtain ⟨_, p', c', he, h⟩ := h
  cases he
  obtain ⟨b, off, cs, hp, hc, hr, hk, _⟩ := h i x hi
  exact ⟨b, off, cs, hp, hc, hr, hk⟩
theorem Sl_nil {α : Type} (R : Rel α) (k : Nat) (w : World) : Sl R k w (.slice none 0 0) [] := ⟨by simp, none, 0, rfl, fun i x hi => by simp at hi⟩
def PtrR {α : Type} (R : Rel α) (w : World) (v : Value) (x : α) : Prop := ∃ b off cs, v = .pointer (some ⟨b, off, none⟩) ∧ Cells w b off cs ∧ R w x cs
theorem PtrR.ext {α : Type} {R : Rel α} {w w' : World} {v : Value} {x : α} (h : PtrR R w v x) (hR : Mono R) (hx : Ext w w') : PtrR R w' v x :=
  let ⟨b, off, cs, hv, hc, hr⟩ := h
  ⟨b, off, cs, hv, hc.ext hx, hR _ _ _ _ hx hr⟩
section
variable {P : Program} {a : Act} {w : World} {dst : Option Tmp} {ty : TypeId} {pos : String} {af : Array Edge} {g : Option (Nat × Bool)}
theorem does_indexSl {α : Type} {R : Rel α} {k t : Nat} {x y : Operand} {p : Option Addr} {n c : Nat} {xs : List α} {i : Int} {e : α} (ht : P.underlying t = some (.slice (P.elem t))) (hS : ∀ w, (sizeOf (P.elem t)).run P w = .ok k w)
    (hx : a.eval x = .slice p n c) (hy : a.eval y = .int .i64 i) (h : Sl R k w (.slice p n c) xs) (h0 : 0 ≤ i) (he : xs[i.toNat]? = some e) :
    does P ⟨dst, .indexAddr t x y, ty, pos, af, g⟩ a w (fun v w' => ∃ b off cs, v = .pointer (some ⟨b, off, none⟩) ∧ Cells w b off cs ∧ R w e cs ∧ w' = w) := by
  have hl : xs.length = n := by obtain ⟨_, p', c', h1, _⟩ := h; cases h1; rfl
  have hlt : i.toNat < xs.length := (List.getElem?_eq_some_iff.1 he).1
  obtain ⟨b, off, cs, rfl, hc, hr, hk⟩ := h.get i.toNat e he
  refine (does_run (u := .pointer (some ⟨b, off + i.toNat * k, none⟩)) (w' := w) ?_).mono fun v w' ⟨h1, h2⟩ => ⟨b, _, cs, h1, hc, hr, h2⟩
  have hb : 0 ≤ i ∧ i < (n : Int) := ⟨h0, by omega⟩
  have hr2 := run_indexAt_slice (P := P) w t ⟨b, off, none⟩ n c .i64 i ht
  rw [if_pos hb] at hr2
  have ha : (⟨b, off, none⟩ : Addr).add (i.toNat * k) = ⟨b, off + i.toNat * k, none⟩ := Addr.add_lit b off _
  simp only [hS, Result.andThen_ok, ha] at hr2
  simp only [execOp, hx, hy, Sem.run_bind, hr2, Result.andThen_ok, Sem.run_pure]
theorem does_makeFunc {fn : Fn} {fs cs : Array Operand} {us vs : List Value} {u : Value} (hf : fs.toList.map a.eval = us) (hc : cs.toList.map a.eval = vs) (hu : u = .func fn us.toArray vs.toArray) :
    does P ⟨dst, .makeFunc fn fs cs, ty, pos, af, g⟩ a w (Is u w) := does_run (by
  have h1 : fs.map a.eval = us.toArray := by rw [← Array.toList_inj, Array.toList_map, hf]
  have h2 : cs.map a.eval = vs.toArray := by rw [← Array.toList_inj, Array.toList_map, hc]
  simp [execOp, Instr.makeFunc, h1, h2, hu])
theorem does_index_run {t : TypeId} {x y : Operand} {u v r : Value} (hx : a.eval x = u) (hy : a.eval y = v) (h : ∀ w, (Instr.index t u v).run P w = .ok r w) : does P ⟨dst, .index t x y, ty, pos, af, g⟩ a w (Is r w) :=
  does_run (by simp only [execOp, hx, hy, Sem.run_bind, h, Result.andThen_ok, Sem.run_pure])
theorem does_indexAt_run {t : TypeId} {x y : Operand} {u v r : Value} (hx : a.eval x = u) (hy : a.eval y = v) (h : ∀ w, (Instr.indexAt t u v).run P w = .ok r w) : does P ⟨dst, .indexAddr t x y, ty, pos, af, g⟩ a w (Is r w) :=
  does_run (by simp only [execOp, hx, hy, Sem.run_bind, h, Result.andThen_ok, Sem.run_pure])
theorem does_callf {f : FuncId} {x : Operand} {xs : Array Operand} {ats : Array TypeId} {fst cap args : Array Value} {R : Value → World → Prop} (hv : a.eval x = .func (.func f) fst cap)
    (hf : ∀ args w, (callFunc f args).run P w = .ok (.enter f args) w) (hx : xs.toList.map a.eval = args.toList)
    (h : Gives P f (fst ++ args ++ cap) w R) : does P ⟨dst, .call ⟨.value x, xs, ats⟩, ty, pos, af, g⟩ a w (fun v w' => Ext w w' ∧ R v w') :=
  does_callv hv hf hx (by simp) h
end
def Un (P : Program) (c : Code) (Q : Exit → Act → World → Prop) : Nat → Act → World → Prop
  | 0, _, _ => False
  | n + 1, a, w => c.wp P (Exit.then (Un P c Q n) Q) a w
theorem un_step {P : Program} {c : Code} {Q : Exit → Act → World → Prop} {n : Nat} {a : Act} {w : World} (h : c.wp P (Exit.then (Un P c Q n) Q) a w) : Un P c Q (n + 1) a w := h
theorem loop_unroll {P : Program} {c : Code} {Q : Exit → Act → World → Prop} {a : Act} {w : World} (n : Nat) (h : Un P c Q n a w) : (Code.loop c).wp P Q a w :=
  loop_ghost (fun s a w => Un P c Q s a w) id n h fun s a w hI => by
    cases s with
    | zero => exact hI.elim
    | succ s => exact Code.wp_mono (fun e a w h => by
        cases e with
        | normal => exact ⟨s, h, Nat.lt_succ_self s⟩
        | _ => exact h) hI
structure Kp (b : Nat) (w w' : World) : Prop where
  os : w'.os = w.os
  tape : w'.tape = w.tape
  output : w'.output = w.output
  size : w.heap.size ≤ w'.heap.size
  other : ∀ k, k < w.heap.size → k ≠ b → w'.heap[k]? = w.heap[k]?
def Fill {α : Type} (R : Rel α) (k : Nat) (w : World) (b n : Nat) (xs : List α) (j : Nat) : Prop :=
  ∃ cs, Blk w b cs ∧ cs.length = n * k ∧ ∀ i x, i < j → xs[i]? = some x → R w x ((cs.drop (i * k)).take k)
theorem Fill.zero {α : Type} {R : Rel α} {k : Nat} {w : World} {b n : Nat} {xs : List α} {cs : List Value} (hb : Blk w b cs) (hl : cs.length = n * k) : Fill R k w b n xs 0 := ⟨cs, hb, hl, fun _ _ hi => by omega⟩
theorem Fill.sl {α : Type} {R : Rel α} {k : Nat} {w : World} {b n : Nat} {xs : List α} {j : Nat} (h : Fill R k w b n xs j) (hj : n ≤ j) (hn : xs.length = n) (hm : n ≤ 9223372036854775807) (hk : 0 < k) : Sl R k w (.slice (some ⟨b, 0, none⟩) n n) xs := by
  subst hn
  obtain ⟨cs, hb, hl, h⟩ := h
  refine ⟨hm, _, _, rfl, fun i x hi => ?_⟩
  have hlt := (List.getElem?_eq_some_iff.1 hi).1
  have hlen : ((cs.drop (i * k)).take k).length = k := by
    have h1 : i * k + k ≤ cs.length := by
      rw [hl]; calc i * k + k = (i + 1) * k := by rw [Nat.add_mul, Nat.one_mul]
        _ ≤ xs.length * k := Nat.mul_le_mul_right _ hlt
    simp; omega
  exact ⟨b, 0, _, rfl, hb.cells.sub (i * k) k, h i x (by omega) hi, hlen, hk, hlt⟩
section
variable {P : Program} {a : Act} {w : World} {dst : Option Tmp} {ty : TypeId} {pos : String} {af : Array Edge} {g : Option (Nat × Bool)}
theorem does_fill {α : Type} {R : Rel α} {k t : Nat} {x y : Operand} {b n j : Nat} {xs : List α} {u : Value} {e : α} (hx : a.eval x = .pointer (some ⟨b, j * k, none⟩)) (hy : a.eval y = u)
    (hS : ∀ w, (sizeOf t).run P w = .ok k w) (hn : u.cells.size = k) (h1 : u.cells.toList.all (fun v => v.oneCell') = true) (hf : Fill R k w b n xs j) (hj : j < n) (he : xs[j]? = some e)
    (hR : ∀ w', R w' e u.cells.toList) (hW : ∀ w w' x cs, R w x cs → R w' x cs) : does P ⟨dst, .store t x y, ty, pos, af, g⟩ a w (fun v w' => v = undef ∧ Wr b w w' ∧ Fill R k w' b n xs (j + 1)) := by
  obtain ⟨cs, hb, hl, hc⟩ := hf
  have hjk : j * k + k ≤ cs.length := by
    rw [hl]; calc j * k + k = (j + 1) * k := by rw [Nat.add_mul, Nat.one_mul]
      _ ≤ n * k := Nat.mul_le_mul_right _ hj
  have hul : u.cells.toList.length = k := by simpa using hn
  refine (does_store hx hy hS hn hb hjk h1).mono fun v w' ⟨hv, hw, hb'⟩ => ⟨hv, hw, _, hb', ?_, fun i x hi hx' => ?_⟩
  · simp only [splice, List.length_append, List.length_take, List.length_drop, hul]; omega
  · rcases Nat.lt_or_ge i j with h | h
    · have hik : i * k + k ≤ j * k := by
        calc i * k + k = (i + 1) * k := by rw [Nat.add_mul, Nat.one_mul]
          _ ≤ j * k := Nat.mul_le_mul_right _ h
      have : ((splice cs (j * k) u.cells.toList).drop (i * k)).take k = (cs.drop (i * k)).take k := by
        simp only [splice, List.append_assoc]
        rw [List.drop_append_of_le_length (by simp; omega), List.take_append_of_le_length (by simp; omega), List.drop_take, List.take_take]
        congr 1; omega
      rw [this]; exact hW _ _ _ _ (hc i x h hx')
    · obtain rfl : i = j := by omega
      rw [he] at hx'; cases hx'
      have : ((splice cs (i * k) u.cells.toList).drop (i * k)).take k = u.cells.toList := by
        simp only [splice, List.append_assoc]
        rw [List.drop_append, List.drop_of_length_le (by simp; omega)]
        have : i * k - (cs.take (i * k)).length = 0 := by simp; omega
        rw [this, List.drop_zero, List.nil_append, List.take_append_of_le_length (by omega), List.take_of_length_le (by omega)]
      rw [this]; exact hR w'
theorem does_indexOwn {t k : Nat} {x y : Operand} {b n c : Nat} {i : Int} (ht : P.underlying t = some (.slice (P.elem t))) (hS : ∀ w, (sizeOf (P.elem t)).run P w = .ok k w)
    (hx : a.eval x = .slice (some ⟨b, 0, none⟩) n c) (hy : a.eval y = .int .i64 i) (h0 : 0 ≤ i) (h1 : i < n) : does P ⟨dst, .indexAddr t x y, ty, pos, af, g⟩ a w (Is (.pointer (some ⟨b, i.toNat * k, none⟩)) w) := does_run (by
  have hr2 := run_indexAt_slice (P := P) w t ⟨b, 0, none⟩ n c .i64 i ht
  rw [if_pos ⟨h0, h1⟩] at hr2
  have ha : (⟨b, 0, none⟩ : Addr).add (i.toNat * k) = ⟨b, 0 + i.toNat * k, none⟩ := Addr.add_lit b 0 _
  rw [Nat.zero_add] at ha
  simp only [hS, Result.andThen_ok, ha] at hr2
  simp only [execOp, hx, hy, Sem.run_bind, hr2, Result.andThen_ok, Sem.run_pure])
theorem info_of {o : Option TypeInfo} {z : Value} {s : Nat} (h : o.map (fun i => (i.zero, i.size, decide (i.bytes ≤ 1000))) = some (some z, s, true)) : ∃ i, o = some i ∧ i.zero = some z ∧ i.size = s ∧ i.bytes ≤ 1000 := by
  cases o with
  | none => simp at h
  | some i => simp at h; exact ⟨i, rfl, h.1, h.2.1, h.2.2⟩
theorem does_makeSlice {t e : TypeId} {x y : Operand} {z : Value} {s n : Nat} (ht : P.underlying t = some (.slice e)) (hi : ∃ i, P.info? e = some i ∧ i.zero = some z ∧ i.size = s ∧ i.bytes ≤ 1000)
    (hx : a.eval x = .int .i64 n) (hy : a.eval y = .int .i64 n) (hn : n ≤ 2097152) :
    does P ⟨dst, .makeSlice t x y, ty, pos, af, g⟩ a w (fun v w' => ∃ b, v = .slice (some ⟨b, 0, none⟩) n n ∧ w.heap.size ≤ b ∧ (∃ cs, Blk w' b cs ∧ cs.length = n * s ∧ cs = (madeCells z.cells (n * s)).toList) ∧ Ext w w') := by
  obtain ⟨i, hi, hz, hs, hb⟩ := hi
  subst hs
  have hbn : i.bytes * n ≤ 1000 * 2097152 := Nat.mul_le_mul hb hn
  have hr := run_make (P := P) w t e i z ht hi hz .i64 .i64 n n (by omega) (Int.le_refl _) (by omega) (by omega)
  simp only [Int.toNat_natCast] at hr
  refine (does_run (u := .slice (some ⟨w.heap.size, 0, none⟩) n n) (w' := w.alloc (.cells (madeCells z.cells (n * i.size)) e)) (by simp only [execOp, hx, hy, Sem.run_bind, hr, Result.andThen_ok, Sem.run_pure])).mono fun v w' ⟨h1, h2⟩ => ?_
  subst h1 h2
  exact ⟨_, rfl, Nat.le_refl _, ⟨_, Blk.new w _ _, by simp [size_madeCells], rfl⟩, Ext.alloc w _⟩
end
structure Same (B : Nat) (w u : World) : Prop where
  size : w.heap.size ≤ u.heap.size
  same : ∀ i, B ≤ i → i < w.heap.size → u.heap[i]? = w.heap[i]?
theorem Same.refl (B : Nat) (w : World) : Same B w w := ⟨Nat.le_refl _, fun _ _ _ => rfl⟩
theorem Same.trans {B : Nat} {w u v : World} (h : Same B w u) (k : Same B u v) : Same B w v :=
  ⟨Nat.le_trans h.size k.size, fun i hi hl => (k.same i hi (Nat.lt_of_lt_of_le hl h.size)).trans (h.same i hi hl)⟩
theorem Same.of_ext {B : Nat} {w u : World} (h : Ext w u) : Same B w u := ⟨h.size, fun i _ hl => h.block i hl⟩
theorem Same.le {B C : Nat} {w u : World} (h : Same B w u) (hc : B ≤ C) : Same C w u := ⟨h.size, fun i hi hl => h.same i (Nat.le_trans hc hi) hl⟩
theorem Same.ext {B : Nat} {w u v : World} (h : Same B w u) (k : Ext u v) : Same B w v := h.trans (.of_ext k)
theorem Same.wr {B b : Nat} {w u v : World} (h : Same B w u) (k : Wr b u v) (hb : b < B ∨ w.heap.size ≤ b) : Same B w v :=
  ⟨Nat.le_trans h.size (Nat.le_of_eq k.size.symm), fun i hi hl => (k.other i (by omega)).trans (h.same i hi hl)⟩
def Hang (B : Nat) (w : World) (S : World → Prop) : Prop := ∀ u, Same B w u → S u
theorem Hang.get {B : Nat} {w : World} {S : World → Prop} (h : Hang B w S) : S w := h w (Same.refl _ _)
theorem Hang.to {B : Nat} {w u : World} {S : World → Prop} (h : Hang B w S) (k : Same B w u) : Hang B u S := fun v hv => h v (k.trans hv)
theorem Hang.ext {B : Nat} {w u : World} {S : World → Prop} (h : Hang B w S) (k : Ext w u) : Hang B u S := h.to (.of_ext k)
theorem Hang.le {B C : Nat} {w : World} {S : World → Prop} (h : Hang C w S) (hc : B ≤ C) : Hang B w S := fun u hu => h u (hu.le hc)
theorem Blk.hang {w : World} {b B : Nat} {cs : List Value} (h : Blk w b cs) (hB : B ≤ b) : Hang B w (fun u => Blk u b cs) := fun u hu => by
  have hl := h.lt; obtain ⟨T, h⟩ := h; exact ⟨T, by rw [hu.same b hB hl]; exact h⟩
def Flat {α : Type} (R : Rel α) : Prop := ∀ w w' x cs, R w x cs → R w' x cs
theorem Fill.hang {α : Type} {R : Rel α} {k : Nat} {w : World} {b n B : Nat} {xs : List α} {j : Nat} (h : Fill R k w b n xs j) (hR : Flat R) (hB : B ≤ b) (hj : n ≤ j) (hn : xs.length = n) (hm : n ≤ 9223372036854775807) (hk : 0 < k) :
    Hang B w (fun u => Sl R k u (.slice (some ⟨b, 0, none⟩) n n) xs) := fun u hu => by
  obtain ⟨cs, hb, hl, h⟩ := h
  exact Fill.sl ⟨cs, hb.hang hB u hu, hl, fun i x hi hx => hR _ _ _ _ (h i x hi hx)⟩ hj hn hm hk
theorem Sl.hang_nil {α : Type} (R : Rel α) (k B : Nat) (w : World) : Hang B w (fun u => Sl R k u (.slice none 0 0) []) := fun u _ => ⟨by simp, none, 0, rfl, fun i x hi => by simp at hi⟩
theorem Sl_lit {α : Type} {R : Rel α} {k : Nat} {w : World} {b : Nat} {cs : List Value} {xs : List α} (hb : Blk w b cs) (hk : 0 < k) (hl : xs.length ≤ 1000) (h : ∀ i x, xs[i]? = some x → R w x ((cs.drop (i * k)).take k) ∧ ((cs.drop (i * k)).take k).length = k) :
    Sl R k w (.slice (some ⟨b, 0, none⟩) xs.length xs.length) xs := by
  refine ⟨by omega, _, _, rfl, fun i x hi => ?_⟩
  obtain ⟨h1, h2⟩ := h i x hi
  exact ⟨b, 0, _, rfl, hb.cells.sub (i * k) k, h1, h2, hk, (List.getElem?_eq_some_iff.1 hi).1⟩
theorem Sl_lit2 {α : Type} {R : Rel α} {w : World} {b : Nat} {c0 c1 : Value} {x0 x1 : α} (hb : Blk w b [c0, c1]) (h0 : R w x0 [c0]) (h1 : R w x1 [c1]) : Sl R 1 w (.slice (some ⟨b, 0, none⟩) 2 2) [x0, x1] :=
  Sl_lit hb (by decide) (by simp) fun i x hi => by
    match i, hi with
    | 0, hi => cases hi; exact ⟨h0, rfl⟩
    | 1, hi => cases hi; exact ⟨h1, rfl⟩
    | i + 2, hi => simp at hi
theorem Sl_lit3 {α : Type} {R : Rel α} {w : World} {b : Nat} {c0 c1 c2 : Value} {x0 x1 x2 : α} (hb : Blk w b [c0, c1, c2]) (h0 : R w x0 [c0]) (h1 : R w x1 [c1]) (h2 : R w x2 [c2]) : Sl R 1 w (.slice (some ⟨b, 0, none⟩) 3 3) [x0, x1, x2] :=
  Sl_lit hb (by decide) (by simp) fun i x hi => by
    match i, hi with
    | 0, hi => cases hi; exact ⟨h0, rfl⟩
    | 1, hi => cases hi; exact ⟨h1, rfl⟩
    | 2, hi => cases hi; exact ⟨h2, rfl⟩
    | i + 3, hi => simp at hi
def TellsF (P : Program) (v : Value) (w : World) (p : Nat → Bool) : Prop :=
  ∃ f fst cap, v = .func (.func f) fst cap ∧ (∀ args w, (callFunc f args).run P w = .ok (.enter f args) w) ∧ ∀ r w', Ext w w' → Gives P f (fst ++ #[.float .f32 r] ++ cap) w' (fun u _ => u = .bool (p (cf .f32 r)))
def findI {α : Type} (p : α → Bool) (xs : List α) : Int := match xs.findIdx? p with | some i => i | none => -1
theorem findI_at {α : Type} {p : α → Bool} {xs : List α} {k : Nat} (h : ∀ j, j < k → ∀ x, xs[j]? = some x → p x = false) {x : α} (hx : xs[k]? = some x) (hp : p x = true) : findI p xs = k := by
  have hlt := (List.getElem?_eq_some_iff.1 hx).1
  have hxe := (List.getElem?_eq_some_iff.1 hx).2
  have : xs.findIdx? p = some k := by
    rw [List.findIdx?_eq_some_iff_getElem]
    refine ⟨hlt, by rw [hxe]; exact hp, fun j hj => ?_⟩
    have := h j hj _ (List.getElem?_eq_getElem (by omega))
    simp [this]
  simp [findI, this]
theorem findI_none {α : Type} {p : α → Bool} {xs : List α} {k : Nat} (h : ∀ j, j < k → ∀ x, xs[j]? = some x → p x = false) (hk : xs.length ≤ k) : findI p xs = -1 := by
  have : xs.findIdx? p = none := by
    rw [List.findIdx?_eq_none_iff]
    intro x hx
    obtain ⟨i, hi, rfl⟩ := List.mem_iff_getElem.1 hx
    exact h i (by omega) _ (List.getElem?_eq_getElem hi)
  simp [findI, this]
def NoneTo {α : Type} (p : α → Bool) (xs : List α) (k : Nat) : Prop := ∀ j, j < k → ∀ x, xs[j]? = some x → p x = false
theorem NoneTo.zero {α : Type} {p : α → Bool} {xs : List α} : NoneTo p xs 0 := fun j hj => by omega
theorem NoneTo.step {α : Type} {p : α → Bool} {xs : List α} {k : Nat} (h : NoneTo p xs k) {e : α} (he : xs[k]? = some e) (hp : p e = false) : NoneTo p xs (k + 1) := fun j hj x hx => by
  rcases Nat.lt_or_ge j k with h' | h'
  · exact h j h' x hx
  · obtain rfl : j = k := by omega
    rw [he] at hx; cases hx; exact hp
theorem findI_any {α : Type} (p : α → Bool) (xs : List α) : icmp .geq (findI p xs) 0 = xs.any p := by
  unfold findI icmp
  cases h : xs.findIdx? p with
  | none =>
    rw [List.findIdx?_eq_none_iff] at h
    have : xs.any p = false := by simpa using h
    simp [this]
  | some i =>
    rw [List.findIdx?_eq_some_iff_getElem] at h
    obtain ⟨hi, hp, _⟩ := h
    have : xs.any p = true := List.any_eq_true.2 ⟨_, List.getElem_mem hi, hp⟩
    simp [this]
end Go.Proofs.Ytjopopmipdakkaa
