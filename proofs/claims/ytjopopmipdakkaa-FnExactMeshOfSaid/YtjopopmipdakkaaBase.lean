/- Worlds that grow, rows of cells, and what one operation does: the steps of which the walks of this seat are made. -/
import Derived.Test.YtjopopmipdakkaaFl
import Derived.Orders
import Derived.Deep.Draws
import Derived.WalkSmall
namespace Go.Proofs.Ytjopopmipdakkaa
open Go Go.RowKit
abbrev Fl (n : Nat) : Value := .float .f32 n
abbrev Fd (n : Nat) : Value := .float .f64 n
abbrev Bo (b : Bool) : Value := .bool b
abbrev Iv (n : Int) : Value := .int .i64 n
abbrev Pt (b o : Nat) : Value := .pointer (some ⟨b, o, none⟩)
abbrev Ud : Value := undef
abbrev Ext (w w' : World) : Prop := Below w.heap.size w w'
theorem Ext.refl (w : World) : Ext w w := Below.refl _ _
theorem Below.gr {B : Nat} {w w1 w2 : World} (h : Below B w w1) (k : Ext w1 w2) (hB : B ≤ w1.heap.size) : Below B w w2 := Below.trans h (k.mono hB)
theorem Ext.gr {w w1 w2 : World} (h : Ext w w1) (k : Ext w1 w2) : Ext w w2 := Below.gr h k h.size
theorem Ext.draw (w : World) : Ext w { w with drawn := w.drawn + 1 } := ⟨rfl, rfl, rfl, Nat.le_refl _, fun _ _ => rfl⟩
theorem Ext.alloc (w : World) (o : Obj) : Ext w (w.alloc o) := Below.alloc (Ext.refl w) (Nat.le_refl _) o
structure Wr (b : Nat) (w w' : World) : Prop where
  os : w'.os = w.os
  tape : w'.tape = w.tape
  output : w'.output = w.output
  size : w'.heap.size = w.heap.size
  other : ∀ k, k ≠ b → w'.heap[k]? = w.heap[k]?
theorem Below.wr {B b : Nat} {w w1 w2 : World} (h : Below B w w1) (k : Wr b w1 w2) (hB : B ≤ b) : Below B w w2 :=
  h.trans ⟨k.os, k.tape, k.output, Nat.le_of_eq k.size.symm, fun i hi => k.other i (by omega)⟩
def Cells (w : World) (b off : Nat) (cs : List Value) : Prop := ∀ i v, cs[i]? = some v → w.cell? ⟨b, off + i, none⟩ = some v
theorem cell_lt {w : World} {b o : Nat} {v : Value} (h : w.cell? ⟨b, o, none⟩ = some v) : b < w.heap.size := World.block_lt_of_cell? _ _ h
theorem Cells.ext {w w' : World} {b off : Nat} {cs : List Value} (h : Cells w b off cs) (k : Ext w w') : Cells w' b off cs := fun i v hi => by
  have h1 := h i v hi
  rw [k.cell (p := ⟨b, off + i, none⟩) (cell_lt h1)]; exact h1
theorem Cells.wr {w w' : World} {b off b' : Nat} {cs : List Value} (h : Cells w b off cs) (k : Wr b' w w') (hne : b ≠ b') : Cells w' b off cs := fun i v hi => by
  rw [World.cell?_of_block (w := w) (k.other b hne)]; exact h i v hi
theorem Cells.at {w : World} {b off : Nat} {cs : List Value} (h : Cells w b off cs) (i : Nat) {v : Value} (hi : cs[i]? = some v) : w.cell? ⟨b, off + i, none⟩ = some v := h i v hi
theorem Cells.sub {w : World} {b off : Nat} {cs : List Value} (h : Cells w b off cs) (k n : Nat) : Cells w b (off + k) ((cs.drop k).take n) := fun i v hi => by
  rw [List.getElem?_take] at hi
  split at hi
  · rw [List.getElem?_drop] at hi
    rw [Nat.add_assoc]; exact h _ _ hi
  · cases hi
def Blk (w : World) (b : Nat) (cs : List Value) : Prop := ∃ T, w.heap[b]? = some (.cells cs.toArray T (0, 0))
theorem Blk.lt {w : World} {b : Nat} {cs : List Value} (h : Blk w b cs) : b < w.heap.size := by
  obtain ⟨T, h⟩ := h; exact (Array.getElem?_eq_some_iff.1 h).1
theorem Blk.ext {w w' : World} {b : Nat} {cs : List Value} (h : Blk w b cs) (k : Ext w w') : Blk w' b cs := by
  have hl := h.lt; obtain ⟨T, h⟩ := h; exact ⟨T, by rw [k.block b hl]; exact h⟩
theorem Blk.wr {w w' : World} {b b' : Nat} {cs : List Value} (h : Blk w b cs) (k : Wr b' w w') (hne : b ≠ b') : Blk w' b cs := by
  obtain ⟨T, h⟩ := h; exact ⟨T, by rw [k.other b hne]; exact h⟩
theorem Blk.cell {w : World} {b : Nat} {cs : List Value} (h : Blk w b cs) (i : Nat) : w.cell? ⟨b, i, none⟩ = cs[i]? := by
  obtain ⟨T, h⟩ := h; rw [cell_of_row w b i _ _ _ h]; simp
theorem Blk.cells {w : World} {b : Nat} {cs : List Value} (h : Blk w b cs) : Cells w b 0 cs := fun i v hi => by rw [h.cell, Nat.zero_add]; exact hi
theorem Blk.new (w : World) (cs : Array Value) (T : TypeId) : Blk (w.alloc (.cells cs T)) w.heap.size cs.toList := ⟨T, by rw [heap_alloc_new]⟩
def splice (cs : List Value) (off : Nat) (vs : List Value) : List Value := cs.take off ++ vs ++ cs.drop (off + vs.length)
def does (P : Program) (o : Oper) (a : Act) (w : World) (R : Value → World → Prop) : Prop :=
  match (execOp a.eval o).run P w with
  | .ok (.value v) w' => R v w'
  | .ok .skip w' => R undef w'
  | .ok (.enter f args) w' => Calls P f args w' (fun e w'' => ∃ v, e = .returned v ∧ R v w'')
  | _ => False
theorem does.mono {P : Program} {o : Oper} {a : Act} {w : World} {R R' : Value → World → Prop} (h : does P o a w R) (hr : ∀ v w', R v w' → R' v w') : does P o a w R' := by
  unfold does at *
  split at h
  · exact hr _ _ h
  · exact hr _ _ h
  · exact h.mono fun e w'' ⟨v, he, hv⟩ => ⟨v, he, hr _ _ hv⟩
  · exact h.elim
theorem does.wp {P : Program} {o : Oper} {a : Act} {w : World} {R : Value → World → Prop} {K : Act → World → Prop} {Q : Exit → Act → World → Prop}
    (h : does P o a w R) (k : ∀ v w', R v w' → K (a.put o.dst v) w') : o.wp P a w K Q := by
  unfold does at h
  unfold Oper.wp
  split at h
  · rename_i hr; rw [hr]; exact k _ _ h
  · rename_i hr; rw [hr]; exact k _ _ h
  · rename_i hr; rw [hr]; exact Calls.mono h fun e w'' ⟨v, he, hv⟩ => by subst he; exact k _ _ hv
  · exact h.elim
theorem seq {P : Program} {ops : Array Oper} {Q : Exit → Act → World → Prop} {o : Oper} {rest : List Oper} {a : Act} {w : World} {R : Value → World → Prop}
    (hg : o.guard = none) (h : does P o a w R) (k : ∀ v w', R v w' → wpList P ops Q rest (a.put o.dst v) w') : wpList P ops Q (o :: rest) a w :=
  wpList_plain hg fun _ hK => h.wp fun v w' hr => hK _ _ (k v w' hr)
section
variable {P : Program} {a : Act} {w : World} {dst : Option Tmp} {ty : TypeId} {pos : String} {af : Array Edge} {g : Option (Nat × Bool)}
abbrev Is (u : Value) (w : World) : Value → World → Prop := fun v w' => v = u ∧ w' = w
theorem does_run {o : Oper} {u : Value} {w' : World} (h : (execOp a.eval o).run P w = .ok (.value u) w') : does P o a w (fun v w'' => v = u ∧ w'' = w') := by
  unfold does; rw [h]; exact ⟨rfl, rfl⟩
theorem does_move {x : Operand} {u : Value} (hx : a.eval x = u) : does P ⟨dst, .move x, ty, pos, af, g⟩ a w (Is u w) := does_run (by simp [execOp, hx])
theorem does_assign {x : Operand} {u : Value} (hx : a.eval x = u) : does P ⟨dst, .assign x, ty, pos, af, g⟩ a w (Is u w) := does_run (by simp [execOp, hx])
theorem does_pick {c x y : Operand} {b : Bool} {u v : Value} (hc : a.eval c = .bool b) (hx : a.eval x = u) (hy : a.eval y = v) :
    does P ⟨dst, .pick c x y, ty, pos, af, g⟩ a w (Is (if b then u else v) w) := does_run (by simp [execOp, hc, hx, hy, asBool])
theorem does_nilCheck {x : Operand} {p : Addr} (hx : a.eval x = .pointer (some p)) : does P ⟨dst, .nilCheck x, ty, pos, af, g⟩ a w (Is (.pointer (some p)) w) := does_run (by simp [execOp, hx])
def fr (l : List Value) : Act := ⟨l.toArray, []⟩
def evl (l : List Value) : Operand → Value
  | .tmp t => (l[t]?).getD undef
  | .const v => v
  | .global g => .pointer (some ⟨g, 0, none⟩)
  | .func f => .func (.func f) #[] #[]
theorem fr_eval (l : List Value) : (fr l).eval = evl l := by
  funext x; cases x <;> simp [fr, Act.eval, evl]
theorem ev {l : List Value} {x : Operand} {u : Value} (h : evl l x = u) : (fr l).eval x = u := by rw [fr_eval]; exact h
theorem evs {l : List Value} {xs : Array Operand} {us : List Value} (h : xs.toList.map (evl l) = us) : xs.toList.map (fr l).eval = us := by rw [fr_eval]; exact h
theorem evp {l : List Value} {ps : Array (Nat × Operand)} {us : List (Nat × Value)} (h : ps.toList.map (fun q => (q.1, evl l q.2)) = us) : ps.toList.map (fun q => (q.1, (fr l).eval q.2)) = us := by rw [fr_eval]; exact h
theorem fr_put (l : List Value) (d : Nat) (v : Value) : (fr l).put (some d) v = fr (l.set d v) := by simp [fr, Act.put]
theorem slot {l : List Value} {t : Tmp} {u : Value} (h : (l[t]?).getD undef = u) : (fr l).tmps.getD t undef = u := by rw [← h]; simp [fr]
theorem yld {l : List Value} {ops : List Oper} {j d : Nat} {b : Bool} (ho : (ops[j]?).bind (fun o => o.dst) = some d) (hv : l[d]? = some (.bool b)) : yielded ops.toArray (fr l).tmps j = some b := by
  have h : (ops.toArray[j]?).bind (fun o => o.dst) = some d := by simpa using ho
  unfold yielded; rw [h]; simp [fr, hv]
theorem q_is {ops : Array Oper} {Q : Exit → Act → World → Prop} {o : Oper} {rest : List Oper} {u : Value} {l l' : List Value} {d : Nat} (hg : o.guard = none) (hd : o.dst = some d) (h : does P o (fr l) w (Is u w)) (hl : l.set d u = l')
    (k : wpList P ops Q rest (fr l') w) : wpList P ops Q (o :: rest) (fr l) w := seq hg h (by rintro v w' ⟨rfl, rfl⟩; rw [hd, fr_put, hl]; exact k)
theorem seqd {ops : Array Oper} {Q : Exit → Act → World → Prop} {o : Oper} {rest : List Oper} {l : List Value} {d : Nat} {R : Value → World → Prop} (hg : o.guard = none) (hd : o.dst = some d) (h : does P o (fr l) w R)
    (k : ∀ v w', R v w' → wpList P ops Q rest (fr (l.set d v)) w') : wpList P ops Q (o :: rest) (fr l) w := seq hg h (fun v w' hr => by rw [hd, fr_put]; exact k v w' hr)
theorem seqn {ops : Array Oper} {Q : Exit → Act → World → Prop} {o : Oper} {rest : List Oper} {l : List Value} {R : Value → World → Prop} (hg : o.guard = none) (hd : o.dst = none) (h : does P o (fr l) w R)
    (k : ∀ v w', R v w' → wpList P ops Q rest (fr l) w') : wpList P ops Q (o :: rest) (fr l) w := seq hg h (fun v w' hr => by rw [hd]; exact k v w' hr)
theorem does_alloc {t : TypeId} {z : Value} (hz : ∀ w, (zeroValue t).run P w = .ok z w) : does P ⟨dst, .alloc t, ty, pos, af, g⟩ a w
    (fun v w' => ∃ b, v = .pointer (some ⟨b, 0, none⟩) ∧ w.heap.size ≤ b ∧ Blk w' b z.cells.toList ∧ Ext w w') := by
  refine (does_run (u := .pointer (some ⟨w.heap.size, 0, none⟩)) (w' := w.alloc (.cells z.cells t)) ?_).mono fun v w' ⟨h1, h2⟩ => ?_
  · simp [execOp, Instr.alloc, hz, newVar, newRow]
  · subst h1 h2
    exact ⟨w.heap.size, rfl, Nat.le_refl _, Blk.new w _ t, Ext.alloc w _⟩
theorem does_box {t : TypeId} {x : Operand} {u : Value} (hx : a.eval x = u) : does P ⟨dst, .box t x, ty, pos, af, g⟩ a w
    (fun v w' => ∃ b, v = .pointer (some ⟨b, 0, none⟩) ∧ w.heap.size ≤ b ∧ Blk w' b u.cells.toList ∧ Ext w w') := by
  refine (does_run (u := .pointer (some ⟨w.heap.size, 0, none⟩)) (w' := w.alloc (.cells u.cells t)) ?_).mono fun v w' ⟨h1, h2⟩ => ?_
  · simp [execOp, hx, Instr.box, newVar, newRow]
  · subst h1 h2
    exact ⟨w.heap.size, rfl, Nat.le_refl _, Blk.new w _ t, Ext.alloc w _⟩
theorem does_load {t : TypeId} {x : Operand} {p : Addr} {u : Value} (hx : a.eval x = .pointer (some p)) (hA : ∀ w, (isAgg t).run P w = .ok false w) (hc : w.cell? p = some u) :
    does P ⟨dst, .load t x, ty, pos, af, g⟩ a w (Is u w) := does_run (by simp [execOp, hx, Instr.loadAt, Instr.sureAddr, loadVar, hA, hc])
theorem run_loadAgg {t : TypeId} {b off n : Nat} {cs : List Value} (hA : ∀ w, (isAgg t).run P w = .ok true w) (hS : ∀ w, (sizeOf t).run P w = .ok n w)
    (hc : Cells w b off cs) (hn : cs.length = n) : (loadVar t ⟨b, off, none⟩).run P w = .ok (.agg cs.toArray) w := by
  have h1 : (loadCells ⟨b, off, none⟩ n).run P w = .ok cs.toArray w := by
    rw [← hn]
    refine run_loadCells_list (P := P) w _ cs fun j v hv => ?_
    rw [Addr.add_lit]; exact hc j v hv
  simp [loadVar, hA, hS, h1]
theorem does_loadAgg {t : TypeId} {x : Operand} {b off n : Nat} {cs : List Value} (hx : a.eval x = .pointer (some ⟨b, off, none⟩)) (hA : ∀ w, (isAgg t).run P w = .ok true w)
    (hS : ∀ w, (sizeOf t).run P w = .ok n w) (hc : Cells w b off cs) (hn : cs.length = n) : does P ⟨dst, .load t x, ty, pos, af, g⟩ a w (Is (.agg cs.toArray) w) :=
  does_run (by simp [execOp, hx, Instr.loadAt, Instr.sureAddr, run_loadAgg hA hS hc hn])
theorem wr_setRow {b : Nat} {cur : Array Value} {T : TypeId} (hb : w.heap[b]? = some (.cells cur T (0, 0))) (cs : Array Value) : Wr b w (w.setRow b cs) ∧ Blk (w.setRow b cs) b cs.toList := by
  refine ⟨⟨rfl, rfl, rfl, by simp, fun k hk => ?_⟩, ⟨T, ?_⟩⟩
  · simp only [World.setRow, Array.getElem?_modify]; rw [if_neg (by omega)]
  · simp only [World.setRow, Array.getElem?_modify, if_true, hb, Option.map_some]
theorem does_store {t : TypeId} {x y : Operand} {b off n : Nat} {cs : List Value} {u : Value} (hx : a.eval x = .pointer (some ⟨b, off, none⟩)) (hy : a.eval y = u)
    (hS : ∀ w, (sizeOf t).run P w = .ok n w) (hn : u.cells.size = n) (hb : Blk w b cs) (hl : off + n ≤ cs.length) (h1 : u.cells.toList.all (fun v => v.oneCell') = true) :
    does P ⟨dst, .store t x y, ty, pos, af, g⟩ a w (fun v w' => v = undef ∧ Wr b w w' ∧ Blk w' b (splice cs off u.cells.toList)) := by
  rw [List.all_eq_true] at h1
  obtain ⟨T, hb⟩ := hb
  have h2 := run_storeCells_at P b off T u.cells.toList 0 cs.toArray w hb (by simpa [hn] using hl) h1
  have h3 : (execOp a.eval ⟨dst, .store t x y, ty, pos, af, g⟩).run P w = .ok .skip (w.setRow b (splice cs off u.cells.toList).toArray) := by
    simp only [Nat.add_zero] at h2
    simp [execOp, hx, hy, Instr.storeAt, Instr.sureAddr, storeVar, hS, hn, h2, splice]
  unfold does; rw [h3]
  obtain ⟨k1, k2⟩ := wr_setRow hb (splice cs off u.cells.toList).toArray
  exact ⟨rfl, k1, by simpa using k2⟩
theorem does_fieldAddr {s : TypeId} {x : Operand} {f b off k : Nat} (hx : a.eval x = .pointer (some ⟨b, off, none⟩))
    (hf : ∀ b off w, (Instr.fieldAt s (.pointer (some ⟨b, off, none⟩)) f).run P w = .ok (.pointer (some ⟨b, off + k, none⟩)) w) :
    does P ⟨dst, .fieldAddr s x f, ty, pos, af, g⟩ a w (Is (.pointer (some ⟨b, off + k, none⟩)) w) := does_run (by simp [execOp, hx, hf])
theorem does_extract {x : Operand} {i : Nat} {vs : Array Value} {u : Value} (hx : a.eval x = .tuple vs) (hi : vs[i]? = some u) :
    does P ⟨dst, .extract x i, ty, pos, af, g⟩ a w (Is u w) := does_run (by simp [execOp, hx, Instr.extract, hi])
def Gives (P : Program) (f : FuncId) (args : Array Value) (w : World) (R : Value → World → Prop) : Prop :=
  Calls P f args w (fun e w' => ∃ v, e = .returned v ∧ Ext w w' ∧ R v w')
theorem does_call {f : FuncId} {xs : Array Operand} {ats : Array TypeId} {args : Array Value} {R : Value → World → Prop} (hf : ∀ args w, (callFunc f args).run P w = .ok (.enter f args) w)
    (hx : xs.toList.map a.eval = args.toList) (h : Gives P f args w R) : does P ⟨dst, .call ⟨.value (.func f), xs, ats⟩, ty, pos, af, g⟩ a w (fun v w' => Ext w w' ∧ R v w') := by
  have hx : xs.map a.eval = args := by rw [← Array.toList_inj, Array.toList_map, hx]
  unfold does
  rw [execOp_call_go]
  simp only [Array.empty_append, Array.append_empty, hx, hf]
  exact h
theorem does_callv {f : FuncId} {x : Operand} {xs : Array Operand} {ats : Array TypeId} {fst cap args all : Array Value} {R : Value → World → Prop} (hv : a.eval x = .func (.func f) fst cap)
    (hf : ∀ args w, (callFunc f args).run P w = .ok (.enter f args) w) (hx : xs.toList.map a.eval = args.toList) (hall : fst.toList ++ args.toList ++ cap.toList = all.toList)
    (h : Gives P f all w R) : does P ⟨dst, .call ⟨.value x, xs, ats⟩, ty, pos, af, g⟩ a w (fun v w' => Ext w w' ∧ R v w') := by
  have hx : xs.map a.eval = args := by rw [← Array.toList_inj, Array.toList_map, hx]
  have hall : fst ++ args ++ cap = all := by rw [← Array.toList_inj]; simpa using hall
  unfold does
  have : (execOp a.eval ⟨dst, .call ⟨.value x, xs, ats⟩, ty, pos, af, g⟩).run P w = .ok (.enter f all) w := by
    simp [execOp, resolve, hv, hx, Deferred.ofValue, invoke, hf, ← hall]
  rw [this]
  exact h
theorem does_build {t : TypeId} {parts : Array (Nat × Operand)} {parts' : List (Nat × Value)} {cells : Array Value} (hx : parts.toList.map (fun q => (q.1, a.eval q.2)) = parts') (hb : P.built t parts' = some cells) :
    does P ⟨dst, .build t parts, ty, pos, af, g⟩ a w (Is (.agg cells) w) := by
  refine does_run ?_
  have h1 : (parts.map fun (i, x) => (i, a.eval x)).toList = parts' := by rw [Array.toList_map]; exact hx
  have h2 := run_build (P := P) w t (parts.map fun (i, x) => (i, a.eval x)) cells (by rw [h1]; exact hb)
  simp only [execOp, Sem.run_bind, h2, Result.andThen_ok, Sem.run_pure]
theorem does_buildSlice {t e n : Nat} {parts : Array (Nat × Operand)} {parts' : List (Nat × Value)} {cells : List Value} (hx : parts.toList.map (fun q => (q.1, a.eval q.2)) = parts')
    (hb : ∀ w, (Instr.buildSlice t n parts'.toArray).run P w = .ok (.slice (some ⟨w.heap.size, 0, none⟩) n n) (w.alloc (.cells cells.toArray e))) :
    does P ⟨dst, .buildSlice t n parts, ty, pos, af, g⟩ a w (fun v w' => ∃ b, v = .slice (some ⟨b, 0, none⟩) n n ∧ w.heap.size ≤ b ∧ Blk w' b cells ∧ Ext w w') := by
  have h1 : (parts.map fun (i, x) => (i, a.eval x)) = parts'.toArray := by rw [← Array.toList_inj, Array.toList_map]; exact hx
  refine (does_run (u := .slice (some ⟨w.heap.size, 0, none⟩) n n) (w' := w.alloc (.cells cells.toArray e)) ?_).mono fun v w' ⟨h3, h4⟩ => ?_
  · simp only [execOp, h1, Sem.run_bind, hb, Result.andThen_ok, Sem.run_pure]
  · subst h3 h4
    exact ⟨w.heap.size, rfl, Nat.le_refl _, Blk.new w _ e, Ext.alloc w _⟩
theorem does_float {op : BinOp} {k : FloatKind} {t t' : TypeId} {x y : Operand} {p q : Nat} (hop : op = .add ∨ op = .sub ∨ op = .mul ∨ op = .quo) (hx : a.eval x = .float k p) (hy : a.eval y = .float k q) :
    does P ⟨dst, .binOp op t x y t', ty, pos, af, g⟩ a w (fun v w' => ∃ r, v = .float k r ∧ cf k r = fop op k (cf k p) (cf k q) ∧ Ext w w') := by
  have hg : eqGuard op t x y (.float k p) (.float k q) = pure () := by rcases hop with rfl | rfl | rfl | rfl <;> rfl
  have hb : binOp op t (.float k p) (.float k q) = Op.floatArith op k p q := by rcases hop with rfl | rfl | rfl | rfl <;> simp [binOp]
  have hr : (Op.floatArith op k p q) = (match fraw op k p q with
      | some r => pure (.float k r)
      | none => do pure (.float k (← choose (.nanBits k p q)))) := by rcases hop with rfl | rfl | rfl | rfl <;> simp [Op.floatArith, fraw] <;> rfl
  rw [fop_cf]
  cases h : fraw op k p q with
  | some r =>
    refine (does_run (u := .float k r) (w' := w) ?_).mono fun v w' ⟨h1, h2⟩ => ?_
    · simp [execOp, hx, hy, hg, hb, hr, h]
    · subst h1 h2
      exact ⟨r, rfl, by rw [cf_of_num (fraw_num h)]; simp [fop, h], Ext.refl _⟩
  | none =>
    refine (does_run (u := .float k ((Question.nanBits k p q).cut (w.tape w.drawn (.nanBits k p q)))) (w' := { w with drawn := w.drawn + 1 }) ?_).mono fun v w' ⟨h1, h2⟩ => ?_
    · simp [execOp, hx, hy, hg, hb, hr, h, choose, Sem.run, Question.forced]
    · subst h1 h2
      exact ⟨_, rfl, by rw [cf_of_nan (cut_nan k p q _)]; simp [fop, h], Ext.draw _⟩
def fcmp (op : BinOp) (c : Option Ordering) : Bool :=
  match op with
  | .eql => c == some .eq
  | .neq => c != some .eq
  | .lss => c == some .lt
  | .leq => c == some .lt || c == some .eq
  | .gtr => c == some .gt
  | _ => c == some .gt || c == some .eq
theorem does_fcmp {op : BinOp} {k : FloatKind} {t t' : TypeId} {x y : Operand} {p q : Nat} (hop : op = .eql ∨ op = .neq ∨ op = .lss ∨ op = .leq ∨ op = .gtr ∨ op = .geq)
    (hx : a.eval x = .float k p) (hy : a.eval y = .float k q) :
    does P ⟨dst, .binOp op t x y t', ty, pos, af, g⟩ a w (Is (.bool (fcmp op (ford k (cf k p) (cf k q)))) w) := by
  rw [ford_cf]
  refine does_run ?_
  rcases hop with rfl | rfl | rfl | rfl | rfl | rfl <;> simp [execOp, hx, hy, eqGuard_at_float, binOp, Op.floatCmp, fcmp, ford]
theorem does_widen {src dst' : TypeId} {x : Operand} {p : Nat} {ds : TypeDesc} (hs : P.underlying src = some ds) (hd : P.underlying dst' = some (.float .f64)) (hx : a.eval x = .float .f32 p) :
    does P ⟨dst, .convert src dst' x, ty, pos, af, g⟩ a w (fun v w' => ∃ r, v = .float .f64 r ∧ cf .f64 r = fwid (cf .f32 p) ∧ Ext w w') := by
  rw [fwid_cf]
  have hc : (execOp a.eval ⟨dst, .convert src dst' x, ty, pos, af, g⟩).run P w = ((Conv.floatToFloat .f32 p .f64).run P w).andThen fun v w' => .ok (.value v) w' := by
    cases ds <;> simp [execOp, hx, convert, run_underlying hs, run_underlying hd]
  cases hN : isN .f32 p with
  | true =>
    obtain ⟨s, t, h⟩ := dec_nan hN
    have h' : FloatKind.f32.decode p = .nan s t := h
    refine (does_run (u := .float .f64 ((Question.nanConv .f64 p).cut (w.tape w.drawn (.nanConv .f64 p)))) (w' := { w with drawn := w.drawn + 1 }) ?_).mono fun v w' ⟨h1, h2⟩ => ?_
    · rw [hc]; simp [Conv.floatToFloat, h', choose, Sem.run, Question.forced]
    · subst h1 h2
      exact ⟨_, rfl, by rw [cf_of_nan (cut_nanConv _ _ _), fwid_nan hN], Ext.draw _⟩
  | false =>
    cases h : FloatKind.f32.decode p with
    | nan s t => simp [isN, h, Ieee.Datum.isNaN] at hN
    | infinity s =>
      refine (does_run (u := .float .f64 (FloatKind.f64.encode (.infinity s))) (w' := w) ?_).mono fun v w' ⟨h1, h2⟩ => ?_
      · rw [hc]; simp [Conv.floatToFloat, h]
      · subst h1 h2
        exact ⟨_, rfl, by rw [fwid_of hN h, cf_of_num (isN_enc .f64 rfl)], Ext.refl _⟩
    | number s m e =>
      have hf := wid_fin h
      refine (does_run (u := .float .f64 (FloatKind.f64.encode (.number s m e))) (w' := w) ?_).mono fun v w' ⟨h1, h2⟩ => ?_
      · rw [hc]; simp [Conv.floatToFloat, h, hf]
      · subst h1 h2
        exact ⟨_, rfl, by rw [fwid_of hN h, cf_of_num (isN_enc .f64 rfl)], Ext.refl _⟩
theorem does_conv_if {src dst' : TypeId} {k : FloatKind} {q : IntKind} {x : Operand} {n : Int} {ds : TypeDesc} (hs : P.underlying src = some ds) (hd : P.underlying dst' = some (.float k)) (hx : a.eval x = .int q n) :
    does P ⟨dst, .convert src dst' x, ty, pos, af, g⟩ a w (Is (.float k (k.nearest n)) w) := does_run (by
  have := run_convert_int_float (P := P) w src dst' q k n (by rw [hs]; rfl) hd
  simp only [execOp, hx, Sem.run_bind, this, Result.andThen_ok, Sem.run_pure, floatOfInt])
theorem run_extract {x : Operand} {i : Nat} {vs : Array Value} {u : Value} (hx : a.eval x = .tuple vs) (hi : vs[i]? = some u) (w : World) :
    (execOp a.eval ⟨dst, .extract x i, ty, pos, af, g⟩).run P w = .ok (.value u) w := by simp [execOp, hx, Instr.extract, hi]
theorem does_iarith {op : BinOp} {k : IntKind} {t t' : TypeId} {x y : Operand} {p q r : Int} (hx : a.eval x = .int k p) (hy : a.eval y = .int k q)
    (h : (op = .add ∧ r = k.wrap (p + q)) ∨ (op = .sub ∧ r = k.wrap (p - q)) ∨ (op = .mul ∧ r = k.wrap (p * q))) : does P ⟨dst, .binOp op t x y t', ty, pos, af, g⟩ a w (Is (.int k r) w) := by
  refine does_run ?_
  rcases h with ⟨rfl, rfl⟩ | ⟨rfl, rfl⟩ | ⟨rfl, rfl⟩ <;> simp [execOp, hx, hy, eqGuard_at_int, binOp, Op.intArith]
def icmp (op : BinOp) (p q : Int) : Bool :=
  match op with
  | .eql => p == q
  | .neq => p != q
  | .lss => decide (p < q)
  | .leq => decide (p ≤ q)
  | .gtr => decide (q < p)
  | _ => decide (q ≤ p)
theorem does_icmp {op : BinOp} {k : IntKind} {t t' : TypeId} {x y : Operand} {p q : Int} (hop : op = .eql ∨ op = .neq ∨ op = .lss ∨ op = .leq ∨ op = .gtr ∨ op = .geq)
    (hx : a.eval x = .int k p) (hy : a.eval y = .int k q) : does P ⟨dst, .binOp op t x y t', ty, pos, af, g⟩ a w (Is (.bool (icmp op p q)) w) := by
  refine does_run ?_
  rcases hop with rfl | rfl | rfl | rfl | rfl | rfl <;> simp [execOp, hx, hy, eqGuard_at_int, binOp, Op.intCmp, icmp]
theorem does_beq {t t' : TypeId} {x y : Operand} {p q : Bool} (ht : P.underlying t = some .bool) (hx : a.eval x = .bool p) (hy : a.eval y = .bool q) :
    does P ⟨dst, .binOp .eql t x y t', ty, pos, af, g⟩ a w (Is (.bool (p == q)) w) := does_run (by simp [execOp, hx, hy, eqGuard_at_bool, run_eql_bool w t p q ht])
theorem does_bne {t t' : TypeId} {x y : Operand} {p q : Bool} (ht : P.underlying t = some .bool) (hx : a.eval x = .bool p) (hy : a.eval y = .bool q) :
    does P ⟨dst, .binOp .neq t x y t', ty, pos, af, g⟩ a w (Is (.bool (p != q)) w) := does_run (by simp [execOp, hx, hy, eqGuard_at_bool, run_neq_bool w t p q ht, bne])
theorem does_len_slice {t : TypeId} {x : Operand} {p : Option Addr} {n c : Nat} (ht : P.underlying t = some (.slice (P.elem t))) (hx : a.eval x = .slice p n c) :
    does P ⟨dst, .call ⟨.builtin .len, #[x], #[t]⟩, ty, pos, af, g⟩ a w (Is (.int .i64 n) w) := does_run (by
  have := run_len_slice (P := P) w t ty p n c ht
  simp [execOp, resolve, hx, invoke, builtin, this, goInt])
theorem does_not {t : TypeId} {x : Operand} {b : Bool} (hx : a.eval x = .bool b) :
    does P ⟨dst, .unOp .not t x, ty, pos, af, g⟩ a w (Is (.bool (!b)) w) := does_run (by simp [execOp, hx, Op.unary])
end
theorem enter {P : Program} {f : FuncId} {fn : Func} {c : Code} {args : Array Value} {w : World} {R : Value → World → Prop} {n : Nat} (l : List Value) (hf : P.funcs[f]? = some fn) (hb : fn.body = some c) (hn : fn.ntmps = n)
    (hl : args.toList ++ List.replicate (n - args.toList.length) undef = l) (h : c.wp P (bodyPost P fn (fun e w' => ∃ v, e = .returned v ∧ Ext w w' ∧ R v w')) (fr l) w) : Gives P f args w R := by
  refine calls_of_wp hf hb ?_
  have : args ++ Array.replicate (fn.ntmps - args.size) undef = l.toArray := by
    rw [← Array.toList_inj, ← hl, hn]; simp
  rw [this]; exact h
section
variable {P : Program} {fn : Func} {l : List Value} {w w0 : World} {R : Value → World → Prop}
theorem ret_val {v : Value} (hr : (results fn (fr l).tmps).run P w = .ok v w) (hx : Ext w0 w) (h : R v w) :
    bodyPost P fn (fun e w' => ∃ v, e = .returned v ∧ Ext w0 w' ∧ R v w') .ret (fr l) w := ⟨rfl, v, hr, v, rfl, hx, h⟩
theorem res_T {t : Tmp} {u : Value} (h : fn.results = #[.tmp t]) (ht : (fr l).tmps.getD t undef = u) : (results fn (fr l).tmps).run P w = .ok u w := by
  simp [results, h]; simpa using ht
theorem res_TT {t t' : Tmp} {u u' : Value} (h : fn.results = #[.tmp t, .tmp t']) (ht : (fr l).tmps.getD t undef = u) (ht' : (fr l).tmps.getD t' undef = u') : (results fn (fr l).tmps).run P w = .ok (.tuple #[u, u']) w := by
  rw [results_tmp2 h, ht, ht']
theorem res_C {t : Tmp} {y : TypeId} {u : Value} {p : Addr} (h : fn.results = #[.cell t y]) (ht : (fr l).tmps.getD t undef = .pointer (some p)) (hl : (loadVar y p).run P w = .ok u w) : (results fn (fr l).tmps).run P w = .ok u w := by
  simp only [Array.getD_eq_getD_getElem?] at ht
  simp [results, h, ht, asAddr, hl]
theorem res_CT {t t' : Tmp} {y : TypeId} {u u' : Value} {p : Addr} (h : fn.results = #[.cell t y, .tmp t']) (ht : (fr l).tmps.getD t undef = .pointer (some p)) (hl : (loadVar y p).run P w = .ok u w)
    (ht' : (fr l).tmps.getD t' undef = u') : (results fn (fr l).tmps).run P w = .ok (.tuple #[u, u']) w := by
  simp only [Array.getD_eq_getD_getElem?] at ht ht'
  simp [results, h, ht, ht', asAddr, hl]
end
theorem loop_ghost {σ : Type} {P : Program} {c : Code} {Q : Exit → Act → World → Prop} {a : Act} {w : World} (I : σ → Act → World → Prop) (μ : σ → Nat) (s0 : σ) (h0 : I s0 a w)
    (round : ∀ s a w, I s a w → c.wp P (Exit.then (fun a' w' => ∃ s', I s' a' w' ∧ μ s' < μ s) Q) a w) : (Code.loop c).wp P Q a w := by
  intro b k cs
  have key : ∀ n s a w, μ s = n → I s a w → ∃ e a' w', Q e a' w' ∧ Arrives P (lone (b.at a (.code c :: .inLoop c :: k)) cs w) b k cs e a' w' := by
    intro n
    induction n using Nat.strongRecOn with
    | _ n ih =>
      intro s a w hn hI
      obtain ⟨e, a₁, w₁, hq, harr⟩ := round s a w hI b (.inLoop c :: k) cs
      cases e with
      | normal =>
        obtain ⟨s₁, hI₁, hlt⟩ := hq
        obtain ⟨e₂, a₂, w₂, hq₂, harr₂⟩ := ih (μ s₁) (hn ▸ hlt) s₁ a₁ w₁ rfl hI₁
        exact ⟨e₂, a₂, w₂, hq₂, .of_steps (Steps.trans harr (.one step_inLoop)) harr₂⟩
      | exit id => exact ⟨_, a₁, w₁, hq, .pass (x := .inLoop c) rfl (fun _ _ => .inl (by simp)) harr⟩
      | goto l => exact ⟨_, a₁, w₁, hq, .pass (x := .inLoop c) rfl (fun _ _ => .inl (by simp)) harr⟩
      | ret => exact ⟨_, a₁, w₁, hq, .pass (x := .inLoop c) rfl (fun _ _ => .inl (by simp)) harr⟩
      | panic ch => exact ⟨_, a₁, w₁, hq, .pass (x := .inLoop c) rfl (fun _ _ => .inl (by simp)) harr⟩
      | outgrown => exact ⟨_, a₁, w₁, hq, .pass (x := .inLoop c) rfl (fun _ _ => .inl (by simp)) harr⟩
  obtain ⟨e, a', w', hq, harr⟩ := key _ s0 a w rfl h0
  exact ⟨e, a', w', hq, .of_steps (.one step_loop) harr⟩
end Go.Proofs.Ytjopopmipdakkaa
