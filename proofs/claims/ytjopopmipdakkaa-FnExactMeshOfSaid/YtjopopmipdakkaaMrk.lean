/- slices that a call writes: which blocks these are, and what lies in them afterwards -/
import Derived.Test.YtjopopmipdakkaaOwn
import Derived.Test.YtjopopmipdakkaaUni
import Derived.Laws.Small
namespace Go.Proofs.Ytjopopmipdakkaa
open Go Go.RowKit
def GivesK (L : List Nat) (P : Program) (f : FuncId) (args : Array Value) (w : World) (R : Value → World → Prop) : Prop :=
  Calls P f args w (fun e w' => ∃ v, e = .returned v ∧ KpL L w w' ∧ R v w')
theorem Gives.toK {L : List Nat} {P : Program} {f : FuncId} {args : Array Value} {w : World} {R : Value → World → Prop} (h : Gives P f args w R) : GivesK L P f args w R :=
  Calls.mono h fun _ _ ⟨v, he, hx, hv⟩ => ⟨v, he, KpL.of_ext hx, hv⟩
theorem GivesK.mono {L : List Nat} {P : Program} {f : FuncId} {args : Array Value} {w : World} {R R' : Value → World → Prop} (h : GivesK L P f args w R) (hr : ∀ v w', R v w' → R' v w') : GivesK L P f args w R' :=
  Calls.mono h fun _ _ ⟨v, he, hx, hv⟩ => ⟨v, he, hx, hr _ _ hv⟩
theorem enterK {P : Program} {f : FuncId} {fn : Func} {c : Code} {args : Array Value} {w : World} {L : List Nat} {R : Value → World → Prop} {n : Nat} (l : List Value) (hf : P.funcs[f]? = some fn) (hb : fn.body = some c) (hn : fn.ntmps = n)
    (hl : args.toList ++ List.replicate (n - args.toList.length) undef = l) (h : c.wp P (bodyPost P fn (fun e w' => ∃ v, e = .returned v ∧ KpL L w w' ∧ R v w')) (fr l) w) : GivesK L P f args w R := by
  refine calls_of_wp hf hb ?_
  have : args ++ Array.replicate (fn.ntmps - args.size) undef = l.toArray := by
    rw [← Array.toList_inj, ← hl, hn]; simp
  rw [this]; exact h
theorem ret_valK {P : Program} {fn : Func} {l : List Value} {w w0 : World} {L : List Nat} {R : Value → World → Prop} {v : Value} (hr : (results fn (fr l).tmps).run P w = .ok v w) (hx : KpL L w0 w) (h : R v w) :
    bodyPost P fn (fun e w' => ∃ v, e = .returned v ∧ KpL L w0 w' ∧ R v w') .ret (fr l) w := ⟨rfl, v, hr, v, rfl, hx, h⟩
section
variable {P : Program} {a : Act} {w : World} {dst : Option Tmp} {ty : TypeId} {pos : String} {af : Array Edge} {g : Option (Nat × Bool)}
theorem does_callK {f : FuncId} {L : List Nat} {xs : Array Operand} {ats : Array TypeId} {args : Array Value} {R : Value → World → Prop} (hf : ∀ args w, (callFunc f args).run P w = .ok (.enter f args) w)
    (hx : xs.toList.map a.eval = args.toList) (h : GivesK L P f args w R) : does P ⟨dst, .call ⟨.value (.func f), xs, ats⟩, ty, pos, af, g⟩ a w (fun v w' => KpL L w w' ∧ R v w') := by
  have hx : xs.map a.eval = args := by rw [← Array.toList_inj, Array.toList_map, hx]
  unfold does
  rw [execOp_call_go]
  simp only [Array.empty_append, Array.append_empty, hx, hf]
  exact h
end
def WL (k B : Nat) (w : World) (L : List Nat) (v : Value) (n : Nat) : Prop :=
  (∀ c ∈ L, B ≤ c ∧ c < w.heap.size) ∧ ((v = .slice none 0 0 ∧ n = 0 ∧ L = []) ∨ ∃ g cap cs, L = [g] ∧ v = .slice (some ⟨g, 0, none⟩) n cap ∧ Blk w g cs ∧ n * k ≤ cs.length ∧ n ≤ cap)
theorem WL.same {k B : Nat} {w u : World} {L : List Nat} {v : Value} {n : Nat} (h : WL k B w L v n) (x : Same B w u) : WL k B u L v n := by
  obtain ⟨hL, h⟩ := h
  refine ⟨fun c hc => ⟨(hL c hc).1, Nat.lt_of_lt_of_le (hL c hc).2 x.size⟩, ?_⟩
  rcases h with h | ⟨g, cap, cs, rfl, hv, hB, hn, hc⟩
  · exact .inl h
  · exact .inr ⟨g, cap, cs, rfl, hv, hB.hang (hL g (by simp)).1 u x, hn, hc⟩
theorem WL.le {k B C : Nat} {w : World} {L : List Nat} {v : Value} {n : Nat} (h : WL k C w L v n) (hB : B ≤ C) : WL k B w L v n :=
  ⟨fun c hc => ⟨Nat.le_trans hB (h.1 c hc).1, (h.1 c hc).2⟩, h.2⟩
theorem WL.nil (k B : Nat) (w : World) : WL k B w [] (.slice none 0 0) 0 := ⟨(fun _ hc => nomatch hc), .inl ⟨rfl, rfl, rfl⟩⟩
theorem WL.cast {k B m n : Nat} {w : World} {L : List Nat} {v : Value} (h : WL k B w L v m) (e : m = n) : WL k B w L v n := e ▸ h
theorem WL.one {k B g n cap : Nat} {w : World} {cs : List Value} (hb : Blk w g cs) (hB : B ≤ g) (hn : n * k ≤ cs.length) (hc : n ≤ cap) : WL k B w [g] (.slice (some ⟨g, 0, none⟩) n cap) n :=
  ⟨fun c hc => by rw [List.mem_singleton] at hc; subst hc; exact ⟨hB, hb.lt⟩, .inr ⟨g, cap, cs, rfl, rfl, hb, hn, hc⟩⟩
theorem Fill.wl {α : Type} {R : Rel α} {k B b n j : Nat} {w : World} {xs : List α} (h : Fill R k w b n xs j) (hB : B ≤ b) : WL k B w [b] (.slice (some ⟨b, 0, none⟩) n n) n := by
  obtain ⟨cs, hb, hl, _⟩ := h
  exact WL.one hb hB (by omega) (Nat.le_refl _)
def mkc (fl : Bool) (n : Int) : Value := if fl then .float .f32 (FloatKind.f32.nearest n) else .int .i64 n
def Mk (fl : Bool) (k : Int) (w : World) (b N j : Nat) : Prop := ∃ cs, Blk w b cs ∧ cs.length = N ∧ ∀ i, i < j → cs[i]? = some (mkc fl (k + i))
theorem Mk.zero {fl : Bool} {k : Int} {w : World} {b N : Nat} {cs : List Value} (hb : Blk w b cs) (hl : cs.length = N) : Mk fl k w b N 0 := ⟨cs, hb, hl, fun i hi => by omega⟩
theorem Mk.cast {fl : Bool} {k : Int} {w : World} {b N i j : Nat} (h : Mk fl k w b N i) (e : i = j) : Mk fl k w b N j := e ▸ h
theorem mkc_i {a b : Int} (h : a = b) : Value.int .i64 a = mkc false b := by rw [h]; rfl
theorem mkc_f {a b : Int} (h : a = b) : Value.float .f32 (FloatKind.f32.nearest a) = mkc true b := by rw [h]; rfl
theorem does_mark {P : Program} {a : Act} {w : World} {dst : Option Tmp} {ty : TypeId} {pos : String} {af : Array Edge} {g : Option (Nat × Bool)} {fl : Bool} {k : Int} {t : TypeId} {x y : Operand} {b off N j : Nat} {u : Value}
    (hx : a.eval x = .pointer (some ⟨b, off, none⟩)) (hy : a.eval y = u) (hS : ∀ w, (sizeOf t).run P w = .ok 1 w) (hu : u = mkc fl (k + j)) (ho : off = j) (hj : j < N) (h : Mk fl k w b N j) :
    does P ⟨dst, .store t x y, ty, pos, af, g⟩ a w (fun v w' => v = undef ∧ Wr b w w' ∧ Mk fl k w' b N (j + 1)) := by
  subst ho
  obtain ⟨cs, hb, hl, hc⟩ := h
  have h1 : u.cells.toList = [u] := by subst hu; unfold mkc; split <;> rfl
  have h1' : u.cells.size = 1 := by rw [← Array.length_toList, h1]; rfl
  refine (does_store hx hy hS h1' hb (by omega) (by rw [h1]; subst hu; unfold mkc; split <;> rfl)).mono fun v w' ⟨hv, hw, hB⟩ => ⟨hv, hw, _, hB, ?_, fun i hi => ?_⟩
  · rw [h1]; simp only [splice, List.length_append, List.length_take, List.length_drop, List.length_cons, List.length_nil]; omega
  · rw [h1]
    simp only [splice, List.append_assoc]
    rcases Nat.lt_or_ge i off with h | h
    · rw [List.getElem?_append_left (by simp; omega), List.getElem?_take, if_pos h]; exact hc i h
    · obtain rfl : i = off := by omega
      rw [List.getElem?_append_right (by simp; omega)]
      have : i - (cs.take i).length = 0 := by simp; omega
      rw [this, hu]; rfl
def mkL {α : Type} (f : Int → α) (nf : Nat) (k : Int) (n : Nat) : List α := (List.range n).map fun i => f (k + (i * nf : Nat))
theorem mkL_len {α : Type} (f : Int → α) (nf : Nat) (k : Int) (n : Nat) : (mkL f nf k n).length = n := by simp [mkL]
theorem mkL_at {α : Type} {f : Int → α} {nf : Nat} {k : Int} {L : List α} {i : Nat} {x : α} (h : L = mkL f nf k L.length) (hx : L[i]? = some x) : x = f (k + (i * nf : Nat)) := by
  have hl := (List.getElem?_eq_some_iff.1 hx).1
  have h2 : (mkL f nf k L.length)[i]? = some x := by rw [← h]; exact hx
  simp only [mkL, List.getElem?_map, List.getElem?_range hl, Option.map_some] at h2
  exact (Option.some.inj h2).symm
theorem mkL_eq {α : Type} {f : Int → α} {nf : Nat} {k : Int} {n : Nat} : mkL f nf k n = mkL f nf k (mkL f nf k n).length := by rw [mkL_len]
theorem Mk.hang {α : Type} {R : Rel α} {fl : Bool} {f : Int → α} {nf B : Nat} {k : Int} {w : World} {b N n cap : Nat} (h : Mk fl k w b N (n * nf)) (hB : B ≤ b) (hc : n ≤ cap) (hnf : 0 < nf) (hn : n ≤ 9223372036854775807)
    (hR : ∀ (u : World) (m : Int), R u (f m) ((List.range nf).map fun c : Nat => mkc fl (m + c))) : Hang B w (fun u => Sl R nf u (.slice (some ⟨b, 0, none⟩) n cap) (mkL f nf k n)) := fun u hu => by
  obtain ⟨cs, hb, hl, hcs⟩ := h
  refine ⟨by rw [mkL_len]; exact hn, _, cap, by rw [mkL_len], fun i x hi => ?_⟩
  have hlt : i < n := by have := (List.getElem?_eq_some_iff.1 hi).1; rwa [mkL_len] at this
  have hx := mkL_at (L := mkL f nf k n) mkL_eq hi
  refine ⟨b, 0, _, rfl, fun j v hj => ?_, hx ▸ hR u _, by simp, hnf, by omega⟩
  rw [List.getElem?_map] at hj
  have hjl : j < nf := by
    rcases Nat.lt_or_ge j nf with h | h
    · exact h
    · rw [List.getElem?_eq_none (by simpa using h)] at hj; cases hj
  rw [List.getElem?_range hjl] at hj
  have hij : i * nf + j < n * nf := Nat.lt_of_lt_of_le (by omega : i * nf + j < i * nf + nf) (by rw [← Nat.succ_mul]; exact Nat.mul_le_mul_right _ hlt)
  have h2 := hcs (i * nf + j) hij
  have h3 := (hb.hang hB u hu).cell (i * nf + j)
  rw [Nat.zero_add, h3, h2, ← Option.some.inj hj]
  congr 2; omega
theorem Sl_mk0 {α : Type} {R : Rel α} {f : Int → α} {nf : Nat} {k : Int} (u : World) : Sl R nf u (.slice none 0 0) (mkL f nf k 0) := Sl_nil R nf u
def cellN (cs : List Value) (i : Nat) : Value := (cs[i]?).getD undef
section
variable {P : Program} {a : Act} {w : World} {dst : Option Tmp} {ty : TypeId} {pos : String} {af : Array Edge} {g : Option (Nat × Bool)}
theorem does_min {t : TypeId} {x y : Operand} {p q : Int} {ds : TypeDesc} (_ht : P.underlying t = some ds) (hx : a.eval x = .int .i64 p) (hy : a.eval y = .int .i64 q) :
    does P ⟨dst, .call ⟨.builtin .min, #[x, y], #[t, t]⟩, ty, pos, af, g⟩ a w (Is (.int .i64 (min p q)) w) := does_run (by
  have h := run_min_int2 (P := P) (w := w) #[t, t] ty .i64 .i64 p q
  have e : (if q < p then q else p) = min p q := by split <;> omega
  rw [e] at h
  simp [execOp, resolve, hx, hy, invoke, builtin, h])
theorem does_max {t : TypeId} {x y : Operand} {p q : Int} {ds : TypeDesc} (_ht : P.underlying t = some ds) (hx : a.eval x = .int .i64 p) (hy : a.eval y = .int .i64 q) :
    does P ⟨dst, .call ⟨.builtin .max, #[x, y], #[t, t]⟩, ty, pos, af, g⟩ a w (Is (.int .i64 (max p q)) w) := does_run (by
  have h := run_max_int2 (P := P) (w := w) #[t, t] ty .i64 .i64 p q
  have e : (if q > p then q else p) = max p q := by split <;> omega
  rw [e] at h
  simp [execOp, resolve, hx, hy, invoke, builtin, h])
end
theorem isN_near (k : FloatKind) (n : Int) : isN k (k.nearest n) = false := isN_enc k rfl
def fI (m : Int) : Int := m
def fF (m : Int) : Nat := cf .f32 (FloatKind.f32.nearest m)
def fV (m : Int) : V3 := ⟨fF m, fF (m + 1), fF (m + 2)⟩
theorem rI (u : World) (m : Int) : RI u (fI m) ((List.range 1).map fun c : Nat => mkc false (m + c)) := by simp [RI, fI, mkc]
theorem rF (u : World) (m : Int) : RF u (fF m) ((List.range 1).map fun c : Nat => mkc true (m + c)) := ⟨FloatKind.f32.nearest m, by simp [mkc], rfl⟩
theorem rV (u : World) (m : Int) : RV3 u (fV m) ((List.range 3).map fun c : Nat => mkc true (m + c)) := ⟨FloatKind.f32.nearest m, FloatKind.f32.nearest (m + 1), FloatKind.f32.nearest (m + 2), by simp [mkc, List.range_succ], rfl, rfl, rfl⟩
theorem fF_self (m : Int) : fcmp .neq (ford .f32 (fF m) (fF m)) = false := by
  unfold fF
  rw [cf_of_num (isN_near _ _)]
  have h : (FloatKind.f32.decode (FloatKind.f32.nearest m)).isNaN = false := isN_near .f32 m
  simp only [fcmp, ford, bne_eq_false_iff_eq]
  exact ord_self h
end Go.Proofs.Ytjopopmipdakkaa
