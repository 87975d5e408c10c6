/- append of zeros onto nothing; a slice cut to nothing: room for what is appended later -/
import Derived.Test.YtoblnfkpjgghiaaOwN
import Derived.Deep.AppendSrc
namespace Go.Proofs.Ytoblnfkpjgghiaa
open Go Go.RowKit

section
variable {P : Program} {a : Act} {w : World} {dst : Option Tmp} {ty : TypeId} {pos : String} {af : Array Edge} {g : Option (Nat × Bool)}
theorem run_append_make {t tx e n : Nat} {k : IntKind} {i : TypeInfo} {z : Value} (ht : P.underlying t = some (.slice e)) (htx : P.underlying tx = some (.int k)) (hi : P.info? e = some i) (hz : i.zero = some z) (h0 : 0 < n) (hn : n ≤ 1000000000) (hb : i.bytes ≤ 1000) :
    (Builtin.append_ #[t, tx] ty #[.slice none 0 0, .int .i64 n]).run P w = .ok (.slice (some ⟨w.heap.size, 0, none⟩) n (grownCap w n 0 e)) (w.drew.alloc (.cells (((if n * i.size = 0 then #[] else Builtin.zeroCells z.cells n)) ++ Builtin.zeroCells z.cells (grownCap w n 0 e - n)) e)) := by
  have hw : IntKind.i64.wrap (n : Int) = (n : Int) := in_i64 (by omega) (by omega)
  have h1 : ¬ ((n : Int) < 0) := by omega
  have h2 : ¬ ((n : Int) * (i.bytes : Int) > 281474976710656) := by
    have : (n : Int) * (i.bytes : Int) ≤ 1000000000 * 1000 := Int.mul_le_mul (by omega) (by omega) (by omega) (by omega)
    omega
  have h4 : ¬ (9223372036854775807 < (n : Int)) := by omega
  have hnc : Builtin.nextslicecap n 0 = n := by unfold Builtin.nextslicecap; rw [if_pos (by omega)]
  have h5 : ¬ (281474976710656 < n * i.bytes) := by
    have := Nat.mul_le_mul hn hb; omega
  have h2' : ¬ (281474976710656 < (n : Int) * (i.bytes : Int)) := by omega
  have h6 : n ≠ 0 := by omega
  by_cases hs : n * i.size = 0
  · simp [Builtin.append_, run_underlying ht, run_underlying htx, sizeOf, typeInfo, zeroValue, hi, hz, asInt, asIntOf, hw, h1, h2', h4, hnc, h5, h6, hs, Question.forced, Builtin.firstCells, newRow, grownCap]
  · simp [Builtin.append_, run_underlying ht, run_underlying htx, sizeOf, typeInfo, zeroValue, hi, hz, asInt, asIntOf, hw, h1, h2', h4, hnc, h5, h6, hs, Question.forced, Builtin.firstCells, newRow, grownCap]
theorem does_appendMake {α : Type} {R : Rel α} {k t tx e n : Nat} {kk : IntKind} {z : Value} {x y : Operand} (ht : P.underlying t = some (.slice e)) (htx : P.underlying tx = some (.int kk)) (hi : ∃ i, P.info? e = some i ∧ i.zero = some z ∧ i.size = k ∧ i.bytes ≤ 1000) (hz : z.cells.size = k)
    (hx : a.eval x = .slice none 0 0) (hy : a.eval y = .int .i64 n) (h0 : 0 < n) (hn : n ≤ 1000000000) :
    does P ⟨dst, .call { callee := .builtin .append, args := #[x, y], argTypes := #[t, tx] }, ty, pos, af, g⟩ a w (fun v w' => ∃ g c, v = .slice (some ⟨g, 0, none⟩) n c ∧ w.heap.size ≤ g ∧ 0 < c ∧ Own R k e g w'.heap.size w' (.slice (some ⟨g, 0, none⟩) 0 c) [] ∧ Ext w w') := by
  obtain ⟨i, hi, hz', hs, hb⟩ := hi
  have hr := run_append_make (P := P) (w := w) (ty := ty) ht htx hi hz' h0 hn hb
  have hge := grownCap_ge w n 0 e
  have hcm : grownCap w n 0 e ≤ maxLen := grownCap_le_maxLen w n 0 e (by simp only [maxLen]; omega)
  refine (does_run (u := .slice (some ⟨w.heap.size, 0, none⟩) n (grownCap w n 0 e)) (w' := w.drew.alloc (.cells (((if n * i.size = 0 then #[] else Builtin.zeroCells z.cells n)) ++ Builtin.zeroCells z.cells (grownCap w n 0 e - n)) e)) ?_).mono fun v w' ⟨h1, h2⟩ => ?_
  · unfold execOp
    simp only [resolve, invoke, builtin, Sem.run_bind, Sem.run_pure, Result.andThen_ok, List.map_toArray, List.map_cons, List.map_nil, hx, hy, hr]
  · subst h1 h2
    refine ⟨w.heap.size, _, rfl, Nat.le_refl _, by omega, ⟨[], ⟨by simp, .inr ⟨w.heap.size, _, _, rfl, Nat.zero_le _, heap_alloc_new w.drew _, Nat.zero_le _, hcm, ?_, by simp⟩⟩, fun g hg => ?_, by simp⟩, (Ext.draw w).gr (Ext.alloc w.drew _)⟩
    · rw [Array.size_append, size_zeroCells]
      split
      · rename_i h
        have : i.size = 0 := by
          rcases Nat.mul_eq_zero.1 h with h | h
          · omega
          · exact h
        rw [hz, ← hs, this]; simp
      · rw [size_zeroCells, hz, ← Nat.add_mul]
        congr 1; omega
    · simp [Value.ownBlock] at hg; exact .inl hg.symm
theorem does_appendMake' {α : Type} {R : Rel α} {k t tx e : Nat} {m : Int} {kk : IntKind} {z : Value} {x y : Operand} (ht : P.underlying t = some (.slice e)) (htx : P.underlying tx = some (.int kk)) (hi : ∃ i, P.info? e = some i ∧ i.zero = some z ∧ i.size = k ∧ i.bytes ≤ 1000) (hz : z.cells.size = k)
    (hx : a.eval x = .slice none 0 0) (hy : a.eval y = .int .i64 m) (h0 : 0 < m) (hn : m ≤ 1000000000) :
    does P ⟨dst, .call { callee := .builtin .append, args := #[x, y], argTypes := #[t, tx] }, ty, pos, af, g⟩ a w (fun v w' => ∃ g c, v = .slice (some ⟨g, 0, none⟩) m.toNat c ∧ w.heap.size ≤ g ∧ 0 < c ∧ Own R k e g w'.heap.size w' (.slice (some ⟨g, 0, none⟩) 0 c) [] ∧ Ext w w') :=
  does_appendMake ht htx hi hz hx (hy.trans (by rw [Int.toNat_of_nonneg (by omega)])) (by omega) (by omega)
theorem does_cap {t : TypeId} {x : Operand} {p : Option Addr} {n c : Nat} (ht : P.underlying t = some (.slice (P.elem t))) (hx : a.eval x = .slice p n c) :
    does P ⟨dst, .call ⟨.builtin .cap, #[x], #[t]⟩, ty, pos, af, g⟩ a w (Is (.int .i64 c) w) := does_run (by
  have := run_cap_slice (P := P) w t ty p n c ht
  simp [execOp, resolve, hx, invoke, builtin, this, goInt])
theorem does_slice0n {k t : Nat} {x y : Operand} (ht : P.underlying t = some (.slice (P.elem t))) (hS : ∀ w, (sizeOf (P.elem t)).run P w = .ok k w) (hx : a.eval x = .slice none 0 0) (hy : a.eval y = .int .i64 0) :
    does P ⟨dst, .slice t x none (some y) none, ty, pos, af, g⟩ a w (Is (.slice none 0 0) w) := by
  have hr := run_sliceTo (P := P) (w := w) (p := none) (n := 0) (c := 0) (h := 0) ht hS (by omega) (by omega)
  exact does_run (by simp [execOp, hx, hy, hr, Go.sliced])
theorem does_slice0o {k t b n c : Nat} {x y : Operand} (ht : P.underlying t = some (.slice (P.elem t))) (hS : ∀ w, (sizeOf (P.elem t)).run P w = .ok k w) (hx : a.eval x = .slice (some ⟨b, 0, none⟩) n c) (hy : a.eval y = .int .i64 0) (hc : 0 < c) :
    does P ⟨dst, .slice t x none (some y) none, ty, pos, af, g⟩ a w (Is (.slice (some ⟨b, 0, none⟩) 0 c) w) := by
  have hr := run_sliceTo (P := P) (w := w) (p := some ⟨b, 0, none⟩) (n := n) (c := c) (h := 0) ht hS (by omega) (by omega)
  have e : Go.sliced (some ⟨b, 0, none⟩) 0 (0 : Int).toNat c k = .slice (some ⟨b, 0, none⟩) 0 c := by
    have ha : (⟨b, 0, none⟩ : Addr).add (0 * k) = ⟨b, 0 + 0 * k, none⟩ := Addr.add_lit b 0 _
    unfold Go.sliced
    rw [if_neg (by omega), Option.map_some, ha]
    simp
  rw [e] at hr
  exact does_run (by simp [execOp, hx, hy, hr])
end
end Go.Proofs.Ytoblnfkpjgghiaa
