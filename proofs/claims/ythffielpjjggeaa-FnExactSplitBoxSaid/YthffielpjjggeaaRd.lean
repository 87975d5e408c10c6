/- what the laws' arguments read as -/
import Derived.Test.YthffielpjjggeaaTrod
import Derived.Test.YthffielpjjggeaaTy
namespace Go.Proofs.Ythffielpjjggeaa
open Go Go.RowKit
set_option maxRecDepth 100000
set_option linter.unusedVariables false
theorem rd22 : Rd RF Try.prog 22 := Rd.f32 Try.underlying22
theorem rd24 : Rd RV3 Try.prog 24 := fun enc w base spare held n cs x hx => by
  obtain ⟨hl, hf⟩ := rd_fields Try.underlying24 hx
  rw [show Try.prog.cellsOf 24 = 3 by kernel_rfl] at hl
  obtain ⟨X0, h0⟩ := hf _ _ 0 0 22 1 rfl (by kernel_rfl) rd22
  obtain ⟨r1, q0, e2⟩ := h0
  obtain ⟨X1, h1⟩ := hf _ _ 1 1 22 1 rfl (by kernel_rfl) rd22
  obtain ⟨r3, q1, e4⟩ := h1
  obtain ⟨X2, h2⟩ := hf _ _ 2 2 22 1 rfl (by kernel_rfl) rd22
  obtain ⟨r5, q2, e6⟩ := h2
  refine ⟨⟨X0, X1, X2⟩, r1, r3, r5, ?_, e2, e4, e6⟩
  have g : cs.take 3 = cs := List.take_of_length_le (by omega)
  rw [← g]
  rw [take_split (a := 2) (b := 1) (n := 3) rfl, q2]
  rw [take_split (a := 1) (b := 1) (n := 2) rfl, q1]
  rw [← List.drop_zero (l := cs), q0]
  all_goals rfl
theorem rd26 : Rd RBx Try.prog 26 := fun enc w base spare held n cs x hx => by
  obtain ⟨hl, hf⟩ := rd_fields Try.underlying26 hx
  rw [show Try.prog.cellsOf 26 = 6 by kernel_rfl] at hl
  obtain ⟨X0, h0⟩ := hf _ _ 0 0 24 3 rfl (by kernel_rfl) rd24
  obtain ⟨r1, r3, r5, q0, e2, e4, e6⟩ := h0
  obtain ⟨X1, h1⟩ := hf _ _ 1 3 24 3 rfl (by kernel_rfl) rd24
  obtain ⟨r7, r9, r11, q1, e8, e10, e12⟩ := h1
  refine ⟨⟨X0, X1⟩, r1, r3, r5, r7, r9, r11, ?_, e2, e4, e6, e8, e10, e12⟩
  have g : cs.take 6 = cs := List.take_of_length_le (by omega)
  rw [← g]
  rw [take_split (a := 3) (b := 3) (n := 6) rfl, q1]
  rw [← List.drop_zero (l := cs), q0]
  all_goals rfl
end Go.Proofs.Ythffielpjjggeaa
