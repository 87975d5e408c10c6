/- what the laws' arguments read as -/
import Derived.Test.YtiagimgdjngnfaaTrod
import Derived.Test.YtiagimgdjngnfaaTy
namespace Go.Proofs.Ytiagimgdjngnfaa
open Go Go.RowKit
set_option maxRecDepth 100000
set_option linter.unusedVariables false
theorem rd2 : Rd RI Try.prog 2 := Rd.i64 Try.underlying2
theorem rd38 : Rd RF Try.prog 38 := Rd.f32 Try.underlying38
theorem rd97 : Rd (RS RF 1) Try.prog 97 := Rd.slice Try.underlying97 rd38 (by kernel_rfl) (by decide)
theorem rd99 : Rd RNodeT Try.prog 99 := fun enc w base spare held n cs x hx => by
  obtain ⟨hl, hf⟩ := rd_fields Try.underlying99 hx
  rw [show Try.prog.cellsOf 99 = 4 by kernel_rfl] at hl
  obtain ⟨X0, h0⟩ := hf _ _ 0 0 2 1 rfl (by kernel_rfl) rd2
  have q0 := h0
  obtain ⟨X1, h1⟩ := hf _ _ 1 1 2 1 rfl (by kernel_rfl) rd2
  have q1 := h1
  obtain ⟨X2, h2⟩ := hf _ _ 2 2 2 1 rfl (by kernel_rfl) rd2
  have q2 := h2
  obtain ⟨X3, h3⟩ := hf _ _ 3 3 97 1 rfl (by kernel_rfl) rd97
  obtain ⟨y1, q3, s2⟩ := h3
  refine ⟨⟨X0, X1, X2, X3⟩, y1, ?_, s2⟩
  have g : cs.take 4 = cs := List.take_of_length_le (by omega)
  rw [← g]
  rw [take_split (a := 3) (b := 1) (n := 4) rfl, q3]
  rw [take_split (a := 2) (b := 1) (n := 3) rfl, q2]
  rw [take_split (a := 1) (b := 1) (n := 2) rfl, q1]
  rw [← List.drop_zero (l := cs), q0]
  all_goals rfl
theorem rd22 : Rd (RS RNodeT 4) Try.prog 22 := Rd.slice Try.underlying22 rd99 (by kernel_rfl) (by decide)
theorem rd24 : Rd RShapeT Try.prog 24 := fun enc w base spare held n cs x hx => by
  obtain ⟨hl, hf⟩ := rd_fields Try.underlying24 hx
  rw [show Try.prog.cellsOf 24 = 1 by kernel_rfl] at hl
  obtain ⟨X0, h0⟩ := hf _ _ 0 0 22 1 rfl (by kernel_rfl) rd22
  obtain ⟨y1, q0, s2⟩ := h0
  refine ⟨⟨X0⟩, y1, ?_, s2⟩
  have g : cs.take 1 = cs := List.take_of_length_le (by omega)
  rw [← g]
  rw [← List.drop_zero (l := cs), q0]
  all_goals rfl
end Go.Proofs.Ytiagimgdjngnfaa
