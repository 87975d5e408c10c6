/- what the laws' arguments read as -/
import Derived.Test.YtgmpdiehpimpnaaTrod
import Derived.Test.YtgmpdiehpimpnaaTy
namespace Go.Proofs.Ytgmpdiehpimpnaa
open Go Go.RowKit
set_option maxRecDepth 100000
set_option linter.unusedVariables false
theorem rd2 : Rd RI Try.prog 2 := Rd.i64 Try.underlying2
theorem rd62 : Rd RF Try.prog 62 := Rd.f32 Try.underlying62
theorem rd22 : Rd (RS RF 1) Try.prog 22 := Rd.slice Try.underlying22 rd62 (by kernel_rfl) (by decide)
theorem rd24 : Rd RNodeT Try.prog 24 := fun enc w base spare held n cs x hx => by
  obtain ⟨hl, hf⟩ := rd_fields Try.underlying24 hx
  rw [show Try.prog.cellsOf 24 = 4 by kernel_rfl] at hl
  obtain ⟨X0, h0⟩ := hf _ _ 0 0 2 1 rfl (by kernel_rfl) rd2
  have q0 := h0
  obtain ⟨X1, h1⟩ := hf _ _ 1 1 2 1 rfl (by kernel_rfl) rd2
  have q1 := h1
  obtain ⟨X2, h2⟩ := hf _ _ 2 2 2 1 rfl (by kernel_rfl) rd2
  have q2 := h2
  obtain ⟨X3, h3⟩ := hf _ _ 3 3 22 1 rfl (by kernel_rfl) rd22
  obtain ⟨y1, q3, s2⟩ := h3
  refine ⟨⟨X0, X1, X2, X3⟩, y1, ?_, s2⟩
  have g : cs.take 4 = cs := List.take_of_length_le (by omega)
  rw [← g]
  rw [take_split (a := 3) (b := 1) (n := 4) rfl, q3]
  rw [take_split (a := 2) (b := 1) (n := 3) rfl, q2]
  rw [take_split (a := 1) (b := 1) (n := 2) rfl, q1]
  rw [← List.drop_zero (l := cs), q0]
  rfl
theorem rd147 : Rd RStepT Try.prog 147 := fun enc w base spare held n cs x hx => by
  obtain ⟨hl, hf⟩ := rd_fields Try.underlying147 hx
  rw [show Try.prog.cellsOf 147 = 8 by kernel_rfl] at hl
  obtain ⟨X0, h0⟩ := hf _ _ 0 0 2 1 rfl (by kernel_rfl) rd2
  have q0 := h0
  obtain ⟨X1, h1⟩ := hf _ _ 1 1 2 1 rfl (by kernel_rfl) rd2
  have q1 := h1
  obtain ⟨X2, h2⟩ := hf _ _ 2 2 2 1 rfl (by kernel_rfl) rd2
  have q2 := h2
  obtain ⟨X3, h3⟩ := hf _ _ 3 3 2 1 rfl (by kernel_rfl) rd2
  have q3 := h3
  obtain ⟨X4, h4⟩ := hf _ _ 4 4 24 4 rfl (by kernel_rfl) rd24
  obtain ⟨y1, q4, s2⟩ := h4
  refine ⟨⟨X0, X1, X2, X3, X4⟩, y1, ?_, s2⟩
  have g : cs.take 8 = cs := List.take_of_length_le (by omega)
  rw [← g]
  rw [take_split (a := 4) (b := 4) (n := 8) rfl, q4]
  rw [take_split (a := 3) (b := 1) (n := 4) rfl, q3]
  rw [take_split (a := 2) (b := 1) (n := 3) rfl, q2]
  rw [take_split (a := 1) (b := 1) (n := 2) rfl, q1]
  rw [← List.drop_zero (l := cs), q0]
  rfl
theorem rd31 : Rd (RS RStepT 8) Try.prog 31 := Rd.slice Try.underlying31 rd147 (by kernel_rfl) (by decide)
theorem rd33 : Rd RProgT Try.prog 33 := fun enc w base spare held n cs x hx => by
  obtain ⟨hl, hf⟩ := rd_fields Try.underlying33 hx
  rw [show Try.prog.cellsOf 33 = 3 by kernel_rfl] at hl
  obtain ⟨X0, h0⟩ := hf _ _ 0 0 2 1 rfl (by kernel_rfl) rd2
  have q0 := h0
  obtain ⟨X1, h1⟩ := hf _ _ 1 1 2 1 rfl (by kernel_rfl) rd2
  have q1 := h1
  obtain ⟨X2, h2⟩ := hf _ _ 2 2 31 1 rfl (by kernel_rfl) rd31
  obtain ⟨y1, q2, s2⟩ := h2
  refine ⟨⟨X0, X1, X2⟩, y1, ?_, s2⟩
  have g : cs.take 3 = cs := List.take_of_length_le (by omega)
  rw [← g]
  rw [take_split (a := 2) (b := 1) (n := 3) rfl, q2]
  rw [take_split (a := 1) (b := 1) (n := 2) rfl, q1]
  rw [← List.drop_zero (l := cs), q0]
  rfl
end Go.Proofs.Ytgmpdiehpimpnaa
