/- what the laws' arguments read as -/
import Derived.Test.YtbbidfadenmmjaaTrod
import Derived.Test.YtbbidfadenmmjaaTy
namespace Go.Proofs.Ytbbidfadenmmjaa
open Go Go.RowKit
set_option maxRecDepth 100000
set_option linter.unusedVariables false
theorem rd24 : Rd RF Try.prog 24 := Rd.f32 Try.underlying24
theorem rd43 : Rd RV3 Try.prog 43 := fun enc w base spare held n cs x hx => by
  obtain ⟨hl, hf⟩ := rd_fields Try.underlying43 hx
  rw [show Try.prog.cellsOf 43 = 3 by kernel_rfl] at hl
  obtain ⟨X0, h0⟩ := hf _ _ 0 0 24 1 rfl (by kernel_rfl) rd24
  obtain ⟨r1, q0, e2⟩ := h0
  obtain ⟨X1, h1⟩ := hf _ _ 1 1 24 1 rfl (by kernel_rfl) rd24
  obtain ⟨r3, q1, e4⟩ := h1
  obtain ⟨X2, h2⟩ := hf _ _ 2 2 24 1 rfl (by kernel_rfl) rd24
  obtain ⟨r5, q2, e6⟩ := h2
  refine ⟨⟨X0, X1, X2⟩, r1, r3, r5, ?_, e2, e4, e6⟩
  have g : cs.take 3 = cs := List.take_of_length_le (by omega)
  rw [← g]
  rw [take_split (a := 2) (b := 1) (n := 3) rfl, q2]
  rw [take_split (a := 1) (b := 1) (n := 2) rfl, q1]
  rw [← List.drop_zero (l := cs), q0]
  rfl
theorem rd22 : Rd (RS RV3 3) Try.prog 22 := Rd.slice Try.underlying22 rd43 (by kernel_rfl) (by decide)
theorem rd37 : Rd RRg Try.prog 37 := fun enc w base spare held n cs x hx => by
  obtain ⟨hl, hf⟩ := rd_fields Try.underlying37 hx
  rw [show Try.prog.cellsOf 37 = 2 by kernel_rfl] at hl
  obtain ⟨X0, h0⟩ := hf _ _ 0 0 24 1 rfl (by kernel_rfl) rd24
  obtain ⟨r1, q0, e2⟩ := h0
  obtain ⟨X1, h1⟩ := hf _ _ 1 1 24 1 rfl (by kernel_rfl) rd24
  obtain ⟨r3, q1, e4⟩ := h1
  refine ⟨⟨X0, X1⟩, r1, r3, ?_, e2, e4⟩
  have g : cs.take 2 = cs := List.take_of_length_le (by omega)
  rw [← g]
  rw [take_split (a := 1) (b := 1) (n := 2) rfl, q1]
  rw [← List.drop_zero (l := cs), q0]
  rfl
theorem rd2 : Rd RI Try.prog 2 := Rd.i64 Try.underlying2
theorem rd45 : Rd RCamT Try.prog 45 := fun enc w base spare held n cs x hx => by
  obtain ⟨hl, hf⟩ := rd_fields Try.underlying45 hx
  rw [show Try.prog.cellsOf 45 = 9 by kernel_rfl] at hl
  obtain ⟨X0, h0⟩ := hf _ _ 0 0 43 3 rfl (by kernel_rfl) rd43
  obtain ⟨r1, r3, r5, q0, e2, e4, e6⟩ := h0
  obtain ⟨X1, h1⟩ := hf _ _ 1 3 43 3 rfl (by kernel_rfl) rd43
  obtain ⟨r7, r9, r11, q1, e8, e10, e12⟩ := h1
  obtain ⟨X2, h2⟩ := hf _ _ 2 6 24 1 rfl (by kernel_rfl) rd24
  obtain ⟨r13, q2, e14⟩ := h2
  obtain ⟨X3, h3⟩ := hf _ _ 3 7 2 1 rfl (by kernel_rfl) rd2
  have q3 := h3
  obtain ⟨X4, h4⟩ := hf _ _ 4 8 2 1 rfl (by kernel_rfl) rd2
  have q4 := h4
  refine ⟨⟨X0, X1, X2, X3, X4⟩, r1, r3, r5, r7, r9, r11, r13, ?_, e2, e4, e6, e8, e10, e12, e14⟩
  have g : cs.take 9 = cs := List.take_of_length_le (by omega)
  rw [← g]
  rw [take_split (a := 8) (b := 1) (n := 9) rfl, q4]
  rw [take_split (a := 7) (b := 1) (n := 8) rfl, q3]
  rw [take_split (a := 6) (b := 1) (n := 7) rfl, q2]
  rw [take_split (a := 3) (b := 3) (n := 6) rfl, q1]
  rw [← List.drop_zero (l := cs), q0]
  rfl
theorem rd52 : Rd RTileT Try.prog 52 := fun enc w base spare held n cs x hx => by
  obtain ⟨hl, hf⟩ := rd_fields Try.underlying52 hx
  rw [show Try.prog.cellsOf 52 = 4 by kernel_rfl] at hl
  obtain ⟨X0, h0⟩ := hf _ _ 0 0 2 1 rfl (by kernel_rfl) rd2
  have q0 := h0
  obtain ⟨X1, h1⟩ := hf _ _ 1 1 2 1 rfl (by kernel_rfl) rd2
  have q1 := h1
  obtain ⟨X2, h2⟩ := hf _ _ 2 2 2 1 rfl (by kernel_rfl) rd2
  have q2 := h2
  obtain ⟨X3, h3⟩ := hf _ _ 3 3 2 1 rfl (by kernel_rfl) rd2
  have q3 := h3
  refine ⟨⟨X0, X1, X2, X3⟩, ?_⟩
  have g : cs.take 4 = cs := List.take_of_length_le (by omega)
  rw [← g]
  rw [take_split (a := 3) (b := 1) (n := 4) rfl, q3]
  rw [take_split (a := 2) (b := 1) (n := 3) rfl, q2]
  rw [take_split (a := 1) (b := 1) (n := 2) rfl, q1]
  rw [← List.drop_zero (l := cs), q0]
  rfl
theorem rd75 : Rd (RS RF 1) Try.prog 75 := Rd.slice Try.underlying75 rd24 (by kernel_rfl) (by decide)
end Go.Proofs.Ytbbidfadenmmjaa
