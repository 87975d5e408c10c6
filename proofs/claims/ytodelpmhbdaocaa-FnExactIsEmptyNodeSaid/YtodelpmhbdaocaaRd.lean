/- what the laws' arguments read as -/
import Derived.Test.YtodelpmhbdaocaaTrod
import Derived.Test.YtodelpmhbdaocaaTy
import Derived.Test.YtodelpmhbdaocaaBit
namespace Go.Proofs.Ytodelpmhbdaocaa
open Go Go.RowKit
set_option maxRecDepth 100000
set_option linter.unusedVariables false
theorem rd2 : Rd RI Try.prog 2 := Rd.i64 Try.underlying2
theorem rd59 : Rd RF Try.prog 59 := Rd.f32 Try.underlying59
theorem rd32 : Rd (RS RF 1) Try.prog 32 := Rd.slice Try.underlying32 rd59 (by kernel_rfl) (by decide)
theorem rd34 : Rd RNodeT Try.prog 34 := fun enc w base spare held n cs x hx => by
  obtain ⟨hl, hf⟩ := rd_fields Try.underlying34 hx
  rw [show Try.prog.cellsOf 34 = 4 by kernel_rfl] at hl
  obtain ⟨X0, h0⟩ := hf _ _ 0 0 2 1 rfl (by kernel_rfl) rd2
  have q0 := h0
  obtain ⟨X1, h1⟩ := hf _ _ 1 1 2 1 rfl (by kernel_rfl) rd2
  have q1 := h1
  obtain ⟨X2, h2⟩ := hf _ _ 2 2 2 1 rfl (by kernel_rfl) rd2
  have q2 := h2
  obtain ⟨X3, h3⟩ := hf _ _ 3 3 32 1 rfl (by kernel_rfl) rd32
  obtain ⟨y1, q3, s2⟩ := h3
  refine ⟨⟨X0, X1, X2, X3⟩, y1, ?_, s2⟩
  have g : cs.take 4 = cs := List.take_of_length_le (by omega)
  rw [← g]
  rw [take_split (a := 3) (b := 1) (n := 4) rfl, q3]
  rw [take_split (a := 2) (b := 1) (n := 3) rfl, q2]
  rw [take_split (a := 1) (b := 1) (n := 2) rfl, q1]
  rw [← List.drop_zero (l := cs), q0]
  rfl
theorem rd57 : Rd RStepT Try.prog 57 := fun enc w base spare held n cs x hx => by
  obtain ⟨hl, hf⟩ := rd_fields Try.underlying57 hx
  rw [show Try.prog.cellsOf 57 = 8 by kernel_rfl] at hl
  obtain ⟨X0, h0⟩ := hf _ _ 0 0 2 1 rfl (by kernel_rfl) rd2
  have q0 := h0
  obtain ⟨X1, h1⟩ := hf _ _ 1 1 2 1 rfl (by kernel_rfl) rd2
  have q1 := h1
  obtain ⟨X2, h2⟩ := hf _ _ 2 2 2 1 rfl (by kernel_rfl) rd2
  have q2 := h2
  obtain ⟨X3, h3⟩ := hf _ _ 3 3 2 1 rfl (by kernel_rfl) rd2
  have q3 := h3
  obtain ⟨X4, h4⟩ := hf _ _ 4 4 34 4 rfl (by kernel_rfl) rd34
  obtain ⟨y1, q4, s2⟩ := h4
  refine ⟨⟨X0, X1, X2, X3, X4⟩, y1, ?_, s2⟩
  have g : cs.take 8 = cs := List.take_of_length_le (by omega)
  rw [← g]
  rw [take_split (a := 4) (b := 4) (n := 8) rfl, q4]
  rw [take_split (a := 3) (b := 1) (n := 4) rfl, q3]
  rw [take_split (a := 2) (b := 1) (n := 3) rfl, q2]
  rw [take_split (a := 1) (b := 1) (n := 2) rfl, q1]
  rw [← List.drop_zero (l := cs), q0]
  rfl
theorem rd22 : Rd (RS RStepT 8) Try.prog 22 := Rd.slice Try.underlying22 rd57 (by kernel_rfl) (by decide)
theorem rd24 : Rd RProgT Try.prog 24 := fun enc w base spare held n cs x hx => by
  obtain ⟨hl, hf⟩ := rd_fields Try.underlying24 hx
  rw [show Try.prog.cellsOf 24 = 3 by kernel_rfl] at hl
  obtain ⟨X0, h0⟩ := hf _ _ 0 0 2 1 rfl (by kernel_rfl) rd2
  have q0 := h0
  obtain ⟨X1, h1⟩ := hf _ _ 1 1 2 1 rfl (by kernel_rfl) rd2
  have q1 := h1
  obtain ⟨X2, h2⟩ := hf _ _ 2 2 22 1 rfl (by kernel_rfl) rd22
  obtain ⟨y1, q2, s2⟩ := h2
  refine ⟨⟨X0, X1, X2⟩, y1, ?_, s2⟩
  have g : cs.take 3 = cs := List.take_of_length_le (by omega)
  rw [← g]
  rw [take_split (a := 2) (b := 1) (n := 3) rfl, q2]
  rw [take_split (a := 1) (b := 1) (n := 2) rfl, q1]
  rw [← List.drop_zero (l := cs), q0]
  rfl
theorem rdb59 : Rd (RB bdF RF) Try.prog 59 := Rd.f32b Try.underlying59
theorem rdb32 : Rd (RB (bdL bdF) (RS RF 1)) Try.prog 32 := Rd.sliceb Try.underlying32 rdb59 (by kernel_rfl) (by decide)
theorem rdb34 : Rd (RB bdN RNodeT) Try.prog 34 := fun enc w base spare held n cs x hx => by
  obtain ⟨hl, hf⟩ := rd_fields Try.underlying34 hx
  rw [show Try.prog.cellsOf 34 = 4 by kernel_rfl] at hl
  obtain ⟨X0, h0⟩ := hf _ _ 0 0 2 1 rfl (by kernel_rfl) rd2
  have q0 := h0
  obtain ⟨X1, h1⟩ := hf _ _ 1 1 2 1 rfl (by kernel_rfl) rd2
  have q1 := h1
  obtain ⟨X2, h2⟩ := hf _ _ 2 2 2 1 rfl (by kernel_rfl) rd2
  have q2 := h2
  obtain ⟨X3, h3, hb3⟩ := hf _ _ 3 3 32 1 rfl (by kernel_rfl) rdb32
  obtain ⟨y1, q3, s2⟩ := h3
  refine ⟨⟨X0, X1, X2, X3⟩, ⟨y1, ?_, s2⟩, hb3⟩
  have g : cs.take 4 = cs := List.take_of_length_le (by omega)
  rw [← g]
  rw [take_split (a := 3) (b := 1) (n := 4) rfl, q3]
  rw [take_split (a := 2) (b := 1) (n := 3) rfl, q2]
  rw [take_split (a := 1) (b := 1) (n := 2) rfl, q1]
  rw [← List.drop_zero (l := cs), q0]
  rfl
theorem rdb57 : Rd (RB bdS RStepT) Try.prog 57 := fun enc w base spare held n cs x hx => by
  obtain ⟨hl, hf⟩ := rd_fields Try.underlying57 hx
  rw [show Try.prog.cellsOf 57 = 8 by kernel_rfl] at hl
  obtain ⟨X0, h0⟩ := hf _ _ 0 0 2 1 rfl (by kernel_rfl) rd2
  have q0 := h0
  obtain ⟨X1, h1⟩ := hf _ _ 1 1 2 1 rfl (by kernel_rfl) rd2
  have q1 := h1
  obtain ⟨X2, h2⟩ := hf _ _ 2 2 2 1 rfl (by kernel_rfl) rd2
  have q2 := h2
  obtain ⟨X3, h3⟩ := hf _ _ 3 3 2 1 rfl (by kernel_rfl) rd2
  have q3 := h3
  obtain ⟨X4, h4, hb4⟩ := hf _ _ 4 4 34 4 rfl (by kernel_rfl) rdb34
  obtain ⟨y1, q4, s2⟩ := h4
  refine ⟨⟨X0, X1, X2, X3, X4⟩, ⟨y1, ?_, s2⟩, hb4⟩
  have g : cs.take 8 = cs := List.take_of_length_le (by omega)
  rw [← g]
  rw [take_split (a := 4) (b := 4) (n := 8) rfl, q4]
  rw [take_split (a := 3) (b := 1) (n := 4) rfl, q3]
  rw [take_split (a := 2) (b := 1) (n := 3) rfl, q2]
  rw [take_split (a := 1) (b := 1) (n := 2) rfl, q1]
  rw [← List.drop_zero (l := cs), q0]
  rfl
theorem rdb22 : Rd (RB (bdL bdS) (RS RStepT 8)) Try.prog 22 := Rd.sliceb Try.underlying22 rdb57 (by kernel_rfl) (by decide)
theorem rdb24 : Rd (RB bdP RProgT) Try.prog 24 := fun enc w base spare held n cs x hx => by
  obtain ⟨hl, hf⟩ := rd_fields Try.underlying24 hx
  rw [show Try.prog.cellsOf 24 = 3 by kernel_rfl] at hl
  obtain ⟨X0, h0⟩ := hf _ _ 0 0 2 1 rfl (by kernel_rfl) rd2
  have q0 := h0
  obtain ⟨X1, h1⟩ := hf _ _ 1 1 2 1 rfl (by kernel_rfl) rd2
  have q1 := h1
  obtain ⟨X2, h2, hb2⟩ := hf _ _ 2 2 22 1 rfl (by kernel_rfl) rdb22
  obtain ⟨y1, q2, s2⟩ := h2
  refine ⟨⟨X0, X1, X2⟩, ⟨y1, ?_, s2⟩, hb2⟩
  have g : cs.take 3 = cs := List.take_of_length_le (by omega)
  rw [← g]
  rw [take_split (a := 2) (b := 1) (n := 3) rfl, q2]
  rw [take_split (a := 1) (b := 1) (n := 2) rfl, q1]
  rw [← List.drop_zero (l := cs), q0]
  rfl
end Go.Proofs.Ytodelpmhbdaocaa
