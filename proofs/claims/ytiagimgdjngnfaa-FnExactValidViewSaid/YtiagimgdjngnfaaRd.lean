/- what the laws' arguments read as -/
import Derived.Test.YtiagimgdjngnfaaTrod
import Derived.Test.YtiagimgdjngnfaaTy
namespace Go.Proofs.Ytiagimgdjngnfaa
open Go Go.RowKit
set_option maxRecDepth 100000
set_option linter.unusedVariables false
theorem rd2 : Rd RI Try.prog 2 := Rd.i64 Try.underlying2
theorem rd38 : Rd RF Try.prog 38 := Rd.f32 Try.underlying38
theorem rd97 : Rd (RS RF 1) Try.prog 97 := Rd.slice Try.underlying97 rd38 (by kernel_rfl) (by decide)
theorem rd99 : Rd RNodeT Try.prog 99 := fun enc w base spare held n cs x hx => by
  obtain ⟨hl, hf⟩ := rd_fields Try.underlying99 hx
  rw [show Try.prog.cellsOf 99 = 4 by kernel_rfl] at hl
  obtain ⟨X0, h0⟩ := hf _ _ 0 0 2 1 rfl (by kernel_rfl) rd2
  have q0 := h0
  obtain ⟨X1, h1⟩ := hf _ _ 1 1 2 1 rfl (by kernel_rfl) rd2
  have q1 := h1
  obtain ⟨X2, h2⟩ := hf _ _ 2 2 2 1 rfl (by kernel_rfl) rd2
  have q2 := h2
  obtain ⟨X3, h3⟩ := hf _ _ 3 3 97 1 rfl (by kernel_rfl) rd97
  obtain ⟨y1, q3, s2⟩ := h3
  refine ⟨⟨X0, X1, X2, X3⟩, y1, ?_, s2⟩
  have g : cs.take 4 = cs := List.take_of_length_le (by omega)
  rw [← g]
  rw [take_split (a := 3) (b := 1) (n := 4) rfl, q3]
  rw [take_split (a := 2) (b := 1) (n := 3) rfl, q2]
  rw [take_split (a := 1) (b := 1) (n := 2) rfl, q1]
  rw [← List.drop_zero (l := cs), q0]
  all_goals rfl
theorem rd22 : Rd (RS RNodeT 4) Try.prog 22 := Rd.slice Try.underlying22 rd99 (by kernel_rfl) (by decide)
theorem rd24 : Rd RShapeT Try.prog 24 := fun enc w base spare held n cs x hx => by
  obtain ⟨hl, hf⟩ := rd_fields Try.underlying24 hx
  rw [show Try.prog.cellsOf 24 = 1 by kernel_rfl] at hl
  obtain ⟨X0, h0⟩ := hf _ _ 0 0 22 1 rfl (by kernel_rfl) rd22
  obtain ⟨y1, q0, s2⟩ := h0
  refine ⟨⟨X0⟩, y1, ?_, s2⟩
  have g : cs.take 1 = cs := List.take_of_length_le (by omega)
  rw [← g]
  rw [← List.drop_zero (l := cs), q0]
  all_goals rfl
theorem rd50 : Rd RV3 Try.prog 50 := fun enc w base spare held n cs x hx => by
  obtain ⟨hl, hf⟩ := rd_fields Try.underlying50 hx
  rw [show Try.prog.cellsOf 50 = 3 by kernel_rfl] at hl
  obtain ⟨X0, h0⟩ := hf _ _ 0 0 38 1 rfl (by kernel_rfl) rd38
  obtain ⟨r1, q0, e2⟩ := h0
  obtain ⟨X1, h1⟩ := hf _ _ 1 1 38 1 rfl (by kernel_rfl) rd38
  obtain ⟨r3, q1, e4⟩ := h1
  obtain ⟨X2, h2⟩ := hf _ _ 2 2 38 1 rfl (by kernel_rfl) rd38
  obtain ⟨r5, q2, e6⟩ := h2
  refine ⟨⟨X0, X1, X2⟩, r1, r3, r5, ?_, e2, e4, e6⟩
  have g : cs.take 3 = cs := List.take_of_length_le (by omega)
  rw [← g]
  rw [take_split (a := 2) (b := 1) (n := 3) rfl, q2]
  rw [take_split (a := 1) (b := 1) (n := 2) rfl, q1]
  rw [← List.drop_zero (l := cs), q0]
  all_goals rfl
theorem rd52 : Rd RCamT Try.prog 52 := fun enc w base spare held n cs x hx => by
  obtain ⟨hl, hf⟩ := rd_fields Try.underlying52 hx
  rw [show Try.prog.cellsOf 52 = 9 by kernel_rfl] at hl
  obtain ⟨X0, h0⟩ := hf _ _ 0 0 50 3 rfl (by kernel_rfl) rd50
  obtain ⟨r1, r3, r5, q0, e2, e4, e6⟩ := h0
  obtain ⟨X1, h1⟩ := hf _ _ 1 3 50 3 rfl (by kernel_rfl) rd50
  obtain ⟨r7, r9, r11, q1, e8, e10, e12⟩ := h1
  obtain ⟨X2, h2⟩ := hf _ _ 2 6 38 1 rfl (by kernel_rfl) rd38
  obtain ⟨r13, q2, e14⟩ := h2
  obtain ⟨X3, h3⟩ := hf _ _ 3 7 2 1 rfl (by kernel_rfl) rd2
  have q3 := h3
  obtain ⟨X4, h4⟩ := hf _ _ 4 8 2 1 rfl (by kernel_rfl) rd2
  have q4 := h4
  refine ⟨⟨X0, X1, X2, X3, X4⟩, r1, r3, r5, r7, r9, r11, r13, ?_, e2, e4, e6, e8, e10, e12, e14⟩
  have g : cs.take 9 = cs := List.take_of_length_le (by omega)
  rw [← g]
  rw [take_split (a := 8) (b := 1) (n := 9) rfl, q4]
  rw [take_split (a := 7) (b := 1) (n := 8) rfl, q3]
  rw [take_split (a := 6) (b := 1) (n := 7) rfl, q2]
  rw [take_split (a := 3) (b := 3) (n := 6) rfl, q1]
  rw [← List.drop_zero (l := cs), q0]
  all_goals rfl
theorem rd54 : Rd RMarchT Try.prog 54 := fun enc w base spare held n cs x hx => by
  obtain ⟨hl, hf⟩ := rd_fields Try.underlying54 hx
  rw [show Try.prog.cellsOf 54 = 3 by kernel_rfl] at hl
  obtain ⟨X0, h0⟩ := hf _ _ 0 0 38 1 rfl (by kernel_rfl) rd38
  obtain ⟨r1, q0, e2⟩ := h0
  obtain ⟨X1, h1⟩ := hf _ _ 1 1 38 1 rfl (by kernel_rfl) rd38
  obtain ⟨r3, q1, e4⟩ := h1
  obtain ⟨X2, h2⟩ := hf _ _ 2 2 2 1 rfl (by kernel_rfl) rd2
  have q2 := h2
  refine ⟨⟨X0, X1, X2⟩, r1, r3, ?_, e2, e4⟩
  have g : cs.take 3 = cs := List.take_of_length_le (by omega)
  rw [← g]
  rw [take_split (a := 2) (b := 1) (n := 3) rfl, q2]
  rw [take_split (a := 1) (b := 1) (n := 2) rfl, q1]
  rw [← List.drop_zero (l := cs), q0]
  all_goals rfl
theorem rd56 : Rd RViewT Try.prog 56 := fun enc w base spare held n cs x hx => by
  obtain ⟨hl, hf⟩ := rd_fields Try.underlying56 hx
  rw [show Try.prog.cellsOf 56 = 16 by kernel_rfl] at hl
  obtain ⟨X0, h0⟩ := hf _ _ 0 0 24 1 rfl (by kernel_rfl) rd24
  obtain ⟨y1, q0, s2⟩ := h0
  obtain ⟨X1, h1⟩ := hf _ _ 1 1 52 9 rfl (by kernel_rfl) rd52
  obtain ⟨r3, r5, r7, r9, r11, r13, r15, q1, e4, e6, e8, e10, e12, e14, e16⟩ := h1
  obtain ⟨X2, h2⟩ := hf _ _ 2 10 50 3 rfl (by kernel_rfl) rd50
  obtain ⟨r17, r19, r21, q2, e18, e20, e22⟩ := h2
  obtain ⟨X3, h3⟩ := hf _ _ 3 13 54 3 rfl (by kernel_rfl) rd54
  obtain ⟨r23, r25, q3, e24, e26⟩ := h3
  refine ⟨⟨X0, X1, X2, X3⟩, r3, r5, r7, r9, r11, r13, r15, r17, r19, r21, r23, r25, y1, ?_, e4, e6, e8, e10, e12, e14, e16, e18, e20, e22, e24, e26, s2⟩
  have g : cs.take 16 = cs := List.take_of_length_le (by omega)
  rw [← g]
  rw [take_split (a := 13) (b := 3) (n := 16) rfl, q3]
  rw [take_split (a := 10) (b := 3) (n := 13) rfl, q2]
  rw [take_split (a := 1) (b := 9) (n := 10) rfl, q1]
  rw [← List.drop_zero (l := cs), q0]
  all_goals rfl
end Go.Proofs.Ytiagimgdjngnfaa
