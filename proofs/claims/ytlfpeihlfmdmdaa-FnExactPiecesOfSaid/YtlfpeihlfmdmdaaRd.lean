/- what the laws' arguments read as -/
import Derived.Test.YtlfpeihlfmdmdaaTrod
import Derived.Test.YtlfpeihlfmdmdaaTy
import Derived.Test.YtlfpeihlfmdmdaaFlp
import Derived.Test.YtlfpeihlfmdmdaaNrm
import Derived.Test.YtlfpeihlfmdmdaaGph
import Derived.Test.YtlfpeihlfmdmdaaQue
import Derived.Test.YtlfpeihlfmdmdaaRwa
import Derived.Test.YtlfpeihlfmdmdaaRep
import Derived.Test.YtlfpeihlfmdmdaaMul
import Derived.Test.YtlfpeihlfmdmdaaNex
import Derived.Test.YtlfpeihlfmdmdaaPcs
namespace Go.Proofs.Ytlfpeihlfmdmdaa
open Go Go.RowKit
set_option maxRecDepth 100000
set_option linter.unusedVariables false
theorem rd39 : Rd RF Try.prog 39 := Rd.f32 Try.underlying39
theorem rd41 : Rd RV3 Try.prog 41 := fun enc w base spare held n cs x hx => by
  obtain ⟨hl, hf⟩ := rd_fields Try.underlying41 hx
  rw [show Try.prog.cellsOf 41 = 3 by kernel_rfl] at hl
  obtain ⟨X0, h0⟩ := hf _ _ 0 0 39 1 rfl (by kernel_rfl) rd39
  obtain ⟨r1, q0, e2⟩ := h0
  obtain ⟨X1, h1⟩ := hf _ _ 1 1 39 1 rfl (by kernel_rfl) rd39
  obtain ⟨r3, q1, e4⟩ := h1
  obtain ⟨X2, h2⟩ := hf _ _ 2 2 39 1 rfl (by kernel_rfl) rd39
  obtain ⟨r5, q2, e6⟩ := h2
  refine ⟨⟨X0, X1, X2⟩, r1, r3, r5, ?_, e2, e4, e6⟩
  have g : cs.take 3 = cs := List.take_of_length_le (by omega)
  rw [← g]
  rw [take_split (a := 2) (b := 1) (n := 3) rfl, q2]
  rw [take_split (a := 1) (b := 1) (n := 2) rfl, q1]
  rw [← List.drop_zero (l := cs), q0]
  all_goals rfl
theorem rd22 : Rd (RS RV3 3) Try.prog 22 := Rd.slice Try.underlying22 rd41 (by kernel_rfl) (by decide)
theorem rd2 : Rd RI Try.prog 2 := Rd.i64 Try.underlying2
theorem rd27 : Rd (RS RI 1) Try.prog 27 := Rd.slice Try.underlying27 rd2 (by kernel_rfl) (by decide)
theorem rd23 : Rd (RS (RS RI 1) 1) Try.prog 23 := Rd.slice Try.underlying23 rd27 (by kernel_rfl) (by decide)
theorem rd25 : Rd RMeshT Try.prog 25 := fun enc w base spare held n cs x hx => by
  obtain ⟨hl, hf⟩ := rd_fields Try.underlying25 hx
  rw [show Try.prog.cellsOf 25 = 2 by kernel_rfl] at hl
  obtain ⟨X0, h0⟩ := hf _ _ 0 0 22 1 rfl (by kernel_rfl) rd22
  obtain ⟨y1, q0, s2⟩ := h0
  obtain ⟨X1, h1⟩ := hf _ _ 1 1 23 1 rfl (by kernel_rfl) rd23
  obtain ⟨y3, q1, s4⟩ := h1
  refine ⟨⟨X0, X1⟩, y1, y3, ?_, s2, s4⟩
  have g : cs.take 2 = cs := List.take_of_length_le (by omega)
  rw [← g]
  rw [take_split (a := 1) (b := 1) (n := 2) rfl, q1]
  rw [← List.drop_zero (l := cs), q0]
  all_goals rfl
end Go.Proofs.Ytlfpeihlfmdmdaa
