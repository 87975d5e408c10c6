/- what the laws' arguments read as -/
import Derived.Test.YtjopopmipdakkaaTrod
import Derived.Test.YtjopopmipdakkaaTy
import Derived.Test.YtjopopmipdakkaaFlp
import Derived.Test.YtjopopmipdakkaaNrm
import Derived.Test.YtjopopmipdakkaaMap
import Derived.Test.YtjopopmipdakkaaRgj
import Derived.Test.YtjopopmipdakkaaKmp
import Derived.Test.YtjopopmipdakkaaMoh
import Derived.Test.YtjopopmipdakkaaSep
import Derived.Test.YtjopopmipdakkaaMoi
import Derived.Test.YtjopopmipdakkaaMsw
import Derived.Test.YtjopopmipdakkaaMsx
import Derived.Test.YtjopopmipdakkaaMsy
namespace Go.Proofs.Ytjopopmipdakkaa
open Go Go.RowKit
set_option maxRecDepth 100000
set_option linter.unusedVariables false
theorem rd22 : Rd RF Try.prog 22 := Rd.f32 Try.underlying22
theorem rd24 : Rd RV3 Try.prog 24 := fun enc w base spare held n cs x hx => by
  obtain ⟨hl, hf⟩ := rd_fields Try.underlying24 hx
  rw [show Try.prog.cellsOf 24 = 3 by kernel_rfl] at hl
  obtain ⟨X0, h0⟩ := hf _ _ 0 0 22 1 rfl (by kernel_rfl) rd22
  obtain ⟨r1, q0, e2⟩ := h0
  obtain ⟨X1, h1⟩ := hf _ _ 1 1 22 1 rfl (by kernel_rfl) rd22
  obtain ⟨r3, q1, e4⟩ := h1
  obtain ⟨X2, h2⟩ := hf _ _ 2 2 22 1 rfl (by kernel_rfl) rd22
  obtain ⟨r5, q2, e6⟩ := h2
  refine ⟨⟨X0, X1, X2⟩, r1, r3, r5, ?_, e2, e4, e6⟩
  have g : cs.take 3 = cs := List.take_of_length_le (by omega)
  rw [← g]
  rw [take_split (a := 2) (b := 1) (n := 3) rfl, q2]
  rw [take_split (a := 1) (b := 1) (n := 2) rfl, q1]
  rw [← List.drop_zero (l := cs), q0]
  all_goals rfl
theorem rd2 : Rd RI Try.prog 2 := Rd.i64 Try.underlying2
theorem rd25 : Rd (RS RF 1) Try.prog 25 := Rd.slice Try.underlying25 rd22 (by kernel_rfl) (by decide)
theorem rd27 : Rd RGridT Try.prog 27 := fun enc w base spare held n cs x hx => by
  obtain ⟨hl, hf⟩ := rd_fields Try.underlying27 hx
  rw [show Try.prog.cellsOf 27 = 8 by kernel_rfl] at hl
  obtain ⟨X0, h0⟩ := hf _ _ 0 0 24 3 rfl (by kernel_rfl) rd24
  obtain ⟨r1, r3, r5, q0, e2, e4, e6⟩ := h0
  obtain ⟨X1, h1⟩ := hf _ _ 1 3 22 1 rfl (by kernel_rfl) rd22
  obtain ⟨r7, q1, e8⟩ := h1
  obtain ⟨X2, h2⟩ := hf _ _ 2 4 2 1 rfl (by kernel_rfl) rd2
  have q2 := h2
  obtain ⟨X3, h3⟩ := hf _ _ 3 5 2 1 rfl (by kernel_rfl) rd2
  have q3 := h3
  obtain ⟨X4, h4⟩ := hf _ _ 4 6 2 1 rfl (by kernel_rfl) rd2
  have q4 := h4
  obtain ⟨X5, h5⟩ := hf _ _ 5 7 25 1 rfl (by kernel_rfl) rd25
  obtain ⟨y9, q5, s10⟩ := h5
  refine ⟨⟨X0, X1, X2, X3, X4, X5⟩, r1, r3, r5, r7, y9, ?_, e2, e4, e6, e8, s10⟩
  have g : cs.take 8 = cs := List.take_of_length_le (by omega)
  rw [← g]
  rw [take_split (a := 7) (b := 1) (n := 8) rfl, q5]
  rw [take_split (a := 6) (b := 1) (n := 7) rfl, q4]
  rw [take_split (a := 5) (b := 1) (n := 6) rfl, q3]
  rw [take_split (a := 4) (b := 1) (n := 5) rfl, q2]
  rw [take_split (a := 3) (b := 1) (n := 4) rfl, q1]
  rw [← List.drop_zero (l := cs), q0]
  all_goals rfl
end Go.Proofs.Ytjopopmipdakkaa
