/- what the program's tables say of the types and functions that the walks meet -/
import Derived.Test.YtjopopmipdakkaaSq
import Derived.Test.YtjopopmipdakkaaChecked
namespace Go.Proofs.Ytjopopmipdakkaa
open Go Go.RowKit
set_option maxRecDepth 100000
theorem fa24_0 (b off : Nat) (w : World) : (Instr.fieldAt 24 (.pointer (some ⟨b, off, none⟩)) 0).run Try.prog w = .ok (.pointer (some ⟨b, off + 0, none⟩)) w := by kernel_rfl
theorem fa24_1 (b off : Nat) (w : World) : (Instr.fieldAt 24 (.pointer (some ⟨b, off, none⟩)) 1).run Try.prog w = .ok (.pointer (some ⟨b, off + 1, none⟩)) w := by kernel_rfl
theorem fa24_2 (b off : Nat) (w : World) : (Instr.fieldAt 24 (.pointer (some ⟨b, off, none⟩)) 2).run Try.prog w = .ok (.pointer (some ⟨b, off + 2, none⟩)) w := by kernel_rfl
theorem fa27_0 (b off : Nat) (w : World) : (Instr.fieldAt 27 (.pointer (some ⟨b, off, none⟩)) 0).run Try.prog w = .ok (.pointer (some ⟨b, off + 0, none⟩)) w := by kernel_rfl
theorem fa27_1 (b off : Nat) (w : World) : (Instr.fieldAt 27 (.pointer (some ⟨b, off, none⟩)) 1).run Try.prog w = .ok (.pointer (some ⟨b, off + 3, none⟩)) w := by kernel_rfl
theorem fa27_2 (b off : Nat) (w : World) : (Instr.fieldAt 27 (.pointer (some ⟨b, off, none⟩)) 2).run Try.prog w = .ok (.pointer (some ⟨b, off + 4, none⟩)) w := by kernel_rfl
theorem fa27_3 (b off : Nat) (w : World) : (Instr.fieldAt 27 (.pointer (some ⟨b, off, none⟩)) 3).run Try.prog w = .ok (.pointer (some ⟨b, off + 5, none⟩)) w := by kernel_rfl
theorem fa27_4 (b off : Nat) (w : World) : (Instr.fieldAt 27 (.pointer (some ⟨b, off, none⟩)) 4).run Try.prog w = .ok (.pointer (some ⟨b, off + 6, none⟩)) w := by kernel_rfl
theorem fa27_5 (b off : Nat) (w : World) : (Instr.fieldAt 27 (.pointer (some ⟨b, off, none⟩)) 5).run Try.prog w = .ok (.pointer (some ⟨b, off + 7, none⟩)) w := by kernel_rfl
theorem fa32_0 (b off : Nat) (w : World) : (Instr.fieldAt 32 (.pointer (some ⟨b, off, none⟩)) 0).run Try.prog w = .ok (.pointer (some ⟨b, off + 0, none⟩)) w := by kernel_rfl
theorem fa32_1 (b off : Nat) (w : World) : (Instr.fieldAt 32 (.pointer (some ⟨b, off, none⟩)) 1).run Try.prog w = .ok (.pointer (some ⟨b, off + 1, none⟩)) w := by kernel_rfl
theorem fa35_0 (b off : Nat) (w : World) : (Instr.fieldAt 35 (.pointer (some ⟨b, off, none⟩)) 0).run Try.prog w = .ok (.pointer (some ⟨b, off + 0, none⟩)) w := by kernel_rfl
theorem fa35_1 (b off : Nat) (w : World) : (Instr.fieldAt 35 (.pointer (some ⟨b, off, none⟩)) 1).run Try.prog w = .ok (.pointer (some ⟨b, off + 1, none⟩)) w := by kernel_rfl
theorem fa35_2 (b off : Nat) (w : World) : (Instr.fieldAt 35 (.pointer (some ⟨b, off, none⟩)) 2).run Try.prog w = .ok (.pointer (some ⟨b, off + 2, none⟩)) w := by kernel_rfl
theorem fa37_0 (b off : Nat) (w : World) : (Instr.fieldAt 37 (.pointer (some ⟨b, off, none⟩)) 0).run Try.prog w = .ok (.pointer (some ⟨b, off + 0, none⟩)) w := by kernel_rfl
theorem fa37_1 (b off : Nat) (w : World) : (Instr.fieldAt 37 (.pointer (some ⟨b, off, none⟩)) 1).run Try.prog w = .ok (.pointer (some ⟨b, off + 3, none⟩)) w := by kernel_rfl
theorem fa37_2 (b off : Nat) (w : World) : (Instr.fieldAt 37 (.pointer (some ⟨b, off, none⟩)) 2).run Try.prog w = .ok (.pointer (some ⟨b, off + 4, none⟩)) w := by kernel_rfl
theorem fa37_3 (b off : Nat) (w : World) : (Instr.fieldAt 37 (.pointer (some ⟨b, off, none⟩)) 3).run Try.prog w = .ok (.pointer (some ⟨b, off + 5, none⟩)) w := by kernel_rfl
theorem fa37_4 (b off : Nat) (w : World) : (Instr.fieldAt 37 (.pointer (some ⟨b, off, none⟩)) 4).run Try.prog w = .ok (.pointer (some ⟨b, off + 6, none⟩)) w := by kernel_rfl
theorem fa37_5 (b off : Nat) (w : World) : (Instr.fieldAt 37 (.pointer (some ⟨b, off, none⟩)) 5).run Try.prog w = .ok (.pointer (some ⟨b, off + 7, none⟩)) w := by kernel_rfl
theorem fa67_0 (b off : Nat) (w : World) : (Instr.fieldAt 67 (.pointer (some ⟨b, off, none⟩)) 0).run Try.prog w = .ok (.pointer (some ⟨b, off + 0, none⟩)) w := by kernel_rfl
theorem fa67_1 (b off : Nat) (w : World) : (Instr.fieldAt 67 (.pointer (some ⟨b, off, none⟩)) 1).run Try.prog w = .ok (.pointer (some ⟨b, off + 2, none⟩)) w := by kernel_rfl
theorem fa73_0 (b off : Nat) (w : World) : (Instr.fieldAt 73 (.pointer (some ⟨b, off, none⟩)) 0).run Try.prog w = .ok (.pointer (some ⟨b, off + 0, none⟩)) w := by kernel_rfl
theorem fa73_1 (b off : Nat) (w : World) : (Instr.fieldAt 73 (.pointer (some ⟨b, off, none⟩)) 1).run Try.prog w = .ok (.pointer (some ⟨b, off + 1, none⟩)) w := by kernel_rfl
theorem fa73_2 (b off : Nat) (w : World) : (Instr.fieldAt 73 (.pointer (some ⟨b, off, none⟩)) 2).run Try.prog w = .ok (.pointer (some ⟨b, off + 3, none⟩)) w := by kernel_rfl
theorem fa96_0 (b off : Nat) (w : World) : (Instr.fieldAt 96 (.pointer (some ⟨b, off, none⟩)) 0).run Try.prog w = .ok (.pointer (some ⟨b, off + 0, none⟩)) w := by kernel_rfl
theorem fa96_1 (b off : Nat) (w : World) : (Instr.fieldAt 96 (.pointer (some ⟨b, off, none⟩)) 1).run Try.prog w = .ok (.pointer (some ⟨b, off + 4, none⟩)) w := by kernel_rfl
theorem z32 (w : World) : (zeroValue 32).run Try.prog w = .ok (.agg #[(.slice none 0 0), (.slice none 0 0)]) w := by kernel_rfl
theorem z35 (w : World) : (zeroValue 35).run Try.prog w = .ok (.agg #[(Fl 0), (Fl 0), (Fl 0)]) w := by kernel_rfl
theorem z37 (w : World) : (zeroValue 37).run Try.prog w = .ok (.agg #[(Fl 0), (Fl 0), (Fl 0), (Fl 0), (Iv 0), (Iv 0), (Iv 0), (.slice none 0 0)]) w := by kernel_rfl
theorem z69 (w : World) : (zeroValue 69).run Try.prog w = .ok (.agg #[(Iv 0), (Iv 0), (Iv 0)]) w := by kernel_rfl
theorem z73 (w : World) : (zeroValue 73).run Try.prog w = .ok (.agg #[(.pointer none), (.slice none 0 0), (.slice none 0 0), (.map none)]) w := by kernel_rfl
theorem z96 (w : World) : (zeroValue 96).run Try.prog w = .ok (.agg #[(Iv 0), (Iv 0), (Iv 0), (Iv 0), (Bo false)]) w := by kernel_rfl
theorem z97 (w : World) : (zeroValue 97).run Try.prog w = .ok (.agg #[(Bo false), (Bo false), (Bo false), (Bo false)]) w := by kernel_rfl
theorem z103 (w : World) : (zeroValue 103).run Try.prog w = .ok (.agg #[(Iv 0), (Iv 0)]) w := by kernel_rfl
theorem z104 (w : World) : (zeroValue 104).run Try.prog w = .ok (.agg #[(Iv 0), (Iv 0), (Iv 0), (Iv 0), (Iv 0), (Iv 0)]) w := by kernel_rfl
theorem z115 (w : World) : (zeroValue 115).run Try.prog w = .ok (.agg #[(Iv 0), (Iv 0), (Iv 0)]) w := by kernel_rfl
theorem z116 (w : World) : (zeroValue 116).run Try.prog w = .ok (.agg #[(Iv 0), (Iv 0), (Iv 0), (Iv 0), (Iv 0), (Iv 0), (Iv 0), (Iv 0), (Iv 0), (Iv 0), (Iv 0), (Iv 0)]) w := by kernel_rfl
theorem z117 (w : World) : (zeroValue 117).run Try.prog w = .ok (.agg #[(Iv 0), (Iv 0)]) w := by kernel_rfl
theorem ix69_0 (x0 x1 x2 : Value) (w : World) : (Instr.index 69 (.agg #[x0, x1, x2]) (.int .i64 0)).run Try.prog w = .ok x0 w := by kernel_rfl
theorem ia69_0 (b off : Nat) (w : World) : (Instr.indexAt 69 (.pointer (some ⟨b, off, none⟩)) (.int .i64 0)).run Try.prog w = .ok (.pointer (some ⟨b, off + 0, none⟩)) w := by kernel_rfl
theorem ix69_1 (x0 x1 x2 : Value) (w : World) : (Instr.index 69 (.agg #[x0, x1, x2]) (.int .i64 1)).run Try.prog w = .ok x1 w := by kernel_rfl
theorem ia69_1 (b off : Nat) (w : World) : (Instr.indexAt 69 (.pointer (some ⟨b, off, none⟩)) (.int .i64 1)).run Try.prog w = .ok (.pointer (some ⟨b, off + 1, none⟩)) w := by kernel_rfl
theorem ix69_2 (x0 x1 x2 : Value) (w : World) : (Instr.index 69 (.agg #[x0, x1, x2]) (.int .i64 2)).run Try.prog w = .ok x2 w := by kernel_rfl
theorem ia69_2 (b off : Nat) (w : World) : (Instr.indexAt 69 (.pointer (some ⟨b, off, none⟩)) (.int .i64 2)).run Try.prog w = .ok (.pointer (some ⟨b, off + 2, none⟩)) w := by kernel_rfl
theorem ix94_0 (x0 x1 x2 x3 : Value) (w : World) : (Instr.index 94 (.agg #[x0, x1, x2, x3]) (.int .i64 0)).run Try.prog w = .ok x0 w := by kernel_rfl
theorem ix94_1 (x0 x1 x2 x3 : Value) (w : World) : (Instr.index 94 (.agg #[x0, x1, x2, x3]) (.int .i64 1)).run Try.prog w = .ok x1 w := by kernel_rfl
theorem ix94_2 (x0 x1 x2 x3 : Value) (w : World) : (Instr.index 94 (.agg #[x0, x1, x2, x3]) (.int .i64 2)).run Try.prog w = .ok x2 w := by kernel_rfl
theorem ix94_3 (x0 x1 x2 x3 : Value) (w : World) : (Instr.index 94 (.agg #[x0, x1, x2, x3]) (.int .i64 3)).run Try.prog w = .ok x3 w := by kernel_rfl
theorem ixv94 (x0 x1 x2 x3 : Value) (i : Int) (h : 0 ≤ i ∧ i < 4) (w : World) : (Instr.index 94 (.agg #[x0, x1, x2, x3]) (.int .i64 i)).run Try.prog w = .ok ((([x0, x1, x2, x3] : List Value)[i.toNat]?).getD undef) w := by
  have hq : i = 0 ∨ i = 1 ∨ i = 2 ∨ i = 3 := by omega
  rcases hq with rfl | rfl | rfl | rfl
  · exact ix94_0 x0 x1 x2 x3 w
  · exact ix94_1 x0 x1 x2 x3 w
  · exact ix94_2 x0 x1 x2 x3 w
  · exact ix94_3 x0 x1 x2 x3 w
theorem ix97_0 (x0 x1 x2 x3 : Value) (w : World) : (Instr.index 97 (.agg #[x0, x1, x2, x3]) (.int .i64 0)).run Try.prog w = .ok x0 w := by kernel_rfl
theorem ia97_0 (b off : Nat) (w : World) : (Instr.indexAt 97 (.pointer (some ⟨b, off, none⟩)) (.int .i64 0)).run Try.prog w = .ok (.pointer (some ⟨b, off + 0, none⟩)) w := by kernel_rfl
theorem ix97_1 (x0 x1 x2 x3 : Value) (w : World) : (Instr.index 97 (.agg #[x0, x1, x2, x3]) (.int .i64 1)).run Try.prog w = .ok x1 w := by kernel_rfl
theorem ia97_1 (b off : Nat) (w : World) : (Instr.indexAt 97 (.pointer (some ⟨b, off, none⟩)) (.int .i64 1)).run Try.prog w = .ok (.pointer (some ⟨b, off + 1, none⟩)) w := by kernel_rfl
theorem ix97_2 (x0 x1 x2 x3 : Value) (w : World) : (Instr.index 97 (.agg #[x0, x1, x2, x3]) (.int .i64 2)).run Try.prog w = .ok x2 w := by kernel_rfl
theorem ia97_2 (b off : Nat) (w : World) : (Instr.indexAt 97 (.pointer (some ⟨b, off, none⟩)) (.int .i64 2)).run Try.prog w = .ok (.pointer (some ⟨b, off + 2, none⟩)) w := by kernel_rfl
theorem ix97_3 (x0 x1 x2 x3 : Value) (w : World) : (Instr.index 97 (.agg #[x0, x1, x2, x3]) (.int .i64 3)).run Try.prog w = .ok x3 w := by kernel_rfl
theorem ixv97 (x0 x1 x2 x3 : Value) (i : Int) (h : 0 ≤ i ∧ i < 4) (w : World) : (Instr.index 97 (.agg #[x0, x1, x2, x3]) (.int .i64 i)).run Try.prog w = .ok ((([x0, x1, x2, x3] : List Value)[i.toNat]?).getD undef) w := by
  have hq : i = 0 ∨ i = 1 ∨ i = 2 ∨ i = 3 := by omega
  rcases hq with rfl | rfl | rfl | rfl
  · exact ix97_0 x0 x1 x2 x3 w
  · exact ix97_1 x0 x1 x2 x3 w
  · exact ix97_2 x0 x1 x2 x3 w
  · exact ix97_3 x0 x1 x2 x3 w
theorem ia97_3 (b off : Nat) (w : World) : (Instr.indexAt 97 (.pointer (some ⟨b, off, none⟩)) (.int .i64 3)).run Try.prog w = .ok (.pointer (some ⟨b, off + 3, none⟩)) w := by kernel_rfl
theorem ia103_0 (b off : Nat) (w : World) : (Instr.indexAt 103 (.pointer (some ⟨b, off, none⟩)) (.int .i64 0)).run Try.prog w = .ok (.pointer (some ⟨b, off + 0, none⟩)) w := by kernel_rfl
theorem ia103_1 (b off : Nat) (w : World) : (Instr.indexAt 103 (.pointer (some ⟨b, off, none⟩)) (.int .i64 1)).run Try.prog w = .ok (.pointer (some ⟨b, off + 1, none⟩)) w := by kernel_rfl
theorem ix104_0 (x0 x1 x2 x3 x4 x5 : Value) (w : World) : (Instr.index 104 (.agg #[x0, x1, x2, x3, x4, x5]) (.int .i64 0)).run Try.prog w = .ok (.agg #[x0, x1]) w := by kernel_rfl
theorem ix104_1 (x0 x1 x2 x3 x4 x5 : Value) (w : World) : (Instr.index 104 (.agg #[x0, x1, x2, x3, x4, x5]) (.int .i64 1)).run Try.prog w = .ok (.agg #[x2, x3]) w := by kernel_rfl
theorem ix104_2 (x0 x1 x2 x3 x4 x5 : Value) (w : World) : (Instr.index 104 (.agg #[x0, x1, x2, x3, x4, x5]) (.int .i64 2)).run Try.prog w = .ok (.agg #[x4, x5]) w := by kernel_rfl
theorem ia115_0 (b off : Nat) (w : World) : (Instr.indexAt 115 (.pointer (some ⟨b, off, none⟩)) (.int .i64 0)).run Try.prog w = .ok (.pointer (some ⟨b, off + 0, none⟩)) w := by kernel_rfl
theorem ia115_1 (b off : Nat) (w : World) : (Instr.indexAt 115 (.pointer (some ⟨b, off, none⟩)) (.int .i64 1)).run Try.prog w = .ok (.pointer (some ⟨b, off + 1, none⟩)) w := by kernel_rfl
theorem ia115_2 (b off : Nat) (w : World) : (Instr.indexAt 115 (.pointer (some ⟨b, off, none⟩)) (.int .i64 2)).run Try.prog w = .ok (.pointer (some ⟨b, off + 2, none⟩)) w := by kernel_rfl
theorem ia117_0 (b off : Nat) (w : World) : (Instr.indexAt 117 (.pointer (some ⟨b, off, none⟩)) (.int .i64 0)).run Try.prog w = .ok (.pointer (some ⟨b, off + 0, none⟩)) w := by kernel_rfl
theorem ia117_1 (b off : Nat) (w : World) : (Instr.indexAt 117 (.pointer (some ⟨b, off, none⟩)) (.int .i64 1)).run Try.prog w = .ok (.pointer (some ⟨b, off + 1, none⟩)) w := by kernel_rfl
theorem inf2 : ∃ i, Try.prog.info? 2 = some i ∧ i.zero = some (Iv 0) ∧ i.size = 1 ∧ i.bytes ≤ 1000 := info_of (by kernel_rfl)
theorem inf3 : ∃ i, Try.prog.info? 3 = some i ∧ i.zero = some (Iv 0) ∧ i.size = 1 ∧ i.bytes ≤ 1000 := info_of (by kernel_rfl)
theorem inf4 : ∃ i, Try.prog.info? 4 = some i ∧ i.zero = some (Bo false) ∧ i.size = 1 ∧ i.bytes ≤ 1000 := info_of (by kernel_rfl)
theorem inf22 : ∃ i, Try.prog.info? 22 = some i ∧ i.zero = some (Fl 0) ∧ i.size = 1 ∧ i.bytes ≤ 1000 := info_of (by kernel_rfl)
theorem inf35 : ∃ i, Try.prog.info? 35 = some i ∧ i.zero = some (.agg #[(Fl 0), (Fl 0), (Fl 0)]) ∧ i.size = 3 ∧ i.bytes ≤ 1000 := info_of (by kernel_rfl)
theorem inf65 : ∃ i, Try.prog.info? 65 = some i ∧ i.zero = some (.slice none 0 0) ∧ i.size = 1 ∧ i.bytes ≤ 1000 := info_of (by kernel_rfl)
theorem cal4 (args : Array Value) (w : World) : (callFunc 4 args).run Try.prog w = .ok (.enter 4 args) w := by kernel_rfl
theorem cal5 (args : Array Value) (w : World) : (callFunc 5 args).run Try.prog w = .ok (.enter 5 args) w := by kernel_rfl
theorem cal6 (args : Array Value) (w : World) : (callFunc 6 args).run Try.prog w = .ok (.enter 6 args) w := by kernel_rfl
theorem cal7 (args : Array Value) (w : World) : (callFunc 7 args).run Try.prog w = .ok (.enter 7 args) w := by kernel_rfl
theorem cal8 (args : Array Value) (w : World) : (callFunc 8 args).run Try.prog w = .ok (.enter 8 args) w := by kernel_rfl
theorem cal9 (args : Array Value) (w : World) : (callFunc 9 args).run Try.prog w = .ok (.enter 9 args) w := by kernel_rfl
theorem cal10 (args : Array Value) (w : World) : (callFunc 10 args).run Try.prog w = .ok (.enter 10 args) w := by kernel_rfl
theorem cal11 (args : Array Value) (w : World) : (callFunc 11 args).run Try.prog w = .ok (.enter 11 args) w := by kernel_rfl
theorem cal12 (args : Array Value) (w : World) : (callFunc 12 args).run Try.prog w = .ok (.enter 12 args) w := by kernel_rfl
theorem cal13 (args : Array Value) (w : World) : (callFunc 13 args).run Try.prog w = .ok (.enter 13 args) w := by kernel_rfl
theorem cal14 (args : Array Value) (w : World) : (callFunc 14 args).run Try.prog w = .ok (.enter 14 args) w := by kernel_rfl
theorem cal15 (args : Array Value) (w : World) : (callFunc 15 args).run Try.prog w = .ok (.enter 15 args) w := by kernel_rfl
theorem cal16 (args : Array Value) (w : World) : (callFunc 16 args).run Try.prog w = .ok (.enter 16 args) w := by kernel_rfl
theorem cal17 (args : Array Value) (w : World) : (callFunc 17 args).run Try.prog w = .ok (.enter 17 args) w := by kernel_rfl
theorem cal18 (args : Array Value) (w : World) : (callFunc 18 args).run Try.prog w = .ok (.enter 18 args) w := by kernel_rfl
theorem cal19 (args : Array Value) (w : World) : (callFunc 19 args).run Try.prog w = .ok (.enter 19 args) w := by kernel_rfl
theorem cal20 (args : Array Value) (w : World) : (callFunc 20 args).run Try.prog w = .ok (.enter 20 args) w := by kernel_rfl
theorem cal21 (args : Array Value) (w : World) : (callFunc 21 args).run Try.prog w = .ok (.enter 21 args) w := by kernel_rfl
theorem cal22 (args : Array Value) (w : World) : (callFunc 22 args).run Try.prog w = .ok (.enter 22 args) w := by kernel_rfl
theorem cal23 (args : Array Value) (w : World) : (callFunc 23 args).run Try.prog w = .ok (.enter 23 args) w := by kernel_rfl
theorem cal24 (args : Array Value) (w : World) : (callFunc 24 args).run Try.prog w = .ok (.enter 24 args) w := by kernel_rfl
theorem cal25 (args : Array Value) (w : World) : (callFunc 25 args).run Try.prog w = .ok (.enter 25 args) w := by kernel_rfl
theorem cal26 (args : Array Value) (w : World) : (callFunc 26 args).run Try.prog w = .ok (.enter 26 args) w := by kernel_rfl
theorem cal27 (args : Array Value) (w : World) : (callFunc 27 args).run Try.prog w = .ok (.enter 27 args) w := by kernel_rfl
theorem cal28 (args : Array Value) (w : World) : (callFunc 28 args).run Try.prog w = .ok (.enter 28 args) w := by kernel_rfl
theorem cal29 (args : Array Value) (w : World) : (callFunc 29 args).run Try.prog w = .ok (.enter 29 args) w := by kernel_rfl
theorem cal30 (args : Array Value) (w : World) : (callFunc 30 args).run Try.prog w = .ok (.enter 30 args) w := by kernel_rfl
theorem cal31 (args : Array Value) (w : World) : (callFunc 31 args).run Try.prog w = .ok (.enter 31 args) w := by kernel_rfl
theorem cal32 (args : Array Value) (w : World) : (callFunc 32 args).run Try.prog w = .ok (.enter 32 args) w := by kernel_rfl
theorem cal33 (args : Array Value) (w : World) : (callFunc 33 args).run Try.prog w = .ok (.enter 33 args) w := by kernel_rfl
theorem cal34 (args : Array Value) (w : World) : (callFunc 34 args).run Try.prog w = .ok (.enter 34 args) w := by kernel_rfl
theorem cal35 (args : Array Value) (w : World) : (callFunc 35 args).run Try.prog w = .ok (.enter 35 args) w := by kernel_rfl
theorem cal36 (args : Array Value) (w : World) : (callFunc 36 args).run Try.prog w = .ok (.enter 36 args) w := by kernel_rfl
theorem cal37 (args : Array Value) (w : World) : (callFunc 37 args).run Try.prog w = .ok (.enter 37 args) w := by kernel_rfl
theorem cal38 (args : Array Value) (w : World) : (callFunc 38 args).run Try.prog w = .ok (.enter 38 args) w := by kernel_rfl
theorem cal39 (args : Array Value) (w : World) : (callFunc 39 args).run Try.prog w = .ok (.enter 39 args) w := by kernel_rfl
theorem cal40 (args : Array Value) (w : World) : (callFunc 40 args).run Try.prog w = .ok (.enter 40 args) w := by kernel_rfl
theorem cal41 (args : Array Value) (w : World) : (callFunc 41 args).run Try.prog w = .ok (.enter 41 args) w := by kernel_rfl
theorem cal42 (args : Array Value) (w : World) : (callFunc 42 args).run Try.prog w = .ok (.enter 42 args) w := by kernel_rfl
theorem cal43 (args : Array Value) (w : World) : (callFunc 43 args).run Try.prog w = .ok (.enter 43 args) w := by kernel_rfl
theorem cal44 (args : Array Value) (w : World) : (callFunc 44 args).run Try.prog w = .ok (.enter 44 args) w := by kernel_rfl
theorem cal45 (args : Array Value) (w : World) : (callFunc 45 args).run Try.prog w = .ok (.enter 45 args) w := by kernel_rfl
theorem cal46 (args : Array Value) (w : World) : (callFunc 46 args).run Try.prog w = .ok (.enter 46 args) w := by kernel_rfl
theorem cal47 (args : Array Value) (w : World) : (callFunc 47 args).run Try.prog w = .ok (.enter 47 args) w := by kernel_rfl
theorem cal48 (args : Array Value) (w : World) : (callFunc 48 args).run Try.prog w = .ok (.enter 48 args) w := by kernel_rfl
theorem cal49 (args : Array Value) (w : World) : (callFunc 49 args).run Try.prog w = .ok (.enter 49 args) w := by kernel_rfl
theorem cal50 (args : Array Value) (w : World) : (callFunc 50 args).run Try.prog w = .ok (.enter 50 args) w := by kernel_rfl
theorem cal51 (args : Array Value) (w : World) : (callFunc 51 args).run Try.prog w = .ok (.enter 51 args) w := by kernel_rfl
theorem cal52 (args : Array Value) (w : World) : (callFunc 52 args).run Try.prog w = .ok (.enter 52 args) w := by kernel_rfl
theorem cal53 (args : Array Value) (w : World) : (callFunc 53 args).run Try.prog w = .ok (.enter 53 args) w := by kernel_rfl
theorem cal54 (args : Array Value) (w : World) : (callFunc 54 args).run Try.prog w = .ok (.enter 54 args) w := by kernel_rfl
theorem cal55 (args : Array Value) (w : World) : (callFunc 55 args).run Try.prog w = .ok (.enter 55 args) w := by kernel_rfl
theorem cal56 (args : Array Value) (w : World) : (callFunc 56 args).run Try.prog w = .ok (.enter 56 args) w := by kernel_rfl
theorem cal57 (args : Array Value) (w : World) : (callFunc 57 args).run Try.prog w = .ok (.enter 57 args) w := by kernel_rfl
theorem cal58 (args : Array Value) (w : World) : (callFunc 58 args).run Try.prog w = .ok (.enter 58 args) w := by kernel_rfl
theorem cal59 (args : Array Value) (w : World) : (callFunc 59 args).run Try.prog w = .ok (.enter 59 args) w := by kernel_rfl
theorem cal60 (args : Array Value) (w : World) : (callFunc 60 args).run Try.prog w = .ok (.enter 60 args) w := by kernel_rfl
theorem cal61 (args : Array Value) (w : World) : (callFunc 61 args).run Try.prog w = .ok (.enter 61 args) w := by kernel_rfl
theorem cal62 (args : Array Value) (w : World) : (callFunc 62 args).run Try.prog w = .ok (.enter 62 args) w := by kernel_rfl
theorem cal63 (args : Array Value) (w : World) : (callFunc 63 args).run Try.prog w = .ok (.enter 63 args) w := by kernel_rfl
theorem cal64 (args : Array Value) (w : World) : (callFunc 64 args).run Try.prog w = .ok (.enter 64 args) w := by kernel_rfl
theorem cal65 (args : Array Value) (w : World) : (callFunc 65 args).run Try.prog w = .ok (.enter 65 args) w := by kernel_rfl
theorem cal66 (args : Array Value) (w : World) : (callFunc 66 args).run Try.prog w = .ok (.enter 66 args) w := by kernel_rfl
theorem cal67 (args : Array Value) (w : World) : (callFunc 67 args).run Try.prog w = .ok (.enter 67 args) w := by kernel_rfl
theorem cal68 (args : Array Value) (w : World) : (callFunc 68 args).run Try.prog w = .ok (.enter 68 args) w := by kernel_rfl
theorem cal69 (args : Array Value) (w : World) : (callFunc 69 args).run Try.prog w = .ok (.enter 69 args) w := by kernel_rfl
theorem cal70 (args : Array Value) (w : World) : (callFunc 70 args).run Try.prog w = .ok (.enter 70 args) w := by kernel_rfl
theorem cal71 (args : Array Value) (w : World) : (callFunc 71 args).run Try.prog w = .ok (.enter 71 args) w := by kernel_rfl
theorem cal72 (args : Array Value) (w : World) : (callFunc 72 args).run Try.prog w = .ok (.enter 72 args) w := by kernel_rfl
theorem cal73 (args : Array Value) (w : World) : (callFunc 73 args).run Try.prog w = .ok (.enter 73 args) w := by kernel_rfl
theorem cal74 (args : Array Value) (w : World) : (callFunc 74 args).run Try.prog w = .ok (.enter 74 args) w := by kernel_rfl
theorem cal75 (args : Array Value) (w : World) : (callFunc 75 args).run Try.prog w = .ok (.enter 75 args) w := by kernel_rfl
theorem cal76 (args : Array Value) (w : World) : (callFunc 76 args).run Try.prog w = .ok (.enter 76 args) w := by kernel_rfl
theorem cal77 (args : Array Value) (w : World) : (callFunc 77 args).run Try.prog w = .ok (.enter 77 args) w := by kernel_rfl
theorem cal78 (args : Array Value) (w : World) : (callFunc 78 args).run Try.prog w = .ok (.enter 78 args) w := by kernel_rfl
theorem cal79 (args : Array Value) (w : World) : (callFunc 79 args).run Try.prog w = .ok (.enter 79 args) w := by kernel_rfl
theorem cal80 (args : Array Value) (w : World) : (callFunc 80 args).run Try.prog w = .ok (.enter 80 args) w := by kernel_rfl
theorem mixed : Try.prog.follows .mixedOrders = true := by kernel_rfl
end Go.Proofs.Ytjopopmipdakkaa
