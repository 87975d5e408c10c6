/- what the program's tables say of the types and functions that the walks meet -/
import Derived.Test.YtgmpdiehpimpnaaSq
import Derived.Test.YtgmpdiehpimpnaaChecked
namespace Go.Proofs.Ytgmpdiehpimpnaa
open Go Go.RowKit
set_option maxRecDepth 100000
theorem fa24_0 (b off : Nat) (w : World) : (Instr.fieldAt 24 (.pointer (some ⟨b, off, none⟩)) 0).run Try.prog w = .ok (.pointer (some ⟨b, off + 0, none⟩)) w := by kernel_rfl
theorem fa24_1 (b off : Nat) (w : World) : (Instr.fieldAt 24 (.pointer (some ⟨b, off, none⟩)) 1).run Try.prog w = .ok (.pointer (some ⟨b, off + 1, none⟩)) w := by kernel_rfl
theorem fa24_2 (b off : Nat) (w : World) : (Instr.fieldAt 24 (.pointer (some ⟨b, off, none⟩)) 2).run Try.prog w = .ok (.pointer (some ⟨b, off + 2, none⟩)) w := by kernel_rfl
theorem fa24_3 (b off : Nat) (w : World) : (Instr.fieldAt 24 (.pointer (some ⟨b, off, none⟩)) 3).run Try.prog w = .ok (.pointer (some ⟨b, off + 3, none⟩)) w := by kernel_rfl
theorem fa27_0 (b off : Nat) (w : World) : (Instr.fieldAt 27 (.pointer (some ⟨b, off, none⟩)) 0).run Try.prog w = .ok (.pointer (some ⟨b, off + 0, none⟩)) w := by kernel_rfl
theorem fa27_1 (b off : Nat) (w : World) : (Instr.fieldAt 27 (.pointer (some ⟨b, off, none⟩)) 1).run Try.prog w = .ok (.pointer (some ⟨b, off + 1, none⟩)) w := by kernel_rfl
theorem fa27_2 (b off : Nat) (w : World) : (Instr.fieldAt 27 (.pointer (some ⟨b, off, none⟩)) 2).run Try.prog w = .ok (.pointer (some ⟨b, off + 2, none⟩)) w := by kernel_rfl
theorem fa27_3 (b off : Nat) (w : World) : (Instr.fieldAt 27 (.pointer (some ⟨b, off, none⟩)) 3).run Try.prog w = .ok (.pointer (some ⟨b, off + 3, none⟩)) w := by kernel_rfl
theorem fa33_0 (b off : Nat) (w : World) : (Instr.fieldAt 33 (.pointer (some ⟨b, off, none⟩)) 0).run Try.prog w = .ok (.pointer (some ⟨b, off + 0, none⟩)) w := by kernel_rfl
theorem fa33_1 (b off : Nat) (w : World) : (Instr.fieldAt 33 (.pointer (some ⟨b, off, none⟩)) 1).run Try.prog w = .ok (.pointer (some ⟨b, off + 1, none⟩)) w := by kernel_rfl
theorem fa33_2 (b off : Nat) (w : World) : (Instr.fieldAt 33 (.pointer (some ⟨b, off, none⟩)) 2).run Try.prog w = .ok (.pointer (some ⟨b, off + 2, none⟩)) w := by kernel_rfl
theorem fa38_0 (b off : Nat) (w : World) : (Instr.fieldAt 38 (.pointer (some ⟨b, off, none⟩)) 0).run Try.prog w = .ok (.pointer (some ⟨b, off + 0, none⟩)) w := by kernel_rfl
theorem fa38_1 (b off : Nat) (w : World) : (Instr.fieldAt 38 (.pointer (some ⟨b, off, none⟩)) 1).run Try.prog w = .ok (.pointer (some ⟨b, off + 1, none⟩)) w := by kernel_rfl
theorem fa38_2 (b off : Nat) (w : World) : (Instr.fieldAt 38 (.pointer (some ⟨b, off, none⟩)) 2).run Try.prog w = .ok (.pointer (some ⟨b, off + 2, none⟩)) w := by kernel_rfl
theorem fa45_0 (b off : Nat) (w : World) : (Instr.fieldAt 45 (.pointer (some ⟨b, off, none⟩)) 0).run Try.prog w = .ok (.pointer (some ⟨b, off + 0, none⟩)) w := by kernel_rfl
theorem fa51_0 (b off : Nat) (w : World) : (Instr.fieldAt 51 (.pointer (some ⟨b, off, none⟩)) 0).run Try.prog w = .ok (.pointer (some ⟨b, off + 0, none⟩)) w := by kernel_rfl
theorem fa60_0 (b off : Nat) (w : World) : (Instr.fieldAt 60 (.pointer (some ⟨b, off, none⟩)) 0).run Try.prog w = .ok (.pointer (some ⟨b, off + 0, none⟩)) w := by kernel_rfl
theorem fa60_1 (b off : Nat) (w : World) : (Instr.fieldAt 60 (.pointer (some ⟨b, off, none⟩)) 1).run Try.prog w = .ok (.pointer (some ⟨b, off + 1, none⟩)) w := by kernel_rfl
theorem fa60_2 (b off : Nat) (w : World) : (Instr.fieldAt 60 (.pointer (some ⟨b, off, none⟩)) 2).run Try.prog w = .ok (.pointer (some ⟨b, off + 2, none⟩)) w := by kernel_rfl
theorem fa64_0 (b off : Nat) (w : World) : (Instr.fieldAt 64 (.pointer (some ⟨b, off, none⟩)) 0).run Try.prog w = .ok (.pointer (some ⟨b, off + 0, none⟩)) w := by kernel_rfl
theorem fa64_1 (b off : Nat) (w : World) : (Instr.fieldAt 64 (.pointer (some ⟨b, off, none⟩)) 1).run Try.prog w = .ok (.pointer (some ⟨b, off + 1, none⟩)) w := by kernel_rfl
theorem fa64_2 (b off : Nat) (w : World) : (Instr.fieldAt 64 (.pointer (some ⟨b, off, none⟩)) 2).run Try.prog w = .ok (.pointer (some ⟨b, off + 2, none⟩)) w := by kernel_rfl
theorem fa69_0 (b off : Nat) (w : World) : (Instr.fieldAt 69 (.pointer (some ⟨b, off, none⟩)) 0).run Try.prog w = .ok (.pointer (some ⟨b, off + 0, none⟩)) w := by kernel_rfl
theorem fa69_1 (b off : Nat) (w : World) : (Instr.fieldAt 69 (.pointer (some ⟨b, off, none⟩)) 1).run Try.prog w = .ok (.pointer (some ⟨b, off + 1, none⟩)) w := by kernel_rfl
theorem fa69_2 (b off : Nat) (w : World) : (Instr.fieldAt 69 (.pointer (some ⟨b, off, none⟩)) 2).run Try.prog w = .ok (.pointer (some ⟨b, off + 2, none⟩)) w := by kernel_rfl
theorem fa74_0 (b off : Nat) (w : World) : (Instr.fieldAt 74 (.pointer (some ⟨b, off, none⟩)) 0).run Try.prog w = .ok (.pointer (some ⟨b, off + 0, none⟩)) w := by kernel_rfl
theorem fa74_1 (b off : Nat) (w : World) : (Instr.fieldAt 74 (.pointer (some ⟨b, off, none⟩)) 1).run Try.prog w = .ok (.pointer (some ⟨b, off + 1, none⟩)) w := by kernel_rfl
theorem fa74_2 (b off : Nat) (w : World) : (Instr.fieldAt 74 (.pointer (some ⟨b, off, none⟩)) 2).run Try.prog w = .ok (.pointer (some ⟨b, off + 2, none⟩)) w := by kernel_rfl
theorem fa76_0 (b off : Nat) (w : World) : (Instr.fieldAt 76 (.pointer (some ⟨b, off, none⟩)) 0).run Try.prog w = .ok (.pointer (some ⟨b, off + 0, none⟩)) w := by kernel_rfl
theorem fa76_1 (b off : Nat) (w : World) : (Instr.fieldAt 76 (.pointer (some ⟨b, off, none⟩)) 1).run Try.prog w = .ok (.pointer (some ⟨b, off + 3, none⟩)) w := by kernel_rfl
theorem fa76_2 (b off : Nat) (w : World) : (Instr.fieldAt 76 (.pointer (some ⟨b, off, none⟩)) 2).run Try.prog w = .ok (.pointer (some ⟨b, off + 6, none⟩)) w := by kernel_rfl
theorem fa76_3 (b off : Nat) (w : World) : (Instr.fieldAt 76 (.pointer (some ⟨b, off, none⟩)) 3).run Try.prog w = .ok (.pointer (some ⟨b, off + 7, none⟩)) w := by kernel_rfl
theorem fa76_4 (b off : Nat) (w : World) : (Instr.fieldAt 76 (.pointer (some ⟨b, off, none⟩)) 4).run Try.prog w = .ok (.pointer (some ⟨b, off + 8, none⟩)) w := by kernel_rfl
theorem fa78_0 (b off : Nat) (w : World) : (Instr.fieldAt 78 (.pointer (some ⟨b, off, none⟩)) 0).run Try.prog w = .ok (.pointer (some ⟨b, off + 0, none⟩)) w := by kernel_rfl
theorem fa78_1 (b off : Nat) (w : World) : (Instr.fieldAt 78 (.pointer (some ⟨b, off, none⟩)) 1).run Try.prog w = .ok (.pointer (some ⟨b, off + 1, none⟩)) w := by kernel_rfl
theorem fa78_2 (b off : Nat) (w : World) : (Instr.fieldAt 78 (.pointer (some ⟨b, off, none⟩)) 2).run Try.prog w = .ok (.pointer (some ⟨b, off + 2, none⟩)) w := by kernel_rfl
theorem fa80_0 (b off : Nat) (w : World) : (Instr.fieldAt 80 (.pointer (some ⟨b, off, none⟩)) 0).run Try.prog w = .ok (.pointer (some ⟨b, off + 0, none⟩)) w := by kernel_rfl
theorem fa80_1 (b off : Nat) (w : World) : (Instr.fieldAt 80 (.pointer (some ⟨b, off, none⟩)) 1).run Try.prog w = .ok (.pointer (some ⟨b, off + 1, none⟩)) w := by kernel_rfl
theorem fa80_2 (b off : Nat) (w : World) : (Instr.fieldAt 80 (.pointer (some ⟨b, off, none⟩)) 2).run Try.prog w = .ok (.pointer (some ⟨b, off + 10, none⟩)) w := by kernel_rfl
theorem fa80_3 (b off : Nat) (w : World) : (Instr.fieldAt 80 (.pointer (some ⟨b, off, none⟩)) 3).run Try.prog w = .ok (.pointer (some ⟨b, off + 13, none⟩)) w := by kernel_rfl
theorem fa84_0 (b off : Nat) (w : World) : (Instr.fieldAt 84 (.pointer (some ⟨b, off, none⟩)) 0).run Try.prog w = .ok (.pointer (some ⟨b, off + 0, none⟩)) w := by kernel_rfl
theorem fa84_1 (b off : Nat) (w : World) : (Instr.fieldAt 84 (.pointer (some ⟨b, off, none⟩)) 1).run Try.prog w = .ok (.pointer (some ⟨b, off + 3, none⟩)) w := by kernel_rfl
theorem fa84_2 (b off : Nat) (w : World) : (Instr.fieldAt 84 (.pointer (some ⟨b, off, none⟩)) 2).run Try.prog w = .ok (.pointer (some ⟨b, off + 6, none⟩)) w := by kernel_rfl
theorem fa84_3 (b off : Nat) (w : World) : (Instr.fieldAt 84 (.pointer (some ⟨b, off, none⟩)) 3).run Try.prog w = .ok (.pointer (some ⟨b, off + 7, none⟩)) w := by kernel_rfl
theorem fa84_4 (b off : Nat) (w : World) : (Instr.fieldAt 84 (.pointer (some ⟨b, off, none⟩)) 4).run Try.prog w = .ok (.pointer (some ⟨b, off + 8, none⟩)) w := by kernel_rfl
theorem fa85_0 (b off : Nat) (w : World) : (Instr.fieldAt 85 (.pointer (some ⟨b, off, none⟩)) 0).run Try.prog w = .ok (.pointer (some ⟨b, off + 0, none⟩)) w := by kernel_rfl
theorem fa85_1 (b off : Nat) (w : World) : (Instr.fieldAt 85 (.pointer (some ⟨b, off, none⟩)) 1).run Try.prog w = .ok (.pointer (some ⟨b, off + 1, none⟩)) w := by kernel_rfl
theorem fa85_2 (b off : Nat) (w : World) : (Instr.fieldAt 85 (.pointer (some ⟨b, off, none⟩)) 2).run Try.prog w = .ok (.pointer (some ⟨b, off + 2, none⟩)) w := by kernel_rfl
theorem fa87_0 (b off : Nat) (w : World) : (Instr.fieldAt 87 (.pointer (some ⟨b, off, none⟩)) 0).run Try.prog w = .ok (.pointer (some ⟨b, off + 0, none⟩)) w := by kernel_rfl
theorem fa87_1 (b off : Nat) (w : World) : (Instr.fieldAt 87 (.pointer (some ⟨b, off, none⟩)) 1).run Try.prog w = .ok (.pointer (some ⟨b, off + 1, none⟩)) w := by kernel_rfl
theorem fa87_2 (b off : Nat) (w : World) : (Instr.fieldAt 87 (.pointer (some ⟨b, off, none⟩)) 2).run Try.prog w = .ok (.pointer (some ⟨b, off + 10, none⟩)) w := by kernel_rfl
theorem fa87_3 (b off : Nat) (w : World) : (Instr.fieldAt 87 (.pointer (some ⟨b, off, none⟩)) 3).run Try.prog w = .ok (.pointer (some ⟨b, off + 13, none⟩)) w := by kernel_rfl
theorem fa100_0 (b off : Nat) (w : World) : (Instr.fieldAt 100 (.pointer (some ⟨b, off, none⟩)) 0).run Try.prog w = .ok (.pointer (some ⟨b, off + 0, none⟩)) w := by kernel_rfl
theorem fa100_1 (b off : Nat) (w : World) : (Instr.fieldAt 100 (.pointer (some ⟨b, off, none⟩)) 1).run Try.prog w = .ok (.pointer (some ⟨b, off + 1, none⟩)) w := by kernel_rfl
theorem fa100_2 (b off : Nat) (w : World) : (Instr.fieldAt 100 (.pointer (some ⟨b, off, none⟩)) 2).run Try.prog w = .ok (.pointer (some ⟨b, off + 2, none⟩)) w := by kernel_rfl
theorem fa100_3 (b off : Nat) (w : World) : (Instr.fieldAt 100 (.pointer (some ⟨b, off, none⟩)) 3).run Try.prog w = .ok (.pointer (some ⟨b, off + 3, none⟩)) w := by kernel_rfl
theorem fa100_4 (b off : Nat) (w : World) : (Instr.fieldAt 100 (.pointer (some ⟨b, off, none⟩)) 4).run Try.prog w = .ok (.pointer (some ⟨b, off + 4, none⟩)) w := by kernel_rfl
theorem fa140_0 (b off : Nat) (w : World) : (Instr.fieldAt 140 (.pointer (some ⟨b, off, none⟩)) 0).run Try.prog w = .ok (.pointer (some ⟨b, off + 0, none⟩)) w := by kernel_rfl
theorem fa140_1 (b off : Nat) (w : World) : (Instr.fieldAt 140 (.pointer (some ⟨b, off, none⟩)) 1).run Try.prog w = .ok (.pointer (some ⟨b, off + 1, none⟩)) w := by kernel_rfl
theorem fa140_2 (b off : Nat) (w : World) : (Instr.fieldAt 140 (.pointer (some ⟨b, off, none⟩)) 2).run Try.prog w = .ok (.pointer (some ⟨b, off + 2, none⟩)) w := by kernel_rfl
theorem fa140_3 (b off : Nat) (w : World) : (Instr.fieldAt 140 (.pointer (some ⟨b, off, none⟩)) 3).run Try.prog w = .ok (.pointer (some ⟨b, off + 3, none⟩)) w := by kernel_rfl
theorem fa147_0 (b off : Nat) (w : World) : (Instr.fieldAt 147 (.pointer (some ⟨b, off, none⟩)) 0).run Try.prog w = .ok (.pointer (some ⟨b, off + 0, none⟩)) w := by kernel_rfl
theorem fa147_1 (b off : Nat) (w : World) : (Instr.fieldAt 147 (.pointer (some ⟨b, off, none⟩)) 1).run Try.prog w = .ok (.pointer (some ⟨b, off + 1, none⟩)) w := by kernel_rfl
theorem fa147_2 (b off : Nat) (w : World) : (Instr.fieldAt 147 (.pointer (some ⟨b, off, none⟩)) 2).run Try.prog w = .ok (.pointer (some ⟨b, off + 2, none⟩)) w := by kernel_rfl
theorem fa147_3 (b off : Nat) (w : World) : (Instr.fieldAt 147 (.pointer (some ⟨b, off, none⟩)) 3).run Try.prog w = .ok (.pointer (some ⟨b, off + 3, none⟩)) w := by kernel_rfl
theorem fa147_4 (b off : Nat) (w : World) : (Instr.fieldAt 147 (.pointer (some ⟨b, off, none⟩)) 4).run Try.prog w = .ok (.pointer (some ⟨b, off + 4, none⟩)) w := by kernel_rfl
theorem fa164_0 (b off : Nat) (w : World) : (Instr.fieldAt 164 (.pointer (some ⟨b, off, none⟩)) 0).run Try.prog w = .ok (.pointer (some ⟨b, off + 0, none⟩)) w := by kernel_rfl
theorem fa164_1 (b off : Nat) (w : World) : (Instr.fieldAt 164 (.pointer (some ⟨b, off, none⟩)) 1).run Try.prog w = .ok (.pointer (some ⟨b, off + 1, none⟩)) w := by kernel_rfl
theorem fa169_0 (b off : Nat) (w : World) : (Instr.fieldAt 169 (.pointer (some ⟨b, off, none⟩)) 0).run Try.prog w = .ok (.pointer (some ⟨b, off + 0, none⟩)) w := by kernel_rfl
theorem fa169_1 (b off : Nat) (w : World) : (Instr.fieldAt 169 (.pointer (some ⟨b, off, none⟩)) 1).run Try.prog w = .ok (.pointer (some ⟨b, off + 1, none⟩)) w := by kernel_rfl
theorem z27 (w : World) : (zeroValue 27).run Try.prog w = .ok (.agg #[(Iv 0), (Iv 0), (Iv 0), (.slice none 0 0)]) w := by kernel_rfl
theorem z38 (w : World) : (zeroValue 38).run Try.prog w = .ok (.agg #[(Iv 0), (Iv 0), (.slice none 0 0)]) w := by kernel_rfl
theorem z51 (w : World) : (zeroValue 51).run Try.prog w = .ok (.agg #[(.slice none 0 0)]) w := by kernel_rfl
theorem z64 (w : World) : (zeroValue 64).run Try.prog w = .ok (.agg #[(Fl 0), (Fl 0), (Fl 0)]) w := by kernel_rfl
theorem z69 (w : World) : (zeroValue 69).run Try.prog w = .ok (.agg #[(.string (⟨#[]⟩)), (.slice none 0 0), (.slice none 0 0)]) w := by kernel_rfl
theorem z84 (w : World) : (zeroValue 84).run Try.prog w = .ok (.agg #[(Fl 0), (Fl 0), (Fl 0), (Fl 0), (Fl 0), (Fl 0), (Fl 0), (Iv 0), (Iv 0)]) w := by kernel_rfl
theorem z85 (w : World) : (zeroValue 85).run Try.prog w = .ok (.agg #[(Fl 0), (Fl 0), (Iv 0)]) w := by kernel_rfl
theorem z87 (w : World) : (zeroValue 87).run Try.prog w = .ok (.agg #[(.slice none 0 0), (Fl 0), (Fl 0), (Fl 0), (Fl 0), (Fl 0), (Fl 0), (Fl 0), (Iv 0), (Iv 0), (Fl 0), (Fl 0), (Fl 0), (Fl 0), (Fl 0), (Iv 0)]) w := by kernel_rfl
theorem z100 (w : World) : (zeroValue 100).run Try.prog w = .ok (.agg #[(Iv 0), (Iv 0), (Iv 0), (Iv 0), (Iv 0), (Iv 0), (Iv 0), (.slice none 0 0)]) w := by kernel_rfl
theorem z140 (w : World) : (zeroValue 140).run Try.prog w = .ok (.agg #[(Iv 0), (Iv 0), (Bo false), (Iv 0)]) w := by kernel_rfl
theorem z164 (w : World) : (zeroValue 164).run Try.prog w = .ok (.agg #[(Iv 0), (Fl 0), (Fl 0), (Fl 0)]) w := by kernel_rfl
theorem inf2 : ∃ i, Try.prog.info? 2 = some i ∧ i.zero = some (Iv 0) ∧ i.size = 1 ∧ i.bytes ≤ 1000 := info_of (by kernel_rfl)
theorem inf3 : ∃ i, Try.prog.info? 3 = some i ∧ i.zero = some (Iv 0) ∧ i.size = 1 ∧ i.bytes ≤ 1000 := info_of (by kernel_rfl)
theorem inf5 : ∃ i, Try.prog.info? 5 = some i ∧ i.zero = some (Uv 0) ∧ i.size = 1 ∧ i.bytes ≤ 1000 := info_of (by kernel_rfl)
theorem inf27 : ∃ i, Try.prog.info? 27 = some i ∧ i.zero = some (.agg #[(Iv 0), (Iv 0), (Iv 0), (.slice none 0 0)]) ∧ i.size = 4 ∧ i.bytes ≤ 1000 := info_of (by kernel_rfl)
theorem inf62 : ∃ i, Try.prog.info? 62 = some i ∧ i.zero = some (Fl 0) ∧ i.size = 1 ∧ i.bytes ≤ 1000 := info_of (by kernel_rfl)
theorem inf100 : ∃ i, Try.prog.info? 100 = some i ∧ i.zero = some (.agg #[(Iv 0), (Iv 0), (Iv 0), (Iv 0), (Iv 0), (Iv 0), (Iv 0), (.slice none 0 0)]) ∧ i.size = 8 ∧ i.bytes ≤ 1000 := info_of (by kernel_rfl)
theorem inf164 : ∃ i, Try.prog.info? 164 = some i ∧ i.zero = some (.agg #[(Iv 0), (Fl 0), (Fl 0), (Fl 0)]) ∧ i.size = 4 ∧ i.bytes ≤ 1000 := info_of (by kernel_rfl)
theorem cal10 (args : Array Value) (w : World) : (callFunc 10 args).run Try.prog w = .ok (.enter 10 args) w := by kernel_rfl
theorem cal11 (args : Array Value) (w : World) : (callFunc 11 args).run Try.prog w = .ok (.enter 11 args) w := by kernel_rfl
theorem cal12 (args : Array Value) (w : World) : (callFunc 12 args).run Try.prog w = .ok (.enter 12 args) w := by kernel_rfl
theorem cal13 (args : Array Value) (w : World) : (callFunc 13 args).run Try.prog w = .ok (.enter 13 args) w := by kernel_rfl
theorem cal14 (args : Array Value) (w : World) : (callFunc 14 args).run Try.prog w = .ok (.enter 14 args) w := by kernel_rfl
theorem cal15 (args : Array Value) (w : World) : (callFunc 15 args).run Try.prog w = .ok (.enter 15 args) w := by kernel_rfl
theorem cal16 (args : Array Value) (w : World) : (callFunc 16 args).run Try.prog w = .ok (.enter 16 args) w := by kernel_rfl
theorem cal17 (args : Array Value) (w : World) : (callFunc 17 args).run Try.prog w = .ok (.enter 17 args) w := by kernel_rfl
theorem cal18 (args : Array Value) (w : World) : (callFunc 18 args).run Try.prog w = .ok (.enter 18 args) w := by kernel_rfl
theorem cal19 (args : Array Value) (w : World) : (callFunc 19 args).run Try.prog w = .ok (.enter 19 args) w := by kernel_rfl
theorem cal20 (args : Array Value) (w : World) : (callFunc 20 args).run Try.prog w = .ok (.enter 20 args) w := by kernel_rfl
theorem cal21 (args : Array Value) (w : World) : (callFunc 21 args).run Try.prog w = .ok (.enter 21 args) w := by kernel_rfl
theorem cal22 (args : Array Value) (w : World) : (callFunc 22 args).run Try.prog w = .ok (.enter 22 args) w := by kernel_rfl
theorem cal23 (args : Array Value) (w : World) : (callFunc 23 args).run Try.prog w = .ok (.enter 23 args) w := by kernel_rfl
theorem cal24 (args : Array Value) (w : World) : (callFunc 24 args).run Try.prog w = .ok (.enter 24 args) w := by kernel_rfl
theorem cal25 (args : Array Value) (w : World) : (callFunc 25 args).run Try.prog w = .ok (.enter 25 args) w := by kernel_rfl
theorem cal26 (args : Array Value) (w : World) : (callFunc 26 args).run Try.prog w = .ok (.enter 26 args) w := by kernel_rfl
theorem cal27 (args : Array Value) (w : World) : (callFunc 27 args).run Try.prog w = .ok (.enter 27 args) w := by kernel_rfl
theorem cal28 (args : Array Value) (w : World) : (callFunc 28 args).run Try.prog w = .ok (.enter 28 args) w := by kernel_rfl
theorem cal29 (args : Array Value) (w : World) : (callFunc 29 args).run Try.prog w = .ok (.enter 29 args) w := by kernel_rfl
theorem cal30 (args : Array Value) (w : World) : (callFunc 30 args).run Try.prog w = .ok (.enter 30 args) w := by kernel_rfl
theorem cal31 (args : Array Value) (w : World) : (callFunc 31 args).run Try.prog w = .ok (.enter 31 args) w := by kernel_rfl
theorem cal32 (args : Array Value) (w : World) : (callFunc 32 args).run Try.prog w = .ok (.enter 32 args) w := by kernel_rfl
theorem cal33 (args : Array Value) (w : World) : (callFunc 33 args).run Try.prog w = .ok (.enter 33 args) w := by kernel_rfl
theorem cal34 (args : Array Value) (w : World) : (callFunc 34 args).run Try.prog w = .ok (.enter 34 args) w := by kernel_rfl
theorem cal35 (args : Array Value) (w : World) : (callFunc 35 args).run Try.prog w = .ok (.enter 35 args) w := by kernel_rfl
theorem cal36 (args : Array Value) (w : World) : (callFunc 36 args).run Try.prog w = .ok (.enter 36 args) w := by kernel_rfl
theorem cal37 (args : Array Value) (w : World) : (callFunc 37 args).run Try.prog w = .ok (.enter 37 args) w := by kernel_rfl
theorem cal38 (args : Array Value) (w : World) : (callFunc 38 args).run Try.prog w = .ok (.enter 38 args) w := by kernel_rfl
theorem cal39 (args : Array Value) (w : World) : (callFunc 39 args).run Try.prog w = .ok (.enter 39 args) w := by kernel_rfl
theorem cal40 (args : Array Value) (w : World) : (callFunc 40 args).run Try.prog w = .ok (.enter 40 args) w := by kernel_rfl
theorem cal41 (args : Array Value) (w : World) : (callFunc 41 args).run Try.prog w = .ok (.enter 41 args) w := by kernel_rfl
theorem cal42 (args : Array Value) (w : World) : (callFunc 42 args).run Try.prog w = .ok (.enter 42 args) w := by kernel_rfl
theorem cal43 (args : Array Value) (w : World) : (callFunc 43 args).run Try.prog w = .ok (.enter 43 args) w := by kernel_rfl
theorem cal44 (args : Array Value) (w : World) : (callFunc 44 args).run Try.prog w = .ok (.enter 44 args) w := by kernel_rfl
theorem cal45 (args : Array Value) (w : World) : (callFunc 45 args).run Try.prog w = .ok (.enter 45 args) w := by kernel_rfl
theorem cal46 (args : Array Value) (w : World) : (callFunc 46 args).run Try.prog w = .ok (.enter 46 args) w := by kernel_rfl
theorem cal47 (args : Array Value) (w : World) : (callFunc 47 args).run Try.prog w = .ok (.enter 47 args) w := by kernel_rfl
theorem cal48 (args : Array Value) (w : World) : (callFunc 48 args).run Try.prog w = .ok (.enter 48 args) w := by kernel_rfl
theorem cal49 (args : Array Value) (w : World) : (callFunc 49 args).run Try.prog w = .ok (.enter 49 args) w := by kernel_rfl
theorem cal50 (args : Array Value) (w : World) : (callFunc 50 args).run Try.prog w = .ok (.enter 50 args) w := by kernel_rfl
theorem cal51 (args : Array Value) (w : World) : (callFunc 51 args).run Try.prog w = .ok (.enter 51 args) w := by kernel_rfl
theorem cal52 (args : Array Value) (w : World) : (callFunc 52 args).run Try.prog w = .ok (.enter 52 args) w := by kernel_rfl
theorem cal53 (args : Array Value) (w : World) : (callFunc 53 args).run Try.prog w = .ok (.enter 53 args) w := by kernel_rfl
theorem cal54 (args : Array Value) (w : World) : (callFunc 54 args).run Try.prog w = .ok (.enter 54 args) w := by kernel_rfl
theorem cal55 (args : Array Value) (w : World) : (callFunc 55 args).run Try.prog w = .ok (.enter 55 args) w := by kernel_rfl
theorem cal56 (args : Array Value) (w : World) : (callFunc 56 args).run Try.prog w = .ok (.enter 56 args) w := by kernel_rfl
theorem cal57 (args : Array Value) (w : World) : (callFunc 57 args).run Try.prog w = .ok (.enter 57 args) w := by kernel_rfl
theorem cal58 (args : Array Value) (w : World) : (callFunc 58 args).run Try.prog w = .ok (.enter 58 args) w := by kernel_rfl
theorem cal59 (args : Array Value) (w : World) : (callFunc 59 args).run Try.prog w = .ok (.enter 59 args) w := by kernel_rfl
theorem cal60 (args : Array Value) (w : World) : (callFunc 60 args).run Try.prog w = .ok (.enter 60 args) w := by kernel_rfl
theorem cal61 (args : Array Value) (w : World) : (callFunc 61 args).run Try.prog w = .ok (.enter 61 args) w := by kernel_rfl
theorem cal62 (args : Array Value) (w : World) : (callFunc 62 args).run Try.prog w = .ok (.enter 62 args) w := by kernel_rfl
theorem cal63 (args : Array Value) (w : World) : (callFunc 63 args).run Try.prog w = .ok (.enter 63 args) w := by kernel_rfl
theorem cal64 (args : Array Value) (w : World) : (callFunc 64 args).run Try.prog w = .ok (.enter 64 args) w := by kernel_rfl
theorem cal65 (args : Array Value) (w : World) : (callFunc 65 args).run Try.prog w = .ok (.enter 65 args) w := by kernel_rfl
theorem cal66 (args : Array Value) (w : World) : (callFunc 66 args).run Try.prog w = .ok (.enter 66 args) w := by kernel_rfl
theorem cal67 (args : Array Value) (w : World) : (callFunc 67 args).run Try.prog w = .ok (.enter 67 args) w := by kernel_rfl
theorem cal68 (args : Array Value) (w : World) : (callFunc 68 args).run Try.prog w = .ok (.enter 68 args) w := by kernel_rfl
theorem cal69 (args : Array Value) (w : World) : (callFunc 69 args).run Try.prog w = .ok (.enter 69 args) w := by kernel_rfl
theorem cal70 (args : Array Value) (w : World) : (callFunc 70 args).run Try.prog w = .ok (.enter 70 args) w := by kernel_rfl
theorem cal71 (args : Array Value) (w : World) : (callFunc 71 args).run Try.prog w = .ok (.enter 71 args) w := by kernel_rfl
theorem cal72 (args : Array Value) (w : World) : (callFunc 72 args).run Try.prog w = .ok (.enter 72 args) w := by kernel_rfl
theorem cal73 (args : Array Value) (w : World) : (callFunc 73 args).run Try.prog w = .ok (.enter 73 args) w := by kernel_rfl
theorem cal74 (args : Array Value) (w : World) : (callFunc 74 args).run Try.prog w = .ok (.enter 74 args) w := by kernel_rfl
theorem cal75 (args : Array Value) (w : World) : (callFunc 75 args).run Try.prog w = .ok (.enter 75 args) w := by kernel_rfl
theorem cal76 (args : Array Value) (w : World) : (callFunc 76 args).run Try.prog w = .ok (.enter 76 args) w := by kernel_rfl
theorem cal77 (args : Array Value) (w : World) : (callFunc 77 args).run Try.prog w = .ok (.enter 77 args) w := by kernel_rfl
theorem cal78 (args : Array Value) (w : World) : (callFunc 78 args).run Try.prog w = .ok (.enter 78 args) w := by kernel_rfl
theorem cal79 (args : Array Value) (w : World) : (callFunc 79 args).run Try.prog w = .ok (.enter 79 args) w := by kernel_rfl
theorem cal80 (args : Array Value) (w : World) : (callFunc 80 args).run Try.prog w = .ok (.enter 80 args) w := by kernel_rfl
theorem cal81 (args : Array Value) (w : World) : (callFunc 81 args).run Try.prog w = .ok (.enter 81 args) w := by kernel_rfl
theorem cal82 (args : Array Value) (w : World) : (callFunc 82 args).run Try.prog w = .ok (.enter 82 args) w := by kernel_rfl
theorem cal83 (args : Array Value) (w : World) : (callFunc 83 args).run Try.prog w = .ok (.enter 83 args) w := by kernel_rfl
theorem cal84 (args : Array Value) (w : World) : (callFunc 84 args).run Try.prog w = .ok (.enter 84 args) w := by kernel_rfl
theorem cal85 (args : Array Value) (w : World) : (callFunc 85 args).run Try.prog w = .ok (.enter 85 args) w := by kernel_rfl
theorem cal86 (args : Array Value) (w : World) : (callFunc 86 args).run Try.prog w = .ok (.enter 86 args) w := by kernel_rfl
theorem cal87 (args : Array Value) (w : World) : (callFunc 87 args).run Try.prog w = .ok (.enter 87 args) w := by kernel_rfl
theorem cal88 (args : Array Value) (w : World) : (callFunc 88 args).run Try.prog w = .ok (.enter 88 args) w := by kernel_rfl
theorem cal89 (args : Array Value) (w : World) : (callFunc 89 args).run Try.prog w = .ok (.enter 89 args) w := by kernel_rfl
theorem cal90 (args : Array Value) (w : World) : (callFunc 90 args).run Try.prog w = .ok (.enter 90 args) w := by kernel_rfl
theorem cal91 (args : Array Value) (w : World) : (callFunc 91 args).run Try.prog w = .ok (.enter 91 args) w := by kernel_rfl
theorem cal92 (args : Array Value) (w : World) : (callFunc 92 args).run Try.prog w = .ok (.enter 92 args) w := by kernel_rfl
theorem cal93 (args : Array Value) (w : World) : (callFunc 93 args).run Try.prog w = .ok (.enter 93 args) w := by kernel_rfl
theorem cal94 (args : Array Value) (w : World) : (callFunc 94 args).run Try.prog w = .ok (.enter 94 args) w := by kernel_rfl
theorem cal95 (args : Array Value) (w : World) : (callFunc 95 args).run Try.prog w = .ok (.enter 95 args) w := by kernel_rfl
theorem cal96 (args : Array Value) (w : World) : (callFunc 96 args).run Try.prog w = .ok (.enter 96 args) w := by kernel_rfl
theorem cal97 (args : Array Value) (w : World) : (callFunc 97 args).run Try.prog w = .ok (.enter 97 args) w := by kernel_rfl
theorem cal98 (args : Array Value) (w : World) : (callFunc 98 args).run Try.prog w = .ok (.enter 98 args) w := by kernel_rfl
theorem cal99 (args : Array Value) (w : World) : (callFunc 99 args).run Try.prog w = .ok (.enter 99 args) w := by kernel_rfl
theorem cal100 (args : Array Value) (w : World) : (callFunc 100 args).run Try.prog w = .ok (.enter 100 args) w := by kernel_rfl
theorem cal101 (args : Array Value) (w : World) : (callFunc 101 args).run Try.prog w = .ok (.enter 101 args) w := by kernel_rfl
theorem cal102 (args : Array Value) (w : World) : (callFunc 102 args).run Try.prog w = .ok (.enter 102 args) w := by kernel_rfl
theorem cal103 (args : Array Value) (w : World) : (callFunc 103 args).run Try.prog w = .ok (.enter 103 args) w := by kernel_rfl
theorem cal104 (args : Array Value) (w : World) : (callFunc 104 args).run Try.prog w = .ok (.enter 104 args) w := by kernel_rfl
theorem cal105 (args : Array Value) (w : World) : (callFunc 105 args).run Try.prog w = .ok (.enter 105 args) w := by kernel_rfl
theorem cal106 (args : Array Value) (w : World) : (callFunc 106 args).run Try.prog w = .ok (.enter 106 args) w := by kernel_rfl
theorem cal107 (args : Array Value) (w : World) : (callFunc 107 args).run Try.prog w = .ok (.enter 107 args) w := by kernel_rfl
theorem cal108 (args : Array Value) (w : World) : (callFunc 108 args).run Try.prog w = .ok (.enter 108 args) w := by kernel_rfl
theorem cal109 (args : Array Value) (w : World) : (callFunc 109 args).run Try.prog w = .ok (.enter 109 args) w := by kernel_rfl
theorem cal110 (args : Array Value) (w : World) : (callFunc 110 args).run Try.prog w = .ok (.enter 110 args) w := by kernel_rfl
theorem cal111 (args : Array Value) (w : World) : (callFunc 111 args).run Try.prog w = .ok (.enter 111 args) w := by kernel_rfl
theorem cal112 (args : Array Value) (w : World) : (callFunc 112 args).run Try.prog w = .ok (.enter 112 args) w := by kernel_rfl
theorem cal113 (args : Array Value) (w : World) : (callFunc 113 args).run Try.prog w = .ok (.enter 113 args) w := by kernel_rfl
theorem cal114 (args : Array Value) (w : World) : (callFunc 114 args).run Try.prog w = .ok (.enter 114 args) w := by kernel_rfl
theorem cal115 (args : Array Value) (w : World) : (callFunc 115 args).run Try.prog w = .ok (.enter 115 args) w := by kernel_rfl
theorem cal116 (args : Array Value) (w : World) : (callFunc 116 args).run Try.prog w = .ok (.enter 116 args) w := by kernel_rfl
theorem cal117 (args : Array Value) (w : World) : (callFunc 117 args).run Try.prog w = .ok (.enter 117 args) w := by kernel_rfl
theorem cal118 (args : Array Value) (w : World) : (callFunc 118 args).run Try.prog w = .ok (.enter 118 args) w := by kernel_rfl
theorem cal119 (args : Array Value) (w : World) : (callFunc 119 args).run Try.prog w = .ok (.enter 119 args) w := by kernel_rfl
theorem cal120 (args : Array Value) (w : World) : (callFunc 120 args).run Try.prog w = .ok (.enter 120 args) w := by kernel_rfl
theorem cal121 (args : Array Value) (w : World) : (callFunc 121 args).run Try.prog w = .ok (.enter 121 args) w := by kernel_rfl
theorem cal122 (args : Array Value) (w : World) : (callFunc 122 args).run Try.prog w = .ok (.enter 122 args) w := by kernel_rfl
theorem cal123 (args : Array Value) (w : World) : (callFunc 123 args).run Try.prog w = .ok (.enter 123 args) w := by kernel_rfl
theorem cal124 (args : Array Value) (w : World) : (callFunc 124 args).run Try.prog w = .ok (.enter 124 args) w := by kernel_rfl
theorem cal125 (args : Array Value) (w : World) : (callFunc 125 args).run Try.prog w = .ok (.enter 125 args) w := by kernel_rfl
theorem cal126 (args : Array Value) (w : World) : (callFunc 126 args).run Try.prog w = .ok (.enter 126 args) w := by kernel_rfl
theorem cal127 (args : Array Value) (w : World) : (callFunc 127 args).run Try.prog w = .ok (.enter 127 args) w := by kernel_rfl
theorem cal128 (args : Array Value) (w : World) : (callFunc 128 args).run Try.prog w = .ok (.enter 128 args) w := by kernel_rfl
theorem cal129 (args : Array Value) (w : World) : (callFunc 129 args).run Try.prog w = .ok (.enter 129 args) w := by kernel_rfl
theorem cal130 (args : Array Value) (w : World) : (callFunc 130 args).run Try.prog w = .ok (.enter 130 args) w := by kernel_rfl
theorem cal131 (args : Array Value) (w : World) : (callFunc 131 args).run Try.prog w = .ok (.enter 131 args) w := by kernel_rfl
theorem cal132 (args : Array Value) (w : World) : (callFunc 132 args).run Try.prog w = .ok (.enter 132 args) w := by kernel_rfl
theorem cal133 (args : Array Value) (w : World) : (callFunc 133 args).run Try.prog w = .ok (.enter 133 args) w := by kernel_rfl
theorem cal134 (args : Array Value) (w : World) : (callFunc 134 args).run Try.prog w = .ok (.enter 134 args) w := by kernel_rfl
theorem cal135 (args : Array Value) (w : World) : (callFunc 135 args).run Try.prog w = .ok (.enter 135 args) w := by kernel_rfl
theorem cal136 (args : Array Value) (w : World) : (callFunc 136 args).run Try.prog w = .ok (.enter 136 args) w := by kernel_rfl
theorem cal137 (args : Array Value) (w : World) : (callFunc 137 args).run Try.prog w = .ok (.enter 137 args) w := by kernel_rfl
theorem cal138 (args : Array Value) (w : World) : (callFunc 138 args).run Try.prog w = .ok (.enter 138 args) w := by kernel_rfl
theorem cal139 (args : Array Value) (w : World) : (callFunc 139 args).run Try.prog w = .ok (.enter 139 args) w := by kernel_rfl
theorem cal140 (args : Array Value) (w : World) : (callFunc 140 args).run Try.prog w = .ok (.enter 140 args) w := by kernel_rfl
theorem cal141 (args : Array Value) (w : World) : (callFunc 141 args).run Try.prog w = .ok (.enter 141 args) w := by kernel_rfl
theorem cal142 (args : Array Value) (w : World) : (callFunc 142 args).run Try.prog w = .ok (.enter 142 args) w := by kernel_rfl
theorem cal143 (args : Array Value) (w : World) : (callFunc 143 args).run Try.prog w = .ok (.enter 143 args) w := by kernel_rfl
theorem cal144 (args : Array Value) (w : World) : (callFunc 144 args).run Try.prog w = .ok (.enter 144 args) w := by kernel_rfl
theorem cal145 (args : Array Value) (w : World) : (callFunc 145 args).run Try.prog w = .ok (.enter 145 args) w := by kernel_rfl
theorem cal147 (args : Array Value) (w : World) : (callFunc 147 args).run Try.prog w = .ok (.enter 147 args) w := by kernel_rfl
theorem cal148 (args : Array Value) (w : World) : (callFunc 148 args).run Try.prog w = .ok (.enter 148 args) w := by kernel_rfl
theorem cal149 (args : Array Value) (w : World) : (callFunc 149 args).run Try.prog w = .ok (.enter 149 args) w := by kernel_rfl
theorem cal150 (args : Array Value) (w : World) : (callFunc 150 args).run Try.prog w = .ok (.enter 150 args) w := by kernel_rfl
theorem cal151 (args : Array Value) (w : World) : (callFunc 151 args).run Try.prog w = .ok (.enter 151 args) w := by kernel_rfl
theorem cal152 (args : Array Value) (w : World) : (callFunc 152 args).run Try.prog w = .ok (.enter 152 args) w := by kernel_rfl
theorem cal153 (args : Array Value) (w : World) : (callFunc 153 args).run Try.prog w = .ok (.enter 153 args) w := by kernel_rfl
theorem cal154 (args : Array Value) (w : World) : (callFunc 154 args).run Try.prog w = .ok (.enter 154 args) w := by kernel_rfl
theorem cal155 (args : Array Value) (w : World) : (callFunc 155 args).run Try.prog w = .ok (.enter 155 args) w := by kernel_rfl
theorem cal156 (args : Array Value) (w : World) : (callFunc 156 args).run Try.prog w = .ok (.enter 156 args) w := by kernel_rfl
theorem cal157 (args : Array Value) (w : World) : (callFunc 157 args).run Try.prog w = .ok (.enter 157 args) w := by kernel_rfl
theorem cal158 (args : Array Value) (w : World) : (callFunc 158 args).run Try.prog w = .ok (.enter 158 args) w := by kernel_rfl
theorem cal159 (args : Array Value) (w : World) : (callFunc 159 args).run Try.prog w = .ok (.enter 159 args) w := by kernel_rfl
theorem cal160 (args : Array Value) (w : World) : (callFunc 160 args).run Try.prog w = .ok (.enter 160 args) w := by kernel_rfl
theorem cal161 (args : Array Value) (w : World) : (callFunc 161 args).run Try.prog w = .ok (.enter 161 args) w := by kernel_rfl
theorem cal162 (args : Array Value) (w : World) : (callFunc 162 args).run Try.prog w = .ok (.enter 162 args) w := by kernel_rfl
theorem csq163 (p : Nat) (w : World) : (callFunc 163 #[.float .f64 p]).run Try.prog w = ((Extern.MathSqrt.sqrt #[.float .f64 p]).run Try.prog w).andThen fun v w' => .ok (.value v) w' := run_callFunc_extern (P := Try.prog) (e := Extern.MathSqrt.sqrt) Try.func163 (by kernel_rfl) (by kernel_rfl) (by kernel_rfl) (by kernel_rfl) #[.float .f64 p] w
theorem mixed : Try.prog.follows .mixedOrders = true := by kernel_rfl
end Go.Proofs.Ytgmpdiehpimpnaa
