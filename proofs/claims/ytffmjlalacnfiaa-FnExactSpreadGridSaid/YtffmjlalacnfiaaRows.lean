/-
  No cell of these rows narrows 'for every input' (looked for: loops, veiled, ifaces, maps, wideKeys, modest, calm, conditions, laid).
  DERIVED. THE GIVEN ROWS OF THIS SEAT. 4 by the template 'for every input the law returns true; each argument reads behind the call as it read before'; 0 by the template 'total and deterministic' (their statements: YtffmjlalacnfiaaTotals.lean).
  GIVEN WITH THE SEED: the statements are not yours to turn. If you find one false, say at which input.
  Laid BY PROGRAM, IN A SANDBOX (cutbox-rows.mjs): the forced cells as the released guide's own fill.sh prints them over the translation 32bcb0a0a167e469… (all of the seat's roots in one cut). By AI agents, Wed Nov 11 2026. No macro, syntax, notation, axiom, sorry.
-/
import Derived.Test.YtffmjlalacnfiaaChecked
import GoSem.Claim
import GoSem.ClaimJoined
import GoSem.ClaimMapViews
import Derived.JoinedTies
import Derived.KernelRfl
namespace Go.Proofs.Ytffmjlalacnfiaa
/- THE CELL 'sum', in the pinned program and in every row, IS THE sha256 OF THE DUMP (.gsa) THAT YtffmjlalacnfiaaProg.lean LOADS. Nothing in Lean hashes anything: it is a label: what it is worth is what the hold of that sum in a sandbox is worth. -/
noncomputable def Try.pinned : Pinned := { name := "ytffmjlalacnfiaa", sum := "32bcb0a0a167e469474626392bcf4164394f67df8e2e48f866c99660a9203b10", checked := Try.checked }
namespace Rows
def none {H : Type} : Left H := { results := [], args := [] }

/-- 'laws.FnExactHalveGrid': WHATEVER THE INPUT: true; the input reads as it did. -/
def fnExactHalveGridSpec : ChangeSpec := { name := "fnExactHalveGrid", fn := fun _ => fun
  | [d] => { results := [.lit (.bool true)], args := [d] }
  | _ => none }
def fnExactHalveGridRow : OpenClaim := { program := "ytffmjlalacnfiaa", sum := "32bcb0a0a167e469474626392bcf4164394f67df8e2e48f866c99660a9203b10", func := "loop.example/g01193/laws.FnExactHalveGrid", spec := "fnExactHalveGrid", unfollowed := true, recurses := true, apart := false }
def FnExactHalveGridSaid : Prop := fnExactHalveGridRow.holds Try.pinned (OpenSpec.ofChange fnExactHalveGridSpec)

/-- ITS FALSE NEIGHBOUR: 'it returns false'. Refute it at one input. -/
def fnExactHalveGridWrong : ChangeSpec := { name := "fnExactHalveGrid", fn := fun _ => fun
  | [d] => { results := [.lit (.bool false)], args := [d] }
  | _ => none }
def FnExactHalveGridWrongFalsely : Prop := fnExactHalveGridRow.holds Try.pinned (OpenSpec.ofChange fnExactHalveGridWrong)

/-- 'laws.FnExactCropGrid': WHATEVER THE INPUT: true; the input reads as it did. -/
def fnExactCropGridSpec : ChangeSpec := { name := "fnExactCropGrid", fn := fun _ => fun
  | [d1, d2, d3] => { results := [.lit (.bool true)], args := [d1, d2, d3] }
  | _ => none }
def fnExactCropGridRow : OpenClaim := { program := "ytffmjlalacnfiaa", sum := "32bcb0a0a167e469474626392bcf4164394f67df8e2e48f866c99660a9203b10", func := "loop.example/g01193/laws.FnExactCropGrid", spec := "fnExactCropGrid", unfollowed := true, recurses := true, apart := false }
def FnExactCropGridSaid : Prop := fnExactCropGridRow.holds Try.pinned (OpenSpec.ofChange fnExactCropGridSpec)

/-- ITS FALSE NEIGHBOUR: 'it returns false'. Refute it at one input. -/
def fnExactCropGridWrong : ChangeSpec := { name := "fnExactCropGrid", fn := fun _ => fun
  | [d1, d2, d3] => { results := [.lit (.bool false)], args := [d1, d2, d3] }
  | _ => none }
def FnExactCropGridWrongFalsely : Prop := fnExactCropGridRow.holds Try.pinned (OpenSpec.ofChange fnExactCropGridWrong)

/-- 'laws.FnExactSweepGrid': WHATEVER THE INPUT: true; the input reads as it did. -/
def fnExactSweepGridSpec : ChangeSpec := { name := "fnExactSweepGrid", fn := fun _ => fun
  | [d1, d2] => { results := [.lit (.bool true)], args := [d1, d2] }
  | _ => none }
def fnExactSweepGridRow : OpenClaim := { program := "ytffmjlalacnfiaa", sum := "32bcb0a0a167e469474626392bcf4164394f67df8e2e48f866c99660a9203b10", func := "loop.example/g01193/laws.FnExactSweepGrid", spec := "fnExactSweepGrid", unfollowed := true, recurses := true, apart := false }
def FnExactSweepGridSaid : Prop := fnExactSweepGridRow.holds Try.pinned (OpenSpec.ofChange fnExactSweepGridSpec)

/-- ITS FALSE NEIGHBOUR: 'it returns false'. Refute it at one input. -/
def fnExactSweepGridWrong : ChangeSpec := { name := "fnExactSweepGrid", fn := fun _ => fun
  | [d1, d2] => { results := [.lit (.bool false)], args := [d1, d2] }
  | _ => none }
def FnExactSweepGridWrongFalsely : Prop := fnExactSweepGridRow.holds Try.pinned (OpenSpec.ofChange fnExactSweepGridWrong)

/-- 'laws.FnExactSpreadGrid': WHATEVER THE INPUT: true; the input reads as it did. -/
def fnExactSpreadGridSpec : ChangeSpec := { name := "fnExactSpreadGrid", fn := fun _ => fun
  | [d] => { results := [.lit (.bool true)], args := [d] }
  | _ => none }
def fnExactSpreadGridRow : OpenClaim := { program := "ytffmjlalacnfiaa", sum := "32bcb0a0a167e469474626392bcf4164394f67df8e2e48f866c99660a9203b10", func := "loop.example/g01193/laws.FnExactSpreadGrid", spec := "fnExactSpreadGrid", unfollowed := true, recurses := true, apart := false }
def FnExactSpreadGridSaid : Prop := fnExactSpreadGridRow.holds Try.pinned (OpenSpec.ofChange fnExactSpreadGridSpec)

/-- ITS FALSE NEIGHBOUR: 'it returns false'. Refute it at one input. -/
def fnExactSpreadGridWrong : ChangeSpec := { name := "fnExactSpreadGrid", fn := fun _ => fun
  | [d] => { results := [.lit (.bool false)], args := [d] }
  | _ => none }
def FnExactSpreadGridWrongFalsely : Prop := fnExactSpreadGridRow.holds Try.pinned (OpenSpec.ofChange fnExactSpreadGridWrong)

/- THE SECOND FORM. 'bulk': how many values and letters a reading holds, each counted each time it is reached (what is shared counts as often as it is met; a slice's spare places count too). A statement '..UptoSaid' is the law's where the arguments, and the package variables that the reading takes, are together of bulk at most 1048576: NARROWER than '..Said'. Prove '..Said' where nothing that the law and all that it calls make is longer than what came in: it says more and counts as full. Else prove '..UptoSaid'. A law counts once. -/
mutual
def uptoBulk {H : Type} : DataW H → Nat
  | .lit (.string bytes) => bytes.length + 1
  | .lit _ => 1
  | .nil => 1
  | .ptr d => uptoBulk d + 1
  | .slice elems spare => uptoBulkAll elems + uptoBulkAll spare + 1
  | .agg parts => uptoBulkAll parts + 1
  | .iface _ d => uptoBulk d + 1
  | .map entries => uptoBulkEntries entries + 1
  | .held _ => 1
def uptoBulkAll {H : Type} : List (DataW H) → Nat
  | [] => 0
  | d :: r => uptoBulk d + uptoBulkAll r
def uptoBulkEntries {H : Type} : List (Lit × DataW H) → Nat
  | [] => 0
  | x :: r => uptoBulkEntry x + uptoBulkEntries r
def uptoBulkEntry {H : Type} : Lit × DataW H → Nat
  | (.string bytes, d) => bytes.length + uptoBulk d + 1
  | (_, d) => uptoBulk d + 1
 end
def uptoSmall : (H : Type) → List (DataW H) → Bool := fun _ ds => decide (uptoBulkAll ds ≤ 1048576)
def OpenSpec.upto (s : _root_.Go.ChangeSpec) : _root_.Go.OpenSpec := { _root_.Go.OpenSpec.ofChange s with cond := some uptoSmall }

/-- 'laws.FnExactHalveGrid', WHERE WHAT IT READS IS OF BULK AT MOST 1048576: true; the input reads as it did. -/
def fnExactHalveGridUptoRow : OpenClaim := { program := "ytffmjlalacnfiaa", sum := "32bcb0a0a167e469474626392bcf4164394f67df8e2e48f866c99660a9203b10", func := "loop.example/g01193/laws.FnExactHalveGrid", spec := "fnExactHalveGrid", unfollowed := true, recurses := true, apart := false, narrowed := true }
def FnExactHalveGridUptoSaid : Prop := fnExactHalveGridUptoRow.holds Try.pinned (OpenSpec.upto fnExactHalveGridSpec)

/-- 'laws.FnExactCropGrid', WHERE WHAT IT READS IS OF BULK AT MOST 1048576: true; the input reads as it did. -/
def fnExactCropGridUptoRow : OpenClaim := { program := "ytffmjlalacnfiaa", sum := "32bcb0a0a167e469474626392bcf4164394f67df8e2e48f866c99660a9203b10", func := "loop.example/g01193/laws.FnExactCropGrid", spec := "fnExactCropGrid", unfollowed := true, recurses := true, apart := false, narrowed := true }
def FnExactCropGridUptoSaid : Prop := fnExactCropGridUptoRow.holds Try.pinned (OpenSpec.upto fnExactCropGridSpec)

/-- 'laws.FnExactSweepGrid', WHERE WHAT IT READS IS OF BULK AT MOST 1048576: true; the input reads as it did. -/
def fnExactSweepGridUptoRow : OpenClaim := { program := "ytffmjlalacnfiaa", sum := "32bcb0a0a167e469474626392bcf4164394f67df8e2e48f866c99660a9203b10", func := "loop.example/g01193/laws.FnExactSweepGrid", spec := "fnExactSweepGrid", unfollowed := true, recurses := true, apart := false, narrowed := true }
def FnExactSweepGridUptoSaid : Prop := fnExactSweepGridUptoRow.holds Try.pinned (OpenSpec.upto fnExactSweepGridSpec)

/-- 'laws.FnExactSpreadGrid', WHERE WHAT IT READS IS OF BULK AT MOST 1048576: true; the input reads as it did. -/
def fnExactSpreadGridUptoRow : OpenClaim := { program := "ytffmjlalacnfiaa", sum := "32bcb0a0a167e469474626392bcf4164394f67df8e2e48f866c99660a9203b10", func := "loop.example/g01193/laws.FnExactSpreadGrid", spec := "fnExactSpreadGrid", unfollowed := true, recurses := true, apart := false, narrowed := true }
def FnExactSpreadGridUptoSaid : Prop := fnExactSpreadGridUptoRow.holds Try.pinned (OpenSpec.upto fnExactSpreadGridSpec)

end Rows
end Go.Proofs.Ytffmjlalacnfiaa
