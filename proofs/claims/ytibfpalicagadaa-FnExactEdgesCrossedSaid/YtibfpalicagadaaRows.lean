/-
  No cell of these rows narrows 'for every input' (looked for: loops, veiled, ifaces, maps, wideKeys, modest, calm, conditions, laid).
  DERIVED. THE GIVEN ROWS OF THIS SEAT. 14 by the template 'for every input the law returns true; each argument reads behind the call as it read before'; 0 by the template 'total and deterministic' (their statements: YtibfpalicagadaaTotals.lean).
  GIVEN WITH THE SEED: the statements are not yours to turn. If you find one false, say at which input.
  Laid BY PROGRAM, IN A SANDBOX (cutbox-rows.mjs): the forced cells as the released guide's own fill.sh prints them over the translation 572c9d9a718bc88a… (all of the seat's roots in one cut). By AI agents, Wed Nov 11 2026. No macro, syntax, notation, axiom, sorry.
-/
import Derived.Test.YtibfpalicagadaaChecked
import GoSem.Claim
import GoSem.ClaimJoined
import GoSem.ClaimMapViews
import Derived.JoinedTies
import Derived.KernelRfl
namespace Go.Proofs.Ytibfpalicagadaa
/- THE CELL 'sum', in the pinned program and in every row, IS THE sha256 OF THE DUMP (.gsa) THAT YtibfpalicagadaaProg.lean LOADS. Nothing in Lean hashes anything: it is a label: what it is worth is what the hold of that sum in a sandbox is worth. -/
noncomputable def Try.pinned : Pinned := { name := "ytibfpalicagadaa", sum := "572c9d9a718bc88a6ad238d668357ab677e67157b7c803f2ae8ef6e739ea3ffb", checked := Try.checked }
namespace Rows
def none {H : Type} : Left H := { results := [], args := [] }

/-- 'laws.FnExactValidGrid': WHATEVER THE INPUT: true; the input reads as it did. -/
def fnExactValidGridSpec : ChangeSpec := { name := "fnExactValidGrid", fn := fun _ => fun
  | [d] => { results := [.lit (.bool true)], args := [d] }
  | _ => none }
def fnExactValidGridRow : OpenClaim := { program := "ytibfpalicagadaa", sum := "572c9d9a718bc88a6ad238d668357ab677e67157b7c803f2ae8ef6e739ea3ffb", func := "loop.example/g01193/laws.FnExactValidGrid", spec := "fnExactValidGrid", unfollowed := true, recurses := true, plainKeys := false, apart := false }
def FnExactValidGridSaid : Prop := fnExactValidGridRow.holds Try.pinned (OpenSpec.ofChange fnExactValidGridSpec)

/-- ITS FALSE NEIGHBOUR: 'it returns false'. Refute it at one input. -/
def fnExactValidGridWrong : ChangeSpec := { name := "fnExactValidGrid", fn := fun _ => fun
  | [d] => { results := [.lit (.bool false)], args := [d] }
  | _ => none }
def FnExactValidGridWrongFalsely : Prop := fnExactValidGridRow.holds Try.pinned (OpenSpec.ofChange fnExactValidGridWrong)

/-- 'laws.FnExactGridValue': WHATEVER THE INPUT: true; the input reads as it did. -/
def fnExactGridValueSpec : ChangeSpec := { name := "fnExactGridValue", fn := fun _ => fun
  | [d1, d2, d3, d4] => { results := [.lit (.bool true)], args := [d1, d2, d3, d4] }
  | _ => none }
def fnExactGridValueRow : OpenClaim := { program := "ytibfpalicagadaa", sum := "572c9d9a718bc88a6ad238d668357ab677e67157b7c803f2ae8ef6e739ea3ffb", func := "loop.example/g01193/laws.FnExactGridValue", spec := "fnExactGridValue", unfollowed := true, recurses := true, plainKeys := false, apart := false }
def FnExactGridValueSaid : Prop := fnExactGridValueRow.holds Try.pinned (OpenSpec.ofChange fnExactGridValueSpec)

/-- ITS FALSE NEIGHBOUR: 'it returns false'. Refute it at one input. -/
def fnExactGridValueWrong : ChangeSpec := { name := "fnExactGridValue", fn := fun _ => fun
  | [d1, d2, d3, d4] => { results := [.lit (.bool false)], args := [d1, d2, d3, d4] }
  | _ => none }
def FnExactGridValueWrongFalsely : Prop := fnExactGridValueRow.holds Try.pinned (OpenSpec.ofChange fnExactGridValueWrong)

/-- 'laws.FnExactCountInside': WHATEVER THE INPUT: true; the input reads as it did. -/
def fnExactCountInsideSpec : ChangeSpec := { name := "fnExactCountInside", fn := fun _ => fun
  | [d] => { results := [.lit (.bool true)], args := [d] }
  | _ => none }
def fnExactCountInsideRow : OpenClaim := { program := "ytibfpalicagadaa", sum := "572c9d9a718bc88a6ad238d668357ab677e67157b7c803f2ae8ef6e739ea3ffb", func := "loop.example/g01193/laws.FnExactCountInside", spec := "fnExactCountInside", unfollowed := true, recurses := true, plainKeys := false, apart := false }
def FnExactCountInsideSaid : Prop := fnExactCountInsideRow.holds Try.pinned (OpenSpec.ofChange fnExactCountInsideSpec)

/-- ITS FALSE NEIGHBOUR: 'it returns false'. Refute it at one input. -/
def fnExactCountInsideWrong : ChangeSpec := { name := "fnExactCountInside", fn := fun _ => fun
  | [d] => { results := [.lit (.bool false)], args := [d] }
  | _ => none }
def FnExactCountInsideWrongFalsely : Prop := fnExactCountInsideRow.holds Try.pinned (OpenSpec.ofChange fnExactCountInsideWrong)

/-- 'laws.FnExactGridPoint': WHATEVER THE INPUT: true; the input reads as it did. -/
def fnExactGridPointSpec : ChangeSpec := { name := "fnExactGridPoint", fn := fun _ => fun
  | [d1, d2, d3, d4] => { results := [.lit (.bool true)], args := [d1, d2, d3, d4] }
  | _ => none }
def fnExactGridPointRow : OpenClaim := { program := "ytibfpalicagadaa", sum := "572c9d9a718bc88a6ad238d668357ab677e67157b7c803f2ae8ef6e739ea3ffb", func := "loop.example/g01193/laws.FnExactGridPoint", spec := "fnExactGridPoint", unfollowed := true, recurses := true, plainKeys := false, apart := false }
def FnExactGridPointSaid : Prop := fnExactGridPointRow.holds Try.pinned (OpenSpec.ofChange fnExactGridPointSpec)

/-- ITS FALSE NEIGHBOUR: 'it returns false'. Refute it at one input. -/
def fnExactGridPointWrong : ChangeSpec := { name := "fnExactGridPoint", fn := fun _ => fun
  | [d1, d2, d3, d4] => { results := [.lit (.bool false)], args := [d1, d2, d3, d4] }
  | _ => none }
def FnExactGridPointWrongFalsely : Prop := fnExactGridPointRow.holds Try.pinned (OpenSpec.ofChange fnExactGridPointWrong)

/-- 'laws.FnExactVolumeOf': WHATEVER THE INPUT: true; the input reads as it did. -/
def fnExactVolumeOfSpec : ChangeSpec := { name := "fnExactVolumeOf", fn := fun _ => fun
  | [d] => { results := [.lit (.bool true)], args := [d] }
  | _ => none }
def fnExactVolumeOfRow : OpenClaim := { program := "ytibfpalicagadaa", sum := "572c9d9a718bc88a6ad238d668357ab677e67157b7c803f2ae8ef6e739ea3ffb", func := "loop.example/g01193/laws.FnExactVolumeOf", spec := "fnExactVolumeOf", unfollowed := true, recurses := true, plainKeys := false, apart := false }
def FnExactVolumeOfSaid : Prop := fnExactVolumeOfRow.holds Try.pinned (OpenSpec.ofChange fnExactVolumeOfSpec)

/-- ITS FALSE NEIGHBOUR: 'it returns false'. Refute it at one input. -/
def fnExactVolumeOfWrong : ChangeSpec := { name := "fnExactVolumeOf", fn := fun _ => fun
  | [d] => { results := [.lit (.bool false)], args := [d] }
  | _ => none }
def FnExactVolumeOfWrongFalsely : Prop := fnExactVolumeOfRow.holds Try.pinned (OpenSpec.ofChange fnExactVolumeOfWrong)

/-- 'laws.FnExactHalveGrid': WHATEVER THE INPUT: true; the input reads as it did. -/
def fnExactHalveGridSpec : ChangeSpec := { name := "fnExactHalveGrid", fn := fun _ => fun
  | [d] => { results := [.lit (.bool true)], args := [d] }
  | _ => none }
def fnExactHalveGridRow : OpenClaim := { program := "ytibfpalicagadaa", sum := "572c9d9a718bc88a6ad238d668357ab677e67157b7c803f2ae8ef6e739ea3ffb", func := "loop.example/g01193/laws.FnExactHalveGrid", spec := "fnExactHalveGrid", unfollowed := true, recurses := true, plainKeys := false, apart := false }
def FnExactHalveGridSaid : Prop := fnExactHalveGridRow.holds Try.pinned (OpenSpec.ofChange fnExactHalveGridSpec)

/-- ITS FALSE NEIGHBOUR: 'it returns false'. Refute it at one input. -/
def fnExactHalveGridWrong : ChangeSpec := { name := "fnExactHalveGrid", fn := fun _ => fun
  | [d] => { results := [.lit (.bool false)], args := [d] }
  | _ => none }
def FnExactHalveGridWrongFalsely : Prop := fnExactHalveGridRow.holds Try.pinned (OpenSpec.ofChange fnExactHalveGridWrong)

/-- 'laws.FnExactEdgesCrossed': WHATEVER THE INPUT: true; the input reads as it did. -/
def fnExactEdgesCrossedSpec : ChangeSpec := { name := "fnExactEdgesCrossed", fn := fun _ => fun
  | [d] => { results := [.lit (.bool true)], args := [d] }
  | _ => none }
def fnExactEdgesCrossedRow : OpenClaim := { program := "ytibfpalicagadaa", sum := "572c9d9a718bc88a6ad238d668357ab677e67157b7c803f2ae8ef6e739ea3ffb", func := "loop.example/g01193/laws.FnExactEdgesCrossed", spec := "fnExactEdgesCrossed", unfollowed := true, recurses := true, plainKeys := false, apart := false }
def FnExactEdgesCrossedSaid : Prop := fnExactEdgesCrossedRow.holds Try.pinned (OpenSpec.ofChange fnExactEdgesCrossedSpec)

/-- ITS FALSE NEIGHBOUR: 'it returns false'. Refute it at one input. -/
def fnExactEdgesCrossedWrong : ChangeSpec := { name := "fnExactEdgesCrossed", fn := fun _ => fun
  | [d] => { results := [.lit (.bool false)], args := [d] }
  | _ => none }
def FnExactEdgesCrossedWrongFalsely : Prop := fnExactEdgesCrossedRow.holds Try.pinned (OpenSpec.ofChange fnExactEdgesCrossedWrong)

/-- 'laws.FnExactCropGrid': WHATEVER THE INPUT: true; the input reads as it did. -/
def fnExactCropGridSpec : ChangeSpec := { name := "fnExactCropGrid", fn := fun _ => fun
  | [d1, d2, d3] => { results := [.lit (.bool true)], args := [d1, d2, d3] }
  | _ => none }
def fnExactCropGridRow : OpenClaim := { program := "ytibfpalicagadaa", sum := "572c9d9a718bc88a6ad238d668357ab677e67157b7c803f2ae8ef6e739ea3ffb", func := "loop.example/g01193/laws.FnExactCropGrid", spec := "fnExactCropGrid", unfollowed := true, recurses := true, plainKeys := false, apart := false }
def FnExactCropGridSaid : Prop := fnExactCropGridRow.holds Try.pinned (OpenSpec.ofChange fnExactCropGridSpec)

/-- ITS FALSE NEIGHBOUR: 'it returns false'. Refute it at one input. -/
def fnExactCropGridWrong : ChangeSpec := { name := "fnExactCropGrid", fn := fun _ => fun
  | [d1, d2, d3] => { results := [.lit (.bool false)], args := [d1, d2, d3] }
  | _ => none }
def FnExactCropGridWrongFalsely : Prop := fnExactCropGridRow.holds Try.pinned (OpenSpec.ofChange fnExactCropGridWrong)

/-- 'laws.FnExactSweepGrid': WHATEVER THE INPUT: true; the input reads as it did. -/
def fnExactSweepGridSpec : ChangeSpec := { name := "fnExactSweepGrid", fn := fun _ => fun
  | [d1, d2] => { results := [.lit (.bool true)], args := [d1, d2] }
  | _ => none }
def fnExactSweepGridRow : OpenClaim := { program := "ytibfpalicagadaa", sum := "572c9d9a718bc88a6ad238d668357ab677e67157b7c803f2ae8ef6e739ea3ffb", func := "loop.example/g01193/laws.FnExactSweepGrid", spec := "fnExactSweepGrid", unfollowed := true, recurses := true, plainKeys := false, apart := false }
def FnExactSweepGridSaid : Prop := fnExactSweepGridRow.holds Try.pinned (OpenSpec.ofChange fnExactSweepGridSpec)

/-- ITS FALSE NEIGHBOUR: 'it returns false'. Refute it at one input. -/
def fnExactSweepGridWrong : ChangeSpec := { name := "fnExactSweepGrid", fn := fun _ => fun
  | [d1, d2] => { results := [.lit (.bool false)], args := [d1, d2] }
  | _ => none }
def FnExactSweepGridWrongFalsely : Prop := fnExactSweepGridRow.holds Try.pinned (OpenSpec.ofChange fnExactSweepGridWrong)

/-- 'laws.FnExactSpreadGrid': WHATEVER THE INPUT: true; the input reads as it did. -/
def fnExactSpreadGridSpec : ChangeSpec := { name := "fnExactSpreadGrid", fn := fun _ => fun
  | [d] => { results := [.lit (.bool true)], args := [d] }
  | _ => none }
def fnExactSpreadGridRow : OpenClaim := { program := "ytibfpalicagadaa", sum := "572c9d9a718bc88a6ad238d668357ab677e67157b7c803f2ae8ef6e739ea3ffb", func := "loop.example/g01193/laws.FnExactSpreadGrid", spec := "fnExactSpreadGrid", unfollowed := true, recurses := true, plainKeys := false, apart := false }
def FnExactSpreadGridSaid : Prop := fnExactSpreadGridRow.holds Try.pinned (OpenSpec.ofChange fnExactSpreadGridSpec)

/-- ITS FALSE NEIGHBOUR: 'it returns false'. Refute it at one input. -/
def fnExactSpreadGridWrong : ChangeSpec := { name := "fnExactSpreadGrid", fn := fun _ => fun
  | [d] => { results := [.lit (.bool false)], args := [d] }
  | _ => none }
def FnExactSpreadGridWrongFalsely : Prop := fnExactSpreadGridRow.holds Try.pinned (OpenSpec.ofChange fnExactSpreadGridWrong)

/-- 'laws.FnExactValueBetween': WHATEVER THE INPUT: true; the input reads as it did. -/
def fnExactValueBetweenSpec : ChangeSpec := { name := "fnExactValueBetween", fn := fun _ => fun
  | [d1, d2] => { results := [.lit (.bool true)], args := [d1, d2] }
  | _ => none }
def fnExactValueBetweenRow : OpenClaim := { program := "ytibfpalicagadaa", sum := "572c9d9a718bc88a6ad238d668357ab677e67157b7c803f2ae8ef6e739ea3ffb", func := "loop.example/g01193/laws.FnExactValueBetween", spec := "fnExactValueBetween", inPlace := ["math.archFloor", "math.Float64bits", "math.Float64frombits", "math.archTrunc"], unfollowed := true, recurses := true, plainKeys := false, apart := false }
def FnExactValueBetweenSaid : Prop := fnExactValueBetweenRow.holds Try.pinned (OpenSpec.ofChange fnExactValueBetweenSpec)

/-- ITS FALSE NEIGHBOUR: 'it returns false'. Refute it at one input. -/
def fnExactValueBetweenWrong : ChangeSpec := { name := "fnExactValueBetween", fn := fun _ => fun
  | [d1, d2] => { results := [.lit (.bool false)], args := [d1, d2] }
  | _ => none }
def FnExactValueBetweenWrongFalsely : Prop := fnExactValueBetweenRow.holds Try.pinned (OpenSpec.ofChange fnExactValueBetweenWrong)

/-- 'laws.FnExactSlopeBetween': WHATEVER THE INPUT: true; the input reads as it did. -/
def fnExactSlopeBetweenSpec : ChangeSpec := { name := "fnExactSlopeBetween", fn := fun _ => fun
  | [d1, d2] => { results := [.lit (.bool true)], args := [d1, d2] }
  | _ => none }
def fnExactSlopeBetweenRow : OpenClaim := { program := "ytibfpalicagadaa", sum := "572c9d9a718bc88a6ad238d668357ab677e67157b7c803f2ae8ef6e739ea3ffb", func := "loop.example/g01193/laws.FnExactSlopeBetween", spec := "fnExactSlopeBetween", inPlace := ["math.archFloor", "math.Float64bits", "math.Float64frombits", "math.archTrunc"], unfollowed := true, recurses := true, plainKeys := false, apart := false }
def FnExactSlopeBetweenSaid : Prop := fnExactSlopeBetweenRow.holds Try.pinned (OpenSpec.ofChange fnExactSlopeBetweenSpec)

/-- ITS FALSE NEIGHBOUR: 'it returns false'. Refute it at one input. -/
def fnExactSlopeBetweenWrong : ChangeSpec := { name := "fnExactSlopeBetween", fn := fun _ => fun
  | [d1, d2] => { results := [.lit (.bool false)], args := [d1, d2] }
  | _ => none }
def FnExactSlopeBetweenWrongFalsely : Prop := fnExactSlopeBetweenRow.holds Try.pinned (OpenSpec.ofChange fnExactSlopeBetweenWrong)

/-- 'laws.FnExactPartsInside': WHATEVER THE INPUT: true; the input reads as it did. -/
def fnExactPartsInsideSpec : ChangeSpec := { name := "fnExactPartsInside", fn := fun _ => fun
  | [d] => { results := [.lit (.bool true)], args := [d] }
  | _ => none }
def fnExactPartsInsideRow : OpenClaim := { program := "ytibfpalicagadaa", sum := "572c9d9a718bc88a6ad238d668357ab677e67157b7c803f2ae8ef6e739ea3ffb", func := "loop.example/g01193/laws.FnExactPartsInside", spec := "fnExactPartsInside", unfollowed := true, recurses := true, plainKeys := false, apart := false }
def FnExactPartsInsideSaid : Prop := fnExactPartsInsideRow.holds Try.pinned (OpenSpec.ofChange fnExactPartsInsideSpec)

/-- ITS FALSE NEIGHBOUR: 'it returns false'. Refute it at one input. -/
def fnExactPartsInsideWrong : ChangeSpec := { name := "fnExactPartsInside", fn := fun _ => fun
  | [d] => { results := [.lit (.bool false)], args := [d] }
  | _ => none }
def FnExactPartsInsideWrongFalsely : Prop := fnExactPartsInsideRow.holds Try.pinned (OpenSpec.ofChange fnExactPartsInsideWrong)

/-- 'laws.FnExactMeshOf': WHATEVER THE INPUT: true; the input reads as it did. -/
def fnExactMeshOfSpec : ChangeSpec := { name := "fnExactMeshOf", fn := fun _ => fun
  | [d] => { results := [.lit (.bool true)], args := [d] }
  | _ => none }
def fnExactMeshOfRow : OpenClaim := { program := "ytibfpalicagadaa", sum := "572c9d9a718bc88a6ad238d668357ab677e67157b7c803f2ae8ef6e739ea3ffb", func := "loop.example/g01193/laws.FnExactMeshOf", spec := "fnExactMeshOf", unfollowed := true, recurses := true, plainKeys := false, apart := false }
def FnExactMeshOfSaid : Prop := fnExactMeshOfRow.holds Try.pinned (OpenSpec.ofChange fnExactMeshOfSpec)

/-- ITS FALSE NEIGHBOUR: 'it returns false'. Refute it at one input. -/
def fnExactMeshOfWrong : ChangeSpec := { name := "fnExactMeshOf", fn := fun _ => fun
  | [d] => { results := [.lit (.bool false)], args := [d] }
  | _ => none }
def FnExactMeshOfWrongFalsely : Prop := fnExactMeshOfRow.holds Try.pinned (OpenSpec.ofChange fnExactMeshOfWrong)

/- THE SECOND FORM. 'bulk': how many values and letters a reading holds, each counted each time it is reached (what is shared counts as often as it is met; a slice's spare places count too). A statement '..UptoSaid' is the law's where the arguments, and the package variables that the reading takes, are together of bulk at most 1048576: NARROWER than '..Said'. Prove '..Said' where nothing that the law and all that it calls make is longer than what came in: it says more and counts as full. Else prove '..UptoSaid'. A law counts once. -/
mutual
def uptoBulk {H : Type} : DataW H → Nat
  | .lit (.string bytes) => bytes.length + 1
  | .lit _ => 1
  | .nil => 1
  | .ptr d => uptoBulk d + 1
  | .slice elems spare => uptoBulkAll elems + uptoBulkAll spare + 1
  | .agg parts => uptoBulkAll parts + 1
  | .iface _ d => uptoBulk d + 1
  | .map entries => uptoBulkEntries entries + 1
  | .held _ => 1
def uptoBulkAll {H : Type} : List (DataW H) → Nat
  | [] => 0
  | d :: r => uptoBulk d + uptoBulkAll r
def uptoBulkEntries {H : Type} : List (Lit × DataW H) → Nat
  | [] => 0
  | x :: r => uptoBulkEntry x + uptoBulkEntries r
def uptoBulkEntry {H : Type} : Lit × DataW H → Nat
  | (.string bytes, d) => bytes.length + uptoBulk d + 1
  | (_, d) => uptoBulk d + 1
 end
def uptoSmall : (H : Type) → List (DataW H) → Bool := fun _ ds => decide (uptoBulkAll ds ≤ 1048576)
def OpenSpec.upto (s : _root_.Go.ChangeSpec) : _root_.Go.OpenSpec := { _root_.Go.OpenSpec.ofChange s with cond := some uptoSmall }

/-- 'laws.FnExactValidGrid', WHERE WHAT IT READS IS OF BULK AT MOST 1048576: true; the input reads as it did. -/
def fnExactValidGridUptoRow : OpenClaim := { program := "ytibfpalicagadaa", sum := "572c9d9a718bc88a6ad238d668357ab677e67157b7c803f2ae8ef6e739ea3ffb", func := "loop.example/g01193/laws.FnExactValidGrid", spec := "fnExactValidGrid", unfollowed := true, recurses := true, plainKeys := false, apart := false, narrowed := true }
def FnExactValidGridUptoSaid : Prop := fnExactValidGridUptoRow.holds Try.pinned (OpenSpec.upto fnExactValidGridSpec)

/-- 'laws.FnExactGridValue', WHERE WHAT IT READS IS OF BULK AT MOST 1048576: true; the input reads as it did. -/
def fnExactGridValueUptoRow : OpenClaim := { program := "ytibfpalicagadaa", sum := "572c9d9a718bc88a6ad238d668357ab677e67157b7c803f2ae8ef6e739ea3ffb", func := "loop.example/g01193/laws.FnExactGridValue", spec := "fnExactGridValue", unfollowed := true, recurses := true, plainKeys := false, apart := false, narrowed := true }
def FnExactGridValueUptoSaid : Prop := fnExactGridValueUptoRow.holds Try.pinned (OpenSpec.upto fnExactGridValueSpec)

/-- 'laws.FnExactCountInside', WHERE WHAT IT READS IS OF BULK AT MOST 1048576: true; the input reads as it did. -/
def fnExactCountInsideUptoRow : OpenClaim := { program := "ytibfpalicagadaa", sum := "572c9d9a718bc88a6ad238d668357ab677e67157b7c803f2ae8ef6e739ea3ffb", func := "loop.example/g01193/laws.FnExactCountInside", spec := "fnExactCountInside", unfollowed := true, recurses := true, plainKeys := false, apart := false, narrowed := true }
def FnExactCountInsideUptoSaid : Prop := fnExactCountInsideUptoRow.holds Try.pinned (OpenSpec.upto fnExactCountInsideSpec)

/-- 'laws.FnExactGridPoint', WHERE WHAT IT READS IS OF BULK AT MOST 1048576: true; the input reads as it did. -/
def fnExactGridPointUptoRow : OpenClaim := { program := "ytibfpalicagadaa", sum := "572c9d9a718bc88a6ad238d668357ab677e67157b7c803f2ae8ef6e739ea3ffb", func := "loop.example/g01193/laws.FnExactGridPoint", spec := "fnExactGridPoint", unfollowed := true, recurses := true, plainKeys := false, apart := false, narrowed := true }
def FnExactGridPointUptoSaid : Prop := fnExactGridPointUptoRow.holds Try.pinned (OpenSpec.upto fnExactGridPointSpec)

/-- 'laws.FnExactVolumeOf', WHERE WHAT IT READS IS OF BULK AT MOST 1048576: true; the input reads as it did. -/
def fnExactVolumeOfUptoRow : OpenClaim := { program := "ytibfpalicagadaa", sum := "572c9d9a718bc88a6ad238d668357ab677e67157b7c803f2ae8ef6e739ea3ffb", func := "loop.example/g01193/laws.FnExactVolumeOf", spec := "fnExactVolumeOf", unfollowed := true, recurses := true, plainKeys := false, apart := false, narrowed := true }
def FnExactVolumeOfUptoSaid : Prop := fnExactVolumeOfUptoRow.holds Try.pinned (OpenSpec.upto fnExactVolumeOfSpec)

/-- 'laws.FnExactHalveGrid', WHERE WHAT IT READS IS OF BULK AT MOST 1048576: true; the input reads as it did. -/
def fnExactHalveGridUptoRow : OpenClaim := { program := "ytibfpalicagadaa", sum := "572c9d9a718bc88a6ad238d668357ab677e67157b7c803f2ae8ef6e739ea3ffb", func := "loop.example/g01193/laws.FnExactHalveGrid", spec := "fnExactHalveGrid", unfollowed := true, recurses := true, plainKeys := false, apart := false, narrowed := true }
def FnExactHalveGridUptoSaid : Prop := fnExactHalveGridUptoRow.holds Try.pinned (OpenSpec.upto fnExactHalveGridSpec)

/-- 'laws.FnExactEdgesCrossed', WHERE WHAT IT READS IS OF BULK AT MOST 1048576: true; the input reads as it did. -/
def fnExactEdgesCrossedUptoRow : OpenClaim := { program := "ytibfpalicagadaa", sum := "572c9d9a718bc88a6ad238d668357ab677e67157b7c803f2ae8ef6e739ea3ffb", func := "loop.example/g01193/laws.FnExactEdgesCrossed", spec := "fnExactEdgesCrossed", unfollowed := true, recurses := true, plainKeys := false, apart := false, narrowed := true }
def FnExactEdgesCrossedUptoSaid : Prop := fnExactEdgesCrossedUptoRow.holds Try.pinned (OpenSpec.upto fnExactEdgesCrossedSpec)

/-- 'laws.FnExactCropGrid', WHERE WHAT IT READS IS OF BULK AT MOST 1048576: true; the input reads as it did. -/
def fnExactCropGridUptoRow : OpenClaim := { program := "ytibfpalicagadaa", sum := "572c9d9a718bc88a6ad238d668357ab677e67157b7c803f2ae8ef6e739ea3ffb", func := "loop.example/g01193/laws.FnExactCropGrid", spec := "fnExactCropGrid", unfollowed := true, recurses := true, plainKeys := false, apart := false, narrowed := true }
def FnExactCropGridUptoSaid : Prop := fnExactCropGridUptoRow.holds Try.pinned (OpenSpec.upto fnExactCropGridSpec)

/-- 'laws.FnExactSweepGrid', WHERE WHAT IT READS IS OF BULK AT MOST 1048576: true; the input reads as it did. -/
def fnExactSweepGridUptoRow : OpenClaim := { program := "ytibfpalicagadaa", sum := "572c9d9a718bc88a6ad238d668357ab677e67157b7c803f2ae8ef6e739ea3ffb", func := "loop.example/g01193/laws.FnExactSweepGrid", spec := "fnExactSweepGrid", unfollowed := true, recurses := true, plainKeys := false, apart := false, narrowed := true }
def FnExactSweepGridUptoSaid : Prop := fnExactSweepGridUptoRow.holds Try.pinned (OpenSpec.upto fnExactSweepGridSpec)

/-- 'laws.FnExactSpreadGrid', WHERE WHAT IT READS IS OF BULK AT MOST 1048576: true; the input reads as it did. -/
def fnExactSpreadGridUptoRow : OpenClaim := { program := "ytibfpalicagadaa", sum := "572c9d9a718bc88a6ad238d668357ab677e67157b7c803f2ae8ef6e739ea3ffb", func := "loop.example/g01193/laws.FnExactSpreadGrid", spec := "fnExactSpreadGrid", unfollowed := true, recurses := true, plainKeys := false, apart := false, narrowed := true }
def FnExactSpreadGridUptoSaid : Prop := fnExactSpreadGridUptoRow.holds Try.pinned (OpenSpec.upto fnExactSpreadGridSpec)

/-- 'laws.FnExactValueBetween', WHERE WHAT IT READS IS OF BULK AT MOST 1048576: true; the input reads as it did. -/
def fnExactValueBetweenUptoRow : OpenClaim := { program := "ytibfpalicagadaa", sum := "572c9d9a718bc88a6ad238d668357ab677e67157b7c803f2ae8ef6e739ea3ffb", func := "loop.example/g01193/laws.FnExactValueBetween", spec := "fnExactValueBetween", inPlace := ["math.archFloor", "math.Float64bits", "math.Float64frombits", "math.archTrunc"], unfollowed := true, recurses := true, plainKeys := false, apart := false, narrowed := true }
def FnExactValueBetweenUptoSaid : Prop := fnExactValueBetweenUptoRow.holds Try.pinned (OpenSpec.upto fnExactValueBetweenSpec)

/-- 'laws.FnExactSlopeBetween', WHERE WHAT IT READS IS OF BULK AT MOST 1048576: true; the input reads as it did. -/
def fnExactSlopeBetweenUptoRow : OpenClaim := { program := "ytibfpalicagadaa", sum := "572c9d9a718bc88a6ad238d668357ab677e67157b7c803f2ae8ef6e739ea3ffb", func := "loop.example/g01193/laws.FnExactSlopeBetween", spec := "fnExactSlopeBetween", inPlace := ["math.archFloor", "math.Float64bits", "math.Float64frombits", "math.archTrunc"], unfollowed := true, recurses := true, plainKeys := false, apart := false, narrowed := true }
def FnExactSlopeBetweenUptoSaid : Prop := fnExactSlopeBetweenUptoRow.holds Try.pinned (OpenSpec.upto fnExactSlopeBetweenSpec)

/-- 'laws.FnExactPartsInside', WHERE WHAT IT READS IS OF BULK AT MOST 1048576: true; the input reads as it did. -/
def fnExactPartsInsideUptoRow : OpenClaim := { program := "ytibfpalicagadaa", sum := "572c9d9a718bc88a6ad238d668357ab677e67157b7c803f2ae8ef6e739ea3ffb", func := "loop.example/g01193/laws.FnExactPartsInside", spec := "fnExactPartsInside", unfollowed := true, recurses := true, plainKeys := false, apart := false, narrowed := true }
def FnExactPartsInsideUptoSaid : Prop := fnExactPartsInsideUptoRow.holds Try.pinned (OpenSpec.upto fnExactPartsInsideSpec)

/-- 'laws.FnExactMeshOf', WHERE WHAT IT READS IS OF BULK AT MOST 1048576: true; the input reads as it did. -/
def fnExactMeshOfUptoRow : OpenClaim := { program := "ytibfpalicagadaa", sum := "572c9d9a718bc88a6ad238d668357ab677e67157b7c803f2ae8ef6e739ea3ffb", func := "loop.example/g01193/laws.FnExactMeshOf", spec := "fnExactMeshOf", unfollowed := true, recurses := true, plainKeys := false, apart := false, narrowed := true }
def FnExactMeshOfUptoSaid : Prop := fnExactMeshOfUptoRow.holds Try.pinned (OpenSpec.upto fnExactMeshOfSpec)

end Rows
end Go.Proofs.Ytibfpalicagadaa
