/-
  No cell of these rows narrows 'for every input' (looked for: loops, veiled, ifaces, maps, wideKeys, modest, calm, conditions, laid).
  DERIVED. THE GIVEN ROWS OF THIS SEAT. 12 by the template 'for every input the law returns true; each argument reads behind the call as it read before'; 0 by the template 'total and deterministic' (their statements: YthmejogjmjjmgaaTotals.lean).
  GIVEN WITH THE SEED: the statements are not yours to turn. If you find one false, say at which input.
  Laid BY PROGRAM, IN A SANDBOX (cutbox-rows.mjs): the forced cells as the released guide's own fill.sh prints them over the translation 875782422d036b31… (all of the seat's roots in one cut). By AI agents, Wed Nov 11 2026. No macro, syntax, notation, axiom, sorry.
-/
import Derived.Test.YthmejogjmjjmgaaChecked
import GoSem.Claim
import GoSem.ClaimJoined
import GoSem.ClaimMapViews
import Derived.JoinedTies
import Derived.KernelRfl
namespace Go.Proofs.Ythmejogjmjjmgaa
/- THE CELL 'sum', in the pinned program and in every row, IS THE sha256 OF THE DUMP (.gsa) THAT YthmejogjmjjmgaaProg.lean LOADS. Nothing in Lean hashes anything: it is a label: what it is worth is what the hold of that sum in a sandbox is worth. -/
noncomputable def Try.pinned : Pinned := { name := "ythmejogjmjjmgaa", sum := "875782422d036b314c58f08cfbc3fe2b0442a9c960b8b32d1372c01f638395af", checked := Try.checked }
namespace Rows
def none {H : Type} : Left H := { results := [], args := [] }

/-- 'laws.FnExactCountDifferent': WHATEVER THE INPUT: true; the input reads as it did. -/
def fnExactCountDifferentSpec : ChangeSpec := { name := "fnExactCountDifferent", fn := fun _ => fun
  | [d1, d2] => { results := [.lit (.bool true)], args := [d1, d2] }
  | _ => none }
def fnExactCountDifferentRow : OpenClaim := { program := "ythmejogjmjjmgaa", sum := "875782422d036b314c58f08cfbc3fe2b0442a9c960b8b32d1372c01f638395af", func := "loop.example/g01193/laws.FnExactCountDifferent", spec := "fnExactCountDifferent", plainKeys := false, apart := false }
def FnExactCountDifferentSaid : Prop := fnExactCountDifferentRow.holds Try.pinned (OpenSpec.ofChange fnExactCountDifferentSpec)

/-- ITS FALSE NEIGHBOUR: 'it returns false'. Refute it at one input. -/
def fnExactCountDifferentWrong : ChangeSpec := { name := "fnExactCountDifferent", fn := fun _ => fun
  | [d1, d2] => { results := [.lit (.bool false)], args := [d1, d2] }
  | _ => none }
def FnExactCountDifferentWrongFalsely : Prop := fnExactCountDifferentRow.holds Try.pinned (OpenSpec.ofChange fnExactCountDifferentWrong)

/-- 'laws.FnExactValidBox': WHATEVER THE INPUT: true; the input reads as it did. -/
def fnExactValidBoxSpec : ChangeSpec := { name := "fnExactValidBox", fn := fun _ => fun
  | [d] => { results := [.lit (.bool true)], args := [d] }
  | _ => none }
def fnExactValidBoxRow : OpenClaim := { program := "ythmejogjmjjmgaa", sum := "875782422d036b314c58f08cfbc3fe2b0442a9c960b8b32d1372c01f638395af", func := "loop.example/g01193/laws.FnExactValidBox", spec := "fnExactValidBox", unfollowed := true, recurses := true, plainKeys := false, apart := false }
def FnExactValidBoxSaid : Prop := fnExactValidBoxRow.holds Try.pinned (OpenSpec.ofChange fnExactValidBoxSpec)

/-- ITS FALSE NEIGHBOUR: 'it returns false'. Refute it at one input. -/
def fnExactValidBoxWrong : ChangeSpec := { name := "fnExactValidBox", fn := fun _ => fun
  | [d] => { results := [.lit (.bool false)], args := [d] }
  | _ => none }
def FnExactValidBoxWrongFalsely : Prop := fnExactValidBoxRow.holds Try.pinned (OpenSpec.ofChange fnExactValidBoxWrong)

/-- 'laws.FnExactIsInBox': WHATEVER THE INPUT: true; the input reads as it did. -/
def fnExactIsInBoxSpec : ChangeSpec := { name := "fnExactIsInBox", fn := fun _ => fun
  | [d1, d2] => { results := [.lit (.bool true)], args := [d1, d2] }
  | _ => none }
def fnExactIsInBoxRow : OpenClaim := { program := "ythmejogjmjjmgaa", sum := "875782422d036b314c58f08cfbc3fe2b0442a9c960b8b32d1372c01f638395af", func := "loop.example/g01193/laws.FnExactIsInBox", spec := "fnExactIsInBox", unfollowed := true, recurses := true, plainKeys := false, apart := false }
def FnExactIsInBoxSaid : Prop := fnExactIsInBoxRow.holds Try.pinned (OpenSpec.ofChange fnExactIsInBoxSpec)

/-- ITS FALSE NEIGHBOUR: 'it returns false'. Refute it at one input. -/
def fnExactIsInBoxWrong : ChangeSpec := { name := "fnExactIsInBox", fn := fun _ => fun
  | [d1, d2] => { results := [.lit (.bool false)], args := [d1, d2] }
  | _ => none }
def FnExactIsInBoxWrongFalsely : Prop := fnExactIsInBoxRow.holds Try.pinned (OpenSpec.ofChange fnExactIsInBoxWrong)

/-- 'laws.FnExactSizeRange': WHATEVER THE INPUT: true; the input reads as it did. -/
def fnExactSizeRangeSpec : ChangeSpec := { name := "fnExactSizeRange", fn := fun _ => fun
  | [d] => { results := [.lit (.bool true)], args := [d] }
  | _ => none }
def fnExactSizeRangeRow : OpenClaim := { program := "ythmejogjmjjmgaa", sum := "875782422d036b314c58f08cfbc3fe2b0442a9c960b8b32d1372c01f638395af", func := "loop.example/g01193/laws.FnExactSizeRange", spec := "fnExactSizeRange", plainKeys := false, apart := false }
def FnExactSizeRangeSaid : Prop := fnExactSizeRangeRow.holds Try.pinned (OpenSpec.ofChange fnExactSizeRangeSpec)

/-- ITS FALSE NEIGHBOUR: 'it returns false'. Refute it at one input. -/
def fnExactSizeRangeWrong : ChangeSpec := { name := "fnExactSizeRange", fn := fun _ => fun
  | [d] => { results := [.lit (.bool false)], args := [d] }
  | _ => none }
def FnExactSizeRangeWrongFalsely : Prop := fnExactSizeRangeRow.holds Try.pinned (OpenSpec.ofChange fnExactSizeRangeWrong)

/-- 'laws.FnExactBounceOff': WHATEVER THE INPUT: true; the input reads as it did. -/
def fnExactBounceOffSpec : ChangeSpec := { name := "fnExactBounceOff", fn := fun _ => fun
  | [d1, d2, d3] => { results := [.lit (.bool true)], args := [d1, d2, d3] }
  | _ => none }
def fnExactBounceOffRow : OpenClaim := { program := "ythmejogjmjjmgaa", sum := "875782422d036b314c58f08cfbc3fe2b0442a9c960b8b32d1372c01f638395af", func := "loop.example/g01193/laws.FnExactBounceOff", spec := "fnExactBounceOff", plainKeys := false, apart := false }
def FnExactBounceOffSaid : Prop := fnExactBounceOffRow.holds Try.pinned (OpenSpec.ofChange fnExactBounceOffSpec)

/-- ITS FALSE NEIGHBOUR: 'it returns false'. Refute it at one input. -/
def fnExactBounceOffWrong : ChangeSpec := { name := "fnExactBounceOff", fn := fun _ => fun
  | [d1, d2, d3] => { results := [.lit (.bool false)], args := [d1, d2, d3] }
  | _ => none }
def FnExactBounceOffWrongFalsely : Prop := fnExactBounceOffRow.holds Try.pinned (OpenSpec.ofChange fnExactBounceOffWrong)

/-- 'laws.FnExactSlideAlong': WHATEVER THE INPUT: true; the input reads as it did. -/
def fnExactSlideAlongSpec : ChangeSpec := { name := "fnExactSlideAlong", fn := fun _ => fun
  | [d1, d2] => { results := [.lit (.bool true)], args := [d1, d2] }
  | _ => none }
def fnExactSlideAlongRow : OpenClaim := { program := "ythmejogjmjjmgaa", sum := "875782422d036b314c58f08cfbc3fe2b0442a9c960b8b32d1372c01f638395af", func := "loop.example/g01193/laws.FnExactSlideAlong", spec := "fnExactSlideAlong", plainKeys := false, apart := false }
def FnExactSlideAlongSaid : Prop := fnExactSlideAlongRow.holds Try.pinned (OpenSpec.ofChange fnExactSlideAlongSpec)

/-- ITS FALSE NEIGHBOUR: 'it returns false'. Refute it at one input. -/
def fnExactSlideAlongWrong : ChangeSpec := { name := "fnExactSlideAlong", fn := fun _ => fun
  | [d1, d2] => { results := [.lit (.bool false)], args := [d1, d2] }
  | _ => none }
def FnExactSlideAlongWrongFalsely : Prop := fnExactSlideAlongRow.holds Try.pinned (OpenSpec.ofChange fnExactSlideAlongWrong)

/-- 'laws.FnExactEulerOf': WHATEVER THE INPUT: true; the input reads as it did. -/
def fnExactEulerOfSpec : ChangeSpec := { name := "fnExactEulerOf", fn := fun _ => fun
  | [d] => { results := [.lit (.bool true)], args := [d] }
  | _ => none }
def fnExactEulerOfRow : OpenClaim := { program := "ythmejogjmjjmgaa", sum := "875782422d036b314c58f08cfbc3fe2b0442a9c960b8b32d1372c01f638395af", func := "loop.example/g01193/laws.FnExactEulerOf", spec := "fnExactEulerOf", unfollowed := true, recurses := true, plainKeys := false, apart := false }
def FnExactEulerOfSaid : Prop := fnExactEulerOfRow.holds Try.pinned (OpenSpec.ofChange fnExactEulerOfSpec)

/-- ITS FALSE NEIGHBOUR: 'it returns false'. Refute it at one input. -/
def fnExactEulerOfWrong : ChangeSpec := { name := "fnExactEulerOf", fn := fun _ => fun
  | [d] => { results := [.lit (.bool false)], args := [d] }
  | _ => none }
def FnExactEulerOfWrongFalsely : Prop := fnExactEulerOfRow.holds Try.pinned (OpenSpec.ofChange fnExactEulerOfWrong)

/-- 'laws.FnExactByteOf': WHATEVER THE INPUT: true; the input reads as it did. -/
def fnExactByteOfSpec : ChangeSpec := { name := "fnExactByteOf", fn := fun _ => fun
  | [d] => { results := [.lit (.bool true)], args := [d] }
  | _ => none }
def fnExactByteOfRow : OpenClaim := { program := "ythmejogjmjjmgaa", sum := "875782422d036b314c58f08cfbc3fe2b0442a9c960b8b32d1372c01f638395af", func := "loop.example/g01193/laws.FnExactByteOf", spec := "fnExactByteOf", inPlace := ["math.archFloor", "math.Float64bits", "math.Float64frombits", "math.archTrunc"], plainKeys := false, apart := false }
def FnExactByteOfSaid : Prop := fnExactByteOfRow.holds Try.pinned (OpenSpec.ofChange fnExactByteOfSpec)

/-- ITS FALSE NEIGHBOUR: 'it returns false'. Refute it at one input. -/
def fnExactByteOfWrong : ChangeSpec := { name := "fnExactByteOf", fn := fun _ => fun
  | [d] => { results := [.lit (.bool false)], args := [d] }
  | _ => none }
def FnExactByteOfWrongFalsely : Prop := fnExactByteOfRow.holds Try.pinned (OpenSpec.ofChange fnExactByteOfWrong)

/-- 'laws.FnExactGrowBox': WHATEVER THE INPUT: true; the input reads as it did. -/
def fnExactGrowBoxSpec : ChangeSpec := { name := "fnExactGrowBox", fn := fun _ => fun
  | [d1, d2] => { results := [.lit (.bool true)], args := [d1, d2] }
  | _ => none }
def fnExactGrowBoxRow : OpenClaim := { program := "ythmejogjmjjmgaa", sum := "875782422d036b314c58f08cfbc3fe2b0442a9c960b8b32d1372c01f638395af", func := "loop.example/g01193/laws.FnExactGrowBox", spec := "fnExactGrowBox", unfollowed := true, recurses := true, plainKeys := false, apart := false }
def FnExactGrowBoxSaid : Prop := fnExactGrowBoxRow.holds Try.pinned (OpenSpec.ofChange fnExactGrowBoxSpec)

/-- ITS FALSE NEIGHBOUR: 'it returns false'. Refute it at one input. -/
def fnExactGrowBoxWrong : ChangeSpec := { name := "fnExactGrowBox", fn := fun _ => fun
  | [d1, d2] => { results := [.lit (.bool false)], args := [d1, d2] }
  | _ => none }
def FnExactGrowBoxWrongFalsely : Prop := fnExactGrowBoxRow.holds Try.pinned (OpenSpec.ofChange fnExactGrowBoxWrong)

/-- 'laws.FnExactCutBoxes': WHATEVER THE INPUT: true; the input reads as it did. -/
def fnExactCutBoxesSpec : ChangeSpec := { name := "fnExactCutBoxes", fn := fun _ => fun
  | [d1, d2] => { results := [.lit (.bool true)], args := [d1, d2] }
  | _ => none }
def fnExactCutBoxesRow : OpenClaim := { program := "ythmejogjmjjmgaa", sum := "875782422d036b314c58f08cfbc3fe2b0442a9c960b8b32d1372c01f638395af", func := "loop.example/g01193/laws.FnExactCutBoxes", spec := "fnExactCutBoxes", unfollowed := true, recurses := true, plainKeys := false, apart := false }
def FnExactCutBoxesSaid : Prop := fnExactCutBoxesRow.holds Try.pinned (OpenSpec.ofChange fnExactCutBoxesSpec)

/-- ITS FALSE NEIGHBOUR: 'it returns false'. Refute it at one input. -/
def fnExactCutBoxesWrong : ChangeSpec := { name := "fnExactCutBoxes", fn := fun _ => fun
  | [d1, d2] => { results := [.lit (.bool false)], args := [d1, d2] }
  | _ => none }
def FnExactCutBoxesWrongFalsely : Prop := fnExactCutBoxesRow.holds Try.pinned (OpenSpec.ofChange fnExactCutBoxesWrong)

/-- 'laws.FnExactSplitBox': WHATEVER THE INPUT: true; the input reads as it did. -/
def fnExactSplitBoxSpec : ChangeSpec := { name := "fnExactSplitBox", fn := fun _ => fun
  | [d] => { results := [.lit (.bool true)], args := [d] }
  | _ => none }
def fnExactSplitBoxRow : OpenClaim := { program := "ythmejogjmjjmgaa", sum := "875782422d036b314c58f08cfbc3fe2b0442a9c960b8b32d1372c01f638395af", func := "loop.example/g01193/laws.FnExactSplitBox", spec := "fnExactSplitBox", unfollowed := true, recurses := true, plainKeys := false, apart := false }
def FnExactSplitBoxSaid : Prop := fnExactSplitBoxRow.holds Try.pinned (OpenSpec.ofChange fnExactSplitBoxSpec)

/-- ITS FALSE NEIGHBOUR: 'it returns false'. Refute it at one input. -/
def fnExactSplitBoxWrong : ChangeSpec := { name := "fnExactSplitBox", fn := fun _ => fun
  | [d] => { results := [.lit (.bool false)], args := [d] }
  | _ => none }
def FnExactSplitBoxWrongFalsely : Prop := fnExactSplitBoxRow.holds Try.pinned (OpenSpec.ofChange fnExactSplitBoxWrong)

/-- 'laws.FnExactValidGrid': WHATEVER THE INPUT: true; the input reads as it did. -/
def fnExactValidGridSpec : ChangeSpec := { name := "fnExactValidGrid", fn := fun _ => fun
  | [d] => { results := [.lit (.bool true)], args := [d] }
  | _ => none }
def fnExactValidGridRow : OpenClaim := { program := "ythmejogjmjjmgaa", sum := "875782422d036b314c58f08cfbc3fe2b0442a9c960b8b32d1372c01f638395af", func := "loop.example/g01193/laws.FnExactValidGrid", spec := "fnExactValidGrid", unfollowed := true, recurses := true, plainKeys := false, apart := false }
def FnExactValidGridSaid : Prop := fnExactValidGridRow.holds Try.pinned (OpenSpec.ofChange fnExactValidGridSpec)

/-- ITS FALSE NEIGHBOUR: 'it returns false'. Refute it at one input. -/
def fnExactValidGridWrong : ChangeSpec := { name := "fnExactValidGrid", fn := fun _ => fun
  | [d] => { results := [.lit (.bool false)], args := [d] }
  | _ => none }
def FnExactValidGridWrongFalsely : Prop := fnExactValidGridRow.holds Try.pinned (OpenSpec.ofChange fnExactValidGridWrong)

/- THE SECOND FORM. 'bulk': how many values and letters a reading holds, each counted each time it is reached (what is shared counts as often as it is met; a slice's spare places count too). A statement '..UptoSaid' is the law's where the arguments, and the package variables that the reading takes, are together of bulk at most 1048576: NARROWER than '..Said'. Prove '..Said' where nothing that the law and all that it calls make is longer than what came in: it says more and counts as full. Else prove '..UptoSaid'. A law counts once. -/
mutual
def uptoBulk {H : Type} : DataW H → Nat
  | .lit (.string bytes) => bytes.length + 1
  | .lit _ => 1
  | .nil => 1
  | .ptr d => uptoBulk d + 1
  | .slice elems spare => uptoBulkAll elems + uptoBulkAll spare + 1
  | .agg parts => uptoBulkAll parts + 1
  | .iface _ d => uptoBulk d + 1
  | .map entries => uptoBulkEntries entries + 1
  | .held _ => 1
def uptoBulkAll {H : Type} : List (DataW H) → Nat
  | [] => 0
  | d :: r => uptoBulk d + uptoBulkAll r
def uptoBulkEntries {H : Type} : List (Lit × DataW H) → Nat
  | [] => 0
  | x :: r => uptoBulkEntry x + uptoBulkEntries r
def uptoBulkEntry {H : Type} : Lit × DataW H → Nat
  | (.string bytes, d) => bytes.length + uptoBulk d + 1
  | (_, d) => uptoBulk d + 1
 end
def uptoSmall : (H : Type) → List (DataW H) → Bool := fun _ ds => decide (uptoBulkAll ds ≤ 1048576)
def OpenSpec.upto (s : _root_.Go.ChangeSpec) : _root_.Go.OpenSpec := { _root_.Go.OpenSpec.ofChange s with cond := some uptoSmall }

/-- 'laws.FnExactCountDifferent', WHERE WHAT IT READS IS OF BULK AT MOST 1048576: true; the input reads as it did. -/
def fnExactCountDifferentUptoRow : OpenClaim := { program := "ythmejogjmjjmgaa", sum := "875782422d036b314c58f08cfbc3fe2b0442a9c960b8b32d1372c01f638395af", func := "loop.example/g01193/laws.FnExactCountDifferent", spec := "fnExactCountDifferent", plainKeys := false, apart := false, narrowed := true }
def FnExactCountDifferentUptoSaid : Prop := fnExactCountDifferentUptoRow.holds Try.pinned (OpenSpec.upto fnExactCountDifferentSpec)

/-- 'laws.FnExactValidBox', WHERE WHAT IT READS IS OF BULK AT MOST 1048576: true; the input reads as it did. -/
def fnExactValidBoxUptoRow : OpenClaim := { program := "ythmejogjmjjmgaa", sum := "875782422d036b314c58f08cfbc3fe2b0442a9c960b8b32d1372c01f638395af", func := "loop.example/g01193/laws.FnExactValidBox", spec := "fnExactValidBox", unfollowed := true, recurses := true, plainKeys := false, apart := false, narrowed := true }
def FnExactValidBoxUptoSaid : Prop := fnExactValidBoxUptoRow.holds Try.pinned (OpenSpec.upto fnExactValidBoxSpec)

/-- 'laws.FnExactIsInBox', WHERE WHAT IT READS IS OF BULK AT MOST 1048576: true; the input reads as it did. -/
def fnExactIsInBoxUptoRow : OpenClaim := { program := "ythmejogjmjjmgaa", sum := "875782422d036b314c58f08cfbc3fe2b0442a9c960b8b32d1372c01f638395af", func := "loop.example/g01193/laws.FnExactIsInBox", spec := "fnExactIsInBox", unfollowed := true, recurses := true, plainKeys := false, apart := false, narrowed := true }
def FnExactIsInBoxUptoSaid : Prop := fnExactIsInBoxUptoRow.holds Try.pinned (OpenSpec.upto fnExactIsInBoxSpec)

/-- 'laws.FnExactSizeRange', WHERE WHAT IT READS IS OF BULK AT MOST 1048576: true; the input reads as it did. -/
def fnExactSizeRangeUptoRow : OpenClaim := { program := "ythmejogjmjjmgaa", sum := "875782422d036b314c58f08cfbc3fe2b0442a9c960b8b32d1372c01f638395af", func := "loop.example/g01193/laws.FnExactSizeRange", spec := "fnExactSizeRange", plainKeys := false, apart := false, narrowed := true }
def FnExactSizeRangeUptoSaid : Prop := fnExactSizeRangeUptoRow.holds Try.pinned (OpenSpec.upto fnExactSizeRangeSpec)

/-- 'laws.FnExactBounceOff', WHERE WHAT IT READS IS OF BULK AT MOST 1048576: true; the input reads as it did. -/
def fnExactBounceOffUptoRow : OpenClaim := { program := "ythmejogjmjjmgaa", sum := "875782422d036b314c58f08cfbc3fe2b0442a9c960b8b32d1372c01f638395af", func := "loop.example/g01193/laws.FnExactBounceOff", spec := "fnExactBounceOff", plainKeys := false, apart := false, narrowed := true }
def FnExactBounceOffUptoSaid : Prop := fnExactBounceOffUptoRow.holds Try.pinned (OpenSpec.upto fnExactBounceOffSpec)

/-- 'laws.FnExactSlideAlong', WHERE WHAT IT READS IS OF BULK AT MOST 1048576: true; the input reads as it did. -/
def fnExactSlideAlongUptoRow : OpenClaim := { program := "ythmejogjmjjmgaa", sum := "875782422d036b314c58f08cfbc3fe2b0442a9c960b8b32d1372c01f638395af", func := "loop.example/g01193/laws.FnExactSlideAlong", spec := "fnExactSlideAlong", plainKeys := false, apart := false, narrowed := true }
def FnExactSlideAlongUptoSaid : Prop := fnExactSlideAlongUptoRow.holds Try.pinned (OpenSpec.upto fnExactSlideAlongSpec)

/-- 'laws.FnExactEulerOf', WHERE WHAT IT READS IS OF BULK AT MOST 1048576: true; the input reads as it did. -/
def fnExactEulerOfUptoRow : OpenClaim := { program := "ythmejogjmjjmgaa", sum := "875782422d036b314c58f08cfbc3fe2b0442a9c960b8b32d1372c01f638395af", func := "loop.example/g01193/laws.FnExactEulerOf", spec := "fnExactEulerOf", unfollowed := true, recurses := true, plainKeys := false, apart := false, narrowed := true }
def FnExactEulerOfUptoSaid : Prop := fnExactEulerOfUptoRow.holds Try.pinned (OpenSpec.upto fnExactEulerOfSpec)

/-- 'laws.FnExactByteOf', WHERE WHAT IT READS IS OF BULK AT MOST 1048576: true; the input reads as it did. -/
def fnExactByteOfUptoRow : OpenClaim := { program := "ythmejogjmjjmgaa", sum := "875782422d036b314c58f08cfbc3fe2b0442a9c960b8b32d1372c01f638395af", func := "loop.example/g01193/laws.FnExactByteOf", spec := "fnExactByteOf", inPlace := ["math.archFloor", "math.Float64bits", "math.Float64frombits", "math.archTrunc"], plainKeys := false, apart := false, narrowed := true }
def FnExactByteOfUptoSaid : Prop := fnExactByteOfUptoRow.holds Try.pinned (OpenSpec.upto fnExactByteOfSpec)

/-- 'laws.FnExactGrowBox', WHERE WHAT IT READS IS OF BULK AT MOST 1048576: true; the input reads as it did. -/
def fnExactGrowBoxUptoRow : OpenClaim := { program := "ythmejogjmjjmgaa", sum := "875782422d036b314c58f08cfbc3fe2b0442a9c960b8b32d1372c01f638395af", func := "loop.example/g01193/laws.FnExactGrowBox", spec := "fnExactGrowBox", unfollowed := true, recurses := true, plainKeys := false, apart := false, narrowed := true }
def FnExactGrowBoxUptoSaid : Prop := fnExactGrowBoxUptoRow.holds Try.pinned (OpenSpec.upto fnExactGrowBoxSpec)

/-- 'laws.FnExactCutBoxes', WHERE WHAT IT READS IS OF BULK AT MOST 1048576: true; the input reads as it did. -/
def fnExactCutBoxesUptoRow : OpenClaim := { program := "ythmejogjmjjmgaa", sum := "875782422d036b314c58f08cfbc3fe2b0442a9c960b8b32d1372c01f638395af", func := "loop.example/g01193/laws.FnExactCutBoxes", spec := "fnExactCutBoxes", unfollowed := true, recurses := true, plainKeys := false, apart := false, narrowed := true }
def FnExactCutBoxesUptoSaid : Prop := fnExactCutBoxesUptoRow.holds Try.pinned (OpenSpec.upto fnExactCutBoxesSpec)

/-- 'laws.FnExactSplitBox', WHERE WHAT IT READS IS OF BULK AT MOST 1048576: true; the input reads as it did. -/
def fnExactSplitBoxUptoRow : OpenClaim := { program := "ythmejogjmjjmgaa", sum := "875782422d036b314c58f08cfbc3fe2b0442a9c960b8b32d1372c01f638395af", func := "loop.example/g01193/laws.FnExactSplitBox", spec := "fnExactSplitBox", unfollowed := true, recurses := true, plainKeys := false, apart := false, narrowed := true }
def FnExactSplitBoxUptoSaid : Prop := fnExactSplitBoxUptoRow.holds Try.pinned (OpenSpec.upto fnExactSplitBoxSpec)

/-- 'laws.FnExactValidGrid', WHERE WHAT IT READS IS OF BULK AT MOST 1048576: true; the input reads as it did. -/
def fnExactValidGridUptoRow : OpenClaim := { program := "ythmejogjmjjmgaa", sum := "875782422d036b314c58f08cfbc3fe2b0442a9c960b8b32d1372c01f638395af", func := "loop.example/g01193/laws.FnExactValidGrid", spec := "fnExactValidGrid", unfollowed := true, recurses := true, plainKeys := false, apart := false, narrowed := true }
def FnExactValidGridUptoSaid : Prop := fnExactValidGridUptoRow.holds Try.pinned (OpenSpec.upto fnExactValidGridSpec)

end Rows
end Go.Proofs.Ythmejogjmjjmgaa
