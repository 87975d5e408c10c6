/-
  No cell of these rows narrows 'for every input' (looked for: loops, veiled, ifaces, maps, wideKeys, modest, calm, conditions, laid).
  DERIVED. THE GIVEN ROWS OF THIS SEAT. 10 by the template 'for every input the law returns true; each argument reads behind the call as it read before'; 0 by the template 'total and deterministic' (their statements: YtbbidfadenmmjaaTotals.lean).
  GIVEN WITH THE SEED: the statements are not yours to turn. If you find one false, say at which input.
  Laid BY PROGRAM, IN A SANDBOX (cutbox-rows.mjs): the forced cells as the released guide's own fill.sh prints them over the translation 07a9f5c3c7e98ead… (all of the seat's roots in one cut). By AI agents, Wed Nov 11 2026. No macro, syntax, notation, axiom, sorry.
-/
import Derived.Test.YtbbidfadenmmjaaChecked
import GoSem.Claim
import GoSem.ClaimJoined
import GoSem.ClaimMapViews
import Derived.JoinedTies
import Derived.KernelRfl
namespace Go.Proofs.Ytbbidfadenmmjaa
/- THE CELL 'sum', in the pinned program and in every row, IS THE sha256 OF THE DUMP (.gsa) THAT YtbbidfadenmmjaaProg.lean LOADS. Nothing in Lean hashes anything: it is a label: what it is worth is what the hold of that sum in a sandbox is worth. -/
noncomputable def Try.pinned : Pinned := { name := "ytbbidfadenmmjaa", sum := "07a9f5c3c7e98ead9cec60f8922d46cb80c6e534e8ceaabee17a4e1d71e43b0d", checked := Try.checked }
namespace Rows
def none {H : Type} : Left H := { results := [], args := [] }

/-- 'laws.FnExactBoxAround': WHATEVER THE INPUT: true; the input reads as it did. -/
def fnExactBoxAroundSpec : ChangeSpec := { name := "fnExactBoxAround", fn := fun _ => fun
  | [d] => { results := [.lit (.bool true)], args := [d] }
  | _ => none }
def fnExactBoxAroundRow : OpenClaim := { program := "ytbbidfadenmmjaa", sum := "07a9f5c3c7e98ead9cec60f8922d46cb80c6e534e8ceaabee17a4e1d71e43b0d", func := "loop.example/g01193/laws.FnExactBoxAround", spec := "fnExactBoxAround", unfollowed := true, recurses := true, apart := false }
def FnExactBoxAroundSaid : Prop := fnExactBoxAroundRow.holds Try.pinned (OpenSpec.ofChange fnExactBoxAroundSpec)

/-- ITS FALSE NEIGHBOUR: 'it returns false'. Refute it at one input. -/
def fnExactBoxAroundWrong : ChangeSpec := { name := "fnExactBoxAround", fn := fun _ => fun
  | [d] => { results := [.lit (.bool false)], args := [d] }
  | _ => none }
def FnExactBoxAroundWrongFalsely : Prop := fnExactBoxAroundRow.holds Try.pinned (OpenSpec.ofChange fnExactBoxAroundWrong)

/-- 'laws.FnExactLongRange': WHATEVER THE INPUT: true; the input reads as it did. -/
def fnExactLongRangeSpec : ChangeSpec := { name := "fnExactLongRange", fn := fun _ => fun
  | [d1, d2, d3] => { results := [.lit (.bool true)], args := [d1, d2, d3] }
  | _ => none }
def fnExactLongRangeRow : OpenClaim := { program := "ytbbidfadenmmjaa", sum := "07a9f5c3c7e98ead9cec60f8922d46cb80c6e534e8ceaabee17a4e1d71e43b0d", func := "loop.example/g01193/laws.FnExactLongRange", spec := "fnExactLongRange", inPlace := ["math.sqrt"], apart := false }
def FnExactLongRangeSaid : Prop := fnExactLongRangeRow.holds Try.pinned (OpenSpec.ofChange fnExactLongRangeSpec)

/-- ITS FALSE NEIGHBOUR: 'it returns false'. Refute it at one input. -/
def fnExactLongRangeWrong : ChangeSpec := { name := "fnExactLongRange", fn := fun _ => fun
  | [d1, d2, d3] => { results := [.lit (.bool false)], args := [d1, d2, d3] }
  | _ => none }
def FnExactLongRangeWrongFalsely : Prop := fnExactLongRangeRow.holds Try.pinned (OpenSpec.ofChange fnExactLongRangeWrong)

/-- 'laws.FnExactValidCamera': WHATEVER THE INPUT: true; the input reads as it did. -/
def fnExactValidCameraSpec : ChangeSpec := { name := "fnExactValidCamera", fn := fun _ => fun
  | [d] => { results := [.lit (.bool true)], args := [d] }
  | _ => none }
def fnExactValidCameraRow : OpenClaim := { program := "ytbbidfadenmmjaa", sum := "07a9f5c3c7e98ead9cec60f8922d46cb80c6e534e8ceaabee17a4e1d71e43b0d", func := "loop.example/g01193/laws.FnExactValidCamera", spec := "fnExactValidCamera", inPlace := ["math.sqrt"], unfollowed := true, recurses := true, apart := false }
def FnExactValidCameraSaid : Prop := fnExactValidCameraRow.holds Try.pinned (OpenSpec.ofChange fnExactValidCameraSpec)

/-- ITS FALSE NEIGHBOUR: 'it returns false'. Refute it at one input. -/
def fnExactValidCameraWrong : ChangeSpec := { name := "fnExactValidCamera", fn := fun _ => fun
  | [d] => { results := [.lit (.bool false)], args := [d] }
  | _ => none }
def FnExactValidCameraWrongFalsely : Prop := fnExactValidCameraRow.holds Try.pinned (OpenSpec.ofChange fnExactValidCameraWrong)

/-- 'laws.FnExactIsTile': WHATEVER THE INPUT: true; the input reads as it did. -/
def fnExactIsTileSpec : ChangeSpec := { name := "fnExactIsTile", fn := fun _ => fun
  | [d1, d2] => { results := [.lit (.bool true)], args := [d1, d2] }
  | _ => none }
def fnExactIsTileRow : OpenClaim := { program := "ytbbidfadenmmjaa", sum := "07a9f5c3c7e98ead9cec60f8922d46cb80c6e534e8ceaabee17a4e1d71e43b0d", func := "loop.example/g01193/laws.FnExactIsTile", spec := "fnExactIsTile", inPlace := ["math.sqrt"], unfollowed := true, recurses := true, apart := false }
def FnExactIsTileSaid : Prop := fnExactIsTileRow.holds Try.pinned (OpenSpec.ofChange fnExactIsTileSpec)

/-- ITS FALSE NEIGHBOUR: 'it returns false'. Refute it at one input. -/
def fnExactIsTileWrong : ChangeSpec := { name := "fnExactIsTile", fn := fun _ => fun
  | [d1, d2] => { results := [.lit (.bool false)], args := [d1, d2] }
  | _ => none }
def FnExactIsTileWrongFalsely : Prop := fnExactIsTileRow.holds Try.pinned (OpenSpec.ofChange fnExactIsTileWrong)

/-- 'laws.FnExactMirrorPicture': WHATEVER THE INPUT: true; the input reads as it did. -/
def fnExactMirrorPictureSpec : ChangeSpec := { name := "fnExactMirrorPicture", fn := fun _ => fun
  | [d1, d2] => { results := [.lit (.bool true)], args := [d1, d2] }
  | _ => none }
def fnExactMirrorPictureRow : OpenClaim := { program := "ytbbidfadenmmjaa", sum := "07a9f5c3c7e98ead9cec60f8922d46cb80c6e534e8ceaabee17a4e1d71e43b0d", func := "loop.example/g01193/laws.FnExactMirrorPicture", spec := "fnExactMirrorPicture", inPlace := ["math.sqrt"], unfollowed := true, recurses := true, apart := false }
def FnExactMirrorPictureSaid : Prop := fnExactMirrorPictureRow.holds Try.pinned (OpenSpec.ofChange fnExactMirrorPictureSpec)

/-- ITS FALSE NEIGHBOUR: 'it returns false'. Refute it at one input. -/
def fnExactMirrorPictureWrong : ChangeSpec := { name := "fnExactMirrorPicture", fn := fun _ => fun
  | [d1, d2] => { results := [.lit (.bool false)], args := [d1, d2] }
  | _ => none }
def FnExactMirrorPictureWrongFalsely : Prop := fnExactMirrorPictureRow.holds Try.pinned (OpenSpec.ofChange fnExactMirrorPictureWrong)

/-- 'laws.FnExactAxesOf': WHATEVER THE INPUT: true; the input reads as it did. -/
def fnExactAxesOfSpec : ChangeSpec := { name := "fnExactAxesOf", fn := fun _ => fun
  | [d] => { results := [.lit (.bool true)], args := [d] }
  | _ => none }
def fnExactAxesOfRow : OpenClaim := { program := "ytbbidfadenmmjaa", sum := "07a9f5c3c7e98ead9cec60f8922d46cb80c6e534e8ceaabee17a4e1d71e43b0d", func := "loop.example/g01193/laws.FnExactAxesOf", spec := "fnExactAxesOf", inPlace := ["math.sqrt"], unfollowed := true, recurses := true, apart := false }
def FnExactAxesOfSaid : Prop := fnExactAxesOfRow.holds Try.pinned (OpenSpec.ofChange fnExactAxesOfSpec)

/-- ITS FALSE NEIGHBOUR: 'it returns false'. Refute it at one input. -/
def fnExactAxesOfWrong : ChangeSpec := { name := "fnExactAxesOf", fn := fun _ => fun
  | [d] => { results := [.lit (.bool false)], args := [d] }
  | _ => none }
def FnExactAxesOfWrongFalsely : Prop := fnExactAxesOfRow.holds Try.pinned (OpenSpec.ofChange fnExactAxesOfWrong)

/-- 'laws.FnExactRayThrough': WHATEVER THE INPUT: true; the input reads as it did. -/
def fnExactRayThroughSpec : ChangeSpec := { name := "fnExactRayThrough", fn := fun _ => fun
  | [d1, d2, d3] => { results := [.lit (.bool true)], args := [d1, d2, d3] }
  | _ => none }
def fnExactRayThroughRow : OpenClaim := { program := "ytbbidfadenmmjaa", sum := "07a9f5c3c7e98ead9cec60f8922d46cb80c6e534e8ceaabee17a4e1d71e43b0d", func := "loop.example/g01193/laws.FnExactRayThrough", spec := "fnExactRayThrough", inPlace := ["math.sqrt"], unfollowed := true, recurses := true, apart := false }
def FnExactRayThroughSaid : Prop := fnExactRayThroughRow.holds Try.pinned (OpenSpec.ofChange fnExactRayThroughSpec)

/-- ITS FALSE NEIGHBOUR: 'it returns false'. Refute it at one input. -/
def fnExactRayThroughWrong : ChangeSpec := { name := "fnExactRayThrough", fn := fun _ => fun
  | [d1, d2, d3] => { results := [.lit (.bool false)], args := [d1, d2, d3] }
  | _ => none }
def FnExactRayThroughWrongFalsely : Prop := fnExactRayThroughRow.holds Try.pinned (OpenSpec.ofChange fnExactRayThroughWrong)

/-- 'laws.FnExactTilesOf': WHATEVER THE INPUT: true; the input reads as it did. -/
def fnExactTilesOfSpec : ChangeSpec := { name := "fnExactTilesOf", fn := fun _ => fun
  | [d1, d2] => { results := [.lit (.bool true)], args := [d1, d2] }
  | _ => none }
def fnExactTilesOfRow : OpenClaim := { program := "ytbbidfadenmmjaa", sum := "07a9f5c3c7e98ead9cec60f8922d46cb80c6e534e8ceaabee17a4e1d71e43b0d", func := "loop.example/g01193/laws.FnExactTilesOf", spec := "fnExactTilesOf", inPlace := ["math.sqrt"], unfollowed := true, recurses := true, apart := false }
def FnExactTilesOfSaid : Prop := fnExactTilesOfRow.holds Try.pinned (OpenSpec.ofChange fnExactTilesOfSpec)

/-- ITS FALSE NEIGHBOUR: 'it returns false'. Refute it at one input. -/
def fnExactTilesOfWrong : ChangeSpec := { name := "fnExactTilesOf", fn := fun _ => fun
  | [d1, d2] => { results := [.lit (.bool false)], args := [d1, d2] }
  | _ => none }
def FnExactTilesOfWrongFalsely : Prop := fnExactTilesOfRow.holds Try.pinned (OpenSpec.ofChange fnExactTilesOfWrong)

/-- 'laws.FnExactOverlapOf': WHATEVER THE INPUT: true; the input reads as it did. -/
def fnExactOverlapOfSpec : ChangeSpec := { name := "fnExactOverlapOf", fn := fun _ => fun
  | [d1, d2] => { results := [.lit (.bool true)], args := [d1, d2] }
  | _ => none }
def fnExactOverlapOfRow : OpenClaim := { program := "ytbbidfadenmmjaa", sum := "07a9f5c3c7e98ead9cec60f8922d46cb80c6e534e8ceaabee17a4e1d71e43b0d", func := "loop.example/g01193/laws.FnExactOverlapOf", spec := "fnExactOverlapOf", inPlace := ["math.sqrt"], unfollowed := true, recurses := true, apart := false }
def FnExactOverlapOfSaid : Prop := fnExactOverlapOfRow.holds Try.pinned (OpenSpec.ofChange fnExactOverlapOfSpec)

/-- ITS FALSE NEIGHBOUR: 'it returns false'. Refute it at one input. -/
def fnExactOverlapOfWrong : ChangeSpec := { name := "fnExactOverlapOf", fn := fun _ => fun
  | [d1, d2] => { results := [.lit (.bool false)], args := [d1, d2] }
  | _ => none }
def FnExactOverlapOfWrongFalsely : Prop := fnExactOverlapOfRow.holds Try.pinned (OpenSpec.ofChange fnExactOverlapOfWrong)

/-- 'laws.FnExactPartBalls': WHATEVER THE INPUT: true; the input reads as it did. -/
def fnExactPartBallsSpec : ChangeSpec := { name := "fnExactPartBalls", fn := fun _ => fun
  | [d1, d2, d3] => { results := [.lit (.bool true)], args := [d1, d2, d3] }
  | _ => none }
def fnExactPartBallsRow : OpenClaim := { program := "ytbbidfadenmmjaa", sum := "07a9f5c3c7e98ead9cec60f8922d46cb80c6e534e8ceaabee17a4e1d71e43b0d", func := "loop.example/g01193/laws.FnExactPartBalls", spec := "fnExactPartBalls", inPlace := ["math.sqrt"], unfollowed := true, recurses := true, apart := false }
def FnExactPartBallsSaid : Prop := fnExactPartBallsRow.holds Try.pinned (OpenSpec.ofChange fnExactPartBallsSpec)

/-- ITS FALSE NEIGHBOUR: 'it returns false'. Refute it at one input. -/
def fnExactPartBallsWrong : ChangeSpec := { name := "fnExactPartBalls", fn := fun _ => fun
  | [d1, d2, d3] => { results := [.lit (.bool false)], args := [d1, d2, d3] }
  | _ => none }
def FnExactPartBallsWrongFalsely : Prop := fnExactPartBallsRow.holds Try.pinned (OpenSpec.ofChange fnExactPartBallsWrong)

/- THE SECOND FORM. 'bulk': how many values and letters a reading holds, each counted each time it is reached (what is shared counts as often as it is met; a slice's spare places count too). A statement '..UptoSaid' is the law's where the arguments, and the package variables that the reading takes, are together of bulk at most 1048576: NARROWER than '..Said'. Prove '..Said' where nothing that the law and all that it calls make is longer than what came in: it says more and counts as full. Else prove '..UptoSaid'. A law counts once. -/
mutual
def uptoBulk {H : Type} : DataW H → Nat
  | .lit (.string bytes) => bytes.length + 1
  | .lit _ => 1
  | .nil => 1
  | .ptr d => uptoBulk d + 1
  | .slice elems spare => uptoBulkAll elems + uptoBulkAll spare + 1
  | .agg parts => uptoBulkAll parts + 1
  | .iface _ d => uptoBulk d + 1
  | .map entries => uptoBulkEntries entries + 1
  | .held _ => 1
def uptoBulkAll {H : Type} : List (DataW H) → Nat
  | [] => 0
  | d :: r => uptoBulk d + uptoBulkAll r
def uptoBulkEntries {H : Type} : List (Lit × DataW H) → Nat
  | [] => 0
  | x :: r => uptoBulkEntry x + uptoBulkEntries r
def uptoBulkEntry {H : Type} : Lit × DataW H → Nat
  | (.string bytes, d) => bytes.length + uptoBulk d + 1
  | (_, d) => uptoBulk d + 1
 end
def uptoSmall : (H : Type) → List (DataW H) → Bool := fun _ ds => decide (uptoBulkAll ds ≤ 1048576)
def OpenSpec.upto (s : _root_.Go.ChangeSpec) : _root_.Go.OpenSpec := { _root_.Go.OpenSpec.ofChange s with cond := some uptoSmall }

/-- 'laws.FnExactBoxAround', WHERE WHAT IT READS IS OF BULK AT MOST 1048576: true; the input reads as it did. -/
def fnExactBoxAroundUptoRow : OpenClaim := { program := "ytbbidfadenmmjaa", sum := "07a9f5c3c7e98ead9cec60f8922d46cb80c6e534e8ceaabee17a4e1d71e43b0d", func := "loop.example/g01193/laws.FnExactBoxAround", spec := "fnExactBoxAround", unfollowed := true, recurses := true, apart := false, narrowed := true }
def FnExactBoxAroundUptoSaid : Prop := fnExactBoxAroundUptoRow.holds Try.pinned (OpenSpec.upto fnExactBoxAroundSpec)

/-- 'laws.FnExactLongRange', WHERE WHAT IT READS IS OF BULK AT MOST 1048576: true; the input reads as it did. -/
def fnExactLongRangeUptoRow : OpenClaim := { program := "ytbbidfadenmmjaa", sum := "07a9f5c3c7e98ead9cec60f8922d46cb80c6e534e8ceaabee17a4e1d71e43b0d", func := "loop.example/g01193/laws.FnExactLongRange", spec := "fnExactLongRange", inPlace := ["math.sqrt"], apart := false, narrowed := true }
def FnExactLongRangeUptoSaid : Prop := fnExactLongRangeUptoRow.holds Try.pinned (OpenSpec.upto fnExactLongRangeSpec)

/-- 'laws.FnExactValidCamera', WHERE WHAT IT READS IS OF BULK AT MOST 1048576: true; the input reads as it did. -/
def fnExactValidCameraUptoRow : OpenClaim := { program := "ytbbidfadenmmjaa", sum := "07a9f5c3c7e98ead9cec60f8922d46cb80c6e534e8ceaabee17a4e1d71e43b0d", func := "loop.example/g01193/laws.FnExactValidCamera", spec := "fnExactValidCamera", inPlace := ["math.sqrt"], unfollowed := true, recurses := true, apart := false, narrowed := true }
def FnExactValidCameraUptoSaid : Prop := fnExactValidCameraUptoRow.holds Try.pinned (OpenSpec.upto fnExactValidCameraSpec)

/-- 'laws.FnExactIsTile', WHERE WHAT IT READS IS OF BULK AT MOST 1048576: true; the input reads as it did. -/
def fnExactIsTileUptoRow : OpenClaim := { program := "ytbbidfadenmmjaa", sum := "07a9f5c3c7e98ead9cec60f8922d46cb80c6e534e8ceaabee17a4e1d71e43b0d", func := "loop.example/g01193/laws.FnExactIsTile", spec := "fnExactIsTile", inPlace := ["math.sqrt"], unfollowed := true, recurses := true, apart := false, narrowed := true }
def FnExactIsTileUptoSaid : Prop := fnExactIsTileUptoRow.holds Try.pinned (OpenSpec.upto fnExactIsTileSpec)

/-- 'laws.FnExactMirrorPicture', WHERE WHAT IT READS IS OF BULK AT MOST 1048576: true; the input reads as it did. -/
def fnExactMirrorPictureUptoRow : OpenClaim := { program := "ytbbidfadenmmjaa", sum := "07a9f5c3c7e98ead9cec60f8922d46cb80c6e534e8ceaabee17a4e1d71e43b0d", func := "loop.example/g01193/laws.FnExactMirrorPicture", spec := "fnExactMirrorPicture", inPlace := ["math.sqrt"], unfollowed := true, recurses := true, apart := false, narrowed := true }
def FnExactMirrorPictureUptoSaid : Prop := fnExactMirrorPictureUptoRow.holds Try.pinned (OpenSpec.upto fnExactMirrorPictureSpec)

/-- 'laws.FnExactAxesOf', WHERE WHAT IT READS IS OF BULK AT MOST 1048576: true; the input reads as it did. -/
def fnExactAxesOfUptoRow : OpenClaim := { program := "ytbbidfadenmmjaa", sum := "07a9f5c3c7e98ead9cec60f8922d46cb80c6e534e8ceaabee17a4e1d71e43b0d", func := "loop.example/g01193/laws.FnExactAxesOf", spec := "fnExactAxesOf", inPlace := ["math.sqrt"], unfollowed := true, recurses := true, apart := false, narrowed := true }
def FnExactAxesOfUptoSaid : Prop := fnExactAxesOfUptoRow.holds Try.pinned (OpenSpec.upto fnExactAxesOfSpec)

/-- 'laws.FnExactRayThrough', WHERE WHAT IT READS IS OF BULK AT MOST 1048576: true; the input reads as it did. -/
def fnExactRayThroughUptoRow : OpenClaim := { program := "ytbbidfadenmmjaa", sum := "07a9f5c3c7e98ead9cec60f8922d46cb80c6e534e8ceaabee17a4e1d71e43b0d", func := "loop.example/g01193/laws.FnExactRayThrough", spec := "fnExactRayThrough", inPlace := ["math.sqrt"], unfollowed := true, recurses := true, apart := false, narrowed := true }
def FnExactRayThroughUptoSaid : Prop := fnExactRayThroughUptoRow.holds Try.pinned (OpenSpec.upto fnExactRayThroughSpec)

/-- 'laws.FnExactTilesOf', WHERE WHAT IT READS IS OF BULK AT MOST 1048576: true; the input reads as it did. -/
def fnExactTilesOfUptoRow : OpenClaim := { program := "ytbbidfadenmmjaa", sum := "07a9f5c3c7e98ead9cec60f8922d46cb80c6e534e8ceaabee17a4e1d71e43b0d", func := "loop.example/g01193/laws.FnExactTilesOf", spec := "fnExactTilesOf", inPlace := ["math.sqrt"], unfollowed := true, recurses := true, apart := false, narrowed := true }
def FnExactTilesOfUptoSaid : Prop := fnExactTilesOfUptoRow.holds Try.pinned (OpenSpec.upto fnExactTilesOfSpec)

/-- 'laws.FnExactOverlapOf', WHERE WHAT IT READS IS OF BULK AT MOST 1048576: true; the input reads as it did. -/
def fnExactOverlapOfUptoRow : OpenClaim := { program := "ytbbidfadenmmjaa", sum := "07a9f5c3c7e98ead9cec60f8922d46cb80c6e534e8ceaabee17a4e1d71e43b0d", func := "loop.example/g01193/laws.FnExactOverlapOf", spec := "fnExactOverlapOf", inPlace := ["math.sqrt"], unfollowed := true, recurses := true, apart := false, narrowed := true }
def FnExactOverlapOfUptoSaid : Prop := fnExactOverlapOfUptoRow.holds Try.pinned (OpenSpec.upto fnExactOverlapOfSpec)

/-- 'laws.FnExactPartBalls', WHERE WHAT IT READS IS OF BULK AT MOST 1048576: true; the input reads as it did. -/
def fnExactPartBallsUptoRow : OpenClaim := { program := "ytbbidfadenmmjaa", sum := "07a9f5c3c7e98ead9cec60f8922d46cb80c6e534e8ceaabee17a4e1d71e43b0d", func := "loop.example/g01193/laws.FnExactPartBalls", spec := "fnExactPartBalls", inPlace := ["math.sqrt"], unfollowed := true, recurses := true, apart := false, narrowed := true }
def FnExactPartBallsUptoSaid : Prop := fnExactPartBallsUptoRow.holds Try.pinned (OpenSpec.upto fnExactPartBallsSpec)

end Rows
end Go.Proofs.Ytbbidfadenmmjaa
