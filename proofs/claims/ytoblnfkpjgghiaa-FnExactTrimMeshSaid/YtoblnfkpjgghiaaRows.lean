/-
  No cell of these rows narrows 'for every input' (looked for: loops, veiled, ifaces, maps, wideKeys, modest, calm, conditions, laid).
  DERIVED. THE GIVEN ROWS OF THIS SEAT. 4 by the template 'for every input the law returns true; each argument reads behind the call as it read before'; 0 by the template 'total and deterministic' (their statements: YtoblnfkpjgghiaaTotals.lean).
  GIVEN WITH THE SEED: the statements are not yours to turn. If you find one false, say at which input.
  Laid BY PROGRAM, IN A SANDBOX (cutbox-rows.mjs): the forced cells as the released guide's own fill.sh prints them over the translation e38e3bd75a0decc5… (all of the seat's roots in one cut). By AI agents, Wed Nov 11 2026. No macro, syntax, notation, axiom, sorry.
-/
import Derived.Test.YtoblnfkpjgghiaaChecked
import GoSem.Claim
import GoSem.ClaimJoined
import GoSem.ClaimMapViews
import Derived.JoinedTies
import Derived.KernelRfl
namespace Go.Proofs.Ytoblnfkpjgghiaa
/- THE CELL 'sum', in the pinned program and in every row, IS THE sha256 OF THE DUMP (.gsa) THAT YtoblnfkpjgghiaaProg.lean LOADS. Nothing in Lean hashes anything: it is a label: what it is worth is what the hold of that sum in a sandbox is worth. -/
noncomputable def Try.pinned : Pinned := { name := "ytoblnfkpjgghiaa", sum := "e38e3bd75a0decc5dbacb0b33b01f3ff967603834d1b3fa1180861e128b3e669", checked := Try.checked }
namespace Rows
def none {H : Type} : Left H := { results := [], args := [] }

/-- 'laws.FnExactUsedPlaces': WHATEVER THE INPUT: true; the input reads as it did. -/
def fnExactUsedPlacesSpec : ChangeSpec := { name := "fnExactUsedPlaces", fn := fun _ => fun
  | [d] => { results := [.lit (.bool true)], args := [d] }
  | _ => none }
def fnExactUsedPlacesRow : OpenClaim := { program := "ytoblnfkpjgghiaa", sum := "e38e3bd75a0decc5dbacb0b33b01f3ff967603834d1b3fa1180861e128b3e669", func := "loop.example/g01193/laws.FnExactUsedPlaces", spec := "fnExactUsedPlaces", unfollowed := true, recurses := true, plainKeys := false, apart := false }
def FnExactUsedPlacesSaid : Prop := fnExactUsedPlacesRow.holds Try.pinned (OpenSpec.ofChange fnExactUsedPlacesSpec)

/-- ITS FALSE NEIGHBOUR: 'it returns false'. Refute it at one input. -/
def fnExactUsedPlacesWrong : ChangeSpec := { name := "fnExactUsedPlaces", fn := fun _ => fun
  | [d] => { results := [.lit (.bool false)], args := [d] }
  | _ => none }
def FnExactUsedPlacesWrongFalsely : Prop := fnExactUsedPlacesRow.holds Try.pinned (OpenSpec.ofChange fnExactUsedPlacesWrong)

/-- 'laws.FnExactTrimMesh': WHATEVER THE INPUT: true; the input reads as it did. -/
def fnExactTrimMeshSpec : ChangeSpec := { name := "fnExactTrimMesh", fn := fun _ => fun
  | [d] => { results := [.lit (.bool true)], args := [d] }
  | _ => none }
def fnExactTrimMeshRow : OpenClaim := { program := "ytoblnfkpjgghiaa", sum := "e38e3bd75a0decc5dbacb0b33b01f3ff967603834d1b3fa1180861e128b3e669", func := "loop.example/g01193/laws.FnExactTrimMesh", spec := "fnExactTrimMesh", unfollowed := true, recurses := true, plainKeys := false, apart := false }
def FnExactTrimMeshSaid : Prop := fnExactTrimMeshRow.holds Try.pinned (OpenSpec.ofChange fnExactTrimMeshSpec)

/-- ITS FALSE NEIGHBOUR: 'it returns false'. Refute it at one input. -/
def fnExactTrimMeshWrong : ChangeSpec := { name := "fnExactTrimMesh", fn := fun _ => fun
  | [d] => { results := [.lit (.bool false)], args := [d] }
  | _ => none }
def FnExactTrimMeshWrongFalsely : Prop := fnExactTrimMeshRow.holds Try.pinned (OpenSpec.ofChange fnExactTrimMeshWrong)

/-- 'laws.FnExactEulerOf': WHATEVER THE INPUT: true; the input reads as it did. -/
def fnExactEulerOfSpec : ChangeSpec := { name := "fnExactEulerOf", fn := fun _ => fun
  | [d] => { results := [.lit (.bool true)], args := [d] }
  | _ => none }
def fnExactEulerOfRow : OpenClaim := { program := "ytoblnfkpjgghiaa", sum := "e38e3bd75a0decc5dbacb0b33b01f3ff967603834d1b3fa1180861e128b3e669", func := "loop.example/g01193/laws.FnExactEulerOf", spec := "fnExactEulerOf", unfollowed := true, recurses := true, plainKeys := false, apart := false }
def FnExactEulerOfSaid : Prop := fnExactEulerOfRow.holds Try.pinned (OpenSpec.ofChange fnExactEulerOfSpec)

/-- ITS FALSE NEIGHBOUR: 'it returns false'. Refute it at one input. -/
def fnExactEulerOfWrong : ChangeSpec := { name := "fnExactEulerOf", fn := fun _ => fun
  | [d] => { results := [.lit (.bool false)], args := [d] }
  | _ => none }
def FnExactEulerOfWrongFalsely : Prop := fnExactEulerOfRow.holds Try.pinned (OpenSpec.ofChange fnExactEulerOfWrong)

/-- 'laws.FnExactOpenEdges': WHATEVER THE INPUT: true; the input reads as it did. -/
def fnExactOpenEdgesSpec : ChangeSpec := { name := "fnExactOpenEdges", fn := fun _ => fun
  | [d] => { results := [.lit (.bool true)], args := [d] }
  | _ => none }
def fnExactOpenEdgesRow : OpenClaim := { program := "ytoblnfkpjgghiaa", sum := "e38e3bd75a0decc5dbacb0b33b01f3ff967603834d1b3fa1180861e128b3e669", func := "loop.example/g01193/laws.FnExactOpenEdges", spec := "fnExactOpenEdges", unfollowed := true, recurses := true, plainKeys := false, apart := false }
def FnExactOpenEdgesSaid : Prop := fnExactOpenEdgesRow.holds Try.pinned (OpenSpec.ofChange fnExactOpenEdgesSpec)

/-- ITS FALSE NEIGHBOUR: 'it returns false'. Refute it at one input. -/
def fnExactOpenEdgesWrong : ChangeSpec := { name := "fnExactOpenEdges", fn := fun _ => fun
  | [d] => { results := [.lit (.bool false)], args := [d] }
  | _ => none }
def FnExactOpenEdgesWrongFalsely : Prop := fnExactOpenEdgesRow.holds Try.pinned (OpenSpec.ofChange fnExactOpenEdgesWrong)

/- THE SECOND FORM. 'bulk': how many values and letters a reading holds, each counted each time it is reached (what is shared counts as often as it is met; a slice's spare places count too). A statement '..UptoSaid' is the law's where the arguments, and the package variables that the reading takes, are together of bulk at most 1048576: NARROWER than '..Said'. Prove '..Said' where nothing that the law and all that it calls make is longer than what came in: it says more and counts as full. Else prove '..UptoSaid'. A law counts once. -/
mutual
def uptoBulk {H : Type} : DataW H → Nat
  | .lit (.string bytes) => bytes.length + 1
  | .lit _ => 1
  | .nil => 1
  | .ptr d => uptoBulk d + 1
  | .slice elems spare => uptoBulkAll elems + uptoBulkAll spare + 1
  | .agg parts => uptoBulkAll parts + 1
  | .iface _ d => uptoBulk d + 1
  | .map entries => uptoBulkEntries entries + 1
  | .held _ => 1
def uptoBulkAll {H : Type} : List (DataW H) → Nat
  | [] => 0
  | d :: r => uptoBulk d + uptoBulkAll r
def uptoBulkEntries {H : Type} : List (Lit × DataW H) → Nat
  | [] => 0
  | x :: r => uptoBulkEntry x + uptoBulkEntries r
def uptoBulkEntry {H : Type} : Lit × DataW H → Nat
  | (.string bytes, d) => bytes.length + uptoBulk d + 1
  | (_, d) => uptoBulk d + 1
 end
def uptoSmall : (H : Type) → List (DataW H) → Bool := fun _ ds => decide (uptoBulkAll ds ≤ 1048576)
def OpenSpec.upto (s : _root_.Go.ChangeSpec) : _root_.Go.OpenSpec := { _root_.Go.OpenSpec.ofChange s with cond := some uptoSmall }

/-- 'laws.FnExactUsedPlaces', WHERE WHAT IT READS IS OF BULK AT MOST 1048576: true; the input reads as it did. -/
def fnExactUsedPlacesUptoRow : OpenClaim := { program := "ytoblnfkpjgghiaa", sum := "e38e3bd75a0decc5dbacb0b33b01f3ff967603834d1b3fa1180861e128b3e669", func := "loop.example/g01193/laws.FnExactUsedPlaces", spec := "fnExactUsedPlaces", unfollowed := true, recurses := true, plainKeys := false, apart := false, narrowed := true }
def FnExactUsedPlacesUptoSaid : Prop := fnExactUsedPlacesUptoRow.holds Try.pinned (OpenSpec.upto fnExactUsedPlacesSpec)

/-- 'laws.FnExactTrimMesh', WHERE WHAT IT READS IS OF BULK AT MOST 1048576: true; the input reads as it did. -/
def fnExactTrimMeshUptoRow : OpenClaim := { program := "ytoblnfkpjgghiaa", sum := "e38e3bd75a0decc5dbacb0b33b01f3ff967603834d1b3fa1180861e128b3e669", func := "loop.example/g01193/laws.FnExactTrimMesh", spec := "fnExactTrimMesh", unfollowed := true, recurses := true, plainKeys := false, apart := false, narrowed := true }
def FnExactTrimMeshUptoSaid : Prop := fnExactTrimMeshUptoRow.holds Try.pinned (OpenSpec.upto fnExactTrimMeshSpec)

/-- 'laws.FnExactEulerOf', WHERE WHAT IT READS IS OF BULK AT MOST 1048576: true; the input reads as it did. -/
def fnExactEulerOfUptoRow : OpenClaim := { program := "ytoblnfkpjgghiaa", sum := "e38e3bd75a0decc5dbacb0b33b01f3ff967603834d1b3fa1180861e128b3e669", func := "loop.example/g01193/laws.FnExactEulerOf", spec := "fnExactEulerOf", unfollowed := true, recurses := true, plainKeys := false, apart := false, narrowed := true }
def FnExactEulerOfUptoSaid : Prop := fnExactEulerOfUptoRow.holds Try.pinned (OpenSpec.upto fnExactEulerOfSpec)

/-- 'laws.FnExactOpenEdges', WHERE WHAT IT READS IS OF BULK AT MOST 1048576: true; the input reads as it did. -/
def fnExactOpenEdgesUptoRow : OpenClaim := { program := "ytoblnfkpjgghiaa", sum := "e38e3bd75a0decc5dbacb0b33b01f3ff967603834d1b3fa1180861e128b3e669", func := "loop.example/g01193/laws.FnExactOpenEdges", spec := "fnExactOpenEdges", unfollowed := true, recurses := true, plainKeys := false, apart := false, narrowed := true }
def FnExactOpenEdgesUptoSaid : Prop := fnExactOpenEdgesUptoRow.holds Try.pinned (OpenSpec.upto fnExactOpenEdgesSpec)

end Rows
end Go.Proofs.Ytoblnfkpjgghiaa
