/- the program's structs as plain structures, and what cells stand for them -/
import Derived.Test.YtjopopmipdakkaaSl
namespace Go.Proofs.Ytjopopmipdakkaa
open Go Go.RowKit
theorem RF.flat : Flat RF := fun _ _ _ _ h => h
theorem RI.flat : Flat RI := fun _ _ _ _ h => h
structure V3 where
  x : Nat
  y : Nat
  z : Nat
def RV3 : Rel V3 := fun _ x cs => ∃ r0 r1 r2 : Nat, cs = [Fl r0, Fl r1, Fl r2] ∧ cf .f32 r0 = x.x ∧ cf .f32 r1 = x.y ∧ cf .f32 r2 = x.z
theorem RV3.mono : Mono RV3 := fun _ _ _ _ _ ⟨r0, r1, r2, h, e0, e1, e2⟩ => ⟨r0, r1, r2, h, e0, e1, e2⟩
theorem RV3.flat : Flat RV3 := fun _ _ _ _ h => h
theorem RV3.any {w u : World} {x : V3} {cs : List Value} (h : RV3 u x cs) : RV3 w x cs := h
structure Bx where
  lo : V3
  hi : V3
structure Rg where
  lo : Nat
  hi : Nat
structure GridT where
  low : V3
  step : Nat
  x : Int
  y : Int
  z : Int
  vals : List Nat
def RGridT : Rel GridT := fun w x cs => ∃ r0 r1 r2 r3 : Nat, ∃ v7 : Value, cs = [Fl r0, Fl r1, Fl r2, Fl r3, Iv x.x, Iv x.y, Iv x.z, v7] ∧ cf .f32 r0 = x.low.x ∧ cf .f32 r1 = x.low.y ∧ cf .f32 r2 = x.low.z ∧ cf .f32 r3 = x.step ∧ Sl RF 1 w v7 x.vals
structure MeshT where
  places : List V3
  tris : List (List Int)
def RMeshT : Rel MeshT := fun w x cs => ∃ v0 v1 : Value, cs = [v0, v1] ∧ Sl RV3 3 w v0 x.places ∧ Sl (RS RI 1) 1 w v1 x.tris
structure NodeT where
  kind : Int
  a : Int
  b : Int
  nums : List Nat
structure ShapeT where
  nodes : List NodeT
structure RayT where
  frm : V3
  way : V3
structure MarchT where
  near : Nat
  most : Nat
  steps : Int
structure StepT where
  kind : Int
  to : Int
  a : Int
  b : Int
  node : NodeT
structure ProgT where
  points : Int
  values : Int
  steps : List StepT
structure DropT where
  place : V3
  speed : V3
structure CamT where
  frm : V3
  to : V3
  wide : Nat
  width : Int
  height : Int
structure ViewT where
  shape : ShapeT
  cam : CamT
  light : V3
  march : MarchT
structure TileT where
  x : Int
  y : Int
  width : Int
  height : Int
structure RuleT where
  num : Int
  ch : Int
  ax : Bool
  sg : Int
end Go.Proofs.Ytjopopmipdakkaa
