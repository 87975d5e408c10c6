/- the program's structs as plain structures, and what cells stand for them -/
import Derived.Test.YtlfpeihlfmdmdaaSl
namespace Go.Proofs.Ytlfpeihlfmdmdaa
open Go Go.RowKit
theorem RF.flat : Flat RF := fun _ _ _ _ h => h
theorem RI.flat : Flat RI := fun _ _ _ _ h => h
def RU : Rel Int := fun _ n cs => cs = [Uv n]
theorem RU.mono : Mono RU := fun _ _ _ _ _ h => h
theorem RU.flat : Flat RU := fun _ _ _ _ h => h
def RP : Rel (Int × Int) := fun _ n cs => cs = [Iv n.1, Iv n.2]
theorem RP.mono : Mono RP := fun _ _ _ _ _ h => h
theorem RP.flat : Flat RP := fun _ _ _ _ h => h
structure V3 where
  x : Nat
  y : Nat
  z : Nat
def RV3 : Rel V3 := fun _ x cs => ∃ r0 r1 r2 : Nat, cs = [Fl r0, Fl r1, Fl r2] ∧ cf .f32 r0 = x.x ∧ cf .f32 r1 = x.y ∧ cf .f32 r2 = x.z
theorem RV3.mono : Mono RV3 := fun _ _ _ _ _ ⟨r0, r1, r2, h, e0, e1, e2⟩ => ⟨r0, r1, r2, h, e0, e1, e2⟩
theorem RV3.flat : Flat RV3 := fun _ _ _ _ h => h
theorem RV3.any {w u : World} {x : V3} {cs : List Value} (h : RV3 u x cs) : RV3 w x cs := h
structure Bx where
  lo : V3
  hi : V3
def RBx : Rel Bx := fun _ x cs => ∃ r0 r1 r2 r3 r4 r5 : Nat, cs = [Fl r0, Fl r1, Fl r2, Fl r3, Fl r4, Fl r5] ∧ cf .f32 r0 = x.lo.x ∧ cf .f32 r1 = x.lo.y ∧ cf .f32 r2 = x.lo.z ∧ cf .f32 r3 = x.hi.x ∧ cf .f32 r4 = x.hi.y ∧ cf .f32 r5 = x.hi.z
theorem RBx.mono : Mono RBx := fun _ _ _ _ _ ⟨r0, r1, r2, r3, r4, r5, h, e0, e1, e2, e3, e4, e5⟩ => ⟨r0, r1, r2, r3, r4, r5, h, e0, e1, e2, e3, e4, e5⟩
theorem RBx.flat : Flat RBx := fun _ _ _ _ h => h
theorem RBx.any {w u : World} {x : Bx} {cs : List Value} (h : RBx u x cs) : RBx w x cs := h
structure Rg where
  lo : Nat
  hi : Nat
def RRg : Rel Rg := fun _ x cs => ∃ r0 r1 : Nat, cs = [Fl r0, Fl r1] ∧ cf .f32 r0 = x.lo ∧ cf .f32 r1 = x.hi
theorem RRg.mono : Mono RRg := fun _ _ _ _ _ ⟨r0, r1, h, e0, e1⟩ => ⟨r0, r1, h, e0, e1⟩
theorem RRg.flat : Flat RRg := fun _ _ _ _ h => h
theorem RRg.any {w u : World} {x : Rg} {cs : List Value} (h : RRg u x cs) : RRg w x cs := h
structure GridT where
  low : V3
  step : Nat
  x : Int
  y : Int
  z : Int
  vals : List Nat
def RGridT : Rel GridT := fun w x cs => ∃ r0 r1 r2 r3 : Nat, ∃ v7 : Value, cs = [Fl r0, Fl r1, Fl r2, Fl r3, Iv x.x, Iv x.y, Iv x.z, v7] ∧ cf .f32 r0 = x.low.x ∧ cf .f32 r1 = x.low.y ∧ cf .f32 r2 = x.low.z ∧ cf .f32 r3 = x.step ∧ Sl RF 1 w v7 x.vals
theorem RGridT.mono : Mono RGridT := fun _ _ _ _ hx ⟨r0, r1, r2, r3, v7, h, e0, e1, e2, e3, s7⟩ => ⟨r0, r1, r2, r3, v7, h, e0, e1, e2, e3, s7.ext RF.mono hx⟩
structure MeshT where
  places : List V3
  tris : List (List Int)
def RMeshT : Rel MeshT := fun w x cs => ∃ v0 v1 : Value, cs = [v0, v1] ∧ Sl RV3 3 w v0 x.places ∧ Sl (RS RI 1) 1 w v1 x.tris
theorem RMeshT.mono : Mono RMeshT := fun _ _ _ _ hx ⟨v0, v1, h, s0, s1⟩ => ⟨v0, v1, h, s0.ext RV3.mono hx, s1.ext (RS.mono RI.mono) hx⟩
structure NodeT where
  kind : Int
  a : Int
  b : Int
  nums : List Nat
def RNodeT : Rel NodeT := fun w x cs => ∃ v3 : Value, cs = [Iv x.kind, Iv x.a, Iv x.b, v3] ∧ Sl RF 1 w v3 x.nums
theorem RNodeT.mono : Mono RNodeT := fun _ _ _ _ hx ⟨v3, h, s3⟩ => ⟨v3, h, s3.ext RF.mono hx⟩
structure ShapeT where
  nodes : List NodeT
def RShapeT : Rel ShapeT := fun w x cs => ∃ v0 : Value, cs = [v0] ∧ Sl RNodeT 4 w v0 x.nodes
theorem RShapeT.mono : Mono RShapeT := fun _ _ _ _ hx ⟨v0, h, s0⟩ => ⟨v0, h, s0.ext RNodeT.mono hx⟩
structure RayT where
  frm : V3
  way : V3
def RRayT : Rel RayT := fun _ x cs => ∃ r0 r1 r2 r3 r4 r5 : Nat, cs = [Fl r0, Fl r1, Fl r2, Fl r3, Fl r4, Fl r5] ∧ cf .f32 r0 = x.frm.x ∧ cf .f32 r1 = x.frm.y ∧ cf .f32 r2 = x.frm.z ∧ cf .f32 r3 = x.way.x ∧ cf .f32 r4 = x.way.y ∧ cf .f32 r5 = x.way.z
theorem RRayT.mono : Mono RRayT := fun _ _ _ _ _ ⟨r0, r1, r2, r3, r4, r5, h, e0, e1, e2, e3, e4, e5⟩ => ⟨r0, r1, r2, r3, r4, r5, h, e0, e1, e2, e3, e4, e5⟩
theorem RRayT.flat : Flat RRayT := fun _ _ _ _ h => h
theorem RRayT.any {w u : World} {x : RayT} {cs : List Value} (h : RRayT u x cs) : RRayT w x cs := h
structure MarchT where
  near : Nat
  most : Nat
  steps : Int
def RMarchT : Rel MarchT := fun _ x cs => ∃ r0 r1 : Nat, cs = [Fl r0, Fl r1, Iv x.steps] ∧ cf .f32 r0 = x.near ∧ cf .f32 r1 = x.most
theorem RMarchT.mono : Mono RMarchT := fun _ _ _ _ _ ⟨r0, r1, h, e0, e1⟩ => ⟨r0, r1, h, e0, e1⟩
theorem RMarchT.flat : Flat RMarchT := fun _ _ _ _ h => h
theorem RMarchT.any {w u : World} {x : MarchT} {cs : List Value} (h : RMarchT u x cs) : RMarchT w x cs := h
structure StepT where
  kind : Int
  to : Int
  a : Int
  b : Int
  node : NodeT
def RStepT : Rel StepT := fun w x cs => ∃ v7 : Value, cs = [Iv x.kind, Iv x.to, Iv x.a, Iv x.b, Iv x.node.kind, Iv x.node.a, Iv x.node.b, v7] ∧ Sl RF 1 w v7 x.node.nums
theorem RStepT.mono : Mono RStepT := fun _ _ _ _ hx ⟨v7, h, s7⟩ => ⟨v7, h, s7.ext RF.mono hx⟩
structure ProgT where
  points : Int
  values : Int
  steps : List StepT
def RProgT : Rel ProgT := fun w x cs => ∃ v2 : Value, cs = [Iv x.points, Iv x.values, v2] ∧ Sl RStepT 8 w v2 x.steps
theorem RProgT.mono : Mono RProgT := fun _ _ _ _ hx ⟨v2, h, s2⟩ => ⟨v2, h, s2.ext RStepT.mono hx⟩
structure DropT where
  place : V3
  speed : V3
def RDropT : Rel DropT := fun _ x cs => ∃ r0 r1 r2 r3 r4 r5 : Nat, cs = [Fl r0, Fl r1, Fl r2, Fl r3, Fl r4, Fl r5] ∧ cf .f32 r0 = x.place.x ∧ cf .f32 r1 = x.place.y ∧ cf .f32 r2 = x.place.z ∧ cf .f32 r3 = x.speed.x ∧ cf .f32 r4 = x.speed.y ∧ cf .f32 r5 = x.speed.z
theorem RDropT.mono : Mono RDropT := fun _ _ _ _ _ ⟨r0, r1, r2, r3, r4, r5, h, e0, e1, e2, e3, e4, e5⟩ => ⟨r0, r1, r2, r3, r4, r5, h, e0, e1, e2, e3, e4, e5⟩
theorem RDropT.flat : Flat RDropT := fun _ _ _ _ h => h
theorem RDropT.any {w u : World} {x : DropT} {cs : List Value} (h : RDropT u x cs) : RDropT w x cs := h
structure CamT where
  frm : V3
  to : V3
  wide : Nat
  width : Int
  height : Int
def RCamT : Rel CamT := fun _ x cs => ∃ r0 r1 r2 r3 r4 r5 r6 : Nat, cs = [Fl r0, Fl r1, Fl r2, Fl r3, Fl r4, Fl r5, Fl r6, Iv x.width, Iv x.height] ∧ cf .f32 r0 = x.frm.x ∧ cf .f32 r1 = x.frm.y ∧ cf .f32 r2 = x.frm.z ∧ cf .f32 r3 = x.to.x ∧ cf .f32 r4 = x.to.y ∧ cf .f32 r5 = x.to.z ∧ cf .f32 r6 = x.wide
theorem RCamT.mono : Mono RCamT := fun _ _ _ _ _ ⟨r0, r1, r2, r3, r4, r5, r6, h, e0, e1, e2, e3, e4, e5, e6⟩ => ⟨r0, r1, r2, r3, r4, r5, r6, h, e0, e1, e2, e3, e4, e5, e6⟩
theorem RCamT.flat : Flat RCamT := fun _ _ _ _ h => h
theorem RCamT.any {w u : World} {x : CamT} {cs : List Value} (h : RCamT u x cs) : RCamT w x cs := h
structure ViewT where
  shape : ShapeT
  cam : CamT
  light : V3
  march : MarchT
def RViewT : Rel ViewT := fun w x cs => ∃ r1 r2 r3 r4 r5 r6 r7 r10 r11 r12 r13 r14 : Nat, ∃ v0 : Value, cs = [v0, Fl r1, Fl r2, Fl r3, Fl r4, Fl r5, Fl r6, Fl r7, Iv x.cam.width, Iv x.cam.height, Fl r10, Fl r11, Fl r12, Fl r13, Fl r14, Iv x.march.steps] ∧ cf .f32 r1 = x.cam.frm.x ∧ cf .f32 r2 = x.cam.frm.y ∧ cf .f32 r3 = x.cam.frm.z ∧ cf .f32 r4 = x.cam.to.x ∧ cf .f32 r5 = x.cam.to.y ∧ cf .f32 r6 = x.cam.to.z ∧ cf .f32 r7 = x.cam.wide ∧ cf .f32 r10 = x.light.x ∧ cf .f32 r11 = x.light.y ∧ cf .f32 r12 = x.light.z ∧ cf .f32 r13 = x.march.near ∧ cf .f32 r14 = x.march.most ∧ Sl RNodeT 4 w v0 x.shape.nodes
theorem RViewT.mono : Mono RViewT := fun _ _ _ _ hx ⟨r1, r2, r3, r4, r5, r6, r7, r10, r11, r12, r13, r14, v0, h, e1, e2, e3, e4, e5, e6, e7, e10, e11, e12, e13, e14, s0⟩ => ⟨r1, r2, r3, r4, r5, r6, r7, r10, r11, r12, r13, r14, v0, h, e1, e2, e3, e4, e5, e6, e7, e10, e11, e12, e13, e14, s0.ext RNodeT.mono hx⟩
structure TileT where
  x : Int
  y : Int
  width : Int
  height : Int
def RTileT : Rel TileT := fun _ x cs => cs = [Iv x.x, Iv x.y, Iv x.width, Iv x.height]
theorem RTileT.mono : Mono RTileT := fun _ _ _ _ _ h => h
theorem RTileT.flat : Flat RTileT := fun _ _ _ _ h => h
theorem RTileT.any {w u : World} {x : TileT} {cs : List Value} (h : RTileT u x cs) : RTileT w x cs := h
structure RuleT where
  num : Int
  ch : Int
  ax : Bool
  sg : Int
def RRuleT : Rel RuleT := fun _ x cs => cs = [Iv x.num, Iv x.ch, Bo x.ax, Iv x.sg]
theorem RRuleT.mono : Mono RRuleT := fun _ _ _ _ _ h => h
theorem RRuleT.flat : Flat RRuleT := fun _ _ _ _ h => h
theorem RRuleT.any {w u : World} {x : RuleT} {cs : List Value} (h : RRuleT u x cs) : RRuleT w x cs := h
end Go.Proofs.Ytlfpeihlfmdmdaa
