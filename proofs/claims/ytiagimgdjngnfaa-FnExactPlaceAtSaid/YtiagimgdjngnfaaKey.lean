/- keys and things as plain structures, and what cells stand for them -/
import Derived.Test.YtiagimgdjngnfaaShp
namespace Go.Proofs.Ytiagimgdjngnfaa
open Go Go.RowKit
structure KeyT where
  at_ : Int
  place : V3
def RKeyT : Rel KeyT := fun _ x cs => ∃ r1 r2 r3 : Nat, cs = [Iv x.at_, Fl r1, Fl r2, Fl r3] ∧ cf .f32 r1 = x.place.x ∧ cf .f32 r2 = x.place.y ∧ cf .f32 r3 = x.place.z
theorem RKeyT.mono : Mono RKeyT := fun _ _ _ _ _ ⟨r1, r2, r3, h, e1, e2, e3⟩ => ⟨r1, r2, r3, h, e1, e2, e3⟩
theorem RKeyT.flat : Flat RKeyT := fun _ _ _ _ h => h
theorem RKeyT.any {w u : World} {x : KeyT} {cs : List Value} (h : RKeyT u x cs) : RKeyT w x cs := h
structure ThingT where
  name : ByteArray
  shape : ShapeT
  keys : List KeyT
def RThingT : Rel ThingT := fun w x cs => ∃ v1 v2 : Value, cs = [Value.string x.name, v1, v2] ∧ Sl RNodeT 4 w v1 x.shape.nodes ∧ Sl RKeyT 4 w v2 x.keys ∧ x.name.size ≤ 9223372036854775807
theorem RThingT.mono : Mono RThingT := fun _ _ _ _ hx ⟨v1, v2, h, s1, s2, b0⟩ => ⟨v1, v2, h, s1.ext RNodeT.mono hx, s2.ext RKeyT.mono hx, b0⟩
end Go.Proofs.Ytiagimgdjngnfaa
