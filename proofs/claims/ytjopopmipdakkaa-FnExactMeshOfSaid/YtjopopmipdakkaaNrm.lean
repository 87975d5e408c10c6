/- normals of meshes -/
import Derived.Test.YtjopopmipdakkaaNst
import Derived.Test.YtjopopmipdakkaaRgk
namespace Go.Proofs.Ytjopopmipdakkaa
open Go
theorem liSum_each {xs : List (List Int)} {x : List Int} (h : x ∈ xs) : x.length ≤ liSum xs xs.length := by
  obtain ⟨k, hk⟩ := List.getElem?_of_mem h
  have h1 := liSum_succ hk
  have h2 := liSum_mono xs (j := k + 1) (k := xs.length) (by have := (List.getElem?_eq_some_iff.1 hk).1; omega)
  omega
theorem WL.shape' {k B : Nat} {w : World} {L : List Nat} {v : Value} {n : Nat} (h : WL k B w L v n) : ∃ p c, v = .slice p n c := by
  obtain ⟨_, ⟨rfl, rfl, _⟩ | ⟨g, cap, cs, _, rfl, _⟩⟩ := h
  · exact ⟨none, 0, rfl⟩
  · exact ⟨_, _, rfl⟩
def meSz (m : MeshT) : Int := (m.places.length : Int) * 3 + (liSum m.tris m.tris.length : Nat)
def iAt (t : List Int) (j : Nat) : Int := (t[j]?).getD 0
end Go.Proofs.Ytjopopmipdakkaa
