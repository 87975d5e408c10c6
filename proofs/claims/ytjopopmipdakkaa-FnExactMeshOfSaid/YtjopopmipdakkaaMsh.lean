/- meshes: what is right, what is told alike, how much there is -/
import Derived.Test.YtjopopmipdakkaaOwn
import Derived.Test.YtjopopmipdakkaaUni
namespace Go.Proofs.Ytjopopmipdakkaa
open Go
def eqI (a b : Int) : Bool := icmp .eql a b
theorem eqI_self (a : Int) : eqI a a = true := by simp [eqI, icmp]
def eqIs (a b : List Int) : Bool := sameX eqI a b
theorem eqIs_self (a : List Int) : eqIs a a = true := sameX_self eqI_self a
def sameMesh (a b : MeshT) : Bool := sameX sameV a.places b.places && sameX eqIs a.tris b.tris
theorem sameMesh_self (a : MeshT) : sameMesh a a = true := by simp [sameMesh, sameX_selfV, sameX_self eqIs_self]
def liSum (l : List (List Int)) : Nat → Nat
  | 0 => 0
  | k + 1 => liSum l k + ((l[k]?).map List.length).getD 0
theorem liSum_succ {l : List (List Int)} {k : Nat} {s : List Int} (h : l[k]? = some s) : liSum l (k + 1) = liSum l k + s.length := by simp [liSum, h]
theorem liSum_mono (l : List (List Int)) : ∀ {j k : Nat}, j ≤ k → liSum l j ≤ liSum l k
  | j, 0, h => by have : j = 0 := by omega
                  subst this; exact Nat.le_refl _
  | j, k + 1, h => by
    rcases Nat.lt_or_ge j (k + 1) with h1 | h1
    · have := liSum_mono l (j := j) (k := k) (by omega); simp only [liSum]; omega
    · have : j = k + 1 := by omega
      subst this; exact Nat.le_refl _
def triOk (n : Int) (t : List Int) : Bool :=
  icmp .eql (t.length : Int) 3 && !icmp .eql ((t[0]?).getD 0) ((t[1]?).getD 0) && !icmp .eql ((t[1]?).getD 0) ((t[2]?).getD 0) && !icmp .eql ((t[2]?).getD 0) ((t[0]?).getD 0) &&
    !t.any (fun i => !inI i 0 (IntKind.i64.wrap (n - 1)))
def meshOk (m : MeshT) : Bool := !m.tris.any (fun t => !triOk m.places.length t) && icmp .leq (m.places.length : Int) 8192 && icmp .leq (m.tris.length : Int) 9000
theorem any_three (p : Int → Bool) {t : List Int} {x y z : Int} (hl : (t.length : Int) = 3) (h0 : t[0]? = some x) (h1 : t[1]? = some y) (h2 : t[2]? = some z) : t.any p = (p x || (p y || p z)) := by
  match t, hl with
  | [a, b, c], _ => cases h0; cases h1; cases h2; simp
theorem triOk_len {n : Int} {t : List Int} (h : ¬ (t.length : Int) = 3) : triOk n t = false := by simp [triOk, icmp, h]
theorem triOk_3 {n : Int} {t : List Int} {x y z : Int} (hl : (t.length : Int) = 3) (h0 : t[0]? = some x) (h1 : t[1]? = some y) (h2 : t[2]? = some z) :
    triOk n t = (!icmp .eql x y && !icmp .eql y z && !icmp .eql z x && (inI x 0 (IntKind.i64.wrap (n - 1)) && inI y 0 (IntKind.i64.wrap (n - 1)) && inI z 0 (IntKind.i64.wrap (n - 1)))) := by
  unfold triOk; rw [any_three _ hl h0 h1 h2, h0, h1, h2]; simp [icmp, hl, Bool.and_assoc]
theorem exists_el {α : Type} (d : α) (l : List α) (i : Nat) : ∃ e, i < l.length → l[i]? = some e := by
  by_cases h : i < l.length
  · exact ⟨l[i], fun _ => List.getElem?_eq_getElem h⟩
  · exact ⟨d, fun h' => absurd h' h⟩
theorem triOk_bad {n : Int} {t : List Int} {x y z : Int} (h : ((¬ (t.length : Int) = 3 ∨ x = y) ∨ y = z) ∨ z = x) (h0 : 0 < t.length → t[0]? = some x) (h1 : 1 < t.length → t[1]? = some y) (h2 : 2 < t.length → t[2]? = some z) : triOk n t = false := by
  by_cases hl : (t.length : Int) = 3
  · rw [triOk_3 hl (h0 (by omega)) (h1 (by omega)) (h2 (by omega))]
    rcases h with ((h | h) | h) | h
    · exact absurd hl h
    · simp [icmp, h]
    · simp [icmp, h]
    · simp [icmp, h]
  · exact triOk_len hl
theorem triOk_any {n : Int} {t : List Int} {x y z : Int} (h : (((t.length : Int) = 3 ∧ ¬ x = y) ∧ ¬ y = z) ∧ ¬ z = x) (h0 : 0 < t.length → t[0]? = some x) (h1 : 1 < t.length → t[1]? = some y) (h2 : 2 < t.length → t[2]? = some z) :
    triOk n t = !t.any (fun i => !inI i 0 (IntKind.i64.wrap (n - 1))) := by
  obtain ⟨⟨⟨hl, a⟩, b⟩, c⟩ := h
  unfold triOk
  rw [h0 (by omega), h1 (by omega), h2 (by omega)]
  simp [icmp, hl, a, b, c]
end Go.Proofs.Ytjopopmipdakkaa
