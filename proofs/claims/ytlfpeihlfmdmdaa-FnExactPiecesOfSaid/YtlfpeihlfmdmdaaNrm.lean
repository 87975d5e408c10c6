/- normals of meshes -/
import Derived.Test.YtlfpeihlfmdmdaaNst
import Derived.Test.YtlfpeihlfmdmdaaRgk
namespace Go.Proofs.Ytlfpeihlfmdmdaa
open Go

theorem liSum_each {xs : List (List Int)} {x : List Int} (h : x ∈ xs) : x.length ≤ liSum xs xs.length := by
  obtain ⟨k, hk⟩ := List.getElem?_of_mem h
  have h1 := liSum_succ hk
  have h2 := liSum_mono xs (j := k + 1) (k := xs.length) (by have := (List.getElem?_eq_some_iff.1 hk).1; omega)
  omega
theorem WL.shape' {k B : Nat} {w : World} {L : List Nat} {v : Value} {n : Nat} (h : WL k B w L v n) : ∃ p c, v = .slice p n c := by
  obtain ⟨_, ⟨rfl, rfl, _⟩ | ⟨g, cap, cs, _, rfl, _⟩⟩ := h
  · exact ⟨none, 0, rfl⟩
  · exact ⟨_, _, rfl⟩
def meSz (m : MeshT) : Int := (m.places.length : Int) * 3 + (liSum m.tris m.tris.length : Nat)
theorem meSz_le (m : MeshT) : 0 ≤ meSz m ∧ meSz m ≤ 3 * (meTot m : Nat) := by unfold meSz meTot liTot; omega
theorem fold_take {α β : Type} {f : β → α → β} {l : List α} {b : β} {m : Nat} {x : α} (h : l[m]? = some x) : (l.take (m + 1)).foldl f b = f ((l.take m).foldl f b) x := by
  rw [List.take_add_one, h, Option.toList_some, List.foldl_append]; rfl
def vAt (c : List V3) (i : Nat) : V3 := (c[i]?).getD zV
def iAt (t : List Int) (j : Nat) : Int := (t[j]?).getD 0
def nrmN (pl : List V3) (t : List Int) : V3 := crossF (vsub (vAt pl (iAt t 1).toNat) (vAt pl (iAt t 0).toNat)) (vsub (vAt pl (iAt t 2).toNat) (vAt pl (iAt t 0).toNat))
def addI (n : V3) (c : List V3) (i : Int) : List V3 := c.set i.toNat (vadd (vAt c i.toNat) n)
theorem addI_len (n : V3) (c : List V3) (i : Int) : (addI n c i).length = c.length := by simp [addI]
theorem foldA_len (n : V3) : ∀ (t : List Int) (c : List V3), (t.foldl (addI n) c).length = c.length
  | [], c => rfl
  | i :: t, c => by rw [List.foldl_cons, foldA_len n t, addI_len]
theorem addI_at {n v e : V3} {c : List V3} {i : Int} (he : c[i.toNat]? = some e) (hv : v = n) : c.set i.toNat (vadd e v) = addI n c i := by subst hv; simp [addI, vAt, he]
def nrmTo (m : MeshT) : Nat → List V3
  | 0 => List.replicate m.places.length zV
  | k + 1 => match m.tris[k]? with | some t => t.foldl (addI (nrmN m.places t)) (nrmTo m k) | none => nrmTo m k
theorem nrmTo_len (m : MeshT) : ∀ k, (nrmTo m k).length = m.places.length
  | 0 => by simp [nrmTo]
  | k + 1 => by unfold nrmTo; split <;> simp [foldA_len, nrmTo_len m k]
theorem nrmTo_succ {m : MeshT} {k j : Nat} {t : List Int} (h : m.tris[k]? = some t) (hj : t.length ≤ j) : (t.take j).foldl (addI (nrmN m.places t)) (nrmTo m k) = nrmTo m (k + 1) := by
  rw [List.take_of_length_le hj]; simp [nrmTo, h]
def unTo (c : List V3) : Nat → List V3
  | 0 => c
  | j + 1 => (unTo c j).set j (unitF (vAt (unTo c j) j))
theorem unTo_len (c : List V3) : ∀ j, (unTo c j).length = c.length
  | 0 => rfl
  | j + 1 => by unfold unTo; rw [List.length_set, unTo_len c j]
theorem unTo_succ {c : List V3} {j : Nat} {e : V3} (h : (unTo c j)[j]? = some e) : (unTo c j).set j (unitF e) = unTo c (j + 1) := by simp [unTo, vAt, h]
theorem mesh_tri {m : MeshT} {k : Nat} {t : List Int} (h : meshOk m = true) (ht : m.tris[k]? = some t) : t.length = 3 ∧ ∀ i ∈ t, 0 ≤ i ∧ i < m.places.length := by
  simp only [meshOk, Bool.and_eq_true, Bool.not_eq_true', List.any_eq_false, icmp, decide_eq_true_eq] at h
  have h1 := h.1.1 t (List.mem_of_getElem? ht)
  have h1 : triOk m.places.length t = true := by simpa using h1
  have h2 : t.length = 3 := by
    rcases Decidable.em ((t.length : Int) = 3) with h3 | h3
    · omega
    · rw [triOk_len h3] at h1; cases h1
  refine ⟨h2, fun i hi => ?_⟩
  obtain ⟨x, hx⟩ : ∃ x, t[0]? = some x := ⟨_, List.getElem?_eq_getElem (by omega)⟩
  obtain ⟨y, hy⟩ : ∃ x, t[1]? = some x := ⟨_, List.getElem?_eq_getElem (by omega)⟩
  obtain ⟨z, hz⟩ : ∃ x, t[2]? = some x := ⟨_, List.getElem?_eq_getElem (by omega)⟩
  have hw : IntKind.i64.wrap ((m.places.length : Int) - 1) = (m.places.length : Int) - 1 := in_i64 (by omega) (by omega)
  rw [triOk_3 (by omega) hx hy hz, hw] at h1
  simp only [Bool.and_eq_true] at h1
  have a1 := inI_iff.1 h1.2.1.1; have a2 := inI_iff.1 h1.2.1.2; have a3 := inI_iff.1 h1.2.2
  obtain ⟨j, hj⟩ := List.getElem?_of_mem hi
  have hjl := (List.getElem?_eq_some_iff.1 hj).1
  match j, hj with
  | 0, hj => rw [hx] at hj; cases hj; omega
  | 1, hj => rw [hy] at hj; cases hj; omega
  | 2, hj => rw [hz] at hj; cases hj; omega
  | j + 3, hj => omega
theorem mesh_len {m : MeshT} (h : meshOk m = true) : m.places.length ≤ 8192 ∧ m.tris.length ≤ 9000 := by
  simp only [meshOk, Bool.and_eq_true, icmp, decide_eq_true_eq] at h; omega
def nrmL (m : MeshT) : List V3 := if meshOk m then unTo (nrmTo m m.tris.length) m.places.length else []
theorem nrmL_f {m : MeshT} (h : meshOk m = false) : nrmL m = [] := by unfold nrmL; rw [h]; rfl
theorem nrmL_t {m : MeshT} {k j : Nat} (h : meshOk m = true) (hk : k ≤ m.tris.length) (hk2 : ¬ (k : Int) < m.tris.length) (hj : j ≤ m.places.length) (hj2 : ¬ (j : Int) < m.places.length) : nrmL m = unTo (nrmTo m k) j := by
  obtain rfl : k = m.tris.length := by omega
  obtain rfl : j = m.places.length := by omega
  unfold nrmL; rw [h]; rfl
theorem nrmL_len (m : MeshT) : (nrmL m).length ≤ 8192 := by
  unfold nrmL
  split
  · rename_i h
    have := mesh_len h
    rw [unTo_len, nrmTo_len]; omega
  · exact Nat.zero_le _
end Go.Proofs.Ytlfpeihlfmdmdaa
