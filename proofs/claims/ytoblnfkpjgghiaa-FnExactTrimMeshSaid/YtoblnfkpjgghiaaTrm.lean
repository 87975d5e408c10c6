/- meshes of their used places alone: renamed by a row, and by a map -/
import Derived.Test.YtoblnfkpjgghiaaFlp
import Derived.Test.YtoblnfkpjgghiaaUsd
import Derived.Test.YtoblnfkpjgghiaaMap
namespace Go.Proofs.Ytoblnfkpjgghiaa
open Go

/-- an empty slice of slices, of a known row, through writes elsewhere -/
theorem OwnN.klA {α : Type} {R : Rel α} {k C g0 : Nat} {e : TypeId} {w u : World} {v : Value} {M : List Nat} (h : ∀ B, OwnN R k e C g0 B w v []) (z : KpL M w u) (hM : ∀ c ∈ M, c ≠ g0) : ∀ B, OwnN R k e C g0 B u v [] := fun B => by
  obtain ⟨N, hN⟩ := lt_some M
  obtain ⟨vs, Ls, ho, hl, _⟩ := h (max B N)
  have hv : vs = [] := List.eq_nil_of_length_eq_zero hl
  subst hv
  obtain ⟨rows, hr, hg, hx⟩ := ho.kl RVl.flat z fun c hc => ⟨hM c hc, .inl (by have := hN c hc; omega)⟩
  exact OwnN.of_nil ⟨rows, hr, fun g hgg => (hg g hgg).imp id fun h => by omega, hx⟩
theorem Own.klA' {α : Type} {R : Rel α} {k g0 : Nat} {e : TypeId} {w u : World} {v : Value} {xs : List α} {M : List Nat} (h : ∀ B, Own R k e g0 B w v xs) (hR : Flat R) (z : KpL M w u) (hM : ∀ c ∈ M, c ≠ g0) : ∀ B, Own R k e g0 B u v xs := fun B => by
  obtain ⟨N, hN⟩ := lt_some M
  obtain ⟨rows, hr, hg, hx⟩ := (h (max B N)).kl hR z fun c hc => ⟨hM c hc, .inl (by have := hN c hc; omega)⟩
  exact ⟨rows, hr, fun g hgg => (hg g hgg).imp id fun h => by omega, hx⟩
def frTo (us : List Int) (n : Nat) : Nat → List Int
  | 0 => List.replicate n 0
  | k + 1 => (frTo us n k).set (iAt us k).toNat (k : Int)
theorem frTo_len (us : List Int) (n : Nat) : ∀ k, (frTo us n k).length = n
  | 0 => by simp [frTo]
  | k + 1 => by unfold frTo; rw [List.length_set]; exact frTo_len us n k
theorem frTo_succ {us : List Int} {n k : Nat} {j : Int} (h : us[k]? = some j) : (frTo us n k).set j.toNat (k : Int) = frTo us n (k + 1) := by
  unfold frTo; rw [show iAt us k = j by simp [iAt, h]]; cases k <;> rfl
def idxTo (us : List Int) : Nat → List (Int × Int)
  | 0 => []
  | k + 1 => putM (idxTo us k) (iAt us k) (k : Int)
theorem idxTo_succ {us : List Int} {k : Nat} {j : Int} (h : us[k]? = some j) : putM (idxTo us k) j (k : Int) = idxTo us (k + 1) := by
  show _ = putM (idxTo us k) (iAt us k) (k : Int); rw [show iAt us k = j by simp [iAt, h]]
theorem idx_at {us : List Int} {n : Nat} (hu : ∀ j ∈ us, 0 ≤ j ∧ j < n) {x : Int} (hx : 0 ≤ x ∧ x < n) : ∀ k, k ≤ us.length → (atM (idxTo us k) x).getD 0 = iAt (frTo us n k) x.toNat
  | 0, _ => by
    have h : x.toNat < n := by omega
    simp [idxTo, atM, frTo, iAt, h]
  | k + 1, hk => by
    have hj : us[k]? = some (us[k]'hk) := List.getElem?_eq_getElem hk
    have hb := hu _ (List.getElem_mem hk)
    have ih := idx_at hu hx k (by omega)
    rw [← idxTo_succ hj, ← frTo_succ hj, atM_put]
    simp only [iAt] at ih ⊢
    rw [List.getElem?_set, frTo_len]
    by_cases h : us[k]'hk = x
    · rw [if_pos h, if_pos (by omega), if_pos (by omega)]
    · rw [if_neg h, if_neg (by omega)]; exact ih
def reT (L t : List Int) : List Int := [iAt L (iAt t 0).toNat, iAt L (iAt t 1).toNat, iAt L (iAt t 2).toNat]
def reM (l : List (Int × Int)) (t : List Int) : List Int := [(atM l (iAt t 0)).getD 0, (atM l (iAt t 1)).getD 0, (atM l (iAt t 2)).getD 0]
def plA (m : MeshT) (i : Int) : V3 := vAt m.places i.toNat
theorem plA_at {m : MeshT} {i : Int} {v : V3} (h : m.places[i.toNat]? = some v) : plA m i = v := by simp [plA, vAt, h]
def frM (m : MeshT) : List Int := frTo (usedL m) m.places.length (usedL m).length
def trimM (m : MeshT) : MeshT := if meshOk m then MeshT.mk ((usedL m).map (plA m)) (m.tris.map (reT (frM m))) else MeshT.mk [] []
theorem trimM_f {m : MeshT} (h : meshOk m = false) : trimM m = MeshT.mk [] [] := by unfold trimM; rw [h]; rfl
theorem trimM_t {m : MeshT} (h : meshOk m = true) : trimM m = MeshT.mk ((usedL m).map (plA m)) (m.tris.map (reT (frM m))) := by unfold trimM; rw [h]; rfl
theorem usedL_in (m : MeshT) : ∀ j ∈ usedL m, 0 ≤ j ∧ j < m.places.length := by
  intro j hj
  obtain ⟨k, hk, rfl, _⟩ := ((usedTo_spec (nextL m) m.places.length).2 j).1 hj
  omega
theorem reM_alike {m : MeshT} (hm : meshOk m = true) : m.tris.map (reM (idxTo (usedL m) (usedL m).length)) = m.tris.map (reT (frM m)) := by
  refine List.map_congr_left fun t ht => ?_
  obtain ⟨h3, hb⟩ := mesh_tri hm (List.getElem?_of_mem ht).choose_spec
  have hq : ∀ q : Nat, q < 3 → (atM (idxTo (usedL m) (usedL m).length) (iAt t q)).getD 0 = iAt (frM m) (iAt t q).toNat := fun q hq => by
    have hx : t[q]? = some (t[q]'(by omega)) := List.getElem?_eq_getElem (by omega)
    have := hb _ (List.mem_of_getElem? hx)
    have e : iAt t q = t[q]'(by omega) := by simp [iAt, hx]
    rw [e]
    exact idx_at (usedL_in m) (by omega) _ (Nat.le_refl _)
  simp only [reM, reT, hq 0 (by omega), hq 1 (by omega), hq 2 (by omega)]
theorem trim_alike {m : MeshT} (hm : meshOk m = true) : trimM m = MeshT.mk ((usedL m).map (plA m)) (m.tris.map (reM (idxTo (usedL m) (usedL m).length))) := by rw [trimM_t hm, reM_alike hm]
theorem trimM_le (m : MeshT) : (trimM m).places.length ≤ 8192 ∧ meSz (trimM m) ≤ 100000 := by
  unfold trimM
  split
  · have h := ‹meshOk m = true›
    have hl := mesh_len h
    have hu := usedTo_len (nextL m) m.places.length
    have hs := liSum_map (f := reT (frM m)) (xs := m.tris) (n := 3) (fun _ _ => rfl) m.tris.length (Nat.le_refl _)
    simp only [meSz, List.length_map, usedL, hs]
    omega
  · simp [meSz, liSum]
end Go.Proofs.Ytoblnfkpjgghiaa
