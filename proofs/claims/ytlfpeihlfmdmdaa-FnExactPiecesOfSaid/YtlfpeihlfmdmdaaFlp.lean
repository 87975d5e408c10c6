/- meshes that are flipped -/
import Derived.Test.YtlfpeihlfmdmdaaOwN
import Derived.Test.YtlfpeihlfmdmdaaNrm
namespace Go.Proofs.Ytlfpeihlfmdmdaa
open Go

theorem Sl_isNone {α : Type} {R : Rel α} {k n c : Nat} {w : World} {p : Option Addr} {xs : List α} (h : Sl R k w (.slice p n c) xs) (hp : p.isNone = true) : xs = [] := by
  rcases Nat.eq_zero_or_pos xs.length with h0 | h0
  · exact List.eq_nil_of_length_eq_zero h0
  · obtain ⟨b, off, rfl⟩ := h.ptr (by have := h.cap; omega)
    cases hp
theorem liSum_congr {xs ys : List (List Int)} (h : ∀ i : Nat, ((xs[i]?).map List.length).getD 0 = ((ys[i]?).map List.length).getD 0) : ∀ k, liSum xs k = liSum ys k
  | 0 => rfl
  | k + 1 => by unfold liSum; rw [liSum_congr h k, h]
theorem liSum_mk (p : Nat → Int) (xs : List (List Int)) (k : Nat) : liSum (mkLL fI 1 p xs) k = liSum xs k := by
  refine liSum_congr (fun i => ?_) k
  rcases Nat.lt_or_ge i xs.length with h | h
  · have hx : xs[i]? = some (xs[i]'h) := List.getElem?_eq_getElem h
    rw [mkLL_at hx, hx, Option.map_some, Option.map_some, Option.getD_some, Option.getD_some, mkL_len]
  · rw [List.getElem?_eq_none h, List.getElem?_eq_none (by rw [mkLL_len]; exact h)]
theorem preK_mk (c : Int) (p : Nat → Int) (xs : List (List Int)) : preK c (mkLL fI 1 p xs) = preK c xs := by
  funext i; unfold preK; rw [liSum_mk]
theorem mkLL_self {c : Int} {xs : List (List Int)} : mkLL fI 1 (preK c xs) xs = mkLL fI 1 (preK c (mkLL fI 1 (preK c xs) xs)) (mkLL fI 1 (preK c xs) xs) := by
  rw [preK_mk]
  apply List.ext_getElem?
  intro i
  rcases Nat.lt_or_ge i xs.length with h | h
  · have hx : xs[i]? = some (xs[i]'h) := List.getElem?_eq_getElem h
    rw [mkLL_at hx, mkLL_at (mkLL_at hx), mkL_len]
  · rw [List.getElem?_eq_none (by rw [mkLL_len]; exact h), List.getElem?_eq_none (by rw [mkLL_len, mkLL_len]; exact h)]
theorem mkLL_el {c : Int} {L : List (List Int)} {i : Nat} {x : List Int} (hm : L = mkLL fI 1 (preK c L) L) (h : L[i]? = some x) : x = mkL fI 1 (preK c L i) x.length := by
  have h1 := mkLL_at (f := fI) (nf := 1) (pre := preK c L) h
  rw [← hm, h] at h1
  exact Option.some.inj h1
theorem meSz_mk {k : Int} {p : Nat → Int} {m : MeshT} : meSz (MeshT.mk (mkL fV 3 k m.places.length) (mkLL fI 1 p m.tris)) = meSz m := by
  simp only [meSz, mkL_len, mkLL_len, liSum_mk]
def flipT (t : List Int) : List Int := [iAt t 0, iAt t 2, iAt t 1]
def flipM (m : MeshT) : MeshT := if meshOk m then MeshT.mk m.places (m.tris.map flipT) else MeshT.mk [] []
theorem flipM_f {m : MeshT} (h : meshOk m = false) : flipM m = MeshT.mk [] [] := by unfold flipM; rw [h]; rfl
theorem flipM_t {m : MeshT} (h : meshOk m = true) : flipM m = MeshT.mk m.places (m.tris.map flipT) := by unfold flipM; rw [h]; rfl
theorem map_take {α β : Type} {f : α → β} {l : List α} {k : Nat} {x : α} (h : l[k]? = some x) : (l.take k).map f ++ [f x] = (l.take (k + 1)).map f := by
  rw [List.take_add_one, h, Option.toList_some, List.map_append]; rfl
theorem liSum_map {f : List Int → List Int} {xs : List (List Int)} {n : Nat} (h : ∀ x ∈ xs, (f x).length = n) : ∀ k, k ≤ xs.length → liSum (xs.map f) k = k * n
  | 0, _ => by simp [liSum]
  | k + 1, hk => by
    have hx : xs[k]? = some (xs[k]'hk) := List.getElem?_eq_getElem hk
    rw [liSum_succ (s := f (xs[k]'hk)) (by rw [List.getElem?_map, hx]; rfl), liSum_map h k (by omega), h _ (List.getElem_mem hk), Nat.add_mul, Nat.one_mul]
theorem flipM_le (m : MeshT) : (flipM m).places.length ≤ 8192 ∧ meSz (flipM m) ≤ 100000 := by
  unfold flipM
  split
  · rename_i h
    have := mesh_len h
    refine ⟨this.1, ?_⟩
    simp only [meSz, List.length_map]
    rw [liSum_map (n := 3) (fun x _ => rfl) _ (Nat.le_refl _)]; omega
  · exact ⟨Nat.zero_le _, by decide⟩
end Go.Proofs.Ytlfpeihlfmdmdaa
