/- meshes that are flipped -/
import Derived.Test.YtjopopmipdakkaaOwN
import Derived.Test.YtjopopmipdakkaaNrm
namespace Go.Proofs.Ytjopopmipdakkaa
open Go
theorem liSum_congr {xs ys : List (List Int)} (h : ∀ i : Nat, ((xs[i]?).map List.length).getD 0 = ((ys[i]?).map List.length).getD 0) : ∀ k, liSum xs k = liSum ys k
  | 0 => rfl
  | k + 1 => by unfold liSum; rw [liSum_congr h k, h]
theorem liSum_mk (p : Nat → Int) (xs : List (List Int)) (k : Nat) : liSum (mkLL fI 1 p xs) k = liSum xs k := by
  refine liSum_congr (fun i => ?_) k
  rcases Nat.lt_or_ge i xs.length with h | h
  · have hx : xs[i]? = some (xs[i]'h) := List.getElem?_eq_getElem h
    rw [mkLL_at hx, hx, Option.map_some, Option.map_some, Option.getD_some, Option.getD_some, mkL_len]
  · rw [List.getElem?_eq_none h, List.getElem?_eq_none (by rw [mkLL_len]; exact h)]
theorem preK_mk (c : Int) (p : Nat → Int) (xs : List (List Int)) : preK c (mkLL fI 1 p xs) = preK c xs := by
  funext i; unfold preK; rw [liSum_mk]
theorem mkLL_self {c : Int} {xs : List (List Int)} : mkLL fI 1 (preK c xs) xs = mkLL fI 1 (preK c (mkLL fI 1 (preK c xs) xs)) (mkLL fI 1 (preK c xs) xs) := by
  rw [preK_mk]
  apply List.ext_getElem?
  intro i
  rcases Nat.lt_or_ge i xs.length with h | h
  · have hx : xs[i]? = some (xs[i]'h) := List.getElem?_eq_getElem h
    rw [mkLL_at hx, mkLL_at (mkLL_at hx), mkL_len]
  · rw [List.getElem?_eq_none (by rw [mkLL_len]; exact h), List.getElem?_eq_none (by rw [mkLL_len, mkLL_len]; exact h)]
theorem mkLL_el {c : Int} {L : List (List Int)} {i : Nat} {x : List Int} (hm : L = mkLL fI 1 (preK c L) L) (h : L[i]? = some x) : x = mkL fI 1 (preK c L i) x.length := by
  have h1 := mkLL_at (f := fI) (nf := 1) (pre := preK c L) h
  rw [← hm, h] at h1
  exact Option.some.inj h1
theorem meSz_mk {k : Int} {p : Nat → Int} {m : MeshT} : meSz (MeshT.mk (mkL fV 3 k m.places.length) (mkLL fI 1 p m.tris)) = meSz m := by
  simp only [meSz, mkL_len, mkLL_len, liSum_mk]
end Go.Proofs.Ytjopopmipdakkaa
