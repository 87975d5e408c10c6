/- balls that are parted -/
import Derived.Test.YtcmcooabaglbpaaRwa
namespace Go.Proofs.Ytcmcooabaglbpaa
open Go

theorem fold_take {α β : Type} {f : β → α → β} {l : List α} {b : β} {m : Nat} {x : α} (h : l[m]? = some x) : (l.take (m + 1)).foldl f b = f ((l.take m).foldl f b) x := by
  rw [List.take_add_one, h, Option.toList_some, List.foldl_append]; rfl
theorem fold_snoc {α β : Type} {f : β → α → β} {l : List α} {b : β} {x : α} : (l ++ [x]).foldl f b = f (l.foldl f b) x := by rw [List.foldl_append]; rfl
def vAt (c : List V3) (i : Nat) : V3 := (c[i]?).getD zV
def halfF (x : Nat) : Nat := fop .mul .f32 x (cf .f32 1056964608)
def wayB (v : V3) : V3 := if zeroV v then ⟨cf .f32 1065353216, cf .f32 0, cf .f32 0⟩ else v
def byB (r : List Nat) (c : List V3) (i j : Nat) : V3 := vscale (wayB (unitF (vsub (vAt c j) (vAt c i)))) (halfF (ovF c r i j))
def partB (r : List Nat) (c : List V3) (p : Int × Int) : List V3 :=
  if fcmp .gtr (ford .f32 (ovF c r p.1.toNat p.2.toNat) (cf .f32 0)) then (c.set p.1.toNat (vsub (vAt c p.1.toNat) (byB r c p.1.toNat p.2.toNat))).set p.2.toNat (vadd (vAt c p.2.toNat) (byB r c p.1.toNat p.2.toNat)) else c
theorem partB_len (r : List Nat) (c : List V3) (p : Int × Int) : (partB r c p).length = c.length := by unfold partB; split <;> simp
theorem foldP_len (r : List Nat) : ∀ (ps : List (Int × Int)) (c : List V3), (ps.foldl (partB r) c).length = c.length
  | [], c => rfl
  | p :: ps, c => by rw [List.foldl_cons, foldP_len r ps, partB_len]
theorem partB_f {r : List Nat} {c : List V3} {p : Int × Int} (h : fcmp .gtr (ford .f32 (ovF c r p.1.toNat p.2.toNat) (cf .f32 0)) = false) : partB r c p = c := by unfold partB; rw [h, if_neg Bool.false_ne_true]
theorem partB_t {r : List Nat} {c : List V3} {p : Int × Int} {ei ej v : V3} (h : fcmp .gtr (ford .f32 (ovF c r p.1.toNat p.2.toNat) (cf .f32 0)) = true) (hi : c[p.1.toNat]? = some ei) (hj : c[p.2.toNat]? = some ej)
    (hv : v = vscale (wayB (unitF (vsub ej ei))) (halfF (ovF c r p.1.toNat p.2.toNat))) : (c.set p.1.toNat (vsub ei v)).set p.2.toNat (vadd ej v) = partB r c p := by
  unfold partB byB vAt
  rw [h, if_pos rfl, hi, hj, Option.getD_some, Option.getD_some, ← hv]
theorem partB_s {r : List Nat} {c : List V3} {p : Int × Int} {ei ej e v : V3} (hne : p.1.toNat ≠ p.2.toNat) (h : fcmp .gtr (ford .f32 (ovF c r p.1.toNat p.2.toNat) (cf .f32 0)) = true) (hi : c[p.1.toNat]? = some ei) (hj : c[p.2.toNat]? = some ej)
    (hv : v = vscale (wayB (unitF (vsub ej ei))) (halfF (ovF c r p.1.toNat p.2.toNat))) (he : (c.set p.1.toNat (vsub ei v))[p.2.toNat]? = some e) : (c.set p.1.toNat (vsub ei v)).set p.2.toNat (vadd e v) = partB r c p := by
  rw [List.getElem?_set, if_neg hne, hj] at he
  cases he
  exact partB_t h hi hj hv
theorem wayB_z {v : V3} (h : zeroV v = true) : wayB v = ⟨cf .f32 1065353216, cf .f32 0, cf .f32 0⟩ := by unfold wayB; rw [h, if_pos rfl]
theorem wayB_n {v : V3} (h : zeroV v = false) : wayB v = v := by unfold wayB; rw [h, if_neg Bool.false_ne_true]
def prN (r : List Nat) (c : List V3) : Nat → List V3
  | 0 => c
  | k + 1 => (pairsTo c.length c.length).foldl (partB r) (prN r c k)
theorem prN_len (r : List Nat) (c : List V3) : ∀ k, (prN r c k).length = c.length
  | 0 => rfl
  | k + 1 => by unfold prN; rw [foldP_len, prN_len r c k]
def ptOk (c : List V3) (r : List Nat) (n : Int) : Bool := okBalls c r && inI n 0 64
theorem ptOk_f {c : List V3} {r : List Nat} {n : Int} (h : okBalls c r = false ∨ inI n 0 64 = false) : ptOk c r n = false := by rcases h with h | h <;> simp [ptOk, h]
theorem ptOk_t {c : List V3} {r : List Nat} {n : Int} (h : okBalls c r = true ∧ inI n 0 64 = true) : ptOk c r n = true := by simp [ptOk, h.1, h.2]
def ptL (c : List V3) (r : List Nat) (n : Int) : List V3 := if ptOk c r n then prN r c n.toNat else []
theorem ptL_f {c : List V3} {r : List Nat} {n : Int} (h : ptOk c r n = false) : ptL c r n = [] := by unfold ptL; rw [h]; rfl
theorem ptL_t {c : List V3} {r : List Nat} {n : Int} {k : Nat} (h : ptOk c r n = true) (h1 : (k : Int) ≤ n) (h2 : ¬ (k : Int) < n) : ptL c r n = prN r c k := by
  have : n.toNat = k := by omega
  unfold ptL; rw [h, this]; rfl
theorem ptL_len (c : List V3) (r : List Nat) (n : Int) : (ptL c r n).length ≤ 16 := by
  unfold ptL
  split
  · rename_i h
    simp only [ptOk, Bool.and_eq_true] at h
    have := okBalls_len h.1
    rw [prN_len]; omega
  · exact Nat.zero_le _
theorem prN_all {r : List Nat} {c : List V3} {k m : Nat} (hm : (pairsTo c.length c.length).length ≤ m) : ((pairsTo c.length c.length).take m).foldl (partB r) (prN r c k) = prN r c (k + 1) := by
  rw [List.take_of_length_le hm]; rfl
end Go.Proofs.Ytcmcooabaglbpaa
