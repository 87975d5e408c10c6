/- tiles of a picture -/
import Derived.Test.YtbbidfadenmmjaaMrk
import Derived.Test.YtbbidfadenmmjaaStr
namespace Go.Proofs.Ytbbidfadenmmjaa
open Go

def rowT (c : CamT) (s y : Int) : Nat → Int → List TileT
  | 0, _ => []
  | f + 1, x => if x < c.width then ⟨x, y, min s (c.width - x), min s (c.height - y)⟩ :: rowT c s y f (x + s) else []
def rowsT (c : CamT) (s : Int) : Nat → Int → List TileT
  | 0, _ => []
  | f + 1, y => if y < c.height then rowT c s y 12 0 ++ rowsT c s f (y + s) else []
def tilesC (c : CamT) (s : Int) : List TileT := rowsT c s 12 0
def tilesOk (c : CamT) (s : Int) : Bool := isCam c && inI s 1 12
theorem tilesOk_iff {c : CamT} {s : Int} : tilesOk c s = true ↔ isCam c = true ∧ inI s 1 12 = true := by simp [tilesOk]
theorem tilesOk_f {c : CamT} {s : Int} (h : isCam c = false ∨ inI s 1 12 = false) : tilesOk c s = false := by rcases h with h | h <;> simp [tilesOk, h]
theorem tilesOk_t {c : CamT} {s : Int} (h : isCam c = true ∧ inI s 1 12 = true) : tilesOk c s = true := tilesOk_iff.2 h
theorem rowT_len (c : CamT) (s y : Int) : ∀ f x, (rowT c s y f x).length ≤ f
  | 0, _ => Nat.le_refl _
  | f + 1, x => by
    unfold rowT; split
    · have := rowT_len c s y f (x + s); simp only [List.length_cons]; omega
    · simp
theorem rowsT_len (c : CamT) (s : Int) : ∀ f y, (rowsT c s f y).length ≤ f * 12
  | 0, _ => Nat.le_refl _
  | f + 1, y => by
    unfold rowsT; split
    · have := rowsT_len c s f (y + s); have := rowT_len c s y 12 0; simp only [List.length_append]; omega
    · simp
theorem tilesC_len (c : CamT) (s : Int) : (tilesC c s).length ≤ 144 := rowsT_len c s 12 0
theorem gtiles_len (c : CamT) (s : Int) : (gvA [] (tilesOk c s) (tilesC c s)).length ≤ 144 := by
  cases tilesOk c s
  · simp [gvA]
  · exact tilesC_len c s
theorem rowT_step {c : CamT} {s y : Int} {f : Nat} {x : Int} (h : x < c.width) (hf : c.width - x ≤ f) : rowT c s y f x = ⟨x, y, min s (c.width - x), min s (c.height - y)⟩ :: rowT c s y (f - 1) (x + s) := by
  cases f with
  | zero => omega
  | succ f => conv => lhs; unfold rowT
              rw [if_pos h]; rfl
theorem rowsT_step {c : CamT} {s : Int} {f : Nat} {y : Int} (h : y < c.height) (hf : c.height - y ≤ f) : rowsT c s f y = rowT c s y 12 0 ++ rowsT c s (f - 1) (y + s) := by
  cases f with
  | zero => omega
  | succ f => conv => lhs; unfold rowsT
              rw [if_pos h]; rfl
theorem rowT_end {c : CamT} {s y : Int} {f : Nat} {x : Int} (h : ¬ x < c.width) : rowT c s y f x = [] := by
  cases f with
  | zero => rfl
  | succ f => unfold rowT; rw [if_neg h]
theorem rowsT_end {c : CamT} {s : Int} {f : Nat} {y : Int} (h : ¬ y < c.height) : rowsT c s f y = [] := by
  cases f with
  | zero => rfl
  | succ f => unfold rowsT; rw [if_neg h]
def eqTil (a b : TileT) : Bool := icmp .eql a.x b.x && icmp .eql a.y b.y && icmp .eql a.width b.width && icmp .eql a.height b.height
theorem eqTil_self (a : TileT) : eqTil a a = true := by simp [eqTil, icmp]
theorem sameX_selfTil (l : List TileT) : sameX eqTil l l = true := sameX_self eqTil_self l
end Go.Proofs.Ytbbidfadenmmjaa
