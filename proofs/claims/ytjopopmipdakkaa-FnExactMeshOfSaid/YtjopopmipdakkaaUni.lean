/- unit vectors: none of their numbers is a not-a-number -/
import Derived.Test.YtjopopmipdakkaaMath
import Derived.Test.YtjopopmipdakkaaSq
namespace Go.Proofs.Ytjopopmipdakkaa
open Go Ieee
theorem ord_self {d : Datum} (h : d.isNaN = false) : d.order d = some .eq := by
  cases d with
  | nan s t => simp [Datum.isNaN] at h
  | infinity s => cases s <;> rfl
  | number s m e => simp [Datum.order]
def AllTo {α : Type} (p : α → Bool) (xs : List α) (k : Nat) : Prop := ∀ (j : Nat), j < k → ∀ x, xs[j]? = some x → p x = true
theorem AllTo.zero {α : Type} {p : α → Bool} {xs : List α} : AllTo p xs 0 := fun j hj => by omega
theorem AllTo.step {α : Type} {p : α → Bool} {xs : List α} {k : Nat} (h : AllTo p xs k) {x : α} (hx : xs[k]? = some x) (hp : p x = true) : AllTo p xs (k + 1) := fun j hj y hy => by
  rcases Nat.lt_or_ge j k with h1 | h1
  · exact h j h1 y hy
  · have : j = k := by omega
    subst this; rw [hx] at hy; cases hy; exact hp
def sameX {α : Type} (f : α → α → Bool) : List α → List α → Bool
  | [], [] => true
  | x :: xs, y :: ys => f x y && sameX f xs ys
  | _, _ => false
theorem sameX_self {α : Type} {f : α → α → Bool} (hf : ∀ x, f x x = true) : ∀ l : List α, sameX f l l = true
  | [] => rfl
  | x :: l => by simp [sameX, hf, sameX_self hf l]
theorem sameX_iff {α : Type} {f : α → α → Bool} : ∀ (a b : List α), a.length = b.length → (sameX f a b = true ↔ ∀ (i : Nat) (x y : α), a[i]? = some x → b[i]? = some y → f x y = true)
  | [], [], _ => by simp [sameX]
  | x :: a, y :: b, h => by
    simp only [sameX, Bool.and_eq_true, sameX_iff a b (by simpa using h)]
    constructor
    · intro ⟨h1, h2⟩ i p q hp hq
      cases i with
      | zero => cases hp; cases hq; exact h1
      | succ i => exact h2 i p q hp hq
    · intro h
      exact ⟨h 0 x y rfl rfl, fun i p q hp hq => h (i + 1) p q hp hq⟩
theorem sameX_len {α : Type} {f : α → α → Bool} : ∀ {a b : List α}, a.length ≠ b.length → sameX f a b = false
  | [], [], h => absurd rfl h
  | [], _ :: _, _ => rfl
  | _ :: _, [], _ => rfl
  | x :: a, y :: b, h => by simp [sameX, sameX_len (f := f) (a := a) (b := b) (by simpa using h)]
def SameXTo {α : Type} (f : α → α → Bool) (a b : List α) (k : Nat) : Prop := ∀ (i : Nat), i < k → ∀ (x y : α), a[i]? = some x → b[i]? = some y → f x y = true
theorem SameXTo.zero {α : Type} {f : α → α → Bool} {a b : List α} : SameXTo f a b 0 := fun i hi => by omega
theorem SameXTo.step {α : Type} {f : α → α → Bool} {a b : List α} {k : Nat} (h : SameXTo f a b k) {x y : α} (hx : a[k]? = some x) (hy : b[k]? = some y) (hs : f x y = true) : SameXTo f a b (k + 1) := fun i hi p q hp hq => by
  rcases Nat.lt_or_ge i k with h1 | h1
  · exact h i h1 p q hp hq
  · have : i = k := by omega
    subst this; rw [hx] at hp; rw [hy] at hq; cases hp; cases hq; exact hs
theorem sameX_all {α : Type} {f : α → α → Bool} {a b : List α} {k : Nat} (hl : a.length = b.length) (hk : a.length ≤ k) (h : SameXTo f a b k) : sameX f a b = true :=
  (sameX_iff a b hl).2 fun i x y hx hy => h i (by have := (List.getElem?_eq_some_iff.1 hx).1; omega) x y hx hy
theorem sameX_not {α : Type} {f : α → α → Bool} {a b : List α} {k : Nat} (hl : a.length = b.length) {x y : α} (hx : a[k]? = some x) (hy : b[k]? = some y) (h : f x y = false) : sameX f a b = false := by
  cases hs : sameX f a b with
  | false => rfl
  | true => have := (sameX_iff a b hl).1 hs k x y hx hy; rw [this] at h; cases h
theorem sameX_selfV (l : List V3) : sameX sameV l l = true := sameX_self sameV_self l
def nbPart (g : GridT) (i : Int) : Nat → List Int
  | 0 => if 0 < i / g.x / g.y then [i - g.x * g.y] else []
  | 1 => if 0 < i / g.x % g.y then [i - g.x] else []
  | 2 => if 0 < i % g.x then [i - 1] else []
  | 3 => if i % g.x < g.x - 1 then [i + 1] else []
  | 4 => if i / g.x % g.y < g.y - 1 then [i + g.x] else []
  | _ => if i / g.x / g.y < g.z - 1 then [i + g.x * g.y] else []
def nbK (g : GridT) (i : Int) : Nat → List Int
  | 0 => []
  | k + 1 => nbK g i k ++ nbPart g i k
def nb (g : GridT) (i : Int) : List Int := nbK g i 6
end Go.Proofs.Ytjopopmipdakkaa
