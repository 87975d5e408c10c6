/- what the functions compute, over numbers up to the payload of a not-a-number -/
import Derived.Test.YtjopopmipdakkaaTyp
namespace Go.Proofs.Ytjopopmipdakkaa
open Go
def finF (x : Nat) : Bool := fcmp .eql (ford .f32 (fop .sub .f32 x x) (cf .f32 0))
def sameF (x y : Nat) : Bool :=
  if fcmp .neq (ford .f64 x x) || fcmp .neq (ford .f64 y y) then fcmp .neq (ford .f64 x x) && fcmp .neq (ford .f64 y y)
  else if fcmp .eql (ford .f64 x (cf .f64 0)) && fcmp .eql (ford .f64 y (cf .f64 0)) then
    fcmp .gtr (ford .f64 (fop .quo .f64 (cf .f64 4607182418800017408) x) (cf .f64 0)) == fcmp .gtr (ford .f64 (fop .quo .f64 (cf .f64 4607182418800017408) y) (cf .f64 0))
  else fcmp .eql (ford .f64 x y)
theorem sameF_self (x : Nat) : sameF x x = true := by
  unfold sameF
  simp only [Bool.or_self, Bool.and_self]
  cases h : fcmp .neq (ford .f64 x x)
  · simp only [Bool.false_eq_true, if_false]
    split
    · simp
    · simp only [fcmp, bne_eq_false_iff_eq] at h ⊢
      simp [h]
  · simp
def vadd (a b : V3) : V3 := ⟨fop .add .f32 a.x b.x, fop .add .f32 a.y b.y, fop .add .f32 a.z b.z⟩
def vsub (a b : V3) : V3 := ⟨fop .sub .f32 a.x b.x, fop .sub .f32 a.y b.y, fop .sub .f32 a.z b.z⟩
def vscale (a : V3) (k : Nat) : V3 := ⟨fop .mul .f32 a.x k, fop .mul .f32 a.y k, fop .mul .f32 a.z k⟩
def finV (v : V3) : Bool := finF v.x && finF v.y && finF v.z
theorem any3_finF (x y z : Nat) : (!([x, y, z].any (fun x => !finF x))) = (finF x && finF y && finF z) := by simp [List.any_cons, Bool.and_assoc]
def sameV (a b : V3) : Bool := sameF (fwid a.x) (fwid b.x) && sameF (fwid a.y) (fwid b.y) && sameF (fwid a.z) (fwid b.z)
theorem sameV_self (a : V3) : sameV a a = true := by simp [sameV, sameF_self]
def inI (n lo hi : Int) : Bool := icmp .geq n lo && icmp .leq n hi
def posF (x : Nat) : Bool := fcmp .gtr (ford .f32 x (cf .f32 0))
def prod3 (x y z : Int) : Int := IntKind.i64.wrap (IntKind.i64.wrap (x * y) * z)
def cntOk (x y z : Int) : Bool := inI x 1 16 && inI y 1 16 && inI z 1 16 && icmp .leq (prod3 x y z) 1024
def isGrid (g : GridT) : Bool := finV g.low && finF g.step && posF g.step && cntOk g.x g.y g.z && icmp .eql (g.vals.length : Int) (prod3 g.x g.y g.z)
def hasG (g : GridT) (x y z : Int) : Bool := inI x 0 (IntKind.i64.wrap (g.x - 1)) && inI y 0 (IntKind.i64.wrap (g.y - 1)) && inI z 0 (IntKind.i64.wrap (g.z - 1))
def idxG (g : GridT) (x y z : Int) : Int := IntKind.i64.wrap (x + IntKind.i64.wrap (g.x * IntKind.i64.wrap (y + IntKind.i64.wrap (g.y * z))))
theorem wrap_in {n : Int} (h : -9223372036854775808 ≤ n) (h' : n ≤ 9223372036854775807) : IntKind.i64.wrap n = n := by rw [IntKind.wrap_i64]; omega
theorem inI_iff {n lo hi : Int} : inI n lo hi = true ↔ lo ≤ n ∧ n ≤ hi := by simp [inI, icmp]
theorem mul_lt_16 {a b : Int} (ha : 1 ≤ a) (ha' : a ≤ 16) (hb : 0 ≤ b) {m : Int} (hb' : b ≤ m) : 0 ≤ a * b ∧ a * b ≤ a * m ∧ a * m ≤ 16 * m := by
  refine ⟨Int.mul_nonneg (by omega) hb, Int.mul_le_mul_of_nonneg_left hb' (by omega), Int.mul_le_mul_of_nonneg_right ha' (by omega)⟩
theorem isGrid_cnt {g : GridT} (h : isGrid g = true) : (1 ≤ g.x ∧ g.x ≤ 16) ∧ (1 ≤ g.y ∧ g.y ≤ 16) ∧ (1 ≤ g.z ∧ g.z ≤ 16) ∧ (g.vals.length : Int) = g.x * g.y * g.z ∧ (g.vals.length : Int) ≤ 1024 := by
  simp only [isGrid, cntOk, Bool.and_eq_true, inI_iff] at h
  obtain ⟨⟨⟨⟨_, _⟩, _⟩, ⟨⟨⟨hx, hy⟩, hz⟩, hp⟩⟩, hl⟩ := h
  have h1 := mul_lt_16 hx.1 hx.2 (by omega : (0 : Int) ≤ g.y) hy.2
  have h2 : 0 ≤ g.x * g.y * g.z := Int.mul_nonneg h1.1 (by omega)
  have h3 : g.x * g.y * g.z ≤ 256 * 16 := Int.le_trans (Int.mul_le_mul_of_nonneg_right (show g.x * g.y ≤ 256 by omega) (by omega)) (Int.mul_le_mul_of_nonneg_left hz.2 (by omega))
  have hpr : prod3 g.x g.y g.z = g.x * g.y * g.z := by
    unfold prod3
    rw [wrap_in (n := g.x * g.y) (by omega) (by omega), wrap_in (by omega) (by omega)]
  rw [hpr] at hp hl
  simp only [icmp, beq_iff_eq, decide_eq_true_eq] at hp hl
  exact ⟨hx, hy, hz, hl, by omega⟩
theorem idxG_ok {g : GridT} {x y z : Int} (h : isGrid g = true) (hh : hasG g x y z = true) : 0 ≤ idxG g x y z ∧ idxG g x y z < g.vals.length ∧ idxG g x y z = x + g.x * (y + g.y * z) := by
  obtain ⟨hx, hy, hz, hl, hm⟩ := isGrid_cnt h
  simp only [hasG, Bool.and_eq_true, inI_iff] at hh
  rw [wrap_in (n := g.x - 1) (by omega) (by omega), wrap_in (n := g.y - 1) (by omega) (by omega), wrap_in (n := g.z - 1) (by omega) (by omega)] at hh
  obtain ⟨⟨⟨hx0, hx1⟩, hy0, hy1⟩, hz0, hz1⟩ := hh
  have h1 := mul_lt_16 hy.1 hy.2 hz0 hz1
  have h2 := mul_lt_16 hx.1 hx.2 (b := y + g.y * z) (by omega) (m := g.y - 1 + g.y * (g.z - 1)) (by omega)
  have e1 : g.y * (g.z - 1) = g.y * g.z - g.y := by rw [Int.mul_sub, Int.mul_one]
  have e2 : g.x * (g.y - 1 + g.y * (g.z - 1)) = g.x * g.y * g.z - g.x := by rw [e1, show g.y - 1 + (g.y * g.z - g.y) = g.y * g.z - 1 by omega, Int.mul_sub, Int.mul_one, Int.mul_assoc]
  have e3 : g.y * (g.z - 1) ≤ 16 * (g.z - 1) := h1.2.2
  have hw : idxG g x y z = x + g.x * (y + g.y * z) := by
    unfold idxG
    rw [wrap_in (n := g.y * z) (by omega) (by omega), wrap_in (n := y + g.y * z) (by omega) (by omega), wrap_in (n := g.x * (y + g.y * z)) (by omega) (by omega), wrap_in (by omega) (by omega)]
  rw [hw]
  refine ⟨by omega, by omega, rfl⟩
def negF (x : Nat) : Bool := fcmp .lss (ford .f32 x (cf .f32 0))
def nrF (n : Int) : Nat := cf .f32 (FloatKind.f32.nearest n)
def ptG (low : V3) (s : Nat) (x y z : Int) : V3 := vadd low ⟨fop .mul .f32 s (nrF x), fop .mul .f32 s (nrF y), fop .mul .f32 s (nrF z)⟩
def sameL : List Nat → List Nat → Bool
  | [], [] => true
  | x :: xs, y :: ys => sameF (fwid x) (fwid y) && sameL xs ys
  | _, _ => false
theorem sameL_self : ∀ l : List Nat, sameL l l = true
  | [] => rfl
  | x :: xs => by simp [sameL, sameF_self, sameL_self xs]
theorem sameL_iff : ∀ (a b : List Nat), a.length = b.length → (sameL a b = true ↔ ∀ (i x y : Nat), a[i]? = some x → b[i]? = some y → sameF (fwid x) (fwid y) = true)
  | [], [], _ => by simp [sameL]
  | x :: xs, y :: ys, h => by
    rw [sameL, Bool.and_eq_true, sameL_iff xs ys (by simpa using h)]
    constructor
    · rintro ⟨hx, h⟩ i p q hp hq
      cases i with
      | zero => simp at hp hq; subst hp hq; exact hx
      | succ i => exact h i p q (by simpa using hp) (by simpa using hq)
    · intro h
      exact ⟨h 0 x y rfl rfl, fun i p q hp hq => h (i + 1) p q (by simpa using hp) (by simpa using hq)⟩
  | [], _ :: _, h => by simp at h
  | _ :: _, [], h => by simp at h
theorem sameL_all {a b : List Nat} {k : Nat} (hl : a.length = b.length) (hk : a.length ≤ k) (h : ∀ (i : Nat), i < k → ∀ (x y : Nat), a[i]? = some x → b[i]? = some y → sameF (fwid x) (fwid y) = true) : sameL a b = true :=
  (sameL_iff a b hl).2 fun i x y hx hy => h i (by have := (List.getElem?_eq_some_iff.1 hx).1; omega) x y hx hy
theorem sameL_not {a b : List Nat} {k : Nat} (hl : a.length = b.length) {x y : Nat} (hx : a[k]? = some x) (hy : b[k]? = some y) (h : sameF (fwid x) (fwid y) = false) : sameL a b = false := by
  cases hs : sameL a b with
  | false => rfl
  | true =>
    have := (sameL_iff a b hl).1 hs k x y hx hy
    simp [h] at this
theorem sameL_len : ∀ {a b : List Nat}, a.length ≠ b.length → sameL a b = false
  | [], [], h => absurd rfl h
  | x :: xs, y :: ys, h => by rw [sameL, sameL_len (fun e => h (by simp [e])), Bool.and_false]
  | [], _ :: _, _ => rfl
  | _ :: _, [], _ => rfl
def SameTo (a b : List Nat) (k : Nat) : Prop := ∀ (i : Nat), i < k → ∀ (x y : Nat), a[i]? = some x → b[i]? = some y → sameF (fwid x) (fwid y) = true
theorem SameTo.zero {a b : List Nat} : SameTo a b 0 := fun i hi => by omega
theorem SameTo.step {a b : List Nat} {k : Nat} (h : SameTo a b k) {x y : Nat} (hx : a[k]? = some x) (hy : b[k]? = some y) (hs : sameF (fwid x) (fwid y) = true) : SameTo a b (k + 1) := fun i hi p q hp hq => by
  rcases Nat.lt_or_ge i k with h' | h'
  · exact h i h' p q hp hq
  · obtain rfl : i = k := by omega
    rw [hx] at hp; rw [hy] at hq; cases hp; cases hq; exact hs
def sameG (a b : GridT) : Bool :=
  sameV a.low b.low && sameF (fwid a.step) (fwid b.step) && icmp .eql a.x b.x && icmp .eql a.y b.y && icmp .eql a.z b.z && sameL a.vals b.vals
theorem sameG_self (a : GridT) : sameG a a = true := by simp [sameG, sameV_self, sameF_self, sameL_self, icmp]
end Go.Proofs.Ytjopopmipdakkaa
