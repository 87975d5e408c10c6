/- what the functions compute, over numbers up to the payload of a not-a-number -/
import Derived.Test.YthmejogjmjjmgaaTyp
namespace Go.Proofs.Ythmejogjmjjmgaa
open Go

def finF (x : Nat) : Bool := fcmp .eql (ford .f32 (fop .sub .f32 x x) (cf .f32 0))
def fmaxG (x y : Nat) : Nat := if fcmp .gtr (ford .f32 y x) then y else x
def fminL (x y : Nat) : Nat := if fcmp .lss (ford .f32 y x) then y else x
def sameF (x y : Nat) : Bool :=
  if fcmp .neq (ford .f64 x x) || fcmp .neq (ford .f64 y y) then fcmp .neq (ford .f64 x x) && fcmp .neq (ford .f64 y y)
  else if fcmp .eql (ford .f64 x (cf .f64 0)) && fcmp .eql (ford .f64 y (cf .f64 0)) then
    fcmp .gtr (ford .f64 (fop .quo .f64 (cf .f64 4607182418800017408) x) (cf .f64 0)) == fcmp .gtr (ford .f64 (fop .quo .f64 (cf .f64 4607182418800017408) y) (cf .f64 0))
  else fcmp .eql (ford .f64 x y)
theorem sameF_self (x : Nat) : sameF x x = true := by
  unfold sameF
  simp only [Bool.or_self, Bool.and_self]
  cases h : fcmp .neq (ford .f64 x x)
  · simp only [Bool.false_eq_true, if_false]
    split
    · simp
    · simp only [fcmp, bne_eq_false_iff_eq] at h ⊢
      simp [h]
  · simp
def szRange (r : Rg) : Rg :=
  if fcmp .gtr (ford .f32 r.lo (cf .f32 0)) then r else if fcmp .lss (ford .f32 r.hi (cf .f32 0)) then ⟨fneg .f32 r.hi, fneg .f32 r.lo⟩ else ⟨cf .f32 0, fmaxG (fneg .f32 r.lo) r.hi⟩
def sameR (a b : Rg) : Bool := sameF (fwid a.lo) (fwid b.lo) && sameF (fwid a.hi) (fwid b.hi)
theorem sameR_self (a : Rg) : sameR a a = true := by simp [sameR, sameF_self]

/-! vectors -/
def vadd (a b : V3) : V3 := ⟨fop .add .f32 a.x b.x, fop .add .f32 a.y b.y, fop .add .f32 a.z b.z⟩
def vsub (a b : V3) : V3 := ⟨fop .sub .f32 a.x b.x, fop .sub .f32 a.y b.y, fop .sub .f32 a.z b.z⟩
def vscale (a : V3) (k : Nat) : V3 := ⟨fop .mul .f32 a.x k, fop .mul .f32 a.y k, fop .mul .f32 a.z k⟩
def innerF (a b : V3) : Nat := fop .add .f32 (fop .add .f32 (fop .mul .f32 a.x b.x) (fop .mul .f32 a.y b.y)) (fop .mul .f32 a.z b.z)
def vmax (a b : V3) : V3 := ⟨fmaxG a.x b.x, fmaxG a.y b.y, fmaxG a.z b.z⟩
def vmin (a b : V3) : V3 := ⟨fminL a.x b.x, fminL a.y b.y, fminL a.z b.z⟩
def v2 (f : Nat → Nat → Nat) (a b : V3) : V3 := ⟨f a.x b.x, f a.y b.y, f a.z b.z⟩
/-- a vector without so many times what goes against a normal -/
def awayF (a b : V3) (k : Nat) : V3 :=
  if fcmp .lss (ford .f32 (innerF a b) (cf .f32 0)) then vsub a (vscale b (fop .mul .f32 (innerF a b) k)) else a
theorem one_and_none : fop .add .f32 (cf .f32 1065353216) (cf .f32 0) = cf .f32 1065353216 := by decide +kernel
def finV (v : V3) : Bool := finF v.x && finF v.y && finF v.z
theorem any3_finF (x y z : Nat) : (!([x, y, z].any (fun x => !finF x))) = (finF x && finF y && finF z) := by simp [List.any_cons, Bool.and_assoc]
def sameV (a b : V3) : Bool := sameF (fwid a.x) (fwid b.x) && sameF (fwid a.y) (fwid b.y) && sameF (fwid a.z) (fwid b.z)
theorem sameV_self (a : V3) : sameV a a = true := by simp [sameV, sameF_self]
def zV : V3 := ⟨cf .f32 0, cf .f32 0, cf .f32 0⟩

/-! boxes -/
def isBox (b : Bx) : Bool :=
  finV b.lo && finV b.hi && fcmp .leq (ford .f32 b.lo.x b.hi.x) && fcmp .leq (ford .f32 b.lo.y b.hi.y) && fcmp .leq (ford .f32 b.lo.z b.hi.z)
def inBox (b : Bx) (p : V3) : Bool :=
  fcmp .geq (ford .f32 p.x b.lo.x) && fcmp .leq (ford .f32 p.x b.hi.x) && fcmp .geq (ford .f32 p.y b.lo.y) && fcmp .leq (ford .f32 p.y b.hi.y) && fcmp .geq (ford .f32 p.z b.lo.z) && fcmp .leq (ford .f32 p.z b.hi.z)
def sameB (a b : Bx) : Bool := sameV a.lo b.lo && sameV a.hi b.hi
theorem sameB_self (a : Bx) : sameB a a = true := by simp [sameB, sameV_self]
def zB : Bx := ⟨zV, zV⟩
def gvB (c : Bool) (b : Bx) : Bx := if c then b else zB
theorem gvB_t (b : Bx) : gvB true b = b := rfl
theorem gvB_f (b : Bx) : gvB false b = zB := rfl
def growB (b : Bx) (k : Nat) : Bx := ⟨vsub b.lo ⟨k, k, k⟩, vadd b.hi ⟨k, k, k⟩⟩
def growOk (b : Bx) (k : Nat) : Bool := isBox b && isBox (growB b k)
def cutB (a b : Bx) : Bx := ⟨vmax a.lo b.lo, vmin a.hi b.hi⟩
def cutOk (a b : Bx) : Bool := isBox a && isBox b && isBox (cutB a b)

/-! strings -/
def cntDiff (a b : ByteArray) : Nat → Int
  | 0 => 0
  | k + 1 => cntDiff a b k + if byteAt a k = byteAt b k then 0 else 1
theorem cntDiff_range (a b : ByteArray) : ∀ k : Nat, 0 ≤ cntDiff a b k ∧ cntDiff a b k ≤ k
  | 0 => by simp [cntDiff]
  | k + 1 => by
    have := cntDiff_range a b k
    simp only [cntDiff]; split <;> omega
def cntOkS (a b : ByteArray) : Bool := decide (a.size = b.size) && decide (a.size ≤ 144)
def cntRes (a b : ByteArray) : Int := if cntOkS a b then cntDiff a b a.size else 0
theorem cntOkS_t {a b : ByteArray} (h : (a.size : Int) = b.size) (h' : ¬ (144 : Int) < a.size) : cntOkS a b = true := by simp [cntOkS]; omega
theorem cntOkS_f {a b : ByteArray} (h : ¬ (a.size : Int) = b.size ∨ (144 : Int) < a.size) : cntOkS a b = false := by
  simp only [cntOkS, Bool.and_eq_false_iff, decide_eq_false_iff_not]; omega
theorem cntRes_t {a b : ByteArray} {k : Nat} {n : Int} (h : (a.size : Int) = b.size) (h' : ¬ (144 : Int) < a.size) (hn : n = cntDiff a b k) (hk : k = a.size) : cntRes a b = n := by
  subst hn hk; simp [cntRes, cntOkS_t h h']
theorem cntRes_f {a b : ByteArray} (h : ¬ (a.size : Int) = b.size ∨ (144 : Int) < a.size) : cntRes a b = 0 := by simp [cntRes, cntOkS_f h]
theorem cntDiff_same {a b : ByteArray} {k : Nat} {n : Int} (hn : n = cntDiff a b k) (h : ((byteAt a k : Nat) : Int) = (byteAt b k : Nat)) : n = cntDiff a b (k + 1) := by
  have : byteAt a k = byteAt b k := by omega
  simp [cntDiff, hn, this]
theorem cntDiff_more {a b : ByteArray} {k : Nat} {n : Int} (hn : n = cntDiff a b k) (h : ¬ ((byteAt a k : Nat) : Int) = (byteAt b k : Nat)) : n + 1 = cntDiff a b (k + 1) := by
  have : ¬ byteAt a k = byteAt b k := by omega
  simp [cntDiff, hn, this]

/-! numbers in a range, grids -/
def inI (n lo hi : Int) : Bool := icmp .geq n lo && icmp .leq n hi
def posF (x : Nat) : Bool := fcmp .gtr (ford .f32 x (cf .f32 0))
def prod3 (x y z : Int) : Int := IntKind.i64.wrap (IntKind.i64.wrap (x * y) * z)
def cntOk (x y z : Int) : Bool := inI x 1 16 && inI y 1 16 && inI z 1 16 && icmp .leq (prod3 x y z) 1024
def isGrid (g : GridT) : Bool := finV g.low && finF g.step && posF g.step && cntOk g.x g.y g.z && icmp .eql (g.vals.length : Int) (prod3 g.x g.y g.z)
/-- two lists, number for number -/
def sameL : List Nat → List Nat → Bool
  | [], [] => true
  | x :: xs, y :: ys => sameF (fwid x) (fwid y) && sameL xs ys
  | _, _ => false
theorem sameL_self : ∀ l : List Nat, sameL l l = true
  | [] => rfl
  | x :: xs => by simp [sameL, sameF_self, sameL_self xs]
theorem sameL_iff : ∀ (a b : List Nat), a.length = b.length → (sameL a b = true ↔ ∀ (i x y : Nat), a[i]? = some x → b[i]? = some y → sameF (fwid x) (fwid y) = true)
  | [], [], _ => by simp [sameL]
  | x :: xs, y :: ys, h => by
    rw [sameL, Bool.and_eq_true, sameL_iff xs ys (by simpa using h)]
    constructor
    · rintro ⟨hx, h⟩ i p q hp hq
      cases i with
      | zero => simp at hp hq; subst hp hq; exact hx
      | succ i => exact h i p q (by simpa using hp) (by simpa using hq)
    · intro h
      exact ⟨h 0 x y rfl rfl, fun i p q hp hq => h (i + 1) p q (by simpa using hp) (by simpa using hq)⟩
  | [], _ :: _, h => by simp at h
  | _ :: _, [], h => by simp at h
theorem sameL_all {a b : List Nat} {k : Nat} (hl : a.length = b.length) (hk : a.length ≤ k) (h : ∀ (i : Nat), i < k → ∀ (x y : Nat), a[i]? = some x → b[i]? = some y → sameF (fwid x) (fwid y) = true) : sameL a b = true :=
  (sameL_iff a b hl).2 fun i x y hx hy => h i (by have := (List.getElem?_eq_some_iff.1 hx).1; omega) x y hx hy
theorem sameL_not {a b : List Nat} {k : Nat} (hl : a.length = b.length) {x y : Nat} (hx : a[k]? = some x) (hy : b[k]? = some y) (h : sameF (fwid x) (fwid y) = false) : sameL a b = false := by
  cases hs : sameL a b with
  | false => rfl
  | true =>
    have := (sameL_iff a b hl).1 hs k x y hx hy
    simp [h] at this
theorem sameL_len : ∀ {a b : List Nat}, a.length ≠ b.length → sameL a b = false
  | [], [], h => absurd rfl h
  | x :: xs, y :: ys, h => by rw [sameL, sameL_len (fun e => h (by simp [e])), Bool.and_false]
  | [], _ :: _, _ => rfl
  | _ :: _, [], _ => rfl
/-- so far -/
def SameTo (a b : List Nat) (k : Nat) : Prop := ∀ (i : Nat), i < k → ∀ (x y : Nat), a[i]? = some x → b[i]? = some y → sameF (fwid x) (fwid y) = true
theorem SameTo.zero {a b : List Nat} : SameTo a b 0 := fun i hi => by omega
theorem SameTo.step {a b : List Nat} {k : Nat} (h : SameTo a b k) {x y : Nat} (hx : a[k]? = some x) (hy : b[k]? = some y) (hs : sameF (fwid x) (fwid y) = true) : SameTo a b (k + 1) := fun i hi p q hp hq => by
  rcases Nat.lt_or_ge i k with h' | h'
  · exact h i h' p q hp hq
  · obtain rfl : i = k := by omega
    rw [hx] at hp; rw [hy] at hq; cases hp; cases hq; exact hs
def sameG (a b : GridT) : Bool :=
  sameV a.low b.low && sameF (fwid a.step) (fwid b.step) && icmp .eql a.x b.x && icmp .eql a.y b.y && icmp .eql a.z b.z && sameL a.vals b.vals
theorem sameG_self (a : GridT) : sameG a a = true := by simp [sameG, sameV_self, sameF_self, sameL_self, icmp]
end Go.Proofs.Ythmejogjmjjmgaa
