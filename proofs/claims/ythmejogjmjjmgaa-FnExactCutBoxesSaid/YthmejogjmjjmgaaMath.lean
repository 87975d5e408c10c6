/- what the functions compute, over numbers up to the payload of a not-a-number -/
import Derived.Test.YthmejogjmjjmgaaTyp
namespace Go.Proofs.Ythmejogjmjjmgaa
open Go

def finF (x : Nat) : Bool := fcmp .eql (ford .f32 (fop .sub .f32 x x) (cf .f32 0))
def fmaxG (x y : Nat) : Nat := if fcmp .gtr (ford .f32 y x) then y else x
def fminL (x y : Nat) : Nat := if fcmp .lss (ford .f32 y x) then y else x
def sameF (x y : Nat) : Bool :=
  if fcmp .neq (ford .f64 x x) || fcmp .neq (ford .f64 y y) then fcmp .neq (ford .f64 x x) && fcmp .neq (ford .f64 y y)
  else if fcmp .eql (ford .f64 x (cf .f64 0)) && fcmp .eql (ford .f64 y (cf .f64 0)) then
    fcmp .gtr (ford .f64 (fop .quo .f64 (cf .f64 4607182418800017408) x) (cf .f64 0)) == fcmp .gtr (ford .f64 (fop .quo .f64 (cf .f64 4607182418800017408) y) (cf .f64 0))
  else fcmp .eql (ford .f64 x y)
theorem sameF_self (x : Nat) : sameF x x = true := by
  unfold sameF
  simp only [Bool.or_self, Bool.and_self]
  cases h : fcmp .neq (ford .f64 x x)
  · simp only [Bool.false_eq_true, if_false]
    split
    · simp
    · simp only [fcmp, bne_eq_false_iff_eq] at h ⊢
      simp [h]
  · simp
def szRange (r : Rg) : Rg :=
  if fcmp .gtr (ford .f32 r.lo (cf .f32 0)) then r else if fcmp .lss (ford .f32 r.hi (cf .f32 0)) then ⟨fneg .f32 r.hi, fneg .f32 r.lo⟩ else ⟨cf .f32 0, fmaxG (fneg .f32 r.lo) r.hi⟩
def sameR (a b : Rg) : Bool := sameF (fwid a.lo) (fwid b.lo) && sameF (fwid a.hi) (fwid b.hi)
theorem sameR_self (a : Rg) : sameR a a = true := by simp [sameR, sameF_self]

/-! vectors -/
def vadd (a b : V3) : V3 := ⟨fop .add .f32 a.x b.x, fop .add .f32 a.y b.y, fop .add .f32 a.z b.z⟩
def vsub (a b : V3) : V3 := ⟨fop .sub .f32 a.x b.x, fop .sub .f32 a.y b.y, fop .sub .f32 a.z b.z⟩
def vscale (a : V3) (k : Nat) : V3 := ⟨fop .mul .f32 a.x k, fop .mul .f32 a.y k, fop .mul .f32 a.z k⟩
def innerF (a b : V3) : Nat := fop .add .f32 (fop .add .f32 (fop .mul .f32 a.x b.x) (fop .mul .f32 a.y b.y)) (fop .mul .f32 a.z b.z)
def vmax (a b : V3) : V3 := ⟨fmaxG a.x b.x, fmaxG a.y b.y, fmaxG a.z b.z⟩
def vmin (a b : V3) : V3 := ⟨fminL a.x b.x, fminL a.y b.y, fminL a.z b.z⟩
def v2 (f : Nat → Nat → Nat) (a b : V3) : V3 := ⟨f a.x b.x, f a.y b.y, f a.z b.z⟩
/-- a vector without so many times what goes against a normal -/
def awayF (a b : V3) (k : Nat) : V3 :=
  if fcmp .lss (ford .f32 (innerF a b) (cf .f32 0)) then vsub a (vscale b (fop .mul .f32 (innerF a b) k)) else a
theorem one_and_none : fop .add .f32 (cf .f32 1065353216) (cf .f32 0) = cf .f32 1065353216 := by decide +kernel
def finV (v : V3) : Bool := finF v.x && finF v.y && finF v.z
theorem any3_finF (x y z : Nat) : (!([x, y, z].any (fun x => !finF x))) = (finF x && finF y && finF z) := by simp [List.any_cons, Bool.and_assoc]
def sameV (a b : V3) : Bool := sameF (fwid a.x) (fwid b.x) && sameF (fwid a.y) (fwid b.y) && sameF (fwid a.z) (fwid b.z)
theorem sameV_self (a : V3) : sameV a a = true := by simp [sameV, sameF_self]
def zV : V3 := ⟨cf .f32 0, cf .f32 0, cf .f32 0⟩

/-! boxes -/
def isBox (b : Bx) : Bool :=
  finV b.lo && finV b.hi && fcmp .leq (ford .f32 b.lo.x b.hi.x) && fcmp .leq (ford .f32 b.lo.y b.hi.y) && fcmp .leq (ford .f32 b.lo.z b.hi.z)
def inBox (b : Bx) (p : V3) : Bool :=
  fcmp .geq (ford .f32 p.x b.lo.x) && fcmp .leq (ford .f32 p.x b.hi.x) && fcmp .geq (ford .f32 p.y b.lo.y) && fcmp .leq (ford .f32 p.y b.hi.y) && fcmp .geq (ford .f32 p.z b.lo.z) && fcmp .leq (ford .f32 p.z b.hi.z)
def sameB (a b : Bx) : Bool := sameV a.lo b.lo && sameV a.hi b.hi
theorem sameB_self (a : Bx) : sameB a a = true := by simp [sameB, sameV_self]
def zB : Bx := ⟨zV, zV⟩
def gvB (c : Bool) (b : Bx) : Bx := if c then b else zB
theorem gvB_t (b : Bx) : gvB true b = b := rfl
theorem gvB_f (b : Bx) : gvB false b = zB := rfl
def growB (b : Bx) (k : Nat) : Bx := ⟨vsub b.lo ⟨k, k, k⟩, vadd b.hi ⟨k, k, k⟩⟩
def growOk (b : Bx) (k : Nat) : Bool := isBox b && isBox (growB b k)
def cutB (a b : Bx) : Bx := ⟨vmax a.lo b.lo, vmin a.hi b.hi⟩
def cutOk (a b : Bx) : Bool := isBox a && isBox b && isBox (cutB a b)
end Go.Proofs.Ythmejogjmjjmgaa
