/- what the functions compute, over numbers up to the payload of a not-a-number -/
import Derived.Test.YthmejogjmjjmgaaFl
import Derived.Test.YthmejogjmjjmgaaBase
namespace Go.Proofs.Ythmejogjmjjmgaa
open Go

def finF (x : Nat) : Bool := fcmp .eql (ford .f32 (fop .sub .f32 x x) (cf .f32 0))
def fmaxG (x y : Nat) : Nat := if fcmp .gtr (ford .f32 y x) then y else x
def fminL (x y : Nat) : Nat := if fcmp .lss (ford .f32 y x) then y else x
def sameF (x y : Nat) : Bool :=
  if fcmp .neq (ford .f64 x x) || fcmp .neq (ford .f64 y y) then fcmp .neq (ford .f64 x x) && fcmp .neq (ford .f64 y y)
  else if fcmp .eql (ford .f64 x (cf .f64 0)) && fcmp .eql (ford .f64 y (cf .f64 0)) then
    fcmp .gtr (ford .f64 (fop .quo .f64 (cf .f64 4607182418800017408) x) (cf .f64 0)) == fcmp .gtr (ford .f64 (fop .quo .f64 (cf .f64 4607182418800017408) y) (cf .f64 0))
  else fcmp .eql (ford .f64 x y)
def szRange (l h : Nat) : Nat × Nat :=
  if fcmp .gtr (ford .f32 l (cf .f32 0)) then (l, h) else if fcmp .lss (ford .f32 h (cf .f32 0)) then (fneg .f32 h, fneg .f32 l) else (cf .f32 0, fmaxG (fneg .f32 l) h)

def innerF (ax ay az bx bY bz : Nat) : Nat := fop .add .f32 (fop .add .f32 (fop .mul .f32 ax bx) (fop .mul .f32 ay bY)) (fop .mul .f32 az bz)
/-- a vector without so many times what goes against a normal -/
def awayF (ax ay az bx bY bz k : Nat) : Nat × Nat × Nat :=
  if fcmp .lss (ford .f32 (innerF ax ay az bx bY bz) (cf .f32 0)) then
    let d := fop .mul .f32 (innerF ax ay az bx bY bz) k
    (fop .sub .f32 ax (fop .mul .f32 bx d), fop .sub .f32 ay (fop .mul .f32 bY d), fop .sub .f32 az (fop .mul .f32 bz d))
  else (ax, ay, az)
theorem one_and_none : fop .add .f32 (cf .f32 1065353216) (cf .f32 0) = cf .f32 1065353216 := by decide +kernel
def isBox (lx ly lz hx hy hz : Nat) : Bool :=
  (finF lx && finF ly && finF lz) && (finF hx && finF hy && finF hz) && fcmp .leq (ford .f32 lx hx) && fcmp .leq (ford .f32 ly hy) && fcmp .leq (ford .f32 lz hz)
theorem any3_finF (x y z : Nat) : (!([x, y, z].any (fun x => !finF x))) = (finF x && finF y && finF z) := by simp [List.any_cons, Bool.and_assoc]
theorem sameF_self (x : Nat) : sameF x x = true := by
  unfold sameF
  simp only [Bool.or_self, Bool.and_self]
  cases h : fcmp .neq (ford .f64 x x)
  · simp only [Bool.false_eq_true, if_false]
    split
    · simp
    · simp only [fcmp, bne_eq_false_iff_eq] at h ⊢
      simp [h]
  · simp
end Go.Proofs.Ythmejogjmjjmgaa
