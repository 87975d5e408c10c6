/- boxes cut in two -/
import Derived.Test.YthffielpjjggeaaHlf
import Derived.Test.YthffielpjjggeaaRgk
namespace Go.Proofs.Ythffielpjjggeaa
open Go

def pickV (v : V3) (n : Int) : Nat := if n = 0 then v.x else if n = 1 then v.y else v.z
def setV (v : V3) (n : Int) (c : Nat) : V3 := if n = 0 then ⟨c, v.y, v.z⟩ else if n = 1 then ⟨v.x, c, v.z⟩ else ⟨v.x, v.y, c⟩
theorem pickV_0 (v : V3) : pickV v 0 = v.x := rfl
theorem pickV_1 (v : V3) : pickV v 1 = v.y := rfl
theorem pickV_2 (v : V3) : pickV v 2 = v.z := rfl
theorem setV_0 (v : V3) (c : Nat) : setV v 0 c = ⟨c, v.y, v.z⟩ := rfl
theorem setV_1 (v : V3) (c : Nat) : setV v 1 c = ⟨v.x, c, v.z⟩ := rfl
theorem setV_2 (v : V3) (c : Nat) : setV v 2 c = ⟨v.x, v.y, c⟩ := rfl
theorem pickV_a {v : V3} {n : Int} (h : n = 0) : pickV v n = v.x := if_pos h
theorem pickV_b {v : V3} {n : Int} (h0 : ¬ n = 0) (h : n = 1) : pickV v n = v.y := by unfold pickV; rw [if_neg h0, if_pos h]
theorem pickV_c {v : V3} {n : Int} (h0 : ¬ n = 0) (h : ¬ n = 1) : pickV v n = v.z := by unfold pickV; rw [if_neg h0, if_neg h]
theorem setV_a {v : V3} {n : Int} {c : Nat} (h : n = 0) : setV v n c = ⟨c, v.y, v.z⟩ := if_pos h
theorem setV_b {v : V3} {n : Int} {c : Nat} (h0 : ¬ n = 0) (h : n = 1) : setV v n c = ⟨v.x, c, v.z⟩ := by unfold setV; rw [if_neg h0, if_pos h]
theorem setV_c {v : V3} {n : Int} {c : Nat} (h0 : ¬ n = 0) (h : ¬ n = 1) : setV v n c = ⟨v.x, v.y, c⟩ := by unfold setV; rw [if_neg h0, if_neg h]
def dimB (b : Bx) (k : Int) : Nat := fop .sub .f32 (pickV b.hi k) (pickV b.lo k)
def gtF (x y : Nat) : Bool := fcmp .gtr (ford .f32 x y)
def axB (b : Bx) : Int :=
  if gtF (dimB b 2) (dimB b (if gtF (dimB b 1) (dimB b 0) then 1 else 0)) then 2 else if gtF (dimB b 1) (dimB b 0) then 1 else 0
def midB (b : Bx) (k : Int) : Nat := fop .add .f32 (pickV b.lo k) (fop .mul .f32 (dimB b k) (cf .f32 1056964608))
def oneB (b : Bx) : Bx := ⟨b.lo, setV b.hi (axB b) (midB b (axB b))⟩
def twoB (b : Bx) : Bx := ⟨setV b.lo (axB b) (midB b (axB b)), b.hi⟩
def splitOk (b : Bx) : Bool := isBox b && isBox (oneB b) && isBox (twoB b)
theorem gtr_self (x : Nat) : fcmp .gtr (ford .f32 x x) = false := by
  unfold ford
  cases h : isN .f32 x
  · have h' : (FloatKind.f32.format.read x).isNaN = false := h
    have := ord_self h'
    simp only [Ieee.Format.order, this]; rfl
  · obtain ⟨s, t, hx⟩ := dec_nan h
    have hx' : FloatKind.f32.format.read x = .nan s t := hx
    simp only [Ieee.Format.order, hx']; rfl
theorem splitOk_0 {b : Bx} (h : isBox b = false) : splitOk b = false := by simp [splitOk, h]
theorem splitOk_1 {b : Bx} (h : isBox (oneB b) = false ∨ isBox (twoB b) = false) : splitOk b = false := by rcases h with h | h <;> simp [splitOk, h]
theorem splitOk_t {b : Bx} (h0 : isBox b = true) (h : isBox (oneB b) = true ∧ isBox (twoB b) = true) : splitOk b = true := by simp [splitOk, h0, h.1, h.2]
end Go.Proofs.Ythffielpjjggeaa
