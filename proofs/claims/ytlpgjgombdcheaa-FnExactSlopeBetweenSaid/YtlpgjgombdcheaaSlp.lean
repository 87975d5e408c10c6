/- slopes between the points of a grid -/
import Derived.Test.YtlpgjgombdcheaaBtw
namespace Go.Proofs.Ytlpgjgombdcheaa
open Go Ieee Go.RowKit

def pickV (v : V3) (n : Int) : Nat := if n = 0 then v.x else if n = 1 then v.y else v.z
def setV (v : V3) (n : Int) (c : Nat) : V3 := if n = 0 then ⟨c, v.y, v.z⟩ else if n = 1 then ⟨v.x, c, v.z⟩ else ⟨v.x, v.y, c⟩
theorem pickV_0 (v : V3) : pickV v 0 = v.x := rfl
theorem pickV_1 (v : V3) : pickV v 1 = v.y := rfl
theorem pickV_2 (v : V3) : pickV v 2 = v.z := rfl
theorem setV_0 (v : V3) (c : Nat) : setV v 0 c = ⟨c, v.y, v.z⟩ := rfl
theorem setV_1 (v : V3) (c : Nat) : setV v 1 c = ⟨v.x, c, v.z⟩ := rfl
theorem setV_2 (v : V3) (c : Nat) : setV v 2 c = ⟨v.x, v.y, c⟩ := rfl
theorem pickV_a {v : V3} {n : Int} (h : n = 0) : pickV v n = v.x := if_pos h
theorem pickV_b {v : V3} {n : Int} (h0 : ¬ n = 0) (h : n = 1) : pickV v n = v.y := by unfold pickV; rw [if_neg h0, if_pos h]
theorem pickV_c {v : V3} {n : Int} (h0 : ¬ n = 0) (h : ¬ n = 1) : pickV v n = v.z := by unfold pickV; rw [if_neg h0, if_neg h]
theorem setV_a {v : V3} {n : Int} {c : Nat} (h : n = 0) : setV v n c = ⟨c, v.y, v.z⟩ := if_pos h
theorem setV_b {v : V3} {n : Int} {c : Nat} (h0 : ¬ n = 0) (h : n = 1) : setV v n c = ⟨v.x, c, v.z⟩ := by unfold setV; rw [if_neg h0, if_pos h]
theorem setV_c {v : V3} {n : Int} {c : Nat} (h0 : ¬ n = 0) (h : ¬ n = 1) : setV v n c = ⟨v.x, v.y, c⟩ := by unfold setV; rw [if_neg h0, if_neg h]
/-- the point one step on, and one step back, along each axis -/
def hi0 (g : GridT) (p : V3) : V3 := ⟨fop .add .f32 p.x g.step, p.y, p.z⟩
def hi1 (g : GridT) (p : V3) : V3 := ⟨p.x, fop .add .f32 p.y g.step, p.z⟩
def hi2 (g : GridT) (p : V3) : V3 := ⟨p.x, p.y, fop .add .f32 p.z g.step⟩
def lo0 (g : GridT) (p : V3) : V3 := ⟨fop .sub .f32 p.x g.step, p.y, p.z⟩
def lo1 (g : GridT) (p : V3) : V3 := ⟨p.x, fop .sub .f32 p.y g.step, p.z⟩
def lo2 (g : GridT) (p : V3) : V3 := ⟨p.x, p.y, fop .sub .f32 p.z g.step⟩
def slF (g : GridT) (h l : V3) : Nat := fop .quo .f32 (fop .sub .f32 (readG g h) (readG g l)) (fop .mul .f32 (cf .f32 1073741824) g.step)
def slI (g : GridT) (h l : V3) : Nat := fop .quo .f32 (fop .sub .f32 (vbtG g h) (vbtG g l)) (fop .mul .f32 (cf .f32 1073741824) g.step)
def slpOk (g : GridT) (p : V3) : Bool := isGrid g && (finV (hi0 g p) && finV (lo0 g p)) && (finV (hi1 g p) && finV (lo1 g p)) && (finV (hi2 g p) && finV (lo2 g p))
def slpV (g : GridT) (p : V3) : V3 := if slpOk g p then ⟨slF g (hi0 g p) (lo0 g p), slF g (hi1 g p) (lo1 g p), slF g (hi2 g p) (lo2 g p)⟩ else zV
section
variable {g : GridT} {p : V3}
theorem slpOk_g (h : isGrid g = false) : slpOk g p = false := by simp [slpOk, h]
theorem slpOk_0 (h : finV (hi0 g p) = false ∨ finV (lo0 g p) = false) : slpOk g p = false := by rcases h with h | h <;> simp [slpOk, h]
theorem slpOk_1 (h : finV (hi1 g p) = false ∨ finV (lo1 g p) = false) : slpOk g p = false := by rcases h with h | h <;> simp [slpOk, h]
theorem slpOk_2 (h : finV (hi2 g p) = false ∨ finV (lo2 g p) = false) : slpOk g p = false := by rcases h with h | h <;> simp [slpOk, h]
theorem slpOk_t (h : isGrid g = true) (h0 : finV (hi0 g p) = true ∧ finV (lo0 g p) = true) (h1 : finV (hi1 g p) = true ∧ finV (lo1 g p) = true) (h2 : finV (hi2 g p) = true ∧ finV (lo2 g p) = true) : slpOk g p = true := by
  simp [slpOk, h, h0.1, h0.2, h1.1, h1.2, h2.1, h2.2]
theorem slpV_f (h : slpOk g p = false) : slpV g p = zV := by unfold slpV; rw [h]; rfl
theorem slpV_t (h : slpOk g p = true) : slpV g p = ⟨slF g (hi0 g p) (lo0 g p), slF g (hi1 g p) (lo1 g p), slF g (hi2 g p) (lo2 g p)⟩ := by unfold slpV; rw [h]; rfl
theorem inf_add {x y : Nat} (hx : finF x = false) (hy : finF y = true) : finF (fop .add .f32 x y) = false := by
  obtain ⟨s2, m2, e2, d2⟩ := num_of_fin hy
  have r2 : FloatKind.f32.format.read y = .number s2 m2 e2 := d2
  cases hd : FloatKind.f32.decode x with
  | number s m e =>
    exfalso
    have hr : FloatKind.f32.format.read x = .number s m e := hd
    unfold finF at hx
    have e1 : ∃ q : Bool, fop .sub .f32 x x = FloatKind.f32.encode (.number q 0 e) := by
      refine ⟨s && !s, ?_⟩
      show ((((FloatKind.f32.format.read x).sum (FloatKind.f32.format.read x).opposite)).map FloatKind.f32.format.write).getD _ = _
      rw [hr]
      simp only [Datum.opposite, Datum.sum, Int.min_self, Int.sub_self, Option.map_some, Option.getD_some]
      have hz : signed s m (0 : Int).toNat + signed (!s) m (0 : Int).toNat = 0 := by cases s <;> simp [signed] <;> omega
      rw [hz]; rfl
    obtain ⟨q, e1⟩ := e1
    rw [e1] at hx
    have e3 : FloatKind.f32.encode (.number q 0 e) = Ieee.single.word q 0 := by
      show Ieee.single.nearest q 0 e = _
      unfold Format.nearest; rw [if_pos rfl]
    rw [e3] at hx
    revert hx; cases q <;> decide
  | infinity s =>
    have hr : FloatKind.f32.format.read x = .infinity s := hd
    have e1 : fop .add .f32 x y = FloatKind.f32.encode (.infinity s) := by
      show ((((FloatKind.f32.format.read x).sum (FloatKind.f32.format.read y))).map FloatKind.f32.format.write).getD _ = _
      rw [hr, r2]; rfl
    rw [e1]
    cases s <;> decide
  | nan s t =>
    have hn : isN .f32 x = true := by simp [isN, hd, Datum.isNaN]
    have e1 : fop .add .f32 x y = qn .f32 := by unfold fop; rw [fraw_nan_l _ hn]; rfl
    rw [e1]; decide
/-- what the program asks ahead follows from what is asked of the neighbours -/
theorem slpOk_p (h : finV p = false) : slpOk g p = false := by
  cases hs : slpOk g p with
  | false => rfl
  | true =>
    exfalso
    simp only [slpOk, Bool.and_eq_true] at hs
    obtain ⟨⟨⟨_, h0, _⟩, h1, _⟩, _⟩ := hs
    have f0 := finV_iff.1 h0
    have f1 := finV_iff.1 h1
    have : finV p = true := finV_iff.2 ⟨f1.1, f0.2.1, f0.2.2⟩
    rw [this] at h; cases h
theorem slpOk_gp (h : isGrid g = false ∨ finV p = false) : slpOk g p = false := by
  cases hg : isGrid g
  · exact slpOk_g hg
  · rcases h with h | h
    · rw [hg] at h; cases h
    · exact slpOk_p h
theorem vbt_fin {q : V3} (hg : isGrid g = true) : vbtOk g q = finV q := by simp [vbtOk, hg]
theorem slI_eq {h l : V3} (h1 : vbtOk g h = true) (h2 : vbtOk g l = true) : slI g h l = slF g h l := by
  unfold slI slF vbtG; rw [h1, h2]; rfl
/-- the program's own way -/
def fineI (g : GridT) (p : V3) : Bool := ((((vbtOk g (hi0 g p) && vbtOk g (lo0 g p)) && vbtOk g (hi1 g p)) && vbtOk g (lo1 g p)) && vbtOk g (hi2 g p)) && vbtOk g (lo2 g p)
theorem fineI_eq (hg : isGrid g = true) : fineI g p = slpOk g p := by
  unfold fineI slpOk
  simp only [vbt_fin hg, hg, Bool.true_and, Bool.and_assoc]
theorem slpV_i (hg : isGrid g = true) (h : fineI g p = true) : slpV g p = ⟨slI g (hi0 g p) (lo0 g p), slI g (hi1 g p) (lo1 g p), slI g (hi2 g p) (lo2 g p)⟩ := by
  rw [slpV_t (by rw [← fineI_eq hg]; exact h)]
  simp only [fineI, Bool.and_eq_true] at h
  obtain ⟨⟨⟨⟨⟨a, b⟩, c⟩, d⟩, e⟩, f⟩ := h
  rw [slI_eq a b, slI_eq c d, slI_eq e f]
end
end Go.Proofs.Ytlpgjgombdcheaa
