/- values between the points of a grid -/
import Derived.Test.YtlpgjgombdcheaaFlo
import Derived.Test.YtlpgjgombdcheaaMrk
import Derived.Test.YtlpgjgombdcheaaRgm
namespace Go.Proofs.Ytlpgjgombdcheaa
open Go Ieee Go.RowKit

def smallDb (B : Nat) : Datum → Bool
  | .number _ m e => m == 0 || decide (e + m.log2 ≤ (B : Int))
  | _ => false
theorem smallDb_of {B : Nat} : ∀ {d : Datum}, smallDb B d = true → smallD B d
  | .number _ m e, h => fun hm => by
    simp only [smallDb, Bool.or_eq_true, beq_iff_eq, decide_eq_true_eq] at h
    rcases h with h | h
    · exact absurd h hm
    · exact h
  | .infinity _, h => by cases h
  | .nan _ _, h => by cases h
theorem small_nr {m : Int} (h : 0 ≤ m ∧ m ≤ 15) : sm32 4 (nrF m) := by
  have hk : ∀ i : Fin 16, smallDb 4 (FloatKind.f32.decode (nrF ((i : Nat) : Int))) = true := by decide +kernel
  obtain ⟨i, rfl⟩ : ∃ i : Nat, m = i := ⟨m.toNat, by omega⟩
  exact smallDb_of (hk ⟨i, by omega⟩)
theorem num_of_fin {x : Nat} (h : finF x = true) : ∃ s m e, FloatKind.f32.decode x = .number s m e := by
  cases hd : FloatKind.f32.decode x with
  | number s m e => exact ⟨s, m, e, rfl⟩
  | infinity s =>
    exfalso
    have hr : FloatKind.f32.format.read x = .infinity s := hd
    have e : fop .sub .f32 x x = qn .f32 := by
      show (((FloatKind.f32.format.read x).sum (FloatKind.f32.format.read x).opposite).map _).getD _ = _
      rw [hr]; cases s <;> rfl
    unfold finF at h
    rw [e, ford_nan_l _ (isN_qn .f32)] at h; cases h
  | nan s t =>
    exfalso
    have hn : isN .f32 x = true := by simp [isN, hd, Datum.isNaN]
    have e : fop .sub .f32 x x = qn .f32 := by unfold fop; rw [fraw_nan_l _ hn]; rfl
    unfold finF at h
    rw [e, ford_nan_l _ (isN_qn .f32)] at h; cases h
theorem pos_num {x : Nat} {s : Bool} {m : Nat} {e : Int} (h : posF x = true) (hd : FloatKind.f32.decode x = .number s m e) : m ≠ 0 := fun hm => by
  subst hm
  have hr : FloatKind.f32.format.read x = .number s 0 e := hd
  have hz : FloatKind.f32.format.read 0 = .number false 0 (-149) := by decide
  unfold posF at h
  rw [cf_zero] at h
  have : ford .f32 x 0 = some .eq := by
    simp only [ford, Format.order, hr, hz, Datum.order, Option.some.injEq]
    have e1 : signed s 0 (e - min e (-149)).toNat = 0 := by unfold signed; simp
    have e2 : signed false 0 (-149 - min e (-149)).toNat = 0 := by unfold signed; simp
    rw [e1, e2]; rfl
  rw [this] at h; cases h
/-- the place between the points of an axis, in steps -/
def cellU (p low st : Nat) (n : Int) : Nat :=
  if fcmp .gtr (ford .f32 (if fcmp .lss (ford .f32 (fop .quo .f32 (fop .sub .f32 p low) st) (cf .f32 0)) then cf .f32 0 else fop .quo .f32 (fop .sub .f32 p low) st) (nrF (n - 1))) then nrF (n - 1)
  else if fcmp .lss (ford .f32 (fop .quo .f32 (fop .sub .f32 p low) st) (cf .f32 0)) then cf .f32 0 else fop .quo .f32 (fop .sub .f32 p low) st
def cellI (p low st : Nat) (n : Int) : Int := max (min (intOf (ffloor (fwid (cellU p low st n)))) (n - 2)) 0
def cellF (p low st : Nat) (n : Int) : Nat := fop .sub .f32 (cellU p low st n) (nrF (cellI p low st n))
theorem cellI_bd {p low st : Nat} {n : Int} (h : 1 ≤ n) : 0 ≤ cellI p low st n ∧ cellI p low st n ≤ n - 1 := by unfold cellI; omega
theorem quo_num {p low st : Nat} (hp : finF p = true) (hl : finF low = true) (hs : finF st = true) (h0 : posF st = true) : isN .f32 (fop .quo .f32 (fop .sub .f32 p low) st) = false := by
  obtain ⟨s1, m1, e1, d1⟩ := num_of_fin hp
  obtain ⟨s2, m2, e2, d2⟩ := num_of_fin hl
  obtain ⟨s3, m3, e3, d3⟩ := num_of_fin hs
  have hm := pos_num h0 d3
  have r1 : FloatKind.f32.format.read p = .number s1 m1 e1 := d1
  have r2 : FloatKind.f32.format.read low = .number s2 m2 e2 := d2
  have r3 : FloatKind.f32.format.read st = .number s3 m3 e3 := d3
  have hd : isN .f32 (fop .sub .f32 p low) = false := by
    show isN .f32 ((((FloatKind.f32.format.read p).sum (FloatKind.f32.format.read low).opposite).map FloatKind.f32.format.write).getD (qn .f32)) = false
    rw [r1, r2]; exact isN_enc .f32 rfl
  have hq : ∀ d : Datum, FloatKind.f32.format.read (fop .sub .f32 p low) = d → d.isNaN = false → isN .f32 (fop .quo .f32 (fop .sub .f32 p low) st) = false := fun d hd hn => by
    show isN .f32 ((((FloatKind.f32.format.read (fop .sub .f32 p low)).quotient _ (FloatKind.f32.format.read st)).map FloatKind.f32.format.write).getD (qn .f32)) = false
    rw [hd, r3]
    cases d with
    | nan s t => cases hn
    | infinity s => exact isN_enc .f32 rfl
    | number s m e =>
      simp only [Datum.quotient]
      rw [if_neg hm]; exact isN_enc .f32 rfl
  exact hq _ rfl hd
theorem cellU_in {p low st : Nat} {n : Int} (hp : finF p = true) (hl : finF low = true) (hs : finF st = true) (h0 : posF st = true) (hn : 1 ≤ n ∧ n ≤ 16) : inR (ffloor (fwid (cellU p low st n))) := by
  have hq := quo_num hp hl hs h0
  suffices sm32 4 (cellU p low st n) from small_inR (B := 7) (by decide) (small_floor (by decide) (small_wid (by decide) this))
  have hnr := small_nr (m := n - 1) (by omega)
  have key : ∀ u : Nat, isN .f32 u = false → ford .f32 u 0 ≠ some .lt → sm32 4 (if fcmp .gtr (ford .f32 u (nrF (n - 1))) then nrF (n - 1) else u) := fun u hu hlt => by
    split
    · exact hnr
    · rename_i hg
      exact small_le hnr hu hlt fun he => hg (by rw [he]; rfl)
  unfold cellU
  split
  · exact key _ (by rw [cf_zero]; decide) (by rw [cf_zero]; decide)
  · rename_i hg
    exact key _ hq fun he => hg (by rw [cf_zero, he]; rfl)
def mixF (a b f : Nat) : Nat := fop .add .f32 a (fop .mul .f32 f (fop .sub .f32 b a))
def vat (g : GridT) (x y z : Int) : Nat := (g.vals[(idxG g x y z).toNat]?).getD 0
theorem vat_of {g : GridT} {x y z : Int} {e : Nat} (h : g.vals[(idxG g x y z).toNat]? = some e) : vat g x y z = e := by simp [vat, h]
def cI (g : GridT) (p : V3) : Int × Int × Int := (cellI p.x g.low.x g.step g.x, cellI p.y g.low.y g.step g.y, cellI p.z g.low.z g.step g.z)
def rowG (g : GridT) (x : Int) (f : Nat) (v w : Int) : Nat := mixF (vat g x v w) (vat g (min (x + 1) (g.x - 1)) v w) f
def plnG (g : GridT) (x : Int) (f : Nat) (y : Int) (h : Nat) (w : Int) : Nat := mixF (rowG g x f y w) (rowG g x f (min (y + 1) (g.y - 1)) w) h
def readG (g : GridT) (p : V3) : Nat :=
  mixF (plnG g (cellI p.x g.low.x g.step g.x) (cellF p.x g.low.x g.step g.x) (cellI p.y g.low.y g.step g.y) (cellF p.y g.low.y g.step g.y) (cellI p.z g.low.z g.step g.z))
    (plnG g (cellI p.x g.low.x g.step g.x) (cellF p.x g.low.x g.step g.x) (cellI p.y g.low.y g.step g.y) (cellF p.y g.low.y g.step g.y) (min (cellI p.z g.low.z g.step g.z + 1) (g.z - 1))) (cellF p.z g.low.z g.step g.z)
theorem grid_fin {g : GridT} (h : isGrid g = true) : (finF g.low.x = true ∧ finF g.low.y = true ∧ finF g.low.z = true) ∧ finF g.step = true ∧ posF g.step = true := by
  simp only [isGrid, finV, Bool.and_eq_true] at h
  obtain ⟨⟨⟨⟨⟨⟨a, b⟩, c⟩, d⟩, e⟩, _⟩, _⟩ := h
  exact ⟨⟨a, b, c⟩, d, e⟩
theorem idx_in {g : GridT} {x y z : Int} (h : isGrid g = true) (hx : 0 ≤ x ∧ x ≤ g.x - 1) (hy : 0 ≤ y ∧ y ≤ g.y - 1) (hz : 0 ≤ z ∧ z ≤ g.z - 1) : 0 ≤ idxG g x y z ∧ idxG g x y z < g.vals.length := by
  have hc := isGrid_cnt h
  have hh : hasG g x y z = true := by
    simp only [hasG, Bool.and_eq_true, inI_iff]
    rw [wrap_in (n := g.x - 1) (by omega) (by omega), wrap_in (n := g.y - 1) (by omega) (by omega), wrap_in (n := g.z - 1) (by omega) (by omega)]
    omega
  have := idxG_ok h hh
  exact ⟨this.1, this.2.1⟩
theorem finV_iff {v : V3} : finV v = true ↔ finF v.x = true ∧ finF v.y = true ∧ finF v.z = true := by simp [finV, Bool.and_eq_true, and_assoc]
def vbtOk (g : GridT) (p : V3) : Bool := isGrid g && finV p
def vbtG (g : GridT) (p : V3) : Nat := if vbtOk g p then readG g p else cf .f32 0
theorem vbtOk_f {g : GridT} {p : V3} (h : isGrid g = false ∨ finV p = false) : vbtOk g p = false := by rcases h with h | h <;> simp [vbtOk, h]
theorem vbtOk_t {g : GridT} {p : V3} (h : isGrid g = true ∧ finV p = true) : vbtOk g p = true := by simp [vbtOk, h.1, h.2]
theorem vbtG_f {g : GridT} {p : V3} (h : isGrid g = false ∨ finV p = false) : vbtG g p = cf .f32 0 := by unfold vbtG; rw [vbtOk_f h]; rfl
theorem vbtG_t {g : GridT} {p : V3} (h : isGrid g = true ∧ finV p = true) : vbtG g p = readG g p := by unfold vbtG; rw [vbtOk_t h]; rfl
end Go.Proofs.Ytlpgjgombdcheaa
