/- unit vectors: none of their numbers is a not-a-number -/
import Derived.Test.YtlfpeihlfmdmdaaMath
import Derived.Test.YtlfpeihlfmdmdaaSq
namespace Go.Proofs.Ytlfpeihlfmdmdaa
open Go Ieee

theorem dec32 (x : Nat) : FloatKind.f32.format.read x = FloatKind.f32.decode x := rfl
/-- infinite, or a not-a-number -/
def NF (x : Nat) : Prop := ∀ s m e, FloatKind.f32.decode x ≠ .number s m e
theorem NF_nan {x : Nat} (h : isN .f32 x = true) : NF x := fun s m e he => by simp [isN, he, Datum.isNaN] at h
theorem NF_qn : NF (qn .f32) := NF_nan (isN_qn _)
theorem dec_inf32 (s : Bool) : FloatKind.f32.decode (FloatKind.f32.format.write (.infinity s)) = .infinity s := by cases s <;> decide +kernel
theorem NF_inf (s : Bool) : NF (FloatKind.f32.format.write (.infinity s)) := fun t m e h => by rw [dec_inf32] at h; cases h
theorem NF_add_l {x : Nat} (y : Nat) (h : NF x) : NF (fop .add .f32 x y) := by
  unfold fop fraw Format.add
  rw [dec32, dec32]
  cases hx : FloatKind.f32.decode x with
  | number s m e => exact absurd hx (h s m e)
  | nan s t => rw [sum_nan_l]; exact NF_qn
  | infinity s =>
    cases hy : FloatKind.f32.decode y with
    | number t m e => exact NF_inf s
    | nan t u => exact NF_qn
    | infinity t =>
      simp only [Datum.sum]
      split
      · exact NF_inf s
      · exact NF_qn
theorem NF_add_r {y : Nat} (x : Nat) (h : NF y) : NF (fop .add .f32 x y) := by
  unfold fop fraw Format.add
  rw [dec32, dec32]
  cases hy : FloatKind.f32.decode y with
  | number s m e => exact absurd hy (h s m e)
  | nan s t => rw [sum_nan_r]; exact NF_qn
  | infinity s =>
    cases hx : FloatKind.f32.decode x with
    | number t m e => exact NF_inf s
    | nan t u => exact NF_qn
    | infinity t =>
      simp only [Datum.sum]
      split
      · exact NF_inf t
      · exact NF_qn
theorem NF_sq {x : Nat} (h : NF x) : NF (fop .mul .f32 x x) := by
  unfold fop fraw Format.mul
  rw [dec32]
  cases hx : FloatKind.f32.decode x with
  | number s m e => exact absurd hx (h s m e)
  | nan s t => exact NF_qn
  | infinity s => exact NF_inf _
theorem NF_root {x : Nat} (h : NF x) : NF (rootF x) := by
  unfold rootF
  cases hx : FloatKind.f32.decode x with
  | number s m e => exact absurd hx (h s m e)
  | nan s t =>
    have hn : isN .f32 x = true := by simp [isN, hx, Datum.isNaN]
    rw [fwid_nan hn]
    exact NF_nan (by decide +kernel)
  | infinity s =>
    have hn : isN .f32 x = false := by simp [isN, hx, Datum.isNaN]
    rw [fwid_of hn hx]
    intro t m e
    have : ∀ s, (FloatKind.f32.decode (fnar (fsqrt (FloatKind.f64.encode (.infinity s))))).isInfinity = true ∨ (FloatKind.f32.decode (fnar (fsqrt (FloatKind.f64.encode (.infinity s))))).isNaN = true := by
      intro s; cases s
      · left; decide +kernel
      · right; decide +kernel
    rcases this s with h | h <;> intro he <;> rw [he] at h <;> cases h
theorem NF_long {v : V3} (h : NF v.x ∨ NF v.y ∨ NF v.z) : NF (longF v) := by
  unfold longF innerF
  refine NF_root ?_
  rcases h with h | h | h
  · exact NF_add_l _ (NF_add_l _ (NF_sq h))
  · exact NF_add_l _ (NF_add_r _ (NF_sq h))
  · exact NF_add_r _ (NF_sq h)
theorem finF_num {x : Nat} (h : finF x = true) : ∃ s m e, FloatKind.f32.decode x = .number s m e := by
  cases hx : FloatKind.f32.decode x with
  | number s m e => exact ⟨s, m, e, rfl⟩
  | nan s t =>
    have hn : isN .f32 x = true := by simp [isN, hx, Datum.isNaN]
    have hq : fop .sub .f32 x x = qn .f32 := by unfold fop; rw [fraw_nan_l _ hn]; rfl
    unfold finF at h
    rw [hq, ford_nan_l _ (isN_qn _)] at h; cases h
  | infinity s =>
    have hq : fop .sub .f32 x x = qn .f32 := by
      unfold fop fraw Format.sub
      simp only [dec32, hx, Datum.opposite, Datum.sum]
      cases s <;> rfl
    unfold finF at h
    rw [hq, ford_nan_l _ (isN_qn _)] at h; cases h
theorem mul_notN {x y : Nat} {s m e} {t n j} (hx : FloatKind.f32.decode x = .number s m e) (hy : FloatKind.f32.decode y = .number t n j) : isN .f32 (fop .mul .f32 x y) = false := by
  have : ∃ r, fraw .mul .f32 x y = some r := by
    unfold fraw Format.mul; simp only [dec32, hx, hy, Datum.product]; exact ⟨_, rfl⟩
  obtain ⟨r, hr⟩ := this
  unfold fop; rw [hr]; exact fraw_num hr

/-- the vector of length 1 -/
def unitF (v : V3) : V3 :=
  if fcmp .eql (ford .f32 (longF v) (cf .f32 0)) || !(finF (longF v) && finF (fop .quo .f32 (cf .f32 1065353216) (longF v))) then zV else vscale v (fop .quo .f32 (cf .f32 1065353216) (longF v))
def crossF (a b : V3) : V3 :=
  ⟨fop .sub .f32 (fop .mul .f32 a.y b.z) (fop .mul .f32 a.z b.y), fop .sub .f32 (fop .mul .f32 a.z b.x) (fop .mul .f32 a.x b.z), fop .sub .f32 (fop .mul .f32 a.x b.y) (fop .mul .f32 a.y b.x)⟩
def zeroV (v : V3) : Bool := fcmp .eql (ford .f32 v.x (cf .f32 0)) && fcmp .eql (ford .f32 v.y (cf .f32 0)) && fcmp .eql (ford .f32 v.z (cf .f32 0))
def numF (x : Nat) : Bool := fcmp .eql (ford .f32 x x)
def someV (v : V3) : Bool := numF v.x && numF v.y && numF v.z && (fcmp .neq (ford .f32 v.x (cf .f32 0)) || fcmp .neq (ford .f32 v.y (cf .f32 0)) || fcmp .neq (ford .f32 v.z (cf .f32 0)))
theorem any2_finF (x y : Nat) : (!([x, y].any (fun x => !finF x))) = (finF x && finF y) := by simp [List.any_cons]
theorem unit_zero2 {v : V3} (h : (fcmp .eql (ford .f32 (longF v) (cf .f32 0)) || !(finF (longF v) && finF (fop .quo .f32 (cf .f32 1065353216) (longF v)))) = true) : unitF v = zV := by
  unfold unitF; rw [if_pos h]
theorem unit_by2 {v : V3} (h : (fcmp .eql (ford .f32 (longF v) (cf .f32 0)) || !(finF (longF v) && finF (fop .quo .f32 (cf .f32 1065353216) (longF v)))) = false) : unitF v = vscale v (fop .quo .f32 (cf .f32 1065353216) (longF v)) := by
  unfold unitF; rw [if_neg (by rw [h]; decide)]
theorem unit_zero1 {v : V3} (h : (fcmp .eql (ford .f32 (longF v) (cf .f32 0)) || !finF (longF v) || !finF (fop .quo .f32 (cf .f32 1065353216) (longF v))) = true) : unitF v = zV :=
  unit_zero2 (by rw [Bool.not_and, ← Bool.or_assoc]; exact h)
theorem unit_by1 {v : V3} (h : (fcmp .eql (ford .f32 (longF v) (cf .f32 0)) || !finF (longF v) || !finF (fop .quo .f32 (cf .f32 1065353216) (longF v))) = false) : unitF v = vscale v (fop .quo .f32 (cf .f32 1065353216) (longF v)) :=
  unit_by2 (by rw [Bool.not_and, ← Bool.or_assoc]; exact h)
theorem neq_not (o : Option Ordering) : fcmp .neq o = !fcmp .eql o := rfl
theorem ord_self {d : Datum} (h : d.isNaN = false) : d.order d = some .eq := by
  cases d with
  | nan s t => simp [Datum.isNaN] at h
  | infinity s => cases s <;> rfl
  | number s m e => simp [Datum.order]
theorem numF_of {x : Nat} (h : isN .f32 x = false) : numF x = true := by
  unfold numF ford Format.order; rw [dec32, ord_self h]; rfl
theorem unit_notN (v : V3) : isN .f32 (unitF v).x = false ∧ isN .f32 (unitF v).y = false ∧ isN .f32 (unitF v).z = false := by
  unfold unitF
  split
  · exact ⟨by decide +kernel, by decide +kernel, by decide +kernel⟩
  · rename_i h
    simp only [Bool.or_eq_true, Bool.not_eq_true', not_or, Bool.not_eq_false, Bool.and_eq_true] at h
    obtain ⟨_, h1, h2⟩ := h
    obtain ⟨s, m, e, hl⟩ := finF_num h1
    obtain ⟨t, n, j, hb⟩ := finF_num h2
    have hnum : ∀ x, ¬ NF x → ∃ s m e, FloatKind.f32.decode x = .number s m e := fun x hx => by
      cases hd : FloatKind.f32.decode x with
      | number s m e => exact ⟨s, m, e, rfl⟩
      | nan s t => exact absurd (fun s m e he => by rw [hd] at he; cases he) hx
      | infinity s => exact absurd (fun s m e he => by rw [hd] at he; cases he) hx
    have hno : ∀ {P : Prop}, (P → NF (longF v)) → ¬ P := fun hp p => hp p s m e hl
    obtain ⟨_, _, _, hx⟩ := hnum v.x (hno fun p => NF_long (.inl p))
    obtain ⟨_, _, _, hy⟩ := hnum v.y (hno fun p => NF_long (.inr (.inl p)))
    obtain ⟨_, _, _, hz⟩ := hnum v.z (hno fun p => NF_long (.inr (.inr p)))
    exact ⟨mul_notN hx hb, mul_notN hy hb, mul_notN hz hb⟩
theorem some_unit (v : V3) : someV (unitF v) = !zeroV (unitF v) := by
  obtain ⟨h1, h2, h3⟩ := unit_notN v
  unfold someV zeroV
  rw [numF_of h1, numF_of h2, numF_of h3, neq_not, neq_not, neq_not]
  simp [Bool.not_and]

/-! cameras -/
def fwdC (c : CamT) : V3 := unitF (vsub c.to c.frm)
def rgtC (c : CamT) : V3 := unitF (crossF (fwdC c) ⟨cf .f32 0, cf .f32 1065353216, cf .f32 0⟩)
def upC (c : CamT) : V3 := crossF (rgtC c) (fwdC c)
def isCam (c : CamT) : Bool := inI c.width 1 12 && inI c.height 1 12 && (finF c.wide && posF c.wide) && finV c.frm && finV c.to && (someV (fwdC c) && someV (rgtC c))
theorem some_fwd (c : CamT) : someV (fwdC c) = !zeroV (fwdC c) := some_unit _
theorem some_rgt (c : CamT) : someV (rgtC c) = !zeroV (rgtC c) := some_unit _
theorem isCam_f {c : CamT} (h : (!inI c.width 1 12 || !inI c.height 1 12 || !(finF c.wide && posF c.wide) || !finV c.frm || !finV c.to) = true) : isCam c = false := by
  unfold isCam
  generalize inI c.width 1 12 = a at *; generalize inI c.height 1 12 = b at *; generalize (finF c.wide && posF c.wide) = d at *; generalize finV c.frm = e at *; generalize finV c.to = f at *; generalize (someV (fwdC c) && someV (rgtC c)) = g
  revert a b d e f g; decide
theorem isCam_t {c : CamT} (h : (!inI c.width 1 12 || !inI c.height 1 12 || !(finF c.wide && posF c.wide) || !finV c.frm || !finV c.to) = false) : isCam c = (someV (fwdC c) && someV (rgtC c)) := by
  unfold isCam
  generalize inI c.width 1 12 = a at *; generalize inI c.height 1 12 = b at *; generalize (finF c.wide && posF c.wide) = d at *; generalize finV c.frm = e at *; generalize finV c.to = f at *; generalize (someV (fwdC c) && someV (rgtC c)) = g
  revert a b d e f g; decide
def gvA {α : Type} (z : α) (c : Bool) (x : α) : α := if c then x else z
theorem gvA_t {α : Type} (z x : α) : gvA z true x = x := rfl
theorem gvA_f {α : Type} (z x : α) : gvA z false x = z := rfl
def zRay : RayT := ⟨zV, zV⟩
def hasPx (c : CamT) (x y : Int) : Bool := inI x 0 (IntKind.i64.wrap (c.width - 1)) && inI y 0 (IntKind.i64.wrap (c.height - 1))
def camPx (c : CamT) (x y : Int) : Bool := isCam c && hasPx c x y
theorem camPx_f' {c : CamT} {x y : Int} (h : isCam c = false ∨ hasPx c x y = false) : (isCam c && hasPx c x y) = false := by rcases h with h | h <;> simp [h]
theorem camPx_f {c : CamT} {x y : Int} (h : isCam c = false ∨ hasPx c x y = false) : camPx c x y = false := camPx_f' h
theorem camPx_t {c : CamT} {x y : Int} (h : isCam c = true ∧ hasPx c x y = true) : camPx c x y = true := by simp [camPx, h.1, h.2]
def tileIn (c : CamT) (t : TileT) : Bool := hasPx c t.x t.y && inI t.width 1 (IntKind.i64.wrap (c.width - t.x)) && inI t.height 1 (IntKind.i64.wrap (c.height - t.y))
def shareF (x n : Int) : Nat := fop .mul .f32 (fop .quo .f32 (fop .add .f32 (nrF x) (cf .f32 1056964608)) (nrF n)) (cf .f32 1073741824)
def uC (c : CamT) (x : Int) : Nat := fop .mul .f32 (fop .mul .f32 (fop .sub .f32 (shareF x c.width) (cf .f32 1065353216)) c.wide) (fop .quo .f32 (nrF c.width) (nrF c.height))
def vC (c : CamT) (y : Int) : Nat := fop .mul .f32 (fop .sub .f32 (cf .f32 1065353216) (shareF y c.height)) c.wide
def rayC (c : CamT) (x y : Int) : RayT := ⟨c.frm, vadd (vadd (fwdC c) (vscale (rgtC c) (uC c x))) (vscale (upC c) (vC c y))⟩
def sameRay (a b : RayT) : Bool := sameV a.frm b.frm && sameV a.way b.way
theorem sameRay_self (a : RayT) : sameRay a a = true := by simp [sameRay, sameV_self]

/-! boxes around points; balls -/
def AllTo {α : Type} (p : α → Bool) (xs : List α) (k : Nat) : Prop := ∀ (j : Nat), j < k → ∀ x, xs[j]? = some x → p x = true
theorem AllTo.zero {α : Type} {p : α → Bool} {xs : List α} : AllTo p xs 0 := fun j hj => by omega
theorem AllTo.step {α : Type} {p : α → Bool} {xs : List α} {k : Nat} (h : AllTo p xs k) {x : α} (hx : xs[k]? = some x) (hp : p x = true) : AllTo p xs (k + 1) := fun j hj y hy => by
  rcases Nat.lt_or_ge j k with h1 | h1
  · exact h j h1 y hy
  · have : j = k := by omega
    subst this; rw [hx] at hy; cases hy; exact hp
theorem AllTo.all {α : Type} {p : α → Bool} {xs : List α} {k : Nat} (h : AllTo p xs k) (hk : xs.length ≤ k) : xs.all p = true := by
  rw [List.all_eq_true]; intro x hx
  obtain ⟨j, hj⟩ := List.getElem?_of_mem hx
  exact h j (by have := (List.getElem?_eq_some_iff.1 hj).1; omega) x hj
theorem all_bad {α : Type} {p : α → Bool} {xs : List α} {k : Nat} {x : α} (hx : xs[k]? = some x) (hp : p x = false) : xs.all p = false := by
  cases h : xs.all p with
  | false => rfl
  | true => rw [List.all_eq_true] at h; rw [h x (List.mem_of_getElem? hx)] at hp; cases hp
def boxTo (xs : List V3) : Nat → Bx
  | 0 => ⟨(xs[0]?).getD zV, (xs[0]?).getD zV⟩
  | k + 1 => ⟨vmin (boxTo xs k).lo ((xs[k]?).getD zV), vmax (boxTo xs k).hi ((xs[k]?).getD zV)⟩
theorem boxTo_zero {xs : List V3} {x : V3} (h : xs[0]? = some x) : boxTo xs 0 = ⟨x, x⟩ := by simp [boxTo, h]
theorem boxTo_succ {xs : List V3} {k : Nat} {x : V3} (h : xs[k]? = some x) : boxTo xs (k + 1) = ⟨vmin (boxTo xs k).lo x, vmax (boxTo xs k).hi x⟩ := by simp [boxTo, h]
def bxOk (xs : List V3) : Bool := icmp .geq (xs.length : Int) 1 && icmp .leq (xs.length : Int) 256 && xs.all finV
theorem bxOk_len {xs : List V3} (h : inI (xs.length : Int) 1 256 = false) : bxOk xs = false := by
  unfold bxOk; unfold inI at h; rw [h]; rfl
theorem bxOk_len2 {xs : List V3} (h : (icmp .lss (xs.length : Int) 1 || icmp .gtr (xs.length : Int) 256) = true) : bxOk xs = false := by
  simp only [icmp, Bool.or_eq_true, decide_eq_true_eq] at h
  simp only [bxOk, icmp, Bool.and_eq_false_iff, decide_eq_false_iff_not]; left; omega
theorem bxOk_bad {xs : List V3} {k : Nat} {x : V3} (hx : xs[k]? = some x) (hp : finV x = false) : bxOk xs = false := by simp [bxOk, all_bad hx hp]
theorem bxOk_ok {xs : List V3} {k : Nat} (h1 : 1 ≤ (xs.length : Int) ∧ (xs.length : Int) ≤ 256) (h : AllTo finV xs k) (hk : ¬ (k : Int) < xs.length) : bxOk xs = true := by
  simp [bxOk, icmp, h.all (by omega)]; omega

theorem bxOk_ok1 {xs : List V3} {k : Nat} (h1 : inI (xs.length : Int) 1 256 = true) (h : AllTo finV xs k) (hk : ¬ (k : Int) < xs.length) : bxOk xs = true := bxOk_ok (inI_iff.1 h1) h hk
theorem bxOk_ok2 {xs : List V3} {k : Nat} (h1 : (icmp .lss (xs.length : Int) 1 || icmp .gtr (xs.length : Int) 256) = false) (h : AllTo finV xs k) (hk : ¬ (k : Int) < xs.length) : bxOk xs = true := by
  refine bxOk_ok ?_ h hk
  simp only [icmp, Bool.or_eq_false_iff, decide_eq_false_iff_not] at h1; omega
def ovF (c : List V3) (r : List Nat) (i k : Nat) : Nat := fop .sub .f32 (fop .add .f32 ((r[i]?).getD 0) ((r[k]?).getD 0)) (longF (vsub ((c[k]?).getD zV) ((c[i]?).getD zV)))
def badR (x : Nat) : Bool := !finF x || negF x
def okBalls (c : List V3) (r : List Nat) : Bool := icmp .geq (c.length : Int) 1 && icmp .leq (c.length : Int) 16 && icmp .eql (r.length : Int) c.length && !r.any badR
theorem okBalls_len {c : List V3} {r : List Nat} (h : okBalls c r = true) : 1 ≤ c.length ∧ c.length ≤ 16 ∧ r.length = c.length := by
  simp only [okBalls, icmp, Bool.and_eq_true, decide_eq_true_eq, beq_iff_eq] at h; omega
theorem okBalls_f {c : List V3} {r : List Nat} (h : (icmp .lss (c.length : Int) 1 || icmp .gtr (c.length : Int) 16 || icmp .neq (r.length : Int) c.length) = true) : okBalls c r = false := by
  simp only [icmp, Bool.or_eq_true, decide_eq_true_eq, bne_iff_ne] at h
  simp only [okBalls, icmp, Bool.and_eq_false_iff, decide_eq_false_iff_not, beq_eq_false_iff_ne]; left; omega
theorem okBalls_bad {c : List V3} {r : List Nat} {k x : Nat} (hx : r[k]? = some x) (hp : badR x = true) : okBalls c r = false := by
  have : r.any badR = true := List.any_eq_true.2 ⟨x, List.mem_of_getElem? hx, hp⟩
  simp [okBalls, this]
theorem okBalls_ok {c : List V3} {r : List Nat} {k : Nat} (h : (icmp .lss (c.length : Int) 1 || icmp .gtr (c.length : Int) 16 || icmp .neq (r.length : Int) c.length) = false) (ha : AllTo (fun x => !badR x) r k) (hk : ¬ (k : Int) < r.length) : okBalls c r = true := by
  have h2 := ha.all (by omega)
  have h3 : (!r.any badR) = true := by
    rw [List.all_eq_true] at h2
    rw [Bool.not_eq_true', List.any_eq_false]
    intro x hx; have := h2 x hx; simpa using this
  simp only [icmp, Bool.or_eq_false_iff, decide_eq_false_iff_not, bne_eq_false_iff_eq] at h
  simp only [okBalls, icmp, Bool.and_eq_true, decide_eq_true_eq, beq_iff_eq, h3, and_true]; omega
/-- the pairs with i, up to j -/
def rowP (i : Nat) : Nat → List (Int × Int)
  | 0 => []
  | j + 1 => if j ≤ i then [] else rowP i j ++ [((i : Int), (j : Int))]
def pairsTo (n : Nat) : Nat → List (Int × Int)
  | 0 => []
  | i + 1 => pairsTo n i ++ rowP i n
theorem rowP_le {i j : Nat} (h : j ≤ i + 1) : rowP i j = [] := by
  cases j with
  | zero => rfl
  | succ j => simp [rowP, show j ≤ i by omega]
theorem rowP_succ {i j : Nat} (h : i < j) : rowP i (j + 1) = rowP i j ++ [((i : Int), (j : Int))] := by simp [rowP, show ¬ j ≤ i by omega]
theorem rowP_len (i : Nat) : ∀ j, (rowP i j).length ≤ j
  | 0 => by simp [rowP]
  | j + 1 => by
    have := rowP_len i j
    unfold rowP; split
    · simp
    · simp; omega
theorem pairsTo_len (n : Nat) (hn : n ≤ 16) : ∀ i, (pairsTo n i).length ≤ 16 * i
  | 0 => by simp [pairsTo]
  | i + 1 => by
    have h1 := pairsTo_len n hn i
    have h2 := rowP_len i n
    simp [pairsTo]; omega
theorem rowP_mem {i : Nat} {p : Int × Int} : ∀ {j : Nat}, p ∈ rowP i j → p.1 = i ∧ (i : Int) < p.2 ∧ p.2 < j
  | 0, h => by simp [rowP] at h
  | j + 1, h => by
    unfold rowP at h
    split at h
    · cases h
    · rcases List.mem_append.1 h with h | h
      · have := rowP_mem h; omega
      · simp at h; subst h; simp; omega
theorem pairsTo_mem {n : Nat} {p : Int × Int} : ∀ {i : Nat}, i ≤ n → p ∈ pairsTo n i → 0 ≤ p.1 ∧ p.1 < p.2 ∧ p.2 < n
  | 0, _, h => by simp [pairsTo] at h
  | i + 1, hi, h => by
    rcases List.mem_append.1 h with h | h
    · exact pairsTo_mem (by omega) h
    · have := rowP_mem h; omega
/-- the greatest overlap of these pairs -/
def ovL (c : List V3) (r : List Nat) (ps : List (Int × Int)) : Nat := ps.foldl (fun m p => fmaxG m (ovF c r p.1.toNat p.2.toNat)) (cf .f32 0)
theorem ovL_nil (c : List V3) (r : List Nat) : ovL c r [] = cf .f32 0 := rfl
theorem ovL_snoc (c : List V3) (r : List Nat) (ps : List (Int × Int)) (p : Int × Int) : ovL c r (ps ++ [p]) = fmaxG (ovL c r ps) (ovF c r p.1.toNat p.2.toNat) := by simp [ovL]
theorem ovL_take {c : List V3} {r : List Nat} {ps : List (Int × Int)} {k : Nat} {p : Int × Int} (h : ps[k]? = some p) : ovL c r (ps.take (k + 1)) = fmaxG (ovL c r (ps.take k)) (ovF c r p.1.toNat p.2.toNat) := by
  rw [List.take_add_one, h]; exact ovL_snoc _ _ _ _
def mostO (c : List V3) (r : List Nat) : Nat := ovL c r (pairsTo c.length c.length)
/-! lists that are told alike -/
def sameX {α : Type} (f : α → α → Bool) : List α → List α → Bool
  | [], [] => true
  | x :: xs, y :: ys => f x y && sameX f xs ys
  | _, _ => false
theorem sameX_self {α : Type} {f : α → α → Bool} (hf : ∀ x, f x x = true) : ∀ l : List α, sameX f l l = true
  | [] => rfl
  | x :: l => by simp [sameX, hf, sameX_self hf l]
theorem sameX_iff {α : Type} {f : α → α → Bool} : ∀ (a b : List α), a.length = b.length → (sameX f a b = true ↔ ∀ (i : Nat) (x y : α), a[i]? = some x → b[i]? = some y → f x y = true)
  | [], [], _ => by simp [sameX]
  | x :: a, y :: b, h => by
    simp only [sameX, Bool.and_eq_true, sameX_iff a b (by simpa using h)]
    constructor
    · intro ⟨h1, h2⟩ i p q hp hq
      cases i with
      | zero => cases hp; cases hq; exact h1
      | succ i => exact h2 i p q hp hq
    · intro h
      exact ⟨h 0 x y rfl rfl, fun i p q hp hq => h (i + 1) p q hp hq⟩
theorem sameX_len {α : Type} {f : α → α → Bool} : ∀ {a b : List α}, a.length ≠ b.length → sameX f a b = false
  | [], [], h => absurd rfl h
  | [], _ :: _, _ => rfl
  | _ :: _, [], _ => rfl
  | x :: a, y :: b, h => by simp [sameX, sameX_len (f := f) (a := a) (b := b) (by simpa using h)]
def SameXTo {α : Type} (f : α → α → Bool) (a b : List α) (k : Nat) : Prop := ∀ (i : Nat), i < k → ∀ (x y : α), a[i]? = some x → b[i]? = some y → f x y = true
theorem SameXTo.zero {α : Type} {f : α → α → Bool} {a b : List α} : SameXTo f a b 0 := fun i hi => by omega
theorem SameXTo.step {α : Type} {f : α → α → Bool} {a b : List α} {k : Nat} (h : SameXTo f a b k) {x y : α} (hx : a[k]? = some x) (hy : b[k]? = some y) (hs : f x y = true) : SameXTo f a b (k + 1) := fun i hi p q hp hq => by
  rcases Nat.lt_or_ge i k with h1 | h1
  · exact h i h1 p q hp hq
  · have : i = k := by omega
    subst this; rw [hx] at hp; rw [hy] at hq; cases hp; cases hq; exact hs
theorem sameX_all {α : Type} {f : α → α → Bool} {a b : List α} {k : Nat} (hl : a.length = b.length) (hk : a.length ≤ k) (h : SameXTo f a b k) : sameX f a b = true :=
  (sameX_iff a b hl).2 fun i x y hx hy => h i (by have := (List.getElem?_eq_some_iff.1 hx).1; omega) x y hx hy
theorem sameX_not {α : Type} {f : α → α → Bool} {a b : List α} {k : Nat} (hl : a.length = b.length) {x y : α} (hx : a[k]? = some x) (hy : b[k]? = some y) (h : f x y = false) : sameX f a b = false := by
  cases hs : sameX f a b with
  | false => rfl
  | true => have := (sameX_iff a b hl).1 hs k x y hx hy; rw [this] at h; cases h
theorem sameX_selfV (l : List V3) : sameX sameV l l = true := sameX_self sameV_self l
/-! neighbours in a grid -/
def nbPart (g : GridT) (i : Int) : Nat → List Int
  | 0 => if 0 < i / g.x / g.y then [i - g.x * g.y] else []
  | 1 => if 0 < i / g.x % g.y then [i - g.x] else []
  | 2 => if 0 < i % g.x then [i - 1] else []
  | 3 => if i % g.x < g.x - 1 then [i + 1] else []
  | 4 => if i / g.x % g.y < g.y - 1 then [i + g.x] else []
  | _ => if i / g.x / g.y < g.z - 1 then [i + g.x * g.y] else []
def nbK (g : GridT) (i : Int) : Nat → List Int
  | 0 => []
  | k + 1 => nbK g i k ++ nbPart g i k
theorem nb_t {g : GridT} {i : Int} {k : Nat} {l : List Int} (h : nbPart g i k = l) : nbK g i k ++ l = nbK g i (k + 1) := by rw [nbK, h]
theorem nb_t0 {g : GridT} {i : Int} {l : List Int} (h : nbPart g i 0 = l) : l = nbK g i 1 := by rw [nbK, nbK, h]; rfl
theorem nb_f0 {g : GridT} {i : Int} (h : nbPart g i 0 = []) : [] = nbK g i 1 := by rw [nbK, nbK, h]; rfl
theorem nb_f {g : GridT} {i : Int} {k : Nat} (h : nbPart g i k = []) : nbK g i k = nbK g i (k + 1) := by rw [nbK, h, List.append_nil]
theorem nbPart_len (g : GridT) (i : Int) (k : Nat) : (nbPart g i k).length ≤ 1 := by
  unfold nbPart; split <;> split <;> simp
theorem nbK_len (g : GridT) (i : Int) : ∀ k, (nbK g i k).length ≤ k
  | 0 => by simp [nbK]
  | k + 1 => by have h1 := nbK_len g i k; have h2 := nbPart_len g i k; simp [nbK]; omega
def nb (g : GridT) (i : Int) : List Int := nbK g i 6
/-- what is known of a point with an index -/
theorem nb_pre {g : GridT} {i : Int} (h : isGrid g = true) (hi : 0 ≤ i ∧ i < g.vals.length) :
    (1 ≤ g.x ∧ g.x ≤ 16) ∧ (1 ≤ g.y ∧ g.y ≤ 16) ∧ (1 ≤ g.z ∧ g.z ≤ 16) ∧ (1 ≤ g.x * g.y ∧ g.x * g.y ≤ 256) ∧ i ≤ 1024 ∧ (0 ≤ i / g.x ∧ i / g.x ≤ i) ∧ (0 ≤ i / g.x / g.y ∧ i / g.x / g.y ≤ i) ∧ (0 ≤ i % g.x ∧ i % g.x < g.x) ∧ (0 ≤ i / g.x % g.y ∧ i / g.x % g.y < g.y) := by
  obtain ⟨hx, hy, hz, hl, hm⟩ := isGrid_cnt h
  have h1 := Int.ediv_nonneg hi.1 (show 0 ≤ g.x by omega)
  have h2 := Int.ediv_nonneg h1 (show 0 ≤ g.y by omega)
  have h3 := Int.ediv_le_self g.x hi.1
  have h4 := Int.ediv_le_self g.y h1
  have h5 := mul_lt_16 hx.1 hx.2 (show 0 ≤ g.y by omega) hy.2
  have h6 : 1 * 1 ≤ g.x * g.y := Int.mul_le_mul hx.1 hy.1 (by omega) (by omega)
  refine ⟨hx, hy, hz, ⟨by omega, by omega⟩, by omega, ⟨h1, h3⟩, ⟨h2, by omega⟩, ⟨Int.emod_nonneg _ (by omega), Int.emod_lt_of_pos _ (by omega)⟩, ⟨Int.emod_nonneg _ (by omega), Int.emod_lt_of_pos _ (by omega)⟩⟩
end Go.Proofs.Ytlfpeihlfmdmdaa
