/- meshes of grids: edges of quarters of cells, numbered as they come up -/
import Derived.Test.YtjopopmipdakkaaEdg
import Derived.Test.YtjopopmipdakkaaFlp
namespace Go.Proofs.Ytjopopmipdakkaa
open Go Go.RowKit
structure QuaT where
  a : Int
  b : Int
  c : Int
  d : Int
  t : Bool
def RQuaT : Rel QuaT := fun _ x cs => cs = [Iv x.a, Iv x.b, Iv x.c, Iv x.d, Bo x.t]
structure I6T where
  a : Int
  b : Int
  c : Int
  d : Int
  e : Int
  f : Int
def RI6T : Rel I6T := fun _ x cs => cs = [Iv x.a, Iv x.b, Iv x.c, Iv x.d, Iv x.e, Iv x.f]
def RBo : Rel Bool := fun _ x cs => cs = [Bo x]
theorem RBo.mono : Mono RBo := fun _ _ _ _ _ h => h
theorem RBo.flat : Flat RBo := fun _ _ _ _ h => h
theorem and1 (p : Int) : IntKind.i64.wrap ((BitVec.ofInt 64 p &&& BitVec.ofInt 64 1).toNat : Nat) = p % 2 := by
  have h1 : (BitVec.ofInt 64 p &&& BitVec.ofInt 64 1).toNat = (p % 2).toNat := by
    rw [BitVec.toNat_and]
    have h2 : (BitVec.ofInt 64 1).toNat = 2 ^ 1 - 1 := by decide
    rw [h2, Nat.and_two_pow_sub_one_eq_mod, BitVec.toNat_ofInt]
    omega
  rw [h1]
  simp [IntKind.wrap, IntKind.bits, IntKind.signed]; omega
section
variable {P : Program} {a : Act} {w : World} {dst : Option Tmp} {ty : TypeId} {pos : String} {af : Array Edge} {g : Option (Nat × Bool)}
theorem does_shr {t t' : TypeId} {x y : Operand} {p c : Int} {k : IntKind} (hx : a.eval x = .int .i64 p) (hy : a.eval y = .int k c) (h0 : 0 ≤ c) (h1 : c ≤ 64) :
    does P ⟨dst, .binOp .shr t x y t', ty, pos, af, g⟩ a w (Is (.int .i64 (p / 2 ^ c.toNat)) w) := does_run (by
  have hm : min c.toNat IntKind.i64.bits = c.toNat := by show min c.toNat 64 = c.toNat; omega
  simp only [execOp, hx, hy, eqGuard, binOp, shift_shr_any _ _ _ _ h0, hm]
  simp)
theorem does_and1 {t t' : TypeId} {x y : Operand} {p : Int} (hx : a.eval x = .int .i64 p) (hy : a.eval y = .int .i64 1) :
    does P ⟨dst, .binOp .and t x y t', ty, pos, af, g⟩ a w (Is (.int .i64 (p % 2)) w) := does_run (by
  have h := and1 p
  have hb : ∀ u, (Op.intBits .and .i64 p 1).run P u = .ok (.int .i64 (p % 2)) u := fun u => by
    have : Op.intBits .and .i64 p 1 = pure (.int .i64 (IntKind.i64.wrap ((BitVec.ofInt 64 p &&& BitVec.ofInt 64 1).toNat : Nat))) := rfl
    rw [this, h]; rfl
  simp [execOp, hx, hy, eqGuard, binOp, hb])
end
def numK : List Int → Int → Int
  | [], _ => -1
  | q :: l, p => if q = p then 0 else if numK l p < 0 then -1 else numK l p + 1
def addK (ks : List Int) (p : Int) : List Int := if numK ks p < 0 then ks ++ [p] else ks
section
variable {ks K : List Int} {p q : Int}
theorem numK_lt : ∀ (ks : List Int) (p : Int), -1 ≤ numK ks p ∧ numK ks p < ks.length
  | [], _ => by simp [numK]
  | q :: l, p => by
    have := numK_lt l p
    unfold numK
    simp only [List.length_cons]
    split
    · omega
    · split <;> omega
theorem numK_mem : ∀ {ks : List Int} {p : Int}, 0 ≤ numK ks p ↔ p ∈ ks
  | [], p => by simp [numK]
  | q :: l, p => by
    have h := numK_mem (ks := l) (p := p)
    unfold numK
    rw [List.mem_cons]
    by_cases e : q = p
    · rw [if_pos e]; exact ⟨fun _ => .inl e.symm, fun _ => Int.le_refl _⟩
    · rw [if_neg e]
      split
      · rename_i h1
        exact ⟨fun h2 => absurd h2 (by omega), fun h2 => h2.elim (fun h3 => absurd h3.symm e) fun h3 => absurd (h.2 h3) (by omega)⟩
      · rename_i h1
        exact ⟨fun _ => .inr (h.1 (by omega)), fun _ => by omega⟩
theorem numK_at : ∀ {ks : List Int} {p : Int}, 0 ≤ numK ks p → ks[(numK ks p).toNat]? = some p
  | [], p, h => by simp [numK] at h
  | q :: l, p, h => by
    have ih := numK_at (ks := l) (p := p)
    unfold numK at h ⊢
    by_cases e : q = p
    · rw [if_pos e]; simp [e]
    · rw [if_neg e] at h ⊢
      by_cases h1 : numK l p < 0
      · rw [if_pos h1] at h; exact absurd h (by omega)
      · rw [if_neg h1, show (numK l p + 1).toNat = (numK l p).toNat + 1 by omega, List.getElem?_cons_succ]; exact ih (by omega)
theorem numK_inj (h : 0 ≤ numK ks p) (h2 : numK ks p = numK ks q) : p = q := by
  have a := numK_at h
  have b := numK_at (ks := ks) (p := q) (by omega)
  rw [h2, b] at a; exact (Option.some.inj a).symm
theorem numK_app : ∀ (ks : List Int) (p q : Int), numK (ks ++ [p]) q = if 0 ≤ numK ks q then numK ks q else if p = q then (ks.length : Int) else -1
  | [], p, q => by simp [numK]
  | r :: l, p, q => by
    have ih := numK_app l p q
    have hl := numK_lt l q
    show numK (r :: (l ++ [p])) q = _
    unfold numK
    rw [ih]
    simp only [List.length_cons]
    by_cases e : r = q
    · simp [e]
    · simp only [if_neg e]
      generalize numK l q = n at hl
      (repeat' split) <;> omega
theorem addK_num (ks : List Int) (p q : Int) : numK (addK ks p) q = if 0 ≤ numK ks q then numK ks q else if p = q then (ks.length : Int) else -1 := by
  unfold addK
  split
  · exact numK_app ks p q
  · rename_i h
    have := numK_lt ks q
    split
    · rfl
    · rename_i h1
      rw [if_neg (fun e => by subst e; omega)]; omega
theorem addK_keep (h : 0 ≤ numK ks q) : numK (addK ks p) q = numK ks q := by rw [addK_num, if_pos h]
theorem addK_self : numK (addK ks p) p = if 0 ≤ numK ks p then numK ks p else (ks.length : Int) := by rw [addK_num]; simp
theorem addK_new (h : numK ks p < 0) : addK ks p = ks ++ [p] := by unfold addK; rw [if_pos h]
theorem addK_old (h : 0 ≤ numK ks p) : addK ks p = ks := by unfold addK; rw [if_neg (by omega)]
theorem addK_pos : 0 ≤ numK (addK ks p) p := by rw [addK_self]; split <;> omega
theorem addK_mem (h : q ∈ addK ks p) : q ∈ ks ∨ q = p := by
  unfold addK at h
  split at h
  · simpa using h
  · exact .inl h
theorem addK_nodup (h : ks.Nodup) : (addK ks p).Nodup := by
  unfold addK
  split
  · rename_i h1
    rw [List.nodup_append]
    refine ⟨h, by simp, fun a ha b hb e => ?_⟩
    rw [List.mem_singleton] at hb
    subst hb; subst e
    have := numK_mem.2 ha
    omega
  · exact h
def ksA (ks K : List Int) (i : Nat) : List Int := (K.take i).foldl addK ks
theorem ksA_succ {i : Nat} (h : K[i]? = some p) : ksA ks K (i + 1) = addK (ksA ks K i) p := by
  unfold ksA; rw [List.take_add_one, h, Option.toList_some, List.foldl_append]; rfl
theorem foldK_keep : ∀ {K ks : List Int}, 0 ≤ numK ks q → numK (K.foldl addK ks) q = numK ks q
  | [], _, _ => rfl
  | p :: K, ks, h => by rw [List.foldl_cons, foldK_keep (by rw [addK_keep h]; exact h), addK_keep h]
theorem foldK_nodup : ∀ {K ks : List Int}, ks.Nodup → (K.foldl addK ks).Nodup
  | [], _, h => h
  | p :: K, ks, h => by rw [List.foldl_cons]; exact foldK_nodup (addK_nodup h)
theorem foldK_mem : ∀ {K ks : List Int}, q ∈ K.foldl addK ks → q ∈ ks ∨ q ∈ K
  | [], _, h => .inl h
  | p :: K, ks, h => by
    rw [List.foldl_cons] at h
    rcases foldK_mem h with h | h
    · rcases addK_mem h with h | h
      · exact .inl h
      · exact .inr (by simp [h])
    · exact .inr (by simp [h])
def nA (ks K : List Int) (i : Nat) : Int := numK (ksA ks K (i + 1)) (iAt K i)
theorem iAt_some {l : List Int} {i : Nat} {x : Int} (h : l[i]? = some x) : iAt l i = x := by simp [iAt, h]
theorem nA_self {i : Nat} (h : K[i]? = some p) : nA ks K i = numK (addK (ksA ks K i) p) p := by unfold nA; rw [ksA_succ h, iAt_some h]
theorem nA_later {i j : Nat} (hi : i < K.length) (h : i < j) : nA ks K i = numK (ksA ks K j) (iAt K i) := by
  have hK : K[i]? = some (iAt K i) := by unfold iAt; rw [List.getElem?_eq_getElem hi]; rfl
  have h0 : 0 ≤ nA ks K i := by rw [nA_self hK]; exact addK_pos
  unfold nA at h0 ⊢
  have : K.take j = K.take (i + 1) ++ (K.drop (i + 1)).take (j - (i + 1)) := by
    rw [show j = (i + 1) + (j - (i + 1)) by omega, List.take_add]; congr 2; omega
  unfold ksA at h0 ⊢
  rw [this, List.foldl_append, foldK_keep h0]
end
def offC (g : GridT) (c : Int) : Int := c % 2 + g.x * (c / 2 % 2) + g.x * g.y * (c / 4)
def crnI (g : GridT) (x y z c : Int) : Int := idxG g (x + c % 2) (y + c / 2 % 2) (z + c / 4)
def keyE (g : GridT) (x y z p q : Int) : Int := 8 * crnI g x y z p + q - p
def cnQ (q : Nat) : List Int := if q = 0 then [0, 1, 3, 7] else if q = 1 then [0, 1, 5, 7] else if q = 2 then [0, 2, 3, 7] else if q = 3 then [0, 2, 6, 7] else if q = 4 then [0, 4, 5, 7] else [0, 4, 6, 7]
def quaL : List QuaT := [⟨0, 1, 3, 7, false⟩, ⟨0, 1, 5, 7, true⟩, ⟨0, 2, 3, 7, true⟩, ⟨0, 2, 6, 7, false⟩, ⟨0, 4, 5, 7, false⟩, ⟨0, 4, 6, 7, true⟩]
def tuQ (q : Nat) : Bool := decide (q = 1) || decide (q = 2) || decide (5 ≤ q)
def restL (a : Int) : List Int := if a = 0 then [1, 2, 3] else if a = 1 then [0, 3, 2] else if a = 2 then [0, 1, 3] else [0, 2, 1]
def posN (v : Bool) (bs : List Bool) : Nat → List Int
  | 0 => []
  | k + 1 => if bs[k]? = some v then posN v bs k ++ [(k : Int)] else posN v bs k
def edP (i o : List Int) : List (Int × Int) :=
  if i.length = 1 then [(iAt i 0, iAt (restL (iAt i 0)) 0), (iAt i 0, iAt (restL (iAt i 0)) 1), (iAt i 0, iAt (restL (iAt i 0)) 2)]
  else if i.length = 3 then [(iAt o 0, iAt (restL (iAt o 0)) 0), (iAt o 0, iAt (restL (iAt o 0)) 2), (iAt o 0, iAt (restL (iAt o 0)) 1)]
  else if i.length = 2 then
    if (iAt i 0 = 0 ∧ iAt i 1 = 2) ∨ (iAt i 0 = 1 ∧ iAt i 1 = 3) then [(iAt i 0, iAt o 1), (iAt i 0, iAt o 0), (iAt i 1, iAt o 0), (iAt i 0, iAt o 1), (iAt i 1, iAt o 0), (iAt i 1, iAt o 1)]
    else [(iAt i 0, iAt o 0), (iAt i 0, iAt o 1), (iAt i 1, iAt o 1), (iAt i 0, iAt o 0), (iAt i 1, iAt o 1), (iAt i 1, iAt o 0)]
  else []
def edB (bs : List Bool) : List (Int × Int) := edP (posN true bs 4) (posN false bs 4)
def pAt (l : List (Int × Int)) (i : Nat) : Int × Int := (l[i]?).getD (0, 0)
def grp (E : List (Int × Int)) : List I6T := (List.range (E.length / 3)).map fun j => ⟨(pAt E (3 * j)).1, (pAt E (3 * j)).2, (pAt E (3 * j + 1)).1, (pAt E (3 * j + 1)).2, (pAt E (3 * j + 2)).1, (pAt E (3 * j + 2)).2⟩
def inQ (g : GridT) (x y z : Int) (q : Nat) : List Bool := (cnQ q).map fun c => negAt g (crnI g x y z c)
def keyQ (g : GridT) (x y z : Int) (q : Nat) (e : Int × Int) : Int :=
  keyE g x y z (min (iAt (cnQ q) e.1.toNat) (iAt (cnQ q) e.2.toNat)) (max (iAt (cnQ q) e.1.toNat) (iAt (cnQ q) e.2.toNat))
def edQu (g : GridT) (x y z : Int) (q : Nat) : List (Int × Int) := edB (inQ g x y z q)
def keysQ (g : GridT) (x y z : Int) (q : Nat) : List Int := (edQu g x y z q).map (keyQ g x y z q)
def trA (ks K : List Int) (tu : Bool) (j : Nat) : List Int := if tu then [nA ks K (3 * j), nA ks K (3 * j + 2), nA ks K (3 * j + 1)] else [nA ks K (3 * j), nA ks K (3 * j + 1), nA ks K (3 * j + 2)]
def trsA (ks K : List Int) (tu : Bool) (n : Nat) : List (List Int) := (List.range n).map (trA ks K tu)
theorem trsA_succ (ks K : List Int) (tu : Bool) (n : Nat) : trsA ks K tu n ++ [trA ks K tu n] = trsA ks K tu (n + 1) := by unfold trsA; rw [List.range_succ, List.map_append]; rfl
abbrev MshS := List Int × List (List Int)
def quaS (g : GridT) (x y z : Int) (q : Nat) (s : MshS) : MshS := (ksA s.1 (keysQ g x y z q) (keysQ g x y z q).length, s.2 ++ trsA s.1 (keysQ g x y z q) (tuQ q) ((keysQ g x y z q).length / 3))
def celS (g : GridT) (x y z : Int) (s : MshS) : Nat → MshS
  | 0 => s
  | q + 1 => quaS g x y z q (celS g x y z s q)
def isCel (g : GridT) (x y z : Int) : Bool := decide (x + 1 < g.x) && decide (y + 1 < g.y) && decide (z + 1 < g.z)
def xI (g : GridT) (i : Int) : Int := i % g.x
def yI (g : GridT) (i : Int) : Int := i / g.x % g.y
def zI (g : GridT) (i : Int) : Int := i / g.x / g.y
def mshS (g : GridT) : Nat → MshS
  | 0 => ([], [])
  | k + 1 => if isCel g (xI g k) (yI g k) (zI g k) then celS g (xI g k) (yI g k) (zI g k) (mshS g k) 6 else mshS g k
def atG (g : GridT) (i : Int) : V3 := ptG g.low g.step (xI g i) (yI g i) (zI g i)
def vlG (g : GridT) (i : Int) : Nat := (g.vals[i.toNat]?).getD 0
def btwV (a b : V3) (t : Nat) : V3 := vadd a (vscale (vsub b a) t)
def plK (g : GridT) (k : Int) : V3 := btwV (atG g (k / 8)) (atG g (k / 8 + offC g (k % 8))) (fop .quo .f32 (vlG g (k / 8)) (fop .sub .f32 (vlG g (k / 8)) (vlG g (k / 8 + offC g (k % 8)))))
end Go.Proofs.Ytjopopmipdakkaa
