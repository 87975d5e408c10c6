/- edges of triangles: counted by rows of places, and by a map -/
import Derived.Test.YtoblnfkpjgghiaaNex
import Derived.Test.YtoblnfkpjgghiaaRng
namespace Go.Proofs.Ytoblnfkpjgghiaa
open Go

/-! ### lists without doubles -/
theorem nodup_countP {α : Type} {xs ys : List α} (hx : xs.Nodup) (hy : ys.Nodup) (h : ∀ x, x ∈ xs ↔ x ∈ ys) (p : α → Bool) : xs.countP p = ys.countP p := by
  rw [List.countP_eq_length_filter, List.countP_eq_length_filter]
  refine Nat.le_antisymm (List.Nodup.length_le_of_subset (hx.filter _) fun z hz => ?_) (List.Nodup.length_le_of_subset (hy.filter _) fun z hz => ?_)
  · rw [List.mem_filter] at hz ⊢; exact ⟨(h z).1 hz.1, hz.2⟩
  · rw [List.mem_filter] at hz ⊢; exact ⟨(h z).2 hz.1, hz.2⟩
/-- what stands in a list, each once, as it comes up first -/
def ddTo (r : List Int) : Nat → List Int
  | 0 => []
  | k + 1 => ddTo r k ++ (if (r.take k).count (iAt r k) = 0 then [iAt r k] else [])
theorem ddTo_spec (r : List Int) : ∀ k, k ≤ r.length → (ddTo r k).Nodup ∧ ∀ x, x ∈ ddTo r k ↔ x ∈ r.take k
  | 0, _ => ⟨List.nodup_nil, fun x => by simp [ddTo]⟩
  | k + 1, hk => by
    obtain ⟨h1, h2⟩ := ddTo_spec r k (by omega)
    have hr : r[k]? = some (iAt r k) := by rw [List.getElem?_eq_getElem hk]; simp [iAt, List.getElem?_eq_getElem hk]
    have ht : r.take (k + 1) = r.take k ++ [iAt r k] := by rw [List.take_add_one, hr]; rfl
    rw [ht]
    unfold ddTo
    split
    · rename_i hc
      have hn : iAt r k ∉ ddTo r k := fun hm => by have := (h2 _).1 hm; exact absurd hc (Nat.ne_of_gt (List.count_pos_iff.2 this))
      refine ⟨List.nodup_append.2 ⟨h1, by simp, fun x hx y hy => ?_⟩, fun x => by simp [h2]⟩
      rw [List.mem_singleton] at hy
      rw [hy]; intro e; exact hn (e ▸ hx)
    · rename_i hc
      rw [List.append_nil]
      have hm : iAt r k ∈ r.take k := List.count_pos_iff.1 (Nat.pos_of_ne_zero hc)
      refine ⟨h1, fun x => ?_⟩
      rw [h2, List.mem_append, List.mem_singleton]
      exact ⟨.inl, fun h => h.elim id fun e => e ▸ hm⟩
def ddQ (P : Int → Bool) (r : List Int) : Nat → Nat
  | 0 => 0
  | k + 1 => ddQ P r k + (if (r.take k).count (iAt r k) = 0 ∧ P (iAt r k) = true then 1 else 0)
theorem ddQ_count (P : Int → Bool) (r : List Int) : ∀ k, ddQ P r k = (ddTo r k).countP P
  | 0 => rfl
  | k + 1 => by
    unfold ddQ ddTo
    rw [ddQ_count P r k, List.countP_append]
    congr 1
    by_cases hc : (r.take k).count (iAt r k) = 0
    · by_cases hp : P (iAt r k) = true <;> simp [hc, hp]
    · simp [hc]

/-! ### edges as a list, as rows, as a map -/
section
variable {X : List (Int × Int)}
def rowE (X : List (Int × Int)) (i : Nat) : List Int := (X.filter fun p => decide (p.1 = (i : Int))).map Prod.snd
theorem rowE_count (X : List (Int × Int)) (i : Nat) (j : Int) : (rowE X i).count j = X.count ((i : Int), j) := by
  unfold rowE
  induction X with
  | nil => rfl
  | cons p X ih =>
    obtain ⟨a, b⟩ := p
    rw [List.filter_cons, List.count_cons]
    by_cases h : a = (i : Int)
    · rw [if_pos (by simp [h]), List.map_cons, List.count_cons, ih]
      by_cases hb : b = j <;> simp [h, hb]
    · rw [if_neg (by simp [h]), ih]
      simp [h]
theorem rowE_mem (X : List (Int × Int)) (i : Nat) (j : Int) : j ∈ rowE X i ↔ ((i : Int), j) ∈ X := by
  rw [← List.count_pos_iff, rowE_count, List.count_pos_iff]
theorem rowE_append (X Y : List (Int × Int)) (i : Nat) : rowE (X ++ Y) i = rowE X i ++ rowE Y i := by simp [rowE]
/-- every edge once, row by row -/
def allE (X : List (Int × Int)) : Nat → List (Int × Int)
  | 0 => []
  | n + 1 => allE X n ++ (ddTo (rowE X n) (rowE X n).length).map fun j => ((n : Int), j)
theorem allE_spec (X : List (Int × Int)) : ∀ n, (allE X n).Nodup ∧ ∀ p, p ∈ allE X n ↔ p ∈ X ∧ 0 ≤ p.1 ∧ p.1 < n
  | 0 => ⟨List.nodup_nil, fun p => ⟨fun h => (by cases h), fun h => (by omega)⟩⟩
  | n + 1 => by
    obtain ⟨h1, h2⟩ := allE_spec X n
    obtain ⟨h3, h4⟩ := ddTo_spec (rowE X n) _ (Nat.le_refl _)
    rw [List.take_of_length_le (Nat.le_refl _)] at h4
    have hm : ∀ p, p ∈ (ddTo (rowE X n) (rowE X n).length).map (fun j => ((n : Int), j)) ↔ p ∈ X ∧ p.1 = n := fun p => by
      rw [List.mem_map]
      constructor
      · rintro ⟨j, hj, rfl⟩; exact ⟨(rowE_mem X n j).1 ((h4 j).1 hj), rfl⟩
      · rintro ⟨hp, he⟩
        exact ⟨p.2, (h4 _).2 ((rowE_mem X n p.2).2 (by rw [← he]; exact hp)), by rw [← he]⟩
    refine ⟨List.nodup_append.2 ⟨h1, ?_, fun p hp q hq e => ?_⟩, fun p => ?_⟩
    · exact List.pairwise_map.2 (h3.imp fun h e => h (Prod.mk.inj e).2)
    · have a := (h2 p).1 hp; have b := (hm q).1 hq; rw [e] at a; omega
    · unfold allE
      rw [List.mem_append, h2, hm]
      constructor
      · rintro (⟨a, b, c⟩ | ⟨a, b⟩)
        · exact ⟨a, b, by omega⟩
        · exact ⟨a, by omega, by omega⟩
      · rintro ⟨a, b, c⟩
        rcases Int.lt_or_le p.1 n with h | h
        · exact .inl ⟨a, b, h⟩
        · exact .inr ⟨a, by omega⟩
/-- a count of the edges, row by row -/
def cntE (X : List (Int × Int)) (C : Int × Int → Bool) : Nat → Nat
  | 0 => 0
  | n + 1 => cntE X C n + ddQ (fun j => C ((n : Int), j)) (rowE X n) (rowE X n).length
theorem cntE_eq (X : List (Int × Int)) (C : Int × Int → Bool) : ∀ n, cntE X C n = (allE X n).countP C
  | 0 => rfl
  | n + 1 => by
    unfold cntE allE
    rw [cntE_eq X C n, ddQ_count, List.countP_append, List.countP_map]
    rfl
/-- the map of edges -/
def edS (l : List ((Int × Int) × Int)) (p : Int × Int) : List ((Int × Int) × Int) := putM l p ((atM l p).getD 0 + 1)
def edF (X : List (Int × Int)) : List ((Int × Int) × Int) := X.foldl edS []
theorem edF_snoc (X : List (Int × Int)) (p : Int × Int) : edF (X ++ [p]) = edS (edF X) p := by simp [edF]
theorem edF_spec (X : List (Int × Int)) : ((edF X).map Prod.fst).Nodup ∧ (∀ p, p ∈ (edF X).map Prod.fst ↔ p ∈ X) ∧ (∀ p, (atM (edF X) p).getD 0 = (X.count p : Nat)) ∧ (edF X).length ≤ X.length := by
  rw [← List.reverse_reverse X]
  generalize X.reverse = Y
  induction Y with
  | nil => exact ⟨List.nodup_nil, fun p => by simp [edF], fun p => by simp [edF, atM], by simp [edF]⟩
  | cons p Y ih =>
    rw [List.reverse_cons, edF_snoc]
    obtain ⟨h1, h2, h3, h4⟩ := ih
    refine ⟨putM_nodup _ _ _ h1, fun q => ?_, fun q => ?_, ?_⟩
    · unfold edS
      rw [putM_keys, h2, List.mem_append, List.mem_singleton]; exact Or.comm
    · unfold edS
      rw [atM_put, List.count_append, List.count_singleton]
      by_cases h : p = q
      · subst h; rw [if_pos rfl, Option.getD_some, h3]; simp
      · rw [if_neg h, h3]
        have : (p == q) = false := by simpa using h
        simp [this]
    · have := putM_len (edF Y.reverse) p ((atM (edF Y.reverse) p).getD 0 + 1)
      unfold edS
      rw [List.length_append]; simp only [List.length_cons, List.length_nil]; omega
/-- what is counted over the map's entries -/
theorem edF_countP (X : List (Int × Int)) (C : (Int × Int) × Int → Bool) (n : Nat) (hX : ∀ p ∈ X, 0 ≤ p.1 ∧ p.1 < n) : (edF X).countP C = cntE X (fun p => C (p, (X.count p : Nat))) n := by
  obtain ⟨h1, h2, h3, _⟩ := edF_spec X
  obtain ⟨h4, h5⟩ := allE_spec X n
  rw [cntE_eq]
  have e1 : (edF X).countP C = ((edF X).map Prod.fst).countP (fun p => C (p, (X.count p : Nat))) := by
    rw [List.countP_map]
    refine List.countP_congr fun q hq => ?_
    have := atM_of_mem h1 (p := q.1) (v := q.2) hq
    have h6 := h3 q.1
    rw [this, Option.getD_some] at h6
    simp only [Function.comp_apply]
    rw [← h6]
  rw [e1]
  refine nodup_countP h1 h4 (fun p => ?_) _
  rw [h2, h5]
  exact ⟨fun hp => ⟨hp, hX p hp⟩, fun hp => hp.1⟩
end

/-! ### edges of a mesh -/
def trE (t : List Int) (q : Nat) : Int × Int := (iAt t q, iAt t ((q + 1) % 3))
def edQ (t : List Int) (l : List ((Int × Int) × Int)) : Nat → List ((Int × Int) × Int)
  | 0 => l
  | q + 1 => edS (edQ t l q) (trE t q)
def edTo (m : MeshT) : Nat → List ((Int × Int) × Int)
  | 0 => []
  | k + 1 => match m.tris[k]? with | some t => edQ t (edTo m k) 3 | none => edTo m k
def edL (m : MeshT) : List ((Int × Int) × Int) := edTo m m.tris.length
def exQ (t : List Int) (X : List (Int × Int)) : Nat → List (Int × Int)
  | 0 => X
  | q + 1 => exQ t X q ++ [trE t q]
def exTo (m : MeshT) : Nat → List (Int × Int)
  | 0 => []
  | k + 1 => match m.tris[k]? with | some t => exQ t (exTo m k) 3 | none => exTo m k
def exL (m : MeshT) : List (Int × Int) := exTo m m.tris.length
theorem edQ_ex (t : List Int) (X : List (Int × Int)) : ∀ q, edQ t (edF X) q = edF (exQ t X q)
  | 0 => rfl
  | q + 1 => by unfold edQ exQ; rw [edQ_ex t X q, edF_snoc]
theorem edTo_ex (m : MeshT) : ∀ k, edTo m k = edF (exTo m k)
  | 0 => rfl
  | k + 1 => by
    unfold edTo exTo
    split
    · rw [edTo_ex m k, edQ_ex]
    · exact edTo_ex m k
theorem exQ_len (t : List Int) (X : List (Int × Int)) : ∀ q, (exQ t X q).length = X.length + q
  | 0 => rfl
  | q + 1 => by unfold exQ; rw [List.length_append, exQ_len t X q]; rfl
theorem exTo_len (m : MeshT) : ∀ k, (exTo m k).length ≤ 3 * k
  | 0 => Nat.le_refl _
  | k + 1 => by
    have := exTo_len m k
    unfold exTo
    split
    · rw [exQ_len]; omega
    · omega
theorem edQ_at (t : List Int) (m : MeshT) (k q : Nat) (p : Int × Int) : 0 ≤ (atM (edQ t (edTo m k) q) p).getD 0 ∧ (atM (edQ t (edTo m k) q) p).getD 0 ≤ 3 * k + q := by
  rw [edTo_ex, edQ_ex, (edF_spec _).2.2.1]
  have h1 := List.count_le_length (a := p) (l := exQ t (exTo m k) q)
  have h2 := exTo_len m k
  rw [exQ_len] at h1
  omega
theorem edL_len (m : MeshT) : (edL m).length ≤ 3 * m.tris.length := by
  unfold edL; rw [edTo_ex]
  exact Nat.le_trans (edF_spec _).2.2.2 (exTo_len m _)
theorem edQ_step {t : List Int} {l : List ((Int × Int) × Int)} {q : Nat} {i j : Int} (hi : t[q]? = some i) (hj : t[(q + 1) % 3]? = some j) : putM (edQ t l q) (i, j) ((atM (edQ t l q) (i, j)).getD 0 + 1) = edQ t l (q + 1) := by
  have e1 : iAt t q = i := by simp [iAt, hi]
  have e2 : iAt t ((q + 1) % 3) = j := by simp [iAt, hj]
  simp only [edQ, edS, trE, e1, e2]
theorem edTo_step {m : MeshT} {k q : Nat} {t : List Int} (h : m.tris[k]? = some t) (hq : q = 3) : edQ t (edTo m k) q = edTo m (k + 1) := by subst hq; simp [edTo, h]
/-- the rows are the edges -/
theorem nxQ_row {t : List Int} {xss : List (List Int)} {X : List (Int × Int)} (hb : ∀ i ∈ t, 0 ≤ i ∧ i < xss.length) (h : ∀ i : Nat, i < xss.length → xss[i]? = some (rowE X i)) : ∀ q, q ≤ t.length → ∀ i : Nat, i < xss.length → (nxQ t xss q)[i]? = some (rowE (exQ t X q) i)
  | 0, _, i, hi => h i hi
  | q + 1, hq, i, hi => by
    have ih := nxQ_row hb h q (by omega)
    have ht : t[q]? = some (t[q]'(by omega)) := List.getElem?_eq_getElem _
    have hbq := hb _ (List.getElem_mem (show q < t.length by omega))
    have e1 : iAt t q = t[q]'(by omega) := by simp [iAt, ht]
    have hlen := nxQ_len t xss q
    have hat := ih (iAt t q).toNat (by rw [e1]; omega)
    simp only [nxQ, nxA, exQ, rowE_append]
    rw [List.getElem?_set]
    by_cases he : (iAt t q).toNat = i
    · rw [if_pos he, if_pos (by rw [hlen]; rw [he]; exact hi), ← he, hat, Option.getD_some]
      congr 2
      have h2 : iAt t q = ((iAt t q).toNat : Int) := by rw [e1]; omega
      simp [rowE, trE, ← h2]
    · rw [if_neg he, ih i hi]
      have hne : ¬ (iAt t q = (i : Int)) := fun e => he (by rw [e]; simp)
      simp [rowE, trE, hne]
theorem nextTo_row {m : MeshT} (hm : meshOk m = true) : ∀ k, k ≤ m.tris.length → ∀ i : Nat, i < m.places.length → (nextTo m k)[i]? = some (rowE (exTo m k) i)
  | 0, _, i, hi => by simp [nextTo, exTo, rowE, hi]
  | k + 1, hk, i, hi => by
    have ht : m.tris[k]? = some (m.tris[k]'hk) := List.getElem?_eq_getElem hk
    have htr := mesh_tri hm ht
    have e1 : nextTo m (k + 1) = nxQ (m.tris[k]'hk) (nextTo m k) 3 := by simp [nextTo, ht]
    have e2 : exTo m (k + 1) = exQ (m.tris[k]'hk) (exTo m k) 3 := by simp [exTo, ht]
    rw [e1, e2]
    exact nxQ_row (by rw [nextTo_len]; exact htr.2) (by rw [nextTo_len]; exact nextTo_row hm k (by omega)) 3 (by omega) i (by rw [nextTo_len]; exact hi)
theorem exTo_in {m : MeshT} (hm : meshOk m = true) : ∀ k, k ≤ m.tris.length → ∀ p ∈ exTo m k, 0 ≤ p.1 ∧ p.1 < m.places.length ∧ 0 ≤ p.2 ∧ p.2 < m.places.length
  | 0, _, p, hp => by cases hp
  | k + 1, hk, p, hp => by
    have ht : m.tris[k]? = some (m.tris[k]'hk) := List.getElem?_eq_getElem hk
    have htr := mesh_tri hm ht
    have e2 : exTo m (k + 1) = exQ (m.tris[k]'hk) (exTo m k) 3 := by simp [exTo, ht]
    have hat : ∀ q, q < 3 → 0 ≤ iAt (m.tris[k]'hk) q ∧ iAt (m.tris[k]'hk) q < m.places.length := fun q hq => by
      have hh : (m.tris[k]'hk)[q]? = some ((m.tris[k]'hk)[q]'(by omega)) := List.getElem?_eq_getElem _
      have : iAt (m.tris[k]'hk) q = (m.tris[k]'hk)[q]'(by omega) := by simp [iAt, hh]
      rw [this]; exact htr.2 _ (List.getElem_mem _)
    have hq : ∀ q, q ≤ 3 → ∀ p ∈ exQ (m.tris[k]'hk) (exTo m k) q, 0 ≤ p.1 ∧ p.1 < m.places.length ∧ 0 ≤ p.2 ∧ p.2 < m.places.length := by
      intro q
      induction q with
      | zero => intro _; exact exTo_in hm k (by omega)
      | succ q ih =>
        intro hq p hp
        rcases List.mem_append.1 hp with h | h
        · exact ih (by omega) p h
        · rw [List.mem_singleton] at h
          subst h
          have a := hat q (by omega); have b := hat ((q + 1) % 3) (by omega)
          exact ⟨a.1, a.2, b.1, b.2⟩
    rw [e2] at hp
    exact hq 3 (by omega) p hp

/-! ### open edges -/
def opC (nx : List (List Int)) (i k : Nat) : Bool :=
  let r := (nx[i]?).getD []
  decide ((r.take k).count (iAt r k) = 0) && decide (((nx[(iAt r k).toNat]?).getD []).count (i : Int) < r.count (iAt r k))
def opQ (nx : List (List Int)) (i : Nat) : Nat → Nat
  | 0 => 0
  | k + 1 => opQ nx i k + (if opC nx i k = true then 1 else 0)
def opTo (nx : List (List Int)) : Nat → Nat
  | 0 => 0
  | i + 1 => opTo nx i + opQ nx i ((nx[i]?).getD []).length
theorem opQ_le (nx : List (List Int)) (i : Nat) : ∀ k, opQ nx i k ≤ k
  | 0 => Nat.le_refl _
  | k + 1 => by have := opQ_le nx i k; unfold opQ; split <;> omega
def opnC (m : MeshT) (p : (Int × Int) × Int) : Bool := decide ((atM (edL m) (p.1.2, p.1.1)).getD 0 < p.2)
theorem open_alike {m : MeshT} (hm : meshOk m = true) : ((edL m).countP (opnC m) : Nat) = opTo (nextL m) m.places.length := by
  have hX : ∀ p ∈ exL m, 0 ≤ p.1 ∧ p.1 < m.places.length ∧ 0 ≤ p.2 ∧ p.2 < m.places.length := exTo_in hm _ (Nat.le_refl _)
  have hrow : ∀ i : Nat, i < m.places.length → (nextL m)[i]? = some (rowE (exL m) i) := nextTo_row hm _ (Nat.le_refl _)
  have e0 : edL m = edF (exL m) := edTo_ex m _
  have e1 := edF_countP (exL m) (opnC m) m.places.length (fun p hp => ⟨(hX p hp).1, (hX p hp).2.1⟩)
  rw [← e0] at e1
  rw [e1]
  have hq : ∀ n : Nat, n < m.places.length → ∀ k, k ≤ (rowE (exL m) n).length → ddQ (fun j => opnC m (((n : Int), j), ((exL m).count ((n : Int), j) : Nat))) (rowE (exL m) n) k = opQ (nextL m) n k := by
    intro n hn k
    induction k with
    | zero => intro _; rfl
    | succ k ih =>
      intro hk
      unfold ddQ opQ
      rw [ih (by omega)]
      congr 1
      have hr : (rowE (exL m) n)[k]? = some (iAt (rowE (exL m) n) k) := by rw [List.getElem?_eq_getElem hk]; simp [iAt, List.getElem?_eq_getElem hk]
      have hmem : ((n : Int), iAt (rowE (exL m) n) k) ∈ exL m := (rowE_mem _ _ _).1 (List.mem_of_getElem? hr)
      have hb := hX _ hmem
      simp only [opC, hrow n hn, Option.getD_some]
      rw [hrow (iAt (rowE (exL m) n) k).toNat (by omega), Option.getD_some, rowE_count, rowE_count, Int.toNat_of_nonneg hb.2.2.1]
      simp only [opnC, e0, (edF_spec _).2.2.1]
      by_cases h1 : ((rowE (exL m) n).take k).count (iAt (rowE (exL m) n) k) = 0 <;> by_cases h2 : (exL m).count (iAt (rowE (exL m) n) k, (n : Int)) < (exL m).count ((n : Int), iAt (rowE (exL m) n) k) <;> simp [h1, h2]
  have hall : ∀ n : Nat, n ≤ m.places.length → cntE (exL m) (fun p => opnC m (p, ((exL m).count p : Nat))) n = opTo (nextL m) n := by
    intro n
    induction n with
    | zero => intro _; rfl
    | succ n ih =>
      intro hn
      unfold cntE opTo
      rw [ih (by omega), hrow n (by omega), Option.getD_some, hq n (by omega) _ (Nat.le_refl _)]
  exact hall _ (Nat.le_refl _)
def openN (m : MeshT) : Int := if meshOk m then (opTo (nextL m) m.places.length : Nat) else 0
theorem openN_f {m : MeshT} (h : meshOk m = false) : openN m = 0 := by unfold openN; rw [h]; rfl
theorem openN_t {m : MeshT} (h : meshOk m = true) : openN m = (opTo (nextL m) m.places.length : Nat) := by unfold openN; rw [h]; rfl
theorem count_take {l : List Int} {k : Nat} {e x : Int} (h : l[k]? = some e) (hc : e = x) : (l.take (k + 1)).count x = (l.take k).count x + 1 := by
  rw [List.take_add_one, h, Option.toList_some, List.count_append, hc]; simp
theorem count_take' {l : List Int} {k : Nat} {e x : Int} (h : l[k]? = some e) (hc : ¬ e = x) : (l.take (k + 1)).count x = (l.take k).count x := by
  rw [List.take_add_one, h, Option.toList_some, List.count_append, List.count_singleton]
  have : (e == x) = false := by simpa using hc
  simp [this]
theorem nextL_most {m : MeshT} (hm : meshOk m = true) {i : Nat} {x : List Int} (h : (nextL m)[i]? = some x) : x.length ≤ 27000 := by
  have h1 := nextTo_most _ _ _ h
  have h2 := mesh_len hm
  omega
theorem nextL_in {m : MeshT} (hm : meshOk m = true) {i q : Nat} {r : List Int} {j : Int} (h : (nextL m)[i]? = some r) (hj : r[q]? = some j) : 0 ≤ j ∧ j < (nextL m).length := by
  have hl : (nextL m).length = m.places.length := nextTo_len m _
  have hi := (List.getElem?_eq_some_iff.1 h).1
  have h1 := nextTo_row hm _ (Nat.le_refl _) i (by omega)
  have h2 : (nextL m)[i]? = some (rowE (exTo m m.tris.length) i) := h1
  rw [h] at h2
  cases h2
  have := exTo_in hm _ (Nat.le_refl _) _ ((rowE_mem _ _ _).1 (List.mem_of_getElem? hj))
  omega
theorem opTo_le {m : MeshT} (hm : meshOk m = true) : ∀ k, k ≤ (nextL m).length → opTo (nextL m) k ≤ 27000 * k
  | 0, _ => Nat.le_refl _
  | k + 1, hk => by
    have h1 := opTo_le hm k (by omega)
    have hr : (nextL m)[k]? = some ((nextL m)[k]'hk) := List.getElem?_eq_getElem hk
    have h2 := nextL_most hm hr
    have h3 := opQ_le (nextL m) k ((nextL m)[k]'hk).length
    unfold opTo
    rw [hr, Option.getD_some]; omega
section
variable {nx : List (List Int)} {i k q : Nat} {r r2 : List Int} {j : Int}
theorem opQ_succ : opQ nx i (k + 1) = opQ nx i k + (if opC nx i k = true then 1 else 0) := rfl
theorem opTo_succ : opTo nx (i + 1) = opTo nx i + opQ nx i ((nx[i]?).getD []).length := rfl
theorem opQ_pos (h1 : nx[i]? = some r) (h2 : r[k]? = some j) (h3 : nx[j.toNat]? = some r2) (ha : (((r.take k).count j : Nat) : Int) = 0) (hb : ((r2.count (i : Int) : Nat) : Int) < ((r.count j : Nat) : Int)) : opQ nx i (k + 1) = opQ nx i k + 1 := by
  have e : iAt r k = j := by simp [iAt, h2]
  rw [opQ_succ, if_pos]
  simp only [opC, h1, Option.getD_some, e, h3, Bool.and_eq_true, decide_eq_true_eq]; omega
theorem opQ_neg (h1 : nx[i]? = some r) (h2 : r[k]? = some j) (h3 : nx[j.toNat]? = some r2) (hc : ¬ ((((r.take k).count j : Nat) : Int) = 0 ∧ ((r2.count (i : Int) : Nat) : Int) < ((r.count j : Nat) : Int))) : opQ nx i (k + 1) = opQ nx i k := by
  have e : iAt r k = j := by simp [iAt, h2]
  rw [opQ_succ, if_neg, Nat.add_zero]
  simp only [opC, h1, Option.getD_some, e, h3, Bool.and_eq_true, decide_eq_true_eq]; omega
theorem opTo_step (h1 : nx[i]? = some r) (hq : q = r.length) : opTo nx (i + 1) = opTo nx i + opQ nx i q := by
  rw [opTo_succ, h1, Option.getD_some, hq]
end
theorem countP_mid {α : Type} (C : α → Bool) (A B : List α) (q : α) : (A ++ q :: B).countP C = (A ++ B).countP C + (if C q = true then 1 else 0) := by
  rw [List.countP_append, List.countP_append, List.countP_cons]; omega
end Go.Proofs.Ytoblnfkpjgghiaa
