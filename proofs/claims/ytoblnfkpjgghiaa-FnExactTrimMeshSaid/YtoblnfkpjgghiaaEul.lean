/- pairs of places that edges join: counted by rows of places, and by a map -/
import Derived.Test.YtoblnfkpjgghiaaEdj
import Derived.Test.YtoblnfkpjgghiaaUsd
namespace Go.Proofs.Ytoblnfkpjgghiaa
open Go

def normP (p : Int × Int) : Int × Int := (min p.1 p.2, max p.1 p.2)
def eulC (nx : List (List Int)) (i k : Nat) : Bool :=
  let r := (nx[i]?).getD []
  decide ((r.take k).count (iAt r k) = 0) && (decide ((i : Int) < iAt r k) || decide (((nx[(iAt r k).toNat]?).getD []).count (i : Int) = 0))
def eulQ (nx : List (List Int)) (i : Nat) : Nat → Nat
  | 0 => 0
  | k + 1 => eulQ nx i k + (if eulC nx i k = true then 1 else 0)
def eulTo (nx : List (List Int)) : Nat → Nat
  | 0 => 0
  | i + 1 => eulTo nx i + eulQ nx i ((nx[i]?).getD []).length
theorem eulQ_le (nx : List (List Int)) (i : Nat) : ∀ k, eulQ nx i k ≤ k
  | 0 => Nat.le_refl _
  | k + 1 => by have := eulQ_le nx i k; unfold eulQ; split <;> omega
theorem eulTo_le {m : MeshT} (hm : meshOk m = true) : ∀ k, k ≤ (nextL m).length → eulTo (nextL m) k ≤ 27000 * k
  | 0, _ => Nat.le_refl _
  | k + 1, hk => by
    have h1 := eulTo_le hm k (by omega)
    have hr : (nextL m)[k]? = some ((nextL m)[k]'hk) := List.getElem?_eq_getElem hk
    have h2 := nextL_most hm hr
    have h3 := eulQ_le (nextL m) k ((nextL m)[k]'hk).length
    unfold eulTo
    rw [hr, Option.getD_some]; omega
section
variable {nx : List (List Int)} {i k q : Nat} {r r2 : List Int} {j : Int}
theorem eulQ_succ : eulQ nx i (k + 1) = eulQ nx i k + (if eulC nx i k = true then 1 else 0) := rfl
theorem eulTo_succ : eulTo nx (i + 1) = eulTo nx i + eulQ nx i ((nx[i]?).getD []).length := rfl
theorem eulQ_pos (h1 : nx[i]? = some r) (h2 : r[k]? = some j) (h3 : nx[j.toNat]? = some r2) (ha : (((r.take k).count j : Nat) : Int) = 0) (hb : (i : Int) < j ∨ ((r2.count (i : Int) : Nat) : Int) = 0) : eulQ nx i (k + 1) = eulQ nx i k + 1 := by
  have e : iAt r k = j := by simp [iAt, h2]
  rw [eulQ_succ, if_pos]
  simp only [eulC, h1, Option.getD_some, e, h3, Bool.and_eq_true, Bool.or_eq_true, decide_eq_true_eq]; omega
theorem eulQ_neg (h1 : nx[i]? = some r) (h2 : r[k]? = some j) (h3 : nx[j.toNat]? = some r2) (hc : ¬ ((((r.take k).count j : Nat) : Int) = 0 ∧ ((i : Int) < j ∨ ((r2.count (i : Int) : Nat) : Int) = 0))) : eulQ nx i (k + 1) = eulQ nx i k := by
  have e : iAt r k = j := by simp [iAt, h2]
  rw [eulQ_succ, if_neg, Nat.add_zero]
  simp only [eulC, h1, Option.getD_some, e, h3, Bool.and_eq_true, Bool.or_eq_true, decide_eq_true_eq]; omega
theorem eulTo_step (h1 : nx[i]? = some r) (hq : q = r.length) : eulTo nx (i + 1) = eulTo nx i + eulQ nx i q := by
  rw [eulTo_succ, h1, Option.getD_some, hq]
end
/-- no edge joins a place with itself -/
theorem exTo_ne {m : MeshT} (hm : meshOk m = true) : ∀ k, k ≤ m.tris.length → ∀ p ∈ exTo m k, p.1 ≠ p.2
  | 0, _, p, hp => by cases hp
  | k + 1, hk, p, hp => by
    have ht : m.tris[k]? = some (m.tris[k]'hk) := List.getElem?_eq_getElem hk
    have hl := (mesh_tri hm ht).1
    have e2 : exTo m (k + 1) = exQ (m.tris[k]'hk) (exTo m k) 3 := by simp [exTo, ht]
    rw [e2] at hp
    simp only [meshOk, Bool.and_eq_true, Bool.not_eq_true', List.any_eq_false, icmp, decide_eq_true_eq] at hm
    have h1 := hm.1.1 (m.tris[k]'hk) (List.getElem_mem hk)
    have h1 : triOk m.places.length (m.tris[k]'hk) = true := by simpa using h1
    generalize m.tris[k]'hk = t at hp h1 hl
    obtain ⟨x, hx⟩ : ∃ x, t[0]? = some x := ⟨_, List.getElem?_eq_getElem (by omega)⟩
    obtain ⟨y, hy⟩ : ∃ x, t[1]? = some x := ⟨_, List.getElem?_eq_getElem (by omega)⟩
    obtain ⟨z, hz⟩ : ∃ x, t[2]? = some x := ⟨_, List.getElem?_eq_getElem (by omega)⟩
    rw [triOk_3 (by omega) hx hy hz] at h1
    have a0 : iAt t 0 = x := by simp [iAt, hx]
    have a1 : iAt t 1 = y := by simp [iAt, hy]
    have a2 : iAt t 2 = z := by simp [iAt, hz]
    have hne : x ≠ y ∧ y ≠ z ∧ z ≠ x := by
      simp only [Bool.and_eq_true, Bool.not_eq_true'] at h1
      have h2 := h1.1
      simp [icmp] at h2
      omega
    simp only [exQ, List.mem_append, List.mem_singleton] at hp
    rcases hp with ((h | h) | h) | h
    · exact exTo_ne (by simp only [meshOk, Bool.and_eq_true, Bool.not_eq_true', List.any_eq_false, icmp, decide_eq_true_eq]; exact hm) k (by omega) p h
    · subst h; simp only [trE, a0, a1]; exact hne.1
    · subst h; simp only [trE, a1, a2]; exact hne.2.1
    · subst h
      show iAt t 2 ≠ iAt t ((2 + 1) % 3)
      rw [a2, show (2 + 1) % 3 = 0 from rfl, a0]; exact hne.2.2
/-- which of an edge and its like the other way round is counted -/
def eulD (X : List (Int × Int)) (p : Int × Int) : Bool := decide (p.1 < p.2) || decide (X.count (p.2, p.1) = 0)
theorem normP_eq {p q : Int × Int} (h : normP p = normP q) : p = q ∨ p = (q.2, q.1) := by
  obtain ⟨a, b⟩ := p; obtain ⟨c, d⟩ := q
  simp only [normP, Prod.mk.injEq] at h ⊢
  omega
theorem norm_count (X : List (Int × Int)) (n : Nat) (hX : ∀ p ∈ X, 0 ≤ p.1 ∧ p.1 < n) (hne : ∀ p ∈ X, p.1 ≠ p.2) (ks : List (Int × Int)) (hn : ks.Nodup) (hk : ∀ p, p ∈ ks ↔ ∃ q ∈ X, normP q = p) : ks.length = cntE X (eulD X) n := by
  obtain ⟨h4, h5⟩ := allE_spec X n
  have h5 : ∀ p, p ∈ allE X n ↔ p ∈ X := fun p => (h5 p).trans ⟨fun h => h.1, fun h => ⟨h, hX p h⟩⟩
  rw [cntE_eq, List.countP_eq_length_filter, ← List.length_map (as := (allE X n).filter (eulD X)) normP]
  have hD : (((allE X n).filter (eulD X)).map normP).Nodup := by
    refine List.pairwise_map.2 ((h4.filter _).imp_of_mem fun {p q} hp hq hpq e => ?_)
    rw [List.mem_filter, h5] at hp hq
    rcases normP_eq e with h | h
    · exact hpq h
    · have c1 := hp.2; have c2 := hq.2
      simp only [eulD, Bool.or_eq_true, decide_eq_true_eq] at c1 c2
      have r1 : X.count (q.2, q.1) ≠ 0 := Nat.ne_of_gt (List.count_pos_iff.2 (h ▸ hp.1))
      have r2 : X.count (p.2, p.1) ≠ 0 := Nat.ne_of_gt (List.count_pos_iff.2 (by rw [h]; exact hq.1))
      have e1 : p.1 = q.2 := by rw [h]
      have e2 : p.2 = q.1 := by rw [h]
      rcases c1 with c1 | c1
      · rcases c2 with c2 | c2
        · omega
        · exact r1 c2
      · exact r2 c1
  have hm : ∀ p, p ∈ ks ↔ p ∈ ((allE X n).filter (eulD X)).map normP := fun p => by
    rw [hk, List.mem_map]
    constructor
    · rintro ⟨q, hq, rfl⟩
      by_cases c : eulD X q = true
      · exact ⟨q, List.mem_filter.2 ⟨(h5 q).2 hq, c⟩, rfl⟩
      · have hqn := hne q hq
        simp only [eulD, Bool.or_eq_true, decide_eq_true_eq, not_or] at c
        have hr : (q.2, q.1) ∈ X := List.count_pos_iff.1 (Nat.pos_of_ne_zero c.2)
        refine ⟨(q.2, q.1), List.mem_filter.2 ⟨(h5 _).2 hr, ?_⟩, ?_⟩
        · simp only [eulD, Bool.or_eq_true, decide_eq_true_eq]; left; omega
        · simp only [normP, Prod.mk.injEq]; omega
    · rintro ⟨q, hq, rfl⟩
      rw [List.mem_filter, h5] at hq
      exact ⟨q, hq.1, rfl⟩
  refine Nat.le_antisymm (List.Nodup.length_le_of_subset hn fun z hz => (hm z).1 hz) (List.Nodup.length_le_of_subset hD fun z hz => (hm z).2 hz)
theorem eul_rows {m : MeshT} (hm : meshOk m = true) : cntE (exL m) (eulD (exL m)) m.places.length = eulTo (nextL m) m.places.length := by
  have hX : ∀ p ∈ exL m, 0 ≤ p.1 ∧ p.1 < m.places.length ∧ 0 ≤ p.2 ∧ p.2 < m.places.length := exTo_in hm _ (Nat.le_refl _)
  have hrow : ∀ i : Nat, i < m.places.length → (nextL m)[i]? = some (rowE (exL m) i) := nextTo_row hm _ (Nat.le_refl _)
  have hq : ∀ n : Nat, n < m.places.length → ∀ k, k ≤ (rowE (exL m) n).length → ddQ (fun j => eulD (exL m) ((n : Int), j)) (rowE (exL m) n) k = eulQ (nextL m) n k := by
    intro n hn k
    induction k with
    | zero => intro _; rfl
    | succ k ih =>
      intro hk
      unfold ddQ eulQ
      rw [ih (by omega)]
      congr 1
      have hr : (rowE (exL m) n)[k]? = some (iAt (rowE (exL m) n) k) := by rw [List.getElem?_eq_getElem hk]; simp [iAt, List.getElem?_eq_getElem hk]
      have hmem : ((n : Int), iAt (rowE (exL m) n) k) ∈ exL m := (rowE_mem _ _ _).1 (List.mem_of_getElem? hr)
      have hb := hX _ hmem
      simp only [eulC, hrow n hn, Option.getD_some]
      rw [hrow (iAt (rowE (exL m) n) k).toNat (by omega), Option.getD_some, rowE_count, Int.toNat_of_nonneg hb.2.2.1]
      simp only [eulD]
      by_cases h1 : ((rowE (exL m) n).take k).count (iAt (rowE (exL m) n) k) = 0 <;> by_cases h2 : (n : Int) < iAt (rowE (exL m) n) k <;> by_cases h3 : (exL m).count (iAt (rowE (exL m) n) k, (n : Int)) = 0 <;> simp [h1, h2, h3]
  have hall : ∀ n : Nat, n ≤ m.places.length → cntE (exL m) (eulD (exL m)) n = eulTo (nextL m) n := by
    intro n
    induction n with
    | zero => intro _; rfl
    | succ n ih =>
      intro hn
      unfold cntE eulTo
      rw [ih (by omega), hrow n (by omega), Option.getD_some, hq n (by omega) _ (Nat.le_refl _)]
  exact hall _ (Nat.le_refl _)
theorem euler_alike {m : MeshT} (hm : meshOk m = true) {pl : List ((Int × Int) × Bool)} (hn : (pl.map Prod.fst).Nodup) (h : ∀ p, p ∈ pl.map Prod.fst ↔ ∃ q ∈ edL m, normP q.1 = p) : pl.length = eulTo (nextL m) m.places.length := by
  rw [← eul_rows hm, ← List.length_map (f := Prod.fst)]
  have e0 : edL m = edF (exL m) := edTo_ex m _
  have h2 := (edF_spec (exL m)).2.1
  refine norm_count (exL m) _ (fun p hp => by have := exTo_in hm _ (Nat.le_refl _) p hp; exact ⟨this.1, this.2.1⟩) (exTo_ne hm _ (Nat.le_refl _)) _ hn fun p => (h p).trans ?_
  rw [e0]
  constructor
  · rintro ⟨q, hq, e⟩; exact ⟨q.1, (h2 q.1).1 (List.mem_map.2 ⟨q, hq, rfl⟩), e⟩
  · rintro ⟨q, hq, e⟩
    obtain ⟨r, hr, rfl⟩ := List.mem_map.1 ((h2 q).2 hq)
    exact ⟨r, hr, e⟩
/-- one more edge -/
theorem eul_step {A B L : List ((Int × Int) × Int)} {q : (Int × Int) × Int} {pl : List ((Int × Int) × Bool)} (hn : (pl.map Prod.fst).Nodup) (h : ∀ p, (p ∈ pl.map Prod.fst ∨ ∃ x ∈ A ++ q :: B, normP x.1 = p) ↔ ∃ x ∈ L, normP x.1 = p) :
    ((putM pl (normP q.1) true).map Prod.fst).Nodup ∧ ∀ p, (p ∈ (putM pl (normP q.1) true).map Prod.fst ∨ ∃ x ∈ A ++ B, normP x.1 = p) ↔ ∃ x ∈ L, normP x.1 = p := by
  refine ⟨putM_nodup _ _ _ hn, fun p => Iff.trans ?_ (h p)⟩
  rw [putM_keys]
  constructor
  · rintro ((rfl | h) | ⟨x, hx, e⟩)
    · exact .inr ⟨q, by simp, rfl⟩
    · exact .inl h
    · exact .inr ⟨x, by simp only [List.mem_append, List.mem_cons] at hx ⊢; exact hx.imp id .inr, e⟩
  · rintro (h | ⟨x, hx, e⟩)
    · exact .inl (.inr h)
    · simp only [List.mem_append, List.mem_cons] at hx
      rcases hx with hx | rfl | hx
      · exact .inr ⟨x, by simp [hx], e⟩
      · exact .inl (.inl e.symm)
      · exact .inr ⟨x, by simp [hx], e⟩
def eulN (m : MeshT) : Int := if meshOk m then ((usedL m).length : Nat) - (eulTo (nextL m) m.places.length : Nat) + (m.tris.length : Nat) else 0
theorem eulN_f {m : MeshT} (h : meshOk m = false) : eulN m = 0 := by unfold eulN; rw [h]; rfl
theorem eulN_t {m : MeshT} (h : meshOk m = true) : eulN m = ((usedL m).length : Nat) - (eulTo (nextL m) m.places.length : Nat) + (m.tris.length : Nat) := by unfold eulN; rw [h]; rfl
theorem usedL_le (m : MeshT) : (usedL m).length ≤ m.places.length := usedTo_len _ _
end Go.Proofs.Ytoblnfkpjgghiaa
