/- the places that triangles have: two tellings alike -/
import Derived.Test.YtoblnfkpjgghiaaNex
import Derived.Lib.SlicesCompact
namespace Go.Proofs.Ytoblnfkpjgghiaa
open Go Go.Lib

/-! ### lists that ascend -/
theorem asc_ext : ∀ {xs ys : List Int}, xs.Pairwise (· < ·) → ys.Pairwise (· < ·) → (∀ x, x ∈ xs ↔ x ∈ ys) → xs = ys
  | [], [], _, _, _ => rfl
  | [], y :: ys, _, _, h => by have := (h y).2 (by simp); cases this
  | x :: xs, [], _, _, h => by have := (h x).1 (by simp); cases this
  | x :: xs, y :: ys, hx, hy, h => by
    have hx' := List.pairwise_cons.1 hx
    have hy' := List.pairwise_cons.1 hy
    have e : x = y := by
      have h1 := (h x).1 (by simp)
      have h2 := (h y).2 (by simp)
      rcases List.mem_cons.1 h1 with h1 | h1
      · exact h1
      · rcases List.mem_cons.1 h2 with h2 | h2
        · exact h2.symm
        · have a := hy'.1 x h1; have b := hx'.1 y h2; omega
    subst e
    congr 1
    refine asc_ext hx'.2 hy'.2 fun z => ⟨fun hz => ?_, fun hz => ?_⟩
    · rcases List.mem_cons.1 ((h z).1 (List.mem_cons_of_mem _ hz)) with h1 | h1
      · have := hx'.1 z hz; omega
      · exact h1
    · rcases List.mem_cons.1 ((h z).2 (List.mem_cons_of_mem _ hz)) with h1 | h1
      · have := hy'.1 z hz; omega
      · exact h1
/-- what is kept of an ascending row -/
theorem compact_asc (d : Array Int) (hd : ∀ i j, i ≤ j → j < d.size → d[i]! ≤ d[j]!) : ∀ m, m ≤ d.size → (compactUpTo d m).Pairwise (· < ·) ∧ ∀ x, x ∈ compactUpTo d m ↔ ∃ j, j < m ∧ d[j]! = x
  | 0, _ => ⟨by simp [compactUpTo], fun x => by simp [compactUpTo]⟩
  | m + 1, hm => by
    obtain ⟨h1, h2⟩ := compact_asc d hd m (by omega)
    rw [compactUpTo_succ]
    by_cases hk : keeps d m = true
    · rw [if_pos hk]
      have hk' := hk
      simp only [keeps, decide_eq_true_eq] at hk'
      refine ⟨List.pairwise_append.2 ⟨h1, List.pairwise_singleton _ _, fun x hx y hy => ?_⟩, fun x => ?_⟩
      · rw [List.mem_singleton] at hy
        subst hy
        obtain ⟨j, hj, rfl⟩ := (h2 x).1 hx
        rcases hk' with h | h
        · omega
        · have a := hd j (m - 1) (by omega) (by omega); have b := hd (m - 1) m (by omega) (by omega); omega
      · rw [List.mem_append, List.mem_singleton, h2]
        constructor
        · rintro (⟨j, hj, rfl⟩ | rfl)
          · exact ⟨j, by omega, rfl⟩
          · exact ⟨m, by omega, rfl⟩
        · rintro ⟨j, hj, rfl⟩
          rcases Nat.lt_or_ge j m with h | h
          · exact .inl ⟨j, h, rfl⟩
          · obtain rfl : j = m := by omega
            exact .inr rfl
    · rw [if_neg hk, List.append_nil]
      simp only [keeps, decide_eq_true_eq, not_or, ne_eq, Classical.not_not] at hk
      refine ⟨h1, fun x => (h2 x).trans ⟨fun ⟨j, hj, e⟩ => ⟨j, by omega, e⟩, fun ⟨j, hj, e⟩ => ?_⟩⟩
      rcases Nat.lt_or_ge j m with h | h
      · exact ⟨j, h, e⟩
      · obtain rfl : j = m := by omega
        exact ⟨j - 1, by omega, by rw [← e]; exact hk.2.symm⟩
def sortI (xs : List Int) : List Int := xs.mergeSort fun x y => decide (x ≤ y)
theorem sortI_len (xs : List Int) : (sortI xs).length = xs.length := List.length_mergeSort _
theorem sortI_mem {xs : List Int} {x : Int} : x ∈ sortI xs ↔ x ∈ xs := List.mem_mergeSort
theorem sortI_asc (xs : List Int) : (sortI xs).Pairwise (· ≤ ·) := by
  have h := List.pairwise_mergeSort (le := fun x y : Int => decide (x ≤ y)) (fun a b c h1 h2 => by simp only [decide_eq_true_eq] at *; omega) (fun a b => by simp only [Bool.or_eq_true, decide_eq_true_eq]; omega) xs
  exact h.imp fun h => by simpa using h
def compI (xs : List Int) : List Int := compactUpTo xs.toArray xs.length
theorem compI_asc {xs : List Int} (h : xs.Pairwise (· ≤ ·)) : (compI xs).Pairwise (· < ·) ∧ ∀ x, x ∈ compI xs ↔ x ∈ xs := by
  have hd : ∀ i j, i ≤ j → j < xs.toArray.size → xs.toArray[i]! ≤ xs.toArray[j]! := fun i j hij hj => by
    have hj' : j < xs.length := by simpa using hj
    rw [getElem!_pos xs.toArray i (by simp; omega), getElem!_pos xs.toArray j (by simp; omega), List.getElem_toArray, List.getElem_toArray]
    rcases Nat.lt_or_ge i j with h1 | h1
    · exact List.pairwise_iff_getElem.1 h i j (by omega) hj' h1
    · obtain rfl : i = j := by omega
      exact Int.le_refl _
  obtain ⟨h1, h2⟩ := compact_asc xs.toArray hd xs.length (by simp)
  refine ⟨h1, fun x => (h2 x).trans ⟨fun ⟨j, hj, e⟩ => ?_, fun hx => ?_⟩⟩
  · rw [getElem!_pos xs.toArray j (by simpa using hj), List.getElem_toArray] at e
    rw [← e]; exact List.getElem_mem hj
  · obtain ⟨j, hj⟩ := List.getElem?_of_mem hx
    have hjl := (List.getElem?_eq_some_iff.1 hj).1
    refine ⟨j, hjl, ?_⟩
    rw [getElem!_pos xs.toArray j (by simpa using hjl), List.getElem_toArray]
    exact (List.getElem?_eq_some_iff.1 hj).2
theorem compI_le (xs : List Int) : (compI xs).length ≤ xs.length := by
  unfold compI compactUpTo
  rw [List.length_map]
  have := List.length_filter_le (keeps xs.toArray) (List.range xs.length)
  simpa using this

/-! ### the places that have something beside them -/
theorem flat_take {xs : List (List Int)} {k : Nat} {t : List Int} (h : xs[k]? = some t) : (xs.take k).flatten ++ t = (xs.take (k + 1)).flatten := by
  rw [List.take_add_one, h, Option.toList_some, List.flatten_append]; simp
def usedTo (xss : List (List Int)) : Nat → List Int
  | 0 => []
  | k + 1 => usedTo xss k ++ (if 0 < ((xss[k]?).getD []).length then [(k : Int)] else [])
def usedL (m : MeshT) : List Int := usedTo (nextL m) m.places.length
theorem usedTo_spec (xss : List (List Int)) : ∀ k, (usedTo xss k).Pairwise (· < ·) ∧ ∀ x : Int, x ∈ usedTo xss k ↔ ∃ j : Nat, j < k ∧ x = j ∧ 0 < ((xss[j]?).getD []).length
  | 0 => ⟨List.Pairwise.nil, fun x => ⟨fun h => (by cases h), fun ⟨j, hj, _⟩ => by omega⟩⟩
  | k + 1 => by
    obtain ⟨h1, h2⟩ := usedTo_spec xss k
    unfold usedTo
    split
    · rename_i hk
      refine ⟨List.pairwise_append.2 ⟨h1, List.pairwise_singleton _ _, fun x hx y hy => ?_⟩, fun x => ?_⟩
      · rw [List.mem_singleton] at hy
        obtain ⟨j, hj, e, _⟩ := (h2 x).1 hx
        omega
      · rw [List.mem_append, List.mem_singleton, h2]
        constructor
        · rintro (⟨j, hj, e⟩ | rfl)
          · exact ⟨j, by omega, e⟩
          · exact ⟨k, by omega, rfl, hk⟩
        · rintro ⟨j, hj, e, hp⟩
          rcases Nat.lt_or_ge j k with h | h
          · exact .inl ⟨j, h, e, hp⟩
          · obtain rfl : j = k := by omega
            exact .inr e
    · rename_i hk
      rw [List.append_nil]
      refine ⟨h1, fun x => (h2 x).trans ⟨fun ⟨j, hj, e⟩ => ⟨j, by omega, e⟩, fun ⟨j, hj, e, hp⟩ => ?_⟩⟩
      rcases Nat.lt_or_ge j k with h | h
      · exact ⟨j, h, e, hp⟩
      · obtain rfl : j = k := by omega
        exact absurd hp hk
theorem usedTo_len (xss : List (List Int)) : ∀ k, (usedTo xss k).length ≤ k
  | 0 => Nat.le_refl _
  | k + 1 => by
    have := usedTo_len xss k
    unfold usedTo
    split <;> simp <;> omega
/-- what one triangle's edges add -/
theorem nxQ_some {t : List Int} {xss : List (List Int)} (hb : ∀ i ∈ t, 0 ≤ i ∧ i < xss.length) : ∀ (q : Nat), q ≤ t.length → ∀ i : Nat, 0 < (((nxQ t xss q)[i]?).getD []).length ↔ 0 < ((xss[i]?).getD []).length ∨ (i : Int) ∈ t.take q
  | 0, _, i => by simp [nxQ]
  | q + 1, hq, i => by
    have ih := nxQ_some hb q (by omega) i
    have ht : t[q]? = some (t[q]'(by omega)) := List.getElem?_eq_getElem _
    have hbq := hb _ (List.getElem_mem (show q < t.length by omega))
    have e1 : iAt t q = t[q]'(by omega) := by simp [iAt, ht]
    simp only [nxQ, nxA, e1, List.getElem?_set, nxQ_len]
    rw [List.take_add_one, ht, Option.toList_some, List.mem_append, List.mem_singleton]
    by_cases h : (t[q]'(by omega)).toNat = i
    · rw [if_pos h, if_pos (by omega)]
      simp; omega
    · rw [if_neg h, ih]
      have : ¬ (i : Int) = t[q]'(by omega) := fun e => h (by rw [← e]; simp)
      simp [this]
theorem nextTo_some {m : MeshT} (h : meshOk m = true) : ∀ (k : Nat), k ≤ m.tris.length → ∀ i : Nat, 0 < (((nextTo m k)[i]?).getD []).length ↔ (i : Int) ∈ (m.tris.take k).flatten
  | 0, _, i => by
    simp only [nextTo, List.take_zero, List.flatten_nil, List.not_mem_nil, iff_false, List.getElem?_replicate]
    split <;> simp
  | k + 1, hk, i => by
    have ht : m.tris[k]? = some (m.tris[k]'hk) := List.getElem?_eq_getElem hk
    have htr := mesh_tri h ht
    have h1 := nxQ_some (t := m.tris[k]'hk) (xss := nextTo m k) (fun j hj => by have := htr.2 j hj; rw [nextTo_len]; exact this) 3 (by omega) i
    have e : nextTo m (k + 1) = nxQ (m.tris[k]'hk) (nextTo m k) 3 := by simp [nextTo, ht]
    rw [e, h1, nextTo_some h k (by omega) i, ← flat_take ht, List.mem_append, List.take_of_length_le (l := m.tris[k]'hk) (by omega)]
/-- **the two tellings** -/
theorem used_alike {m : MeshT} (h : meshOk m = true) : compI (sortI m.tris.flatten) = usedL m := by
  obtain ⟨h1, h2⟩ := compI_asc (sortI_asc m.tris.flatten)
  obtain ⟨h3, h4⟩ := usedTo_spec (nextL m) m.places.length
  refine asc_ext h1 h3 fun x => ?_
  rw [h2, sortI_mem]
  refine Iff.trans ?_ (h4 x).symm
  have hn := nextTo_some h m.tris.length (Nat.le_refl _)
  rw [List.take_of_length_le (Nat.le_refl _)] at hn
  constructor
  · intro hx
    obtain ⟨t, ht, hxt⟩ := List.mem_flatten.1 hx
    obtain ⟨k, hk⟩ := List.getElem?_of_mem ht
    have hb := (mesh_tri h hk).2 x hxt
    refine ⟨x.toNat, by omega, by omega, (hn x.toNat).2 ?_⟩
    rw [Int.toNat_of_nonneg hb.1]; exact hx
  · rintro ⟨j, hj, rfl, hp⟩
    exact (hn j).1 hp
def usedR (m : MeshT) : List Int := if meshOk m then usedL m else []
theorem usedR_f {m : MeshT} (h : meshOk m = false) : usedR m = [] := by unfold usedR; rw [h]; rfl
theorem usedR_t {m : MeshT} (h : meshOk m = true) : usedR m = usedL m := by unfold usedR; rw [h]; rfl
theorem usedR_le (m : MeshT) : (usedR m).length ≤ 8192 := by
  unfold usedR
  split
  · rename_i h
    have h1 := usedTo_len (nextL m) m.places.length
    have h2 := mesh_len h
    unfold usedL; omega
  · exact Nat.zero_le _
theorem sameX_selfI (l : List Int) : sameX eqI l l = true := sameX_self eqI_self l
theorem usedTo_pos {xss : List (List Int)} {k : Nat} {x : List Int} (h : xss[k]? = some x) (hp : 0 < (x.length : Int)) : usedTo xss k ++ [(k : Int)] = usedTo xss (k + 1) := by
  simp only [usedTo, h, Option.getD_some]
  rw [if_pos (by omega)]
theorem usedTo_neg {xss : List (List Int)} {k : Nat} {x : List Int} (h : xss[k]? = some x) (hp : ¬ 0 < (x.length : Int)) : usedTo xss k = usedTo xss (k + 1) := by
  simp only [usedTo, h, Option.getD_some]
  rw [if_neg (by omega), List.append_nil]
theorem flat_len {xs : List (List Int)} (h : ∀ t ∈ xs, t.length = 3) : xs.flatten.length = 3 * xs.length := by
  induction xs with
  | nil => rfl
  | cons a l ih => rw [List.flatten_cons, List.length_append, ih fun t ht => h t (by simp [ht]), h a (by simp), List.length_cons]; omega
theorem flat_sum {xs : List (List Int)} : ∀ k, k ≤ xs.length → (xs.take k).flatten.length = liSum xs k
  | 0, _ => by simp [liSum]
  | k + 1, hk => by
    have ht : xs[k]? = some (xs[k]'hk) := List.getElem?_eq_getElem hk
    rw [← flat_take ht, List.length_append, flat_sum k (by omega), liSum_succ ht]
end Go.Proofs.Ytoblnfkpjgghiaa
