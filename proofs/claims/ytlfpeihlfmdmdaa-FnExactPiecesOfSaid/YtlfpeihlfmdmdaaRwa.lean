/- rows: out of slices of one's own, and copies of slices that are read -/
import Derived.Test.YtlfpeihlfmdmdaaRwg
import Derived.Laws.Cover3
namespace Go.Proofs.Ytlfpeihlfmdmdaa
open Go Go.RowKit

section
variable {α : Type} {R : Rel α} {k : Nat} {w u : World} {xs : List α}
theorem WL.rowg {B n q : Nat} {L : List Nat} {p : Option Addr} (h : WL k B w L (.slice p n q) n) (hs : Sl R k w (.slice p n q) xs) (hn : 0 < n) : ∃ g, p = some ⟨g, 0, none⟩ ∧ L = [g] ∧ RowG R k w g xs ∧ n ≤ q ∧ B ≤ g := by
  obtain ⟨hL, ⟨_, rfl, _⟩ | ⟨g, cap, cs, rfl, hv, hb, hl, hc⟩⟩ := h
  · omega
  · cases hv
    have hx := (hs.cap).1
    refine ⟨g, rfl, rfl, ⟨cs, hb, by rw [hx]; exact hl, fun i x hi => ?_⟩, hc, (hL g (by simp)).1⟩
    obtain ⟨b', off', c0, hp, hc0, hr, hk⟩ := hs.get i x hi
    cases hp
    have : (cs.drop (i * k)).take k = c0 := by
      apply List.ext_getElem?
      intro j
      rw [List.getElem?_take]
      split
      · rename_i hj
        rw [List.getElem?_drop, List.getElem?_eq_getElem (l := c0) (by omega)]
        have h1 := hc0 j _ (List.getElem?_eq_getElem (by omega))
        rw [Nat.zero_add, hb.cell] at h1
        exact h1
      · rw [List.getElem?_eq_none (by omega)]
    rw [this]; exact hr
theorem Own.rowg {g0 B n q : Nat} {e : TypeId} {p : Option Addr} (h : Own R k e g0 B w (.slice p n q) xs) (hn : 0 < xs.length) : ∃ g, p = some ⟨g, 0, none⟩ ∧ (g = g0 ∨ B ≤ g) ∧ RowG R k w g xs ∧ n ≤ q := by
  obtain ⟨rows, hr, hg, hx⟩ := h
  rcases hr.2 with ⟨hv, hn'⟩ | ⟨g, cap, cur, hv, hb, hgg, hnc, hcm, hsz, ht⟩
  · omega
  · cases hv
    refine ⟨g, rfl, hg g rfl, ⟨cur.toList, ⟨e, by simpa using hgg⟩, by have h := Nat.mul_le_mul_right k hnc; rw [← hsz] at h; simpa using h, fun i x hi => ?_⟩, hnc⟩
    have hlt := (List.getElem?_eq_some_iff.1 hi).1
    have h1 : i * k + k ≤ xs.length * k := by
      calc i * k + k = (i + 1) * k := by rw [Nat.add_mul, Nat.one_mul]
        _ ≤ _ := Nat.mul_le_mul_right _ hlt
    have : (cur.toList.drop (i * k)).take k = (rows.drop (i * k)).take k := by
      rw [← ht, List.drop_take, List.take_take]
      congr 1; omega
    rw [this]; exact hx i x hi
theorem cellG {b off m cap : Nat} {ys : List α} (hone : ∀ w x cs, R w x cs → cs.all Value.oneCell' = true) (h : Sl R k w (.slice (some ⟨b, off, none⟩) m cap) ys) :
    ∃ cs : List Value, cs.length = m * k ∧ (∀ j u, cs[j]? = some u → w.cell? ((⟨b, off, none⟩ : Addr).add j) = some u) ∧ cs.all Value.oneCell' = true ∧ ∀ i x, ys[i]? = some x → R w x ((cs.drop (i * k)).take k) := by
  have hl : ys.length = m := h.cap.1
  have key : ∀ i x, ys[i]? = some x → ∃ c : List Value, c.length = k ∧ R w x c ∧ ∀ j v, c[j]? = some v → w.cell? ⟨b, off + (i * k + j), none⟩ = some v := fun i x hi => by
    obtain ⟨b', off', c, hp, hc, hr, hk⟩ := h.get i x hi
    cases hp
    exact ⟨c, hk, hr, fun j v hj => by rw [← Nat.add_assoc]; exact hc j v hj⟩
  have at' : ∀ j, j < m * k → ∃ v, w.cell? ⟨b, off + j, none⟩ = some v ∧ v.oneCell' = true := fun j hj => by
    have hk0 : 0 < k := by rcases Nat.eq_zero_or_pos k with h | h; (subst h; simp at hj); exact h
    have hi : j / k < m := Nat.div_lt_of_lt_mul (by rw [Nat.mul_comm]; exact hj)
    obtain ⟨c, hc, hr, hcell⟩ := key (j / k) _ (List.getElem?_eq_getElem (by omega))
    have hm : j % k < k := Nat.mod_lt _ hk0
    have := hcell (j % k) _ (List.getElem?_eq_getElem (by omega))
    rw [show j / k * k + j % k = j by rw [Nat.mul_comm]; exact Nat.div_add_mod j k] at this
    exact ⟨_, this, List.all_eq_true.1 (hone _ _ _ hr) _ (List.getElem_mem _)⟩
  refine ⟨(List.range (m * k)).map fun j => (w.cell? ⟨b, off + j, none⟩).getD undef, by simp, fun j u hj => ?_, ?_, fun i x hi => ?_⟩
  · rw [List.getElem?_map] at hj
    have hjm : j < m * k := by
      rcases Nat.lt_or_ge j (m * k) with h | h
      · exact h
      · rw [List.getElem?_eq_none (by simpa using h)] at hj; cases hj
    rw [List.getElem?_range hjm] at hj
    obtain ⟨r, hr, _⟩ := at' j hjm
    simp only [Option.map_some, hr, Option.getD_some] at hj
    rw [Addr.add_lit, hr, hj]
  · rw [List.all_eq_true]
    intro v hv
    obtain ⟨i, hi, rfl⟩ := List.mem_map.1 hv
    obtain ⟨r, hr, ho⟩ := at' i (List.mem_range.1 hi)
    rw [hr]; exact ho
  · have hlt := (List.getElem?_eq_some_iff.1 hi).1
    obtain ⟨c, hc, hr, hcell⟩ := key i x hi
    have hik : i * k + k ≤ m * k := by
      calc i * k + k = (i + 1) * k := by rw [Nat.add_mul, Nat.one_mul]
        _ ≤ _ := Nat.mul_le_mul_right _ (by omega)
    have : ((((List.range (m * k)).map fun j => (w.cell? ⟨b, off + j, none⟩).getD undef).drop (i * k)).take k) = c := by
      apply List.ext_getElem?
      intro j
      rw [List.getElem?_take]
      split
      · rename_i hj
        have h1 := hcell j _ (List.getElem?_eq_getElem (by omega))
        rw [List.getElem?_drop, List.getElem?_map, List.getElem?_range (by omega), Option.map_some, h1, Option.getD_some]
        exact (List.getElem?_eq_getElem (by omega)).symm
      · rw [List.getElem?_eq_none (by omega)]
    rw [this]; exact hr
end
section
variable {P : Program} {a : Act} {w : World} {dst : Option Tmp} {ty : TypeId} {pos : String} {af : Array Edge} {g : Option (Nat × Bool)}
theorem does_appendS {α : Type} {R : Rel α} {k g0 B m c : Nat} {e : TypeId} {v z : Value} {xs ys : List α} {p : Option Addr} {t : TypeId} {x y : Operand} (ht : P.underlying t = some (.slice e))
    (hi : ∃ i, P.info? e = some i ∧ i.zero = some z ∧ i.size = k ∧ i.bytes ≤ 1000) (hz : z.cells.size = k) (hk : 0 < k) (hone : ∀ w x cs, R w x cs → cs.all Value.oneCell' = true) (hx : a.eval x = v) (hy : a.eval y = .slice p m c) (ho : Own R k e g0 B w v xs) (hR : Flat R) (hs : Sl R k w (.slice p m c) ys) (hne : 0 < ys.length)
    (hlen : xs.length + m ≤ 100000000000) (hB : B ≤ w.heap.size) :
    does P ⟨dst, .call { callee := .builtin .append, args := #[x, y], argTypes := #[t, t] }, ty, pos, af, g⟩ a w (fun v' w' => ∃ g, (g = g0 ∨ B ≤ g) ∧ KpL [g] w w' ∧ Own R k e g0 B w' v' (xs ++ ys)) := by
  have hl : ys.length = m := hs.cap.1
  obtain ⟨b, off, rfl⟩ := hs.ptr (by omega)
  obtain ⟨cs, hcl, hnews, h1, hys⟩ := cellG hone hs
  obtain ⟨i, hi, hz', hsz, hby⟩ := hi
  obtain ⟨rows, hr, hg, hrx⟩ := ho
  have hbytes : (xs.length + m) * i.bytes ≤ 140737488355328 := Nat.le_trans (Nat.mul_le_mul hlen hby) (by decide)
  obtain ⟨v', w', hrun, hown, hgr, _, hblk⟩ := run_append_own_at w 0 t ty e i z k i.bytes ht hi hz' hsz rfl hz hk v xs.length rows hr ⟨b, off, none⟩ m c cs hcl hnews (fun u hu => List.all_eq_true.1 h1 u hu) (by simp only [maxLen]; omega) hbytes (Nat.zero_le _)
  refine (does_run (u := v') (w' := w') ?_).mono fun v1 w1 ⟨h3, h4⟩ => ?_
  · unfold execOp
    simp only [resolve, invoke, builtin, Sem.run_bind, Sem.run_pure, Result.andThen_ok, List.map_toArray, List.map_cons, List.map_nil, hx, hy, hrun]
  · subst h3 h4
    have hlt : ∀ i y, (xs ++ ys)[i]? = some y → R w1 y (((rows ++ cs).drop (i * k)).take k) := fun i y hi => by
      refine hR w _ _ _ ?_
      rcases Nat.lt_or_ge i xs.length with h | h
      · rw [List.getElem?_append_left h] at hi
        have h1 : i * k + k ≤ rows.length := by
          rw [hr.1]; calc i * k + k = (i + 1) * k := by rw [Nat.add_mul, Nat.one_mul]
            _ ≤ _ := Nat.mul_le_mul_right _ h
        have h2 := hrx i y hi
        rw [List.drop_append_of_le_length (by omega), List.take_append_of_le_length (by simp; omega)]
        exact h2
      · rw [List.getElem?_append_right h] at hi
        have h2 := hys _ y hi
        have h3 : (rows ++ cs).drop (i * k) = cs.drop ((i - xs.length) * k) := by
          rw [List.drop_append, hr.1, List.drop_of_length_le (by rw [hr.1]; exact Nat.mul_le_mul_right _ h), List.nil_append, Nat.mul_sub_right_distrib]
        rw [h3]; exact h2
    have hp : ∀ g, v1.ownBlock = some g → g = g0 ∨ B ≤ g := fun g' hg' => by
      rcases hblk with h | h
      · exact hg g' (by rw [← h, hg'])
      · rw [h] at hg'; cases hg'; exact .inr hB
    refine ⟨v.ownBlock.getD g0, ?_, ⟨hgr.os, hgr.tape, hgr.output, hgr.size, fun q hq hne => hgr.block q hq fun h => hne ?_⟩, rows ++ cs, ?_, hp, hlt⟩
    · cases hv : v.ownBlock with
      | none => exact .inl rfl
      | some q => exact hg q hv
    · rw [← h]; simp
    · rw [List.length_append, hl]; exact hown
theorem does_slnil {t t' e : TypeId} {x y : Operand} {p : Option Addr} {n c : Nat} (ht : P.underlying t = some (.slice e)) (hx : a.eval x = .slice p n c) (hy : a.eval y = .slice none 0 0) :
    does P ⟨dst, .binOp .eql t x y t', ty, pos, af, g⟩ a w (Is (.bool p.isNone) w) := does_run (by
  have hb : (binOp .eql t (.slice p n c) (.slice none 0 0)).run P w = .ok (.bool p.isNone) w := by
    simp only [binOp]
    simp [run_equal_slice_nil w t e p n c ht]
  simp [execOp, hx, hy, eqGuard_at_slice, hb])
theorem Sl.some_of {α : Type} {R : Rel α} {k : Nat} {p : Option Addr} {n c : Nat} {xs : List α} (h : Sl R k w (.slice p n c) xs) (hn : 0 < xs.length) : p.isNone = false := by
  obtain ⟨b, off, cs, rfl, _⟩ := h.get 0 _ (List.getElem?_eq_getElem hn)
  rfl
end
theorem oneV3 : ∀ w x cs, RV3 w x cs → cs.all Value.oneCell' = true := by rintro _ _ _ ⟨_, _, _, rfl, _⟩; rfl
theorem oneRI : ∀ w x cs, RI w x cs → cs.all Value.oneCell' = true := by rintro _ _ _ rfl; rfl
end Go.Proofs.Ytlfpeihlfmdmdaa
