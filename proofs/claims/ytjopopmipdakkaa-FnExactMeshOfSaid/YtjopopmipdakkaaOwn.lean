/- Slices of a body's own that grow by append: element by element, each what a relation tells. -/
import Derived.Test.YtjopopmipdakkaaRgw
import Derived.Test.YtjopopmipdakkaaTyp
import Derived.Maps.AppendAt
namespace Go.Proofs.Ytjopopmipdakkaa
open Go Go.RowKit
theorem lit1 {α : Type} {R : Rel α} {w : World} {cs : List Value} {y : α} (h : R w y cs) : ∀ (i : Nat) (x : α), [y][i]? = some x → R w x ((cs.drop (i * cs.length)).take cs.length) := by
  intro i x hi
  match i, hi with
  | 0, hi => cases hi; simpa using h
  | i + 1, hi => simp at hi
theorem Hang.castL {α : Type} {R : Rel α} {k C : Nat} {w : World} {v : Value} {xs ys : List α} (h : Hang C w (fun u => Sl R k u v xs)) (e : xs = ys) : Hang C w (fun u => Sl R k u v ys) := e ▸ h
def Own {α : Type} (R : Rel α) (k : Nat) (e : TypeId) (g0 B : Nat) (w : World) (v : Value) (xs : List α) : Prop :=
  ∃ rows, w.ownsRow 0 e k v xs.length rows ∧ (∀ g, v.ownBlock = some g → g = g0 ∨ B ≤ g) ∧ ∀ i x, xs[i]? = some x → R w x ((rows.drop (i * k)).take k)
section
variable {α : Type} {R : Rel α} {k g0 B : Nat} {e : TypeId} {w u : World} {v : Value} {xs : List α}
theorem Own.nil : Own R k e g0 B w (.slice none 0 0) [] := ⟨[], World.ownsRow_nil w 0 e k, by simp [Value.ownBlock], by simp⟩
theorem Own.shape (h : Own R k e g0 B w v xs) : ∃ p c, v = .slice p xs.length c := by
  obtain ⟨rows, hr, _, _⟩ := h
  rcases hr.2 with ⟨rfl, hn⟩ | ⟨g, cap, cur, rfl, _⟩
  · exact ⟨none, 0, by rw [hn]⟩
  · exact ⟨_, _, rfl⟩
theorem Own.kl {L : List Nat} (h : Own R k e g0 B w v xs) (hR : Flat R) (x : KpL L w u) (hL : ∀ c ∈ L, c ≠ g0 ∧ (c < B ∨ w.heap.size ≤ c)) : Own R k e g0 B u v xs := by
  obtain ⟨rows, hr, hg, hx⟩ := h
  refine ⟨rows, ⟨hr.1, ?_⟩, hg, fun i y hi => hR _ _ _ _ (hx i y hi)⟩
  rcases hr.2 with hn | ⟨g, cap, cur, rfl, hb, hgg, rest⟩
  · exact .inl hn
  · refine .inr ⟨g, cap, cur, rfl, hb, ?_, rest⟩
    have hl := (Array.getElem?_eq_some_iff.1 hgg).1
    rw [x.other g hl fun hm => ?_]
    · exact hgg
    · obtain ⟨h1, h2⟩ := hL g hm
      rcases hg g rfl with h3 | h3
      · exact h1 h3
      · omega
theorem Own.ext (h : Own R k e g0 B w v xs) (hR : Flat R) (x : Ext w u) : Own R k e g0 B u v xs := h.kl (L := []) hR (KpL.of_ext x) all0
theorem Own.same {C : Nat} (h : Own R k e g0 B w v xs) (hR : Flat R) (x : Same C w u) (h0 : C ≤ g0) (hB : C ≤ B) : Own R k e g0 B u v xs := by
  obtain ⟨rows, hr, hg, hx⟩ := h
  refine ⟨rows, ⟨hr.1, ?_⟩, hg, fun i y hi => hR _ _ _ _ (hx i y hi)⟩
  rcases hr.2 with hn | ⟨g, cap, cur, rfl, hb, hgg, rest⟩
  · exact .inl hn
  · refine .inr ⟨g, cap, cur, rfl, hb, ?_, rest⟩
    have hl := (Array.getElem?_eq_some_iff.1 hgg).1
    rw [x.same g (by rcases hg g rfl with h3 | h3 <;> omega) hl]
    exact hgg
theorem Own.sl (h : Own R k e g0 B w v xs) (hk : 0 < k) : Sl R k w v xs := by
  obtain ⟨rows, hr, hg, hx⟩ := h
  have hc := fun g hg => hr.cells (g := g) hg
  rcases hr.2 with ⟨rfl, hn⟩ | ⟨g, cap, cur, rfl, hb, hgg, hnc, hcm, hsz, ht⟩
  · have : xs = [] := List.eq_nil_of_length_eq_zero hn
    subst this; exact Sl_nil _ _ _
  · refine ⟨by simp only [maxLen] at hcm; omega, _, _, rfl, fun i x hi => ?_⟩
    have hlt := (List.getElem?_eq_some_iff.1 hi).1
    have hlen : ((rows.drop (i * k)).take k).length = k := by
      have h1 : i * k + k ≤ rows.length := by
        rw [hr.1]; calc i * k + k = (i + 1) * k := by rw [Nat.add_mul, Nat.one_mul]
          _ ≤ _ := Nat.mul_le_mul_right _ hlt
      simp; omega
    refine ⟨g, 0, _, rfl, fun j y hj => ?_, hx i x hi, hlen, hk, by omega⟩
    rw [List.getElem?_take] at hj
    split at hj
    · rw [List.getElem?_drop] at hj
      have := hc g rfl (i * k + j) y hj
      rw [Addr.add_lit] at this
      rw [Nat.add_assoc]
      exact this
    · cases hj
theorem Own.hang {C : Nat} (h : Own R k e g0 B w v xs) (hR : Flat R) (hk : 0 < k) (h0 : C ≤ g0) (hB : C ≤ B) : Hang C w (fun u => Sl R k u v xs) := fun _ hu => (h.same hR hu h0 hB).sl hk
theorem Own.start' {w1 : World} (h : Own R k e g0 B w1 v xs) (h' : Own R k e g0 B w v xs) : ∃ g1, (g1 = g0 ∨ B ≤ g1) ∧ (g1 = g0 ∨ g1 < w1.heap.size) ∧ Own R k e g1 w.heap.size w v xs := by
  obtain ⟨rows, hr, hg, hx⟩ := h'
  cases hv : v.ownBlock with
  | none => exact ⟨g0, .inl rfl, .inl rfl, rows, hr, by simp [hv], hx⟩
  | some g =>
    obtain ⟨_, hr1, _, _⟩ := h
    refine ⟨g, hg g hv, .inr (hr1.lt g hv).2, rows, hr, fun g' h' => ?_, hx⟩
    rw [hv] at h'; cases h'; exact .inl rfl
theorem Own.back {g1 B1 : Nat} (h : Own R k e g1 B1 w v xs) (h1 : g1 = g0 ∨ B ≤ g1) (hB : B ≤ B1) : Own R k e g0 B w v xs := by
  obtain ⟨rows, hr, hg, hx⟩ := h
  refine ⟨rows, hr, fun g hv => ?_, hx⟩
  rcases hg g hv with h | h
  · rw [h]; exact h1
  · exact .inr (by omega)
theorem Own.reB {b C : Nat} (h : Own R k e b B w (.slice (some ⟨b, 0, none⟩) 0 0) []) : Own R k e b C w (.slice (some ⟨b, 0, none⟩) 0 0) [] := by
  obtain ⟨rows, hr, _, hx⟩ := h
  exact ⟨rows, hr, fun g hg => .inl (by simp [Value.ownBlock] at hg; exact hg.symm), hx⟩
theorem Own.cast {ys : List α} (h : Own R k e g0 B w v xs) (he : xs = ys) : Own R k e g0 B w v ys := he ▸ h
end
section
variable {P : Program} {a : Act} {w : World} {dst : Option Tmp} {ty : TypeId} {pos : String} {af : Array Edge} {g : Option (Nat × Bool)}
theorem does_slice0 {t e : TypeId} (hb : ∀ w, (Instr.buildSlice t 0 #[]).run P w = .ok (.slice (some ⟨w.heap.size, 0, none⟩) 0 0) (w.alloc (.cells #[] e))) :
    does P ⟨dst, .buildSlice t 0 #[], ty, pos, af, g⟩ a w (fun v w' => ∃ b, v = .slice (some ⟨b, 0, none⟩) 0 0 ∧ w.heap.size ≤ b ∧ b < w'.heap.size ∧ (∀ (α : Type) (R : Rel α) (k : Nat), Own R k e b w'.heap.size w' (.slice (some ⟨b, 0, none⟩) 0 0) []) ∧ Ext w w') := by
  refine (does_run (u := .slice (some ⟨w.heap.size, 0, none⟩) 0 0) (w' := w.alloc (.cells #[] e)) ?_).mono fun v w' ⟨h3, h4⟩ => ?_
  · have : (#[] : Array (Nat × Operand)).map (fun (i, x) => (i, a.eval x)) = #[] := by simp
    simp only [execOp, this, Sem.run_bind, hb, Result.andThen_ok, Sem.run_pure]
  · subst h3 h4
    refine ⟨w.heap.size, rfl, Nat.le_refl _, by simp, fun α R k => ⟨[], ⟨by simp, .inr ⟨_, 0, #[], rfl, Nat.zero_le _, heap_alloc_new w _, Nat.le_refl _, by simp [maxLen], by simp, by simp⟩⟩, fun g hg => ?_, by simp⟩, Ext.alloc w _⟩
    simp [Value.ownBlock] at hg; exact .inl hg.symm
theorem does_append {α : Type} {R : Rel α} {k g0 B b m c : Nat} {e : TypeId} {v z : Value} {xs ys : List α} {t : TypeId} {x y : Operand} {cs : List Value} (ht : P.underlying t = some (.slice e))
    (hi : ∃ i, P.info? e = some i ∧ i.zero = some z ∧ i.size = k ∧ i.bytes ≤ 1000) (hz : z.cells.size = k) (hk : 0 < k) (hx : a.eval x = v) (hy : a.eval y = .slice (some ⟨b, 0, none⟩) m c) (ho : Own R k e g0 B w v xs) (hR : Flat R) (hb : Blk w b cs)
    (hm : ys.length = m) (hl : cs.length = m * k) (h1 : cs.all Value.oneCell' = true) (hys : ∀ i x, ys[i]? = some x → R w x ((cs.drop (i * k)).take k)) (hlen : xs.length + m ≤ 100000000000) (hB : B ≤ w.heap.size) :
    does P ⟨dst, .call { callee := .builtin .append, args := #[x, y], argTypes := #[t, t] }, ty, pos, af, g⟩ a w (fun v' w' => ∃ g, (g = g0 ∨ B ≤ g) ∧ KpL [g] w w' ∧ Own R k e g0 B w' v' (xs ++ ys)) := by
  obtain ⟨i, hi, hz', hs, hby⟩ := hi
  obtain ⟨rows, hr, hg, hrx⟩ := ho
  have hnews : ∀ j u, cs[j]? = some u → w.cell? ((⟨b, 0, none⟩ : Addr).add j) = some u := fun j u hu => by
    rw [Addr.add_lit]; exact hb.cells j u hu
  have hbytes : (xs.length + m) * i.bytes ≤ 140737488355328 := Nat.le_trans (Nat.mul_le_mul hlen hby) (by decide)
  obtain ⟨v', w', hrun, hown, hgr, _, hblk⟩ := run_append_own_at w 0 t ty e i z k i.bytes ht hi hz' hs rfl hz hk v xs.length rows hr ⟨b, 0, none⟩ m c cs hl hnews (fun u hu => List.all_eq_true.1 h1 u hu) (by simp only [maxLen]; omega) hbytes (Nat.zero_le _)
  refine (does_run (u := v') (w' := w') ?_).mono fun v1 w1 ⟨h3, h4⟩ => ?_
  · unfold execOp
    simp only [resolve, invoke, builtin, Sem.run_bind, Sem.run_pure, Result.andThen_ok, List.map_toArray, List.map_cons, List.map_nil, hx, hy, hrun]
  · subst h3 h4
    have hlt : ∀ i y, (xs ++ ys)[i]? = some y → R w1 y (((rows ++ cs).drop (i * k)).take k) := fun i y hi => by
      refine hR w _ _ _ ?_
      rcases Nat.lt_or_ge i xs.length with h | h
      · rw [List.getElem?_append_left h] at hi
        have h1 : i * k + k ≤ rows.length := by
          rw [hr.1]; calc i * k + k = (i + 1) * k := by rw [Nat.add_mul, Nat.one_mul]
            _ ≤ _ := Nat.mul_le_mul_right _ h
        have h2 := hrx i y hi
        rw [List.drop_append_of_le_length (by omega), List.take_append_of_le_length (by simp; omega)]
        exact h2
      · rw [List.getElem?_append_right h] at hi
        have h2 := hys _ y hi
        have h3 : (rows ++ cs).drop (i * k) = cs.drop ((i - xs.length) * k) := by
          rw [List.drop_append, hr.1, List.drop_of_length_le (by rw [hr.1]; exact Nat.mul_le_mul_right _ h), List.nil_append, Nat.mul_sub_right_distrib]
        rw [h3]; exact h2
    have hp : ∀ g, v1.ownBlock = some g → g = g0 ∨ B ≤ g := fun g' hg' => by
      rcases hblk with h | h
      · exact hg g' (by rw [← h, hg'])
      · rw [h] at hg'; cases hg'; exact .inr hB
    refine ⟨v.ownBlock.getD g0, ?_, ⟨hgr.os, hgr.tape, hgr.output, hgr.size, fun q hq hne => hgr.block q hq fun h => hne ?_⟩, rows ++ cs, ?_, hp, hlt⟩
    · cases hv : v.ownBlock with
      | none => exact .inl rfl
      | some q => exact hg q hv
    · rw [← h]; simp
    · rw [List.length_append, hm]; exact hown
end
end Go.Proofs.Ytjopopmipdakkaa
