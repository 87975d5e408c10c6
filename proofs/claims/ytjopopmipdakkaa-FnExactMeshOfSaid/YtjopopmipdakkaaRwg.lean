/- rows of elements that are written in place -/
import Derived.Test.YtjopopmipdakkaaMrk
namespace Go.Proofs.Ytjopopmipdakkaa
open Go Go.RowKit
def RowG {α : Type} (R : Rel α) (k : Nat) (w : World) (g : Nat) (xs : List α) : Prop := ∃ cs, Blk w g cs ∧ xs.length * k ≤ cs.length ∧ ∀ (i : Nat) (x : α), xs[i]? = some x → R w x ((cs.drop (i * k)).take k)
section
variable {α : Type} {R : Rel α} {k : Nat} {w u : World} {g : Nat} {xs : List α}
theorem RowG.ext (h : RowG R k w g xs) (hR : Flat R) (x : Ext w u) : RowG R k u g xs := let ⟨cs, hb, hl, h⟩ := h; ⟨cs, hb.ext x, hl, fun i y hi => hR _ _ _ _ (h i y hi)⟩
theorem RowG.kl {L : List Nat} (h : RowG R k w g xs) (hR : Flat R) (x : KpL L w u) (hn : g ∉ L) : RowG R k u g xs := let ⟨cs, hb, hl, h⟩ := h; ⟨cs, hb.kl x hn, hl, fun i y hi => hR _ _ _ _ (h i y hi)⟩
theorem RowG.cast {ys : List α} (h : RowG R k w g xs) (e : xs = ys) : RowG R k w g ys := e ▸ h
theorem RowG.lt (h : RowG R k w g xs) : g < w.heap.size := let ⟨_, hb, _⟩ := h; hb.lt
theorem RowG.same {B : Nat} (h : RowG R k w g xs) (hR : Flat R) (x : Same B w u) (hB : B ≤ g) : RowG R k u g xs := let ⟨cs, hb, hl, h⟩ := h; ⟨cs, hb.hang hB u x, hl, fun i y hi => hR _ _ _ _ (h i y hi)⟩
theorem RowG.step {cs : List Value} {i : Nat} (hl : xs.length * k ≤ cs.length) (hi : i < xs.length) : i * k + k ≤ cs.length := by
  have : i * k + k ≤ xs.length * k := by
    calc i * k + k = (i + 1) * k := by rw [Nat.add_mul, Nat.one_mul]
      _ ≤ _ := Nat.mul_le_mul_right _ hi
  omega
theorem RowG.at {i : Nat} {x : α} (h : RowG R k w g xs) (hi : xs[i]? = some x) : ∃ cs, Cells w g (i * k) cs ∧ R w x cs ∧ cs.length = k := by
  obtain ⟨cs, hb, hl, h⟩ := h
  have hs := RowG.step (k := k) hl (List.getElem?_eq_some_iff.1 hi).1
  refine ⟨_, ?_, h i x hi, by simp; omega⟩
  have := hb.cells.sub (i * k) k
  rwa [Nat.zero_add] at this
theorem RowG.hang {B n cap : Nat} (h : RowG R k w g xs) (hR : Flat R) (hn : xs.length = n) (hB : B ≤ g) (hc : n ≤ cap) (hm : n ≤ 9223372036854775807) (hk : 0 < k) : Hang B w (fun u => Sl R k u (.slice (some ⟨g, 0, none⟩) n cap) xs) := fun u hu => by
  subst hn
  have h := h.same hR hu hB
  refine ⟨hm, _, cap, rfl, fun i x hi => ?_⟩
  have hlt := (List.getElem?_eq_some_iff.1 hi).1
  obtain ⟨cs, hc', hr, hl⟩ := h.at hi
  exact ⟨g, 0, cs, rfl, by rw [Nat.zero_add]; exact hc', hr, hl, hk, by omega⟩
theorem RowG.sl {n cap : Nat} (h : RowG R k w g xs) (hR : Flat R) (hn : xs.length = n) (hc : n ≤ cap) (hm : n ≤ 9223372036854775807) (hk : 0 < k) : Sl R k w (.slice (some ⟨g, 0, none⟩) n cap) xs := (h.hang hR hn (Nat.zero_le _) hc hm hk).get
theorem RowG.wl {B n cap : Nat} (h : RowG R k w g xs) (hn : xs.length = n) (hB : B ≤ g) (hc : n ≤ cap) : WL k B w [g] (.slice (some ⟨g, 0, none⟩) n cap) n := by
  subst hn
  obtain ⟨cs, hb, hl, _⟩ := h
  exact WL.one hb hB hl hc
end
section
variable {P : Program} {a : Act} {w : World} {dst : Option Tmp} {ty : TypeId} {pos : String} {af : Array Edge} {g : Option (Nat × Bool)}
theorem does_loadRowI {t : TypeId} {x : Operand} {b off i : Nat} {e : Int} {xs : List Int} (hx : a.eval x = .pointer (some ⟨b, off, none⟩)) (hA : ∀ w, (isAgg t).run P w = .ok false w) (h : RowG RI 1 w b xs) (ho : off = i * 1) (he : xs[i]? = some e) :
    does P ⟨dst, .load t x, ty, pos, af, g⟩ a w (Is (.int .i64 e) w) := by
  subst ho
  obtain ⟨cs, hc, hr, _⟩ := h.at he
  subst hr
  exact does_load hx hA (by have := hc 0 _ rfl; rwa [Nat.add_zero] at this)
theorem does_storeRowG {α : Type} {R : Rel α} {k : Nat} {t : TypeId} {x y : Operand} {b off i : Nat} {u : Value} {e : α} {xs : List α} (hx : a.eval x = .pointer (some ⟨b, off, none⟩)) (hy : a.eval y = u) (hS : ∀ w, (sizeOf t).run P w = .ok k w) (hn : u.cells.size = k) (h1 : u.cells.toList.all (fun v => v.oneCell') = true)
    (hR : Flat R) (h : RowG R k w b xs) (ho : off = i * k) (hi : i < xs.length) (hu : R w e u.cells.toList) :
    does P ⟨dst, .store t x y, ty, pos, af, g⟩ a w (fun v w' => v = undef ∧ Wr b w w' ∧ RowG R k w' b (xs.set i e)) := by
  subst ho
  obtain ⟨cs, hb, hl, h⟩ := h
  have hik := RowG.step (k := k) hl hi
  have hul : u.cells.toList.length = k := by simpa using hn
  refine (does_store hx hy hS hn hb hik h1).mono fun v w' ⟨hv, hw, hB⟩ => ⟨hv, hw, _, hB, ?_, fun j y hj => ?_⟩
  · simp only [splice, List.length_append, List.length_take, List.length_drop, List.length_set, hul]; omega
  · have hjl := (List.getElem?_eq_some_iff.1 hj).1
    rw [List.length_set] at hjl
    rw [List.getElem?_set] at hj
    rcases Nat.lt_trichotomy j i with hji | hji | hji
    · rw [if_neg (by omega)] at hj
      have h2 : j * k + k ≤ i * k := by
        calc j * k + k = (j + 1) * k := by rw [Nat.add_mul, Nat.one_mul]
          _ ≤ i * k := Nat.mul_le_mul_right _ hji
      have : ((splice cs (i * k) u.cells.toList).drop (j * k)).take k = (cs.drop (j * k)).take k := by
        simp only [splice, List.append_assoc]
        rw [List.drop_append_of_le_length (by simp; omega), List.take_append_of_le_length (by simp; omega), List.drop_take, List.take_take]
        congr 1; omega
      rw [this]; exact hR _ _ _ _ (h j y hj)
    · subst hji
      rw [if_pos rfl, if_pos hi] at hj
      cases hj
      have : ((splice cs (j * k) u.cells.toList).drop (j * k)).take k = u.cells.toList := by
        simp only [splice, List.append_assoc]
        rw [List.drop_append, List.drop_of_length_le (by simp; omega)]
        have : j * k - (cs.take (j * k)).length = 0 := by simp; omega
        rw [this, List.drop_zero, List.nil_append, List.take_append_of_le_length (by omega), List.take_of_length_le (by omega)]
      rw [this]; exact hR _ _ _ _ hu
    · rw [if_neg (by omega)] at hj
      have h2 : i * k + k ≤ j * k := by
        calc i * k + k = (i + 1) * k := by rw [Nat.add_mul, Nat.one_mul]
          _ ≤ j * k := Nat.mul_le_mul_right _ hji
      have : ((splice cs (i * k) u.cells.toList).drop (j * k)).take k = (cs.drop (j * k)).take k := by
        simp only [splice, List.append_assoc]
        rw [List.drop_append, List.drop_of_length_le (by simp; omega), List.nil_append, List.drop_append, List.drop_of_length_le (by simp; omega), List.nil_append, List.drop_drop]
        congr 2
        simp only [List.length_take, hul]; omega
      rw [this]; exact hR _ _ _ _ (h j y hj)
end
theorem does_indexSl0 {P : Program} {a : Act} {w0 w : World} {dst : Option Tmp} {ty : TypeId} {pos : String} {af : Array Edge} {g : Option (Nat × Bool)} {α : Type} {R : Rel α} {k t : Nat} {x y : Operand} {p : Option Addr} {n c : Nat} {xs : List α} {i : Int} {e : α} (ht : P.underlying t = some (.slice (P.elem t))) (hS : ∀ w, (sizeOf (P.elem t)).run P w = .ok k w)
    (hx : a.eval x = .slice p n c) (hy : a.eval y = .int .i64 i) (h : Sl R k w0 (.slice p n c) xs) (h0 : 0 ≤ i) (he : xs[i.toNat]? = some e) :
    does P ⟨dst, .indexAddr t x y, ty, pos, af, g⟩ a w (fun v w' => ∃ b off cs, v = .pointer (some ⟨b, off, none⟩) ∧ Cells w0 b off cs ∧ R w0 e cs ∧ w' = w) := by
  obtain ⟨b, off, cs, rfl, hc, hr, hk⟩ := h.get i.toNat e he
  have hl : xs.length = n := by obtain ⟨_, p', c', h1, _⟩ := h; cases h1; rfl
  have hlt : i.toNat < xs.length := (List.getElem?_eq_some_iff.1 he).1
  refine (does_run (u := .pointer (some ⟨b, off + i.toNat * k, none⟩)) (w' := w) ?_).mono fun v w' ⟨h1, h2⟩ => ⟨b, _, cs, h1, hc, hr, h2⟩
  have hb : 0 ≤ i ∧ i < (n : Int) := ⟨h0, by omega⟩
  have hr2 := run_indexAt_slice (P := P) w t ⟨b, off, none⟩ n c .i64 i ht
  rw [if_pos hb] at hr2
  have ha : (⟨b, off, none⟩ : Addr).add (i.toNat * k) = ⟨b, off + i.toNat * k, none⟩ := Addr.add_lit b off _
  simp only [hS, Result.andThen_ok, ha] at hr2
  simp only [execOp, hx, hy, Sem.run_bind, hr2, Result.andThen_ok, Sem.run_pure]
end Go.Proofs.Ytjopopmipdakkaa
