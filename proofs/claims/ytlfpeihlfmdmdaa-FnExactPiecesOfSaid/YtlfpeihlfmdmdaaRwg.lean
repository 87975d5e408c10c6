/- rows of elements that are written in place -/
import Derived.Test.YtlfpeihlfmdmdaaMrk
namespace Go.Proofs.Ytlfpeihlfmdmdaa
open Go Go.RowKit

/-- block g begins with elements, of k cells each, that stand for these -/
def RowG {α : Type} (R : Rel α) (k : Nat) (w : World) (g : Nat) (xs : List α) : Prop := ∃ cs, Blk w g cs ∧ xs.length * k ≤ cs.length ∧ ∀ (i : Nat) (x : α), xs[i]? = some x → R w x ((cs.drop (i * k)).take k)
section
variable {α : Type} {R : Rel α} {k : Nat} {w u : World} {g : Nat} {xs : List α}
theorem RowG.ext (h : RowG R k w g xs) (hR : Flat R) (x : Ext w u) : RowG R k u g xs := let ⟨cs, hb, hl, h⟩ := h; ⟨cs, hb.ext x, hl, fun i y hi => hR _ _ _ _ (h i y hi)⟩
theorem RowG.kl {L : List Nat} (h : RowG R k w g xs) (hR : Flat R) (x : KpL L w u) (hn : g ∉ L) : RowG R k u g xs := let ⟨cs, hb, hl, h⟩ := h; ⟨cs, hb.kl x hn, hl, fun i y hi => hR _ _ _ _ (h i y hi)⟩
theorem RowG.wr {b : Nat} (h : RowG R k w g xs) (hR : Flat R) (x : Wr b w u) (hn : g ≠ b) : RowG R k u g xs := let ⟨cs, hb, hl, h⟩ := h; ⟨cs, hb.wr x hn, hl, fun i y hi => hR _ _ _ _ (h i y hi)⟩
theorem RowG.cast {ys : List α} (h : RowG R k w g xs) (e : xs = ys) : RowG R k w g ys := e ▸ h
theorem RowG.lt (h : RowG R k w g xs) : g < w.heap.size := let ⟨_, hb, _⟩ := h; hb.lt
theorem RowG.same {B : Nat} (h : RowG R k w g xs) (hR : Flat R) (x : Same B w u) (hB : B ≤ g) : RowG R k u g xs := let ⟨cs, hb, hl, h⟩ := h; ⟨cs, hb.hang hB u x, hl, fun i y hi => hR _ _ _ _ (h i y hi)⟩
theorem RowG.step {cs : List Value} {i : Nat} (hl : xs.length * k ≤ cs.length) (hi : i < xs.length) : i * k + k ≤ cs.length := by
  have : i * k + k ≤ xs.length * k := by
    calc i * k + k = (i + 1) * k := by rw [Nat.add_mul, Nat.one_mul]
      _ ≤ _ := Nat.mul_le_mul_right _ hi
  omega
theorem RowG.at {i : Nat} {x : α} (h : RowG R k w g xs) (hi : xs[i]? = some x) : ∃ cs, Cells w g (i * k) cs ∧ R w x cs ∧ cs.length = k := by
  obtain ⟨cs, hb, hl, h⟩ := h
  have hs := RowG.step (k := k) hl (List.getElem?_eq_some_iff.1 hi).1
  refine ⟨_, ?_, h i x hi, by simp; omega⟩
  have := hb.cells.sub (i * k) k
  rwa [Nat.zero_add] at this
theorem RowG.hang {B n cap : Nat} (h : RowG R k w g xs) (hR : Flat R) (hn : xs.length = n) (hB : B ≤ g) (hc : n ≤ cap) (hm : n ≤ 9223372036854775807) (hk : 0 < k) : Hang B w (fun u => Sl R k u (.slice (some ⟨g, 0, none⟩) n cap) xs) := fun u hu => by
  subst hn
  have h := h.same hR hu hB
  refine ⟨hm, _, cap, rfl, fun i x hi => ?_⟩
  have hlt := (List.getElem?_eq_some_iff.1 hi).1
  obtain ⟨cs, hc', hr, hl⟩ := h.at hi
  exact ⟨g, 0, cs, rfl, by rw [Nat.zero_add]; exact hc', hr, hl, hk, by omega⟩
theorem RowG.sl {n cap : Nat} (h : RowG R k w g xs) (hR : Flat R) (hn : xs.length = n) (hc : n ≤ cap) (hm : n ≤ 9223372036854775807) (hk : 0 < k) : Sl R k w (.slice (some ⟨g, 0, none⟩) n cap) xs := (h.hang hR hn (Nat.zero_le _) hc hm hk).get
theorem RowG.wl {B n cap : Nat} (h : RowG R k w g xs) (hn : xs.length = n) (hB : B ≤ g) (hc : n ≤ cap) : WL k B w [g] (.slice (some ⟨g, 0, none⟩) n cap) n := by
  subst hn
  obtain ⟨cs, hb, hl, _⟩ := h
  exact WL.one hb hB hl hc
/-- a row that has just been made: zeros -/
theorem RowG.made {n s : Nat} {z : Value} {cs : List Value} {e : α} (hb : Blk w g cs) (hs : s = k) (hz : z.cells.toList.length = k) (hm : cs = (madeCells z.cells (n * s)).toList) (hr : R w e z.cells.toList) : RowG R k w g (List.replicate n e) := by
  subst hs hm
  refine ⟨_, hb, by simp [size_madeCells], fun i x hi => ?_⟩
  have hlt := (List.getElem?_eq_some_iff.1 hi).1
  rw [List.length_replicate] at hlt
  rw [List.getElem?_replicate, if_pos hlt] at hi
  cases hi
  have hsz : z.cells.size = s := by simpa using hz
  have : ((madeCells z.cells (n * s)).toList.drop (i * s)).take s = z.cells.toList := by
    apply List.ext_getElem?
    intro j
    rw [List.getElem?_take]
    split
    · rename_i hj
      rw [List.getElem?_drop]
      have hlt2 : i * s + j < n * s := by
        calc i * s + j < i * s + s := by omega
          _ = (i + 1) * s := by rw [Nat.add_mul, Nat.one_mul]
          _ ≤ n * s := Nat.mul_le_mul_right _ hlt
      have hmod : (i * s + j) % s = j := by rw [Nat.mul_comm, Nat.mul_add_mod, Nat.mod_eq_of_lt hj]
      have hj2 : j < z.cells.size := by omega
      rw [Array.getElem?_toList, Array.getElem?_toList, Array.getElem?_eq_getElem hj2, Array.getElem?_eq_getElem (by rw [size_madeCells]; exact hlt2)]
      congr 1
      simp only [madeCells, Array.getElem_map, Array.getElem_range, hsz, hmod]
      rw [getElem!_pos z.cells j hj2]
    · rename_i hj
      rw [List.getElem?_eq_none (by omega)]
  rw [this]; exact hr
end
section
variable {P : Program} {a : Act} {w : World} {dst : Option Tmp} {ty : TypeId} {pos : String} {af : Array Edge} {g : Option (Nat × Bool)}
theorem does_loadRowI {t : TypeId} {x : Operand} {b off i : Nat} {e : Int} {xs : List Int} (hx : a.eval x = .pointer (some ⟨b, off, none⟩)) (hA : ∀ w, (isAgg t).run P w = .ok false w) (h : RowG RI 1 w b xs) (ho : off = i * 1) (he : xs[i]? = some e) :
    does P ⟨dst, .load t x, ty, pos, af, g⟩ a w (Is (.int .i64 e) w) := by
  subst ho
  obtain ⟨cs, hc, hr, _⟩ := h.at he
  subst hr
  exact does_load hx hA (by have := hc 0 _ rfl; rwa [Nat.add_zero] at this)
theorem does_loadRowG {α : Type} {R : Rel α} {k : Nat} {t : TypeId} {x : Operand} {b off i : Nat} {e : α} {xs : List α} (hx : a.eval x = .pointer (some ⟨b, off, none⟩)) (hA : ∀ w, (isAgg t).run P w = .ok true w) (hS : ∀ w, (sizeOf t).run P w = .ok k w)
    (h : RowG R k w b xs) (ho : off = i * k) (he : xs[i]? = some e) : does P ⟨dst, .load t x, ty, pos, af, g⟩ a w (fun v w' => Ext w w' ∧ ∃ cs, v = .agg cs.toArray ∧ R w e cs) := by
  subst ho
  obtain ⟨cs, hc, hr, hl⟩ := h.at he
  exact (does_loadAgg hx hA hS hc hl).mono fun v w' ⟨h1, h2⟩ => ⟨h2 ▸ Ext.refl w, cs, h1, hr⟩
theorem does_storeRowG {α : Type} {R : Rel α} {k : Nat} {t : TypeId} {x y : Operand} {b off i : Nat} {u : Value} {e : α} {xs : List α} (hx : a.eval x = .pointer (some ⟨b, off, none⟩)) (hy : a.eval y = u) (hS : ∀ w, (sizeOf t).run P w = .ok k w) (hn : u.cells.size = k) (h1 : u.cells.toList.all (fun v => v.oneCell') = true)
    (hR : Flat R) (h : RowG R k w b xs) (ho : off = i * k) (hi : i < xs.length) (hu : R w e u.cells.toList) :
    does P ⟨dst, .store t x y, ty, pos, af, g⟩ a w (fun v w' => v = undef ∧ Wr b w w' ∧ RowG R k w' b (xs.set i e)) := by
  subst ho
  obtain ⟨cs, hb, hl, h⟩ := h
  have hik := RowG.step (k := k) hl hi
  have hul : u.cells.toList.length = k := by simpa using hn
  refine (does_store hx hy hS hn hb hik h1).mono fun v w' ⟨hv, hw, hB⟩ => ⟨hv, hw, _, hB, ?_, fun j y hj => ?_⟩
  · simp only [splice, List.length_append, List.length_take, List.length_drop, List.length_set, hul]; omega
  · have hjl := (List.getElem?_eq_some_iff.1 hj).1
    rw [List.length_set] at hjl
    rw [List.getElem?_set] at hj
    rcases Nat.lt_trichotomy j i with hji | hji | hji
    · rw [if_neg (by omega)] at hj
      have h2 : j * k + k ≤ i * k := by
        calc j * k + k = (j + 1) * k := by rw [Nat.add_mul, Nat.one_mul]
          _ ≤ i * k := Nat.mul_le_mul_right _ hji
      have : ((splice cs (i * k) u.cells.toList).drop (j * k)).take k = (cs.drop (j * k)).take k := by
        simp only [splice, List.append_assoc]
        rw [List.drop_append_of_le_length (by simp; omega), List.take_append_of_le_length (by simp; omega), List.drop_take, List.take_take]
        congr 1; omega
      rw [this]; exact hR _ _ _ _ (h j y hj)
    · subst hji
      rw [if_pos rfl, if_pos hi] at hj
      cases hj
      have : ((splice cs (j * k) u.cells.toList).drop (j * k)).take k = u.cells.toList := by
        simp only [splice, List.append_assoc]
        rw [List.drop_append, List.drop_of_length_le (by simp; omega)]
        have : j * k - (cs.take (j * k)).length = 0 := by simp; omega
        rw [this, List.drop_zero, List.nil_append, List.take_append_of_le_length (by omega), List.take_of_length_le (by omega)]
      rw [this]; exact hR _ _ _ _ hu
    · rw [if_neg (by omega)] at hj
      have h2 : i * k + k ≤ j * k := by
        calc i * k + k = (i + 1) * k := by rw [Nat.add_mul, Nat.one_mul]
          _ ≤ j * k := Nat.mul_le_mul_right _ hji
      have : ((splice cs (i * k) u.cells.toList).drop (j * k)).take k = (cs.drop (j * k)).take k := by
        simp only [splice, List.append_assoc]
        rw [List.drop_append, List.drop_of_length_le (by simp; omega), List.nil_append, List.drop_append, List.drop_of_length_le (by simp; omega), List.nil_append, List.drop_drop]
        congr 2
        simp only [List.length_take, hul]; omega
      rw [this]; exact hR _ _ _ _ (h j y hj)
end
theorem does_indexSl0 {P : Program} {a : Act} {w0 w : World} {dst : Option Tmp} {ty : TypeId} {pos : String} {af : Array Edge} {g : Option (Nat × Bool)} {α : Type} {R : Rel α} {k t : Nat} {x y : Operand} {p : Option Addr} {n c : Nat} {xs : List α} {i : Int} {e : α} (ht : P.underlying t = some (.slice (P.elem t))) (hS : ∀ w, (sizeOf (P.elem t)).run P w = .ok k w)
    (hx : a.eval x = .slice p n c) (hy : a.eval y = .int .i64 i) (h : Sl R k w0 (.slice p n c) xs) (h0 : 0 ≤ i) (he : xs[i.toNat]? = some e) :
    does P ⟨dst, .indexAddr t x y, ty, pos, af, g⟩ a w (fun v w' => ∃ b off cs, v = .pointer (some ⟨b, off, none⟩) ∧ Cells w0 b off cs ∧ R w0 e cs ∧ w' = w) := by
  obtain ⟨b, off, cs, rfl, hc, hr, hk⟩ := h.get i.toNat e he
  have hl : xs.length = n := by obtain ⟨_, p', c', h1, _⟩ := h; cases h1; rfl
  have hlt : i.toNat < xs.length := (List.getElem?_eq_some_iff.1 he).1
  refine (does_run (u := .pointer (some ⟨b, off + i.toNat * k, none⟩)) (w' := w) ?_).mono fun v w' ⟨h1, h2⟩ => ⟨b, _, cs, h1, hc, hr, h2⟩
  have hb : 0 ≤ i ∧ i < (n : Int) := ⟨h0, by omega⟩
  have hr2 := run_indexAt_slice (P := P) w t ⟨b, off, none⟩ n c .i64 i ht
  rw [if_pos hb] at hr2
  have ha : (⟨b, off, none⟩ : Addr).add (i.toNat * k) = ⟨b, off + i.toNat * k, none⟩ := Addr.add_lit b off _
  simp only [hS, Result.andThen_ok, ha] at hr2
  simp only [execOp, hx, hy, Sem.run_bind, hr2, Result.andThen_ok, Sem.run_pure]
/-- reslicing -/
theorem Sl.upto {α : Type} {R : Rel α} {k : Nat} {w : World} {p : Option Addr} {n c m : Nat} {xs : List α} (h : Sl R k w (.slice p n c) xs) (hm : m ≤ n) : Sl R k w (.slice p m c) (xs.take m) := by
  obtain ⟨hl, p', c', he, h⟩ := h
  cases he
  refine ⟨by simp; omega, p, c, by rw [List.length_take, Nat.min_eq_left hm], fun i x hi => ?_⟩
  rw [List.getElem?_take] at hi
  split at hi
  · exact h i x hi
  · cases hi
theorem Sl.cap {α : Type} {R : Rel α} {k : Nat} {w : World} {p : Option Addr} {n c : Nat} {xs : List α} (h : Sl R k w (.slice p n c) xs) : xs.length = n ∧ n ≤ c := by
  obtain ⟨hl, p', c', he, h⟩ := h
  cases he
  refine ⟨rfl, ?_⟩
  rcases Nat.eq_zero_or_pos xs.length with h0 | h0
  · omega
  · obtain ⟨_, _, _, _, _, _, _, _, hc⟩ := h (xs.length - 1) _ (List.getElem?_eq_getElem (by omega))
    omega
theorem Sl.ptr {α : Type} {R : Rel α} {k : Nat} {w : World} {p : Option Addr} {n c : Nat} {xs : List α} (h : Sl R k w (.slice p n c) xs) (hn : 0 < n) : ∃ b off, p = some ⟨b, off, none⟩ := by
  obtain ⟨h1, _⟩ := h.cap
  obtain ⟨b, off, _, hp, _⟩ := h.get 0 _ (List.getElem?_eq_getElem (by omega))
  exact ⟨b, off, hp⟩
theorem Sl.sliced {α : Type} {R : Rel α} {k : Nat} {w : World} {p : Option Addr} {n c m : Nat} {xs : List α} (h : Sl R k w (.slice p n c) xs) (hm : m ≤ n) : Sl R k w (sliced p 0 m c k) (xs.take m) := by
  obtain ⟨h1, h2⟩ := h.cap
  rcases Nat.eq_zero_or_pos m with h0 | h0
  · subst h0
    exact ⟨by simp, (if c = 0 then p else p.map (·.add (0 * k))), c, by simp [Go.sliced], fun i x hi => by simp at hi⟩
  · obtain ⟨b, off, rfl⟩ := h.ptr (by omega)
    have e : Go.sliced (some ⟨b, off, none⟩) 0 m c k = .slice (some ⟨b, off, none⟩) m c := by
      have ha : (⟨b, off, none⟩ : Addr).add (0 * k) = ⟨b, off + 0 * k, none⟩ := Addr.add_lit b off _
      unfold Go.sliced
      rw [if_neg (by omega), Option.map_some, ha]
      simp
    rw [e]; exact h.upto hm
section
variable {P : Program} {a : Act} {w : World} {dst : Option Tmp} {ty : TypeId} {pos : String} {af : Array Edge} {g : Option (Nat × Bool)}
theorem run_sliceTo {k t : Nat} {p : Option Addr} {n c : Nat} {h : Int} (ht : P.underlying t = some (.slice (P.elem t))) (hS : ∀ w, (sizeOf (P.elem t)).run P w = .ok k w) (h0 : 0 ≤ h) (h1 : h ≤ c) :
    (Instr.sliceAt t (.slice p n c) none (some (.int .i64 h)) none).run P w = .ok (sliced p 0 h.toNat c k) w := by
  rw [run_sliceAt_slice w t _ _ _ _ ht, run_slice_h w t p n c ht .i64 h h0 h1, hS, Result.andThen_ok]
theorem does_sliceTo {α : Type} {R : Rel α} {k t : Nat} {x y : Operand} {p : Option Addr} {n c : Nat} {xs : List α} {h : Int} (ht : P.underlying t = some (.slice (P.elem t))) (hS : ∀ w, (sizeOf (P.elem t)).run P w = .ok k w)
    (hx : a.eval x = .slice p n c) (hy : a.eval y = .int .i64 h) (hs : Sl R k w (.slice p n c) xs) (h0 : 0 ≤ h) (h1 : h ≤ xs.length) :
    does P ⟨dst, .slice t x none (some y) none, ty, pos, af, g⟩ a w (fun v w' => Ext w w' ∧ ∃ u, v = u ∧ Sl R k w' u (xs.take h.toNat)) := by
  obtain ⟨c1, c2⟩ := hs.cap
  have hr := run_sliceTo (P := P) (w := w) (p := p) (n := n) (c := c) ht hS h0 (by omega)
  exact (does_run (u := sliced p 0 h.toNat c k) (w' := w) (by simp [execOp, hx, hy, hr])).mono fun v w' ⟨e1, e2⟩ => by
    subst e1 e2; exact ⟨Ext.refl _, _, rfl, hs.sliced (by omega)⟩
theorem does_sliceH {α : Type} {R : Rel α} {k t B : Nat} {x y : Operand} {p : Option Addr} {n c : Nat} {xs : List α} {h : Int} (ht : P.underlying t = some (.slice (P.elem t))) (hS : ∀ w, (sizeOf (P.elem t)).run P w = .ok k w)
    (hx : a.eval x = .slice p n c) (hy : a.eval y = .int .i64 h) (hs : Hang B w (fun u => Sl R k u (.slice p n c) xs)) (h0 : 0 ≤ h) (h1 : h ≤ xs.length) :
    does P ⟨dst, .slice t x none (some y) none, ty, pos, af, g⟩ a w (fun v w' => Ext w w' ∧ ∃ u, v = u ∧ Hang B w' (fun z => Sl R k z u (xs.take h.toNat))) := by
  obtain ⟨c1, c2⟩ := hs.get.cap
  have hr := run_sliceTo (P := P) (w := w) (p := p) (n := n) (c := c) ht hS h0 (by omega)
  exact (does_run (u := sliced p 0 h.toNat c k) (w' := w) (by simp [execOp, hx, hy, hr])).mono fun v w' ⟨e1, e2⟩ => by
    subst e1 e2; exact ⟨Ext.refl _, _, rfl, fun u hu => (hs u hu).sliced (by omega)⟩
end
end Go.Proofs.Ytlfpeihlfmdmdaa
