/- slices of a body's own that may begin behind their row's start: one is taken off at an end, appended at the other -/
import Derived.Test.YtlfpeihlfmdmdaaOwN
namespace Go.Proofs.Ytlfpeihlfmdmdaa
open Go Go.RowKit

def OwnQ {α : Type} (R : Rel α) (_k : Nat) (_e : TypeId) (g0 B : Nat) (w : World) (v : Value) (xs : List α) : Prop :=
  ∃ g off cap cur T, v = .slice (some ⟨g, off, none⟩) xs.length cap ∧ w.heap[g]? = some (.cells cur T (0, 0)) ∧ xs.length ≤ cap ∧ cap ≤ maxLen ∧ off + cap ≤ cur.size ∧ (g = g0 ∨ B ≤ g) ∧
    ∀ i x, xs[i]? = some x → ∃ y, cur[off + i]? = some y ∧ R w x [y]
section
variable {α : Type} {R : Rel α} {k g0 B : Nat} {e : TypeId} {w u : World} {v : Value} {xs ys : List α} {x : α}
theorem OwnQ.shape (h : OwnQ R k e g0 B w v xs) : ∃ p c, v = .slice p xs.length c := let ⟨_, _, _, _, _, h, _⟩ := h; ⟨_, _, h⟩
theorem OwnQ.kl {L : List Nat} (h : OwnQ R k e g0 B w v xs) (hR : Flat R) (z : KpL L w u) (hL : ∀ c ∈ L, c ≠ g0 ∧ (c < B ∨ w.heap.size ≤ c)) : OwnQ R k e g0 B u v xs := by
  obtain ⟨g, off, cap, cur, T, hv, hg, h1, h2, h3, h4, h5⟩ := h
  refine ⟨g, off, cap, cur, T, hv, ?_, h1, h2, h3, h4, fun i x hi => let ⟨y, hy, hr⟩ := h5 i x hi; ⟨y, hy, hR _ _ _ _ hr⟩⟩
  have hl := (Array.getElem?_eq_some_iff.1 hg).1
  rw [z.other g hl fun hm => ?_]
  · exact hg
  · obtain ⟨h6, h7⟩ := hL g hm
    rcases h4 with h4 | h4
    · exact h6 h4
    · omega
theorem OwnQ.ext (h : OwnQ R k e g0 B w v xs) (hR : Flat R) (z : Ext w u) : OwnQ R k e g0 B u v xs := h.kl (L := []) hR (KpL.of_ext z) all0
theorem OwnQ.same {C : Nat} (h : OwnQ R k e g0 B w v xs) (hR : Flat R) (z : Same C w u) (h0 : C ≤ g0) (hB : C ≤ B) : OwnQ R k e g0 B u v xs := by
  obtain ⟨g, off, cap, cur, T, hv, hg, h1, h2, h3, h4, h5⟩ := h
  refine ⟨g, off, cap, cur, T, hv, ?_, h1, h2, h3, h4, fun i x hi => let ⟨y, hy, hr⟩ := h5 i x hi; ⟨y, hy, hR _ _ _ _ hr⟩⟩
  have hl := (Array.getElem?_eq_some_iff.1 hg).1
  rw [z.same g (by rcases h4 with h | h <;> omega) hl]
  exact hg
theorem OwnQ.sl (h : OwnQ R k e g0 B w v xs) : Sl R 1 w v xs := by
  obtain ⟨g, off, cap, cur, T, rfl, hg, h1, h2, h3, h4, h5⟩ := h
  refine ⟨by simp only [maxLen] at h2; omega, _, _, rfl, fun i x hi => ?_⟩
  have hlt := (List.getElem?_eq_some_iff.1 hi).1
  obtain ⟨y, hy, hr⟩ := h5 i x hi
  refine ⟨g, off, [y], rfl, fun j z hj => ?_, hr, rfl, by decide, by omega⟩
  match j, hj with
  | 0, hj =>
    cases hj
    rw [cell_of_row w g _ cur T (0, 0) hg, Nat.mul_one]
    exact hy
  | j + 1, hj => simp at hj
theorem OwnQ.hang {C : Nat} (h : OwnQ R k e g0 B w v xs) (hR : Flat R) (_ : 0 < k) (h0 : C ≤ g0) (hB : C ≤ B) : Hang C w (fun u => Sl R 1 u v xs) := fun _ hu => (h.same hR hu h0 hB).sl
theorem OwnQ.startA {w1 : World} (h : OwnQ R k e g0 B w1 v xs) (h' : OwnQ R k e g0 B w v xs) : ∃ g1, (g1 = g0 ∨ B ≤ g1) ∧ (g1 = g0 ∨ g1 < w1.heap.size) ∧ ∀ B, OwnQ R k e g1 B w v xs := by
  obtain ⟨g, off, cap, cur, T, hv, hg, _⟩ := h
  obtain ⟨g', off', cap', cur', T', hv', hg', h1, h2, h3, h4, h5⟩ := h'
  have : g' = g := by rw [hv] at hv'; cases hv'; rfl
  subst this
  exact ⟨g', h4, .inr (Array.getElem?_eq_some_iff.1 hg).1, fun B => ⟨g', off', cap', cur', T', hv', hg', h1, h2, h3, .inl rfl, h5⟩⟩
theorem OwnQ.start' {w1 : World} (h : OwnQ R k e g0 B w1 v xs) (h' : OwnQ R k e g0 B w v xs) : ∃ g1, (g1 = g0 ∨ B ≤ g1) ∧ (g1 = g0 ∨ g1 < w1.heap.size) ∧ OwnQ R k e g1 w.heap.size w v xs := by
  obtain ⟨g1, a, b, c⟩ := OwnQ.startA h h'
  exact ⟨g1, a, b, c _⟩
theorem OwnQ.back {g1 B1 : Nat} (h : OwnQ R k e g1 B1 w v xs) (h1 : g1 = g0 ∨ B ≤ g1) (hB : B ≤ B1) : OwnQ R k e g0 B w v xs := by
  obtain ⟨g, off, cap, cur, T, hv, hg, h2, h3, h4, h5, h6⟩ := h
  refine ⟨g, off, cap, cur, T, hv, hg, h2, h3, h4, ?_, h6⟩
  rcases h5 with h | h
  · rw [h]; exact h1
  · exact .inr (by omega)
theorem OwnQ.cast (h : OwnQ R k e g0 B w v xs) (he : xs = ys) : OwnQ R k e g0 B w v ys := he ▸ h
/-- a literal of one element -/
theorem OwnQ.lit1 {b : Nat} {y : Value} (hb : Blk w b [y]) (hr : R w x [y]) : OwnQ R k e b B w (.slice (some ⟨b, 0, none⟩) 1 1) [x] :=
  let ⟨T, hb⟩ := hb
  ⟨b, 0, 1, #[y], T, rfl, hb, Nat.le_refl _, by decide, by simp, .inl rfl, fun i z hi => by
    match i, hi with
    | 0, hi => cases hi; exact ⟨y, rfl, hr⟩
    | i + 1, hi => simp at hi⟩
/-- its first element taken off -/
theorem OwnQ.tail {p : Option Addr} {n c : Nat} (h : OwnQ R k e g0 B w (.slice p n c) (x :: xs)) : OwnQ R k e g0 B w (sliced p 1 n c 1) xs := by
  obtain ⟨g, off, cap, cur, T, hv, hg, h1, h2, h3, h4, h5⟩ := h
  cases hv
  simp only [List.length_cons] at h1 ⊢
  by_cases hc : c = 1
  · refine ⟨g, off, c - 1, cur, T, by simp [sliced, hc], hg, by omega, by omega, by omega, h4, fun i z hi => ?_⟩
    have := (List.getElem?_eq_some_iff.1 hi).1
    omega
  · refine ⟨g, off + 1, c - 1, cur, T, ?_, hg, by omega, by omega, by omega, h4, fun i z hi => ?_⟩
    · simp only [sliced, if_neg hc, Option.map_some]
      rw [Addr.add_lit]; rfl
    · obtain ⟨y, hy, hr⟩ := h5 (i + 1) z (by simpa using hi)
      exact ⟨y, by rw [← hy]; congr 1; omega, hr⟩
/-- its last element taken off -/
theorem OwnQ.init {p : Option Addr} {n c : Nat} (h : OwnQ R k e g0 B w (.slice p n c) (xs ++ [x])) : OwnQ R k e g0 B w (sliced p 0 xs.length c 1) xs := by
  obtain ⟨g, off, cap, cur, T, hv, hg, h1, h2, h3, h4, h5⟩ := h
  cases hv
  simp only [List.length_append, List.length_cons, List.length_nil] at h1
  refine ⟨g, off, c, cur, T, ?_, hg, by omega, by omega, by omega, h4, fun i z hi => ?_⟩
  · simp only [sliced, if_neg (show ¬ c = 0 by omega), Option.map_some]
    rw [Addr.add_lit]; simp
  · have := (List.getElem?_eq_some_iff.1 hi).1
    exact h5 i z (by rw [List.getElem?_append_left this]; exact hi)
end
section
variable {P : Program} {a : Act} {w : World} {dst : Option Tmp} {ty : TypeId} {pos : String} {af : Array Edge} {g : Option (Nat × Bool)}
theorem run_append_room_off (t ty e : TypeId) (i : TypeInfo) (ht : P.underlying t = some (.slice e)) (hi : P.info? e = some i) (hs : i.size = 1)
    (g off sLen sCap : Nat) (cur : Array Value) (T : TypeId) (hg : w.heap[g]? = some (.cells cur T (0, 0)))
    (b : Addr) (c : Nat) (y : Value) (hnews : ∀ j u, [y][j]? = some u → w.cell? (b.add j) = some u) (h1 : y.oneCell' = true)
    (hroom : sLen + 1 ≤ sCap) (hfit : off + sCap ≤ cur.size) :
    (Builtin.append_ #[t, t] ty #[.slice (some ⟨g, off, none⟩) sLen sCap, .slice (some b) 1 c]).run P w =
      .ok (.slice (some ⟨g, off, none⟩) (sLen + 1) sCap) (w.setRow g (cur.toList.take (off + sLen) ++ [y] ++ cur.toList.drop (off + sLen + 1)).toArray) := by
  have hf := run_firstCells_some (P := P) w i.size 1 b 1 c [y] (by rw [hs]; rfl) hnews
  have hst := run_storeCells_at P g (off + sLen * i.size) T [y] 0 cur w hg (by rw [hs]; simp only [List.length_cons, List.length_nil]; omega) (fun u hu => by rw [List.mem_singleton.1 hu]; exact h1)
  simp only [Nat.add_zero, hs, Nat.mul_one, List.length_cons, List.length_nil, Nat.zero_add] at hst
  rw [hs] at hf
  simp [Builtin.append_, run_underlying ht, sizeOf, typeInfo, hi, hs, Builtin.lenOf, hroom, Addr.add_lit, hf, hst]
theorem does_appendQ {α : Type} {R : Rel α} {k g0 B b c : Nat} {e : TypeId} {v z y : Value} {xs : List α} {x : α} {t : TypeId} {p q : Operand} (ht : P.underlying t = some (.slice e))
    (hi : ∃ i, P.info? e = some i ∧ i.zero = some z ∧ i.size = 1 ∧ i.bytes ≤ 1000) (hz : z.cells.size = 1) (hx : a.eval p = v) (hy : a.eval q = .slice (some ⟨b, 0, none⟩) 1 c) (ho : OwnQ R k e g0 B w v xs) (hR : Flat R) (hb : Blk w b [y])
    (h1 : y.oneCell' = true) (hr : R w x [y]) (hlen : xs.length ≤ 99999999999) (hB : B ≤ w.heap.size) :
    does P ⟨dst, .call { callee := .builtin .append, args := #[p, q], argTypes := #[t, t] }, ty, pos, af, g⟩ a w (fun v' w' => ∃ g, (g = g0 ∨ B ≤ g) ∧ KpL [g] w w' ∧ OwnQ R k e g0 B w' v' (xs ++ [x])) := by
  obtain ⟨i, hi, hz', hs, hby⟩ := hi
  obtain ⟨g, off, cap, cur, T, rfl, hg, h2, h3, h4, h5, h6⟩ := ho
  have hnews : ∀ j u, [y][j]? = some u → w.cell? ((⟨b, 0, none⟩ : Addr).add j) = some u := fun j u hu => by
    rw [Addr.add_lit]; exact hb.cells j u hu
  by_cases hroom : xs.length + 1 ≤ cap
  · have hrun := run_append_room_off (w := w) t ty e i ht hi hs g off xs.length cap cur T hg ⟨b, 0, none⟩ c y hnews h1 hroom h4
    refine (does_run (P := P) (a := a) (u := .slice (some ⟨g, off, none⟩) (xs.length + 1) cap) (w' := w.setRow g (cur.toList.take (off + xs.length) ++ [y] ++ cur.toList.drop (off + xs.length + 1)).toArray) ?_).mono fun v1 w1 ⟨h7, h8⟩ => ?_
    · unfold execOp
      simp only [resolve, invoke, builtin, Sem.run_bind, Sem.run_pure, Result.andThen_ok, List.map_toArray, List.map_cons, List.map_nil, hx, hy, hrun]
    · subst h7 h8
      refine ⟨g, h5, ⟨rfl, rfl, rfl, by simp, fun q hq hn => setRow_other w g q _ (fun e => hn (by simp [e]))⟩, g, off, cap, _, T, by simp, setRow_heap w g cur _ T _ hg, by simp; omega, h3, ?_, h5, fun j z hj => ?_⟩
      · simp only [List.size_toArray, List.length_append, List.length_take, List.length_drop, Array.length_toList, List.length_cons, List.length_nil]; omega
      · have hl : (cur.toList.take (off + xs.length)).length = off + xs.length := by simp; omega
        rcases Nat.lt_or_ge j xs.length with h | h
        · rw [List.getElem?_append_left h] at hj
          obtain ⟨u, hu, hru⟩ := h6 j z hj
          refine ⟨u, ?_, hR _ _ _ _ hru⟩
          rw [List.getElem?_toArray, List.append_assoc, List.getElem?_append_left (by omega), List.getElem?_take, if_pos (by omega), Array.getElem?_toList]
          exact hu
        · rw [List.getElem?_append_right h] at hj
          have hj0 : j = xs.length := by
            have := (List.getElem?_eq_some_iff.1 hj).1
            simp at this; omega
          subst hj0
          simp at hj
          subst hj
          refine ⟨y, ?_, hR _ _ _ _ hr⟩
          rw [List.getElem?_toArray, List.append_assoc, List.getElem?_append_right (by omega), hl]
          simp
  · have hcap : cap = xs.length := by omega
    have hcell : ∀ (j : Nat) (u : Value), ((cur.toList.drop off).take xs.length)[j]? = some u → w.cell? ((⟨g, off, none⟩ : Addr).add j) = some u := fun j u hu => by
      rw [Addr.add_lit, cell_of_row w g _ cur T (0, 0) hg]
      rw [List.getElem?_take] at hu
      split at hu
      · rw [List.getElem?_drop, Array.getElem?_toList] at hu; exact hu
      · cases hu
    have hol : ((cur.toList.drop off).take xs.length).length = xs.length * i.size := by simp [hs]; omega
    have hbytes : (xs.length + 1) * i.bytes ≤ 140737488355328 := Nat.le_trans (Nat.mul_le_mul (show xs.length + 1 ≤ 100000000000 by omega) hby) (by decide)
    have hrun := run_append_grow (P := P) w t ty e i z ht hi hz' ⟨g, off, none⟩ xs.length cap _ hol hcell ⟨b, 0, none⟩ 1 c [y] (by rw [hs]; rfl) hnews (by omega) (by omega) (growslice_fits (by omega) hbytes)
    have hge := grownCap_ge w (xs.length + 1) cap e
    refine (does_run (P := P) (a := a) (u := .slice (some ⟨w.heap.size, 0, none⟩) (xs.length + 1) (grownCap w (xs.length + 1) cap e)) (w' := w.drew.alloc (.cells (((cur.toList.drop off).take xs.length).toArray ++ [y].toArray ++ Builtin.zeroCells z.cells (grownCap w (xs.length + 1) cap e - (xs.length + 1))) e)) ?_).mono fun v1 w1 h7 => ?_
    · unfold execOp
      simp only [resolve, invoke, builtin, Sem.run_bind, Sem.run_pure, Result.andThen_ok, List.map_toArray, List.map_cons, List.map_nil, hx, hy, hrun]
    · obtain ⟨h7, h8⟩ := h7
      subst h7 h8
      refine ⟨w.heap.size, .inr hB, ⟨rfl, rfl, rfl, by simp, fun q hq _ => heap_alloc_old w.drew _ hq⟩, w.heap.size, 0, grownCap w (xs.length + 1) cap e, _, e, by simp, heap_alloc_new w.drew _, by simp; omega, grownCap_le_maxLen w _ cap e (by simp only [maxLen]; omega), ?_, .inr hB, fun j u hj => ?_⟩
      · simp only [Array.size_append, List.size_toArray, size_zeroCells, hz, List.length_take, List.length_drop, Array.length_toList, List.length_cons, List.length_nil]; omega
      · have hl : ((cur.toList.drop off).take xs.length).length = xs.length := by rw [hol, hs, Nat.mul_one]
        rw [Nat.zero_add, Array.append_assoc]
        rcases Nat.lt_or_ge j xs.length with h | h
        · rw [List.getElem?_append_left h] at hj
          obtain ⟨s, hu, hru⟩ := h6 j u hj
          refine ⟨s, ?_, hR _ _ _ _ hru⟩
          rw [Array.getElem?_append_left (by rw [List.size_toArray, hl]; exact h), List.getElem?_toArray, List.getElem?_take, if_pos h, List.getElem?_drop, Array.getElem?_toList]
          exact hu
        · rw [List.getElem?_append_right h] at hj
          have hj0 : j = xs.length := by
            have := (List.getElem?_eq_some_iff.1 hj).1
            simp at this; omega
          subst hj0
          simp at hj
          subst hj
          refine ⟨y, ?_, hR _ _ _ _ hr⟩
          rw [Array.getElem?_append_right (by rw [List.size_toArray, hl]; exact Nat.le_refl _), List.size_toArray, hl, Nat.sub_self]
          rw [Array.getElem?_append_left (by simp)]; rfl
theorem does_tailQ {α : Type} {R : Rel α} {k g0 B t : Nat} {e : TypeId} {x y : Operand} {p : Option Addr} {n c : Nat} {z : α} {xs : List α} (ht : P.underlying t = some (.slice (P.elem t))) (hS : ∀ w, (sizeOf (P.elem t)).run P w = .ok 1 w)
    (hx : a.eval x = .slice p n c) (hy : a.eval y = .int .i64 1) (ho : OwnQ R k e g0 B w (.slice p n c) (z :: xs)) :
    does P ⟨dst, .slice t x (some y) none none, ty, pos, af, g⟩ a w (fun v w' => w = w' ∧ OwnQ R k e g0 B w v xs) := by
  have hn : n = xs.length + 1 := by obtain ⟨p', c', h⟩ := ho.shape; cases h; rfl
  have hr := run_slice_l (P := P) w t p n c ht .i64 1 (by omega) (by omega)
  rw [hS, Result.andThen_ok] at hr
  rw [← run_sliceAt_slice (P := P) w t _ _ _ _ ht] at hr
  exact (does_run (P := P) (a := a) (u := sliced p 1 n c 1) (w' := w) (by simp [execOp, hx, hy, hr])).mono fun v w' ⟨h1, h2⟩ => ⟨h2.symm, h1 ▸ ho.tail⟩
theorem does_initQ {α : Type} {R : Rel α} {k g0 B t : Nat} {e : TypeId} {x y : Operand} {p : Option Addr} {n c : Nat} {h : Int} {z : α} {xs : List α} (ht : P.underlying t = some (.slice (P.elem t))) (hS : ∀ w, (sizeOf (P.elem t)).run P w = .ok 1 w)
    (hx : a.eval x = .slice p n c) (hy : a.eval y = .int .i64 h) (ho : OwnQ R k e g0 B w (.slice p n c) (xs ++ [z])) (hh : h = xs.length) :
    does P ⟨dst, .slice t x none (some y) none, ty, pos, af, g⟩ a w (fun v w' => w = w' ∧ OwnQ R k e g0 B w v xs) := by
  have hc : xs.length + 1 ≤ c := by
    obtain ⟨g, off, cap, cur, T, hv, _, h1, _⟩ := ho
    cases hv; simpa using h1
  have hr := run_sliceTo (P := P) (w := w) (p := p) (n := n) (c := c) (h := h) ht hS (by omega) (by omega)
  exact (does_run (P := P) (a := a) (u := sliced p 0 h.toNat c 1) (w' := w) (by simp [execOp, hx, hy, hr])).mono fun v w' ⟨h1, h2⟩ => ⟨h2.symm, by rw [h1, show h.toNat = xs.length by omega]; exact ho.init⟩
end
end Go.Proofs.Ytlfpeihlfmdmdaa
