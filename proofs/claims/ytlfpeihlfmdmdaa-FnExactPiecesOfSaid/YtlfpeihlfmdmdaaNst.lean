/- slices of slices whose rows may be written; the marks in them -/
import Derived.Test.YtlfpeihlfmdmdaaMsh
import Derived.Test.YtlfpeihlfmdmdaaRwa
namespace Go.Proofs.Ytlfpeihlfmdmdaa
open Go Go.RowKit

/-! ### marks in one slice -/
def MkS (fl : Bool) (nf : Nat) (k : Int) (w : World) (L : List Nat) (v : Value) (n : Nat) : Prop :=
  (v = .slice none 0 0 ∧ n = 0 ∧ L = []) ∨ ∃ g cap N, L = [g] ∧ v = .slice (some ⟨g, 0, none⟩) n cap ∧ Mk fl k w g N (n * nf) ∧ n ≤ cap
section
variable {fl : Bool} {nf : Nat} {k : Int} {w u : World} {L M : List Nat} {v : Value} {n : Nat}
theorem MkS.kl (h : MkS fl nf k w L v n) (x : KpL M w u) (hd : ∀ c ∈ L, c ∉ M) : MkS fl nf k u L v n := by
  rcases h with h | ⟨g, cap, N, rfl, hv, ⟨cs, hb, hl, hm⟩, hc⟩
  · exact .inl h
  · exact .inr ⟨g, cap, N, rfl, hv, ⟨cs, hb.kl x (hd g (by simp)), hl, hm⟩, hc⟩
theorem MkS.same {B : Nat} (h : MkS fl nf k w L v n) (x : Same B w u) (hB : ∀ c ∈ L, B ≤ c) : MkS fl nf k u L v n := by
  rcases h with h | ⟨g, cap, N, rfl, hv, ⟨cs, hb, hl, hm⟩, hc⟩
  · exact .inl h
  · exact .inr ⟨g, cap, N, rfl, hv, ⟨cs, hb.hang (hB g (by simp)) u x, hl, hm⟩, hc⟩
theorem MkS.sl {α : Type} {R : Rel α} {f : Int → α} (h : MkS fl nf k w L v n) (hnf : 0 < nf) (hn : n ≤ 9223372036854775807) (hR : ∀ (u : World) (m : Int), R u (f m) ((List.range nf).map fun c : Nat => mkc fl (m + c))) : Sl R nf w v (mkL f nf k n) := by
  rcases h with ⟨rfl, rfl, _⟩ | ⟨g, cap, N, rfl, rfl, hm, hc⟩
  · exact Sl_mk0 w
  · exact (Mk.hang (B := 0) hm (Nat.zero_le _) hc hnf hn hR).get
theorem WL.kl {j B : Nat} (h : WL j B w L v n) (x : KpL M w u) (hd : ∀ c ∈ L, c ∉ M) : WL j B u L v n := by
  obtain ⟨hL, h⟩ := h
  refine ⟨fun c hc => ⟨(hL c hc).1, Nat.lt_of_lt_of_le (hL c hc).2 x.size⟩, ?_⟩
  rcases h with h | ⟨g, cap, cs, rfl, hv, hB, hn, hc⟩
  · exact .inl h
  · exact .inr ⟨g, cap, cs, rfl, hv, hB.kl x (hd g (by simp)), hn, hc⟩
end

/-! ### slices of slices -/
/-- the row of the outer slice holds these values -/
def Out (B : Nat) (w : World) (v : Value) (vs : List Value) (L : List Nat) : Prop :=
  (v = .slice none 0 0 ∧ vs = []) ∨ ∃ g cap cs, v = .slice (some ⟨g, 0, none⟩) vs.length cap ∧ Blk w g cs ∧ vs.length ≤ cap ∧ (∀ (i : Nat) (x : Value), vs[i]? = some x → cs[i]? = some x) ∧ B ≤ g ∧ g ∉ L
/-- the inner ones' rows may be written: all blocks lie apart -/
def WLL {α : Type} (k B : Nat) (w : World) (L : List Nat) (v : Value) (xs : List (List α)) : Prop :=
  (∀ c ∈ L, B ≤ c ∧ c < w.heap.size) ∧ ∃ (vs : List Value) (Ls : Nat → List Nat), Out B w v vs L ∧ vs.length = xs.length ∧ xs.length ≤ 9223372036854775807 ∧ (∀ i, ∀ c ∈ Ls i, c ∈ L) ∧ (∀ i j, i ≠ j → ∀ c ∈ Ls i, c ∉ Ls j) ∧
    ∀ (i : Nat) (y : Value) (x : List α), vs[i]? = some y → xs[i]? = some x → WL k B w (Ls i) y x.length
section
variable {α : Type} {k B : Nat} {w u : World} {L : List Nat} {v : Value} {vs : List Value} {xs : List (List α)}
theorem Out.same {C : Nat} (h : Out B w v vs L) (x : Same C w u) (hC : C ≤ B) : Out B u v vs L := by
  rcases h with h | ⟨g, cap, cs, hv, hb, hc, hcs, hB, hg⟩
  · exact .inl h
  · exact .inr ⟨g, cap, cs, hv, hb.hang (Nat.le_trans hC hB) u x, hc, hcs, hB, hg⟩
theorem Out.kl {M : List Nat} (h : Out B w v vs L) (x : KpL M w u) (hM : ∀ c ∈ M, c ∈ L) : Out B u v vs L := by
  rcases h with h | ⟨g, cap, cs, hv, hb, hc, hcs, hB, hg⟩
  · exact .inl h
  · exact .inr ⟨g, cap, cs, hv, hb.kl x (fun h => hg (hM _ h)), hc, hcs, hB, hg⟩
theorem Out.le {C : Nat} (h : Out C w v vs L) (hB : B ≤ C) : Out B w v vs L := by
  rcases h with h | ⟨g, cap, cs, hv, hb, hc, hcs, hC, hg⟩
  · exact .inl h
  · exact .inr ⟨g, cap, cs, hv, hb, hc, hcs, Nat.le_trans hB hC, hg⟩
def RVl : Rel Value := fun _ x cs => cs = [x]
theorem RVl.mono : Mono RVl := fun _ _ _ _ _ h => h
theorem RVl.flat : Flat RVl := fun _ _ _ _ h => h
theorem Out.sl (h : Out B w v vs L) (hn : vs.length ≤ 9223372036854775807) : Sl RVl 1 w v vs := by
  rcases h with ⟨rfl, rfl⟩ | ⟨g, cap, cs, rfl, hb, hc, hcs, hB, hg⟩
  · exact Sl_nil _ _ _
  · refine ⟨hn, _, _, rfl, fun i x hi => ⟨g, 0, [x], rfl, fun j y hj => ?_, rfl, rfl, by decide, ?_⟩⟩
    · match j, hj with
      | 0, hj => cases hj; rw [hb.cell, Nat.mul_one, Nat.zero_add, Nat.add_zero]; exact hcs i _ hi
      | j + 1, hj => simp at hj
    · have := (List.getElem?_eq_some_iff.1 hi).1; omega
theorem WLL.same (h : WLL k B w L v xs) (x : Same B w u) : WLL k B u L v xs := by
  obtain ⟨hL, vs, Ls, ho, hl, hn, hs, hd, hw⟩ := h
  exact ⟨fun c hc => ⟨(hL c hc).1, Nat.lt_of_lt_of_le (hL c hc).2 x.size⟩, vs, Ls, ho.same x (Nat.le_refl _), hl, hn, hs, hd, fun i y z hy hz => (hw i y z hy hz).same x⟩
theorem WLL.le {C : Nat} (h : WLL k C w L v xs) (hB : B ≤ C) : WLL k B w L v xs := by
  obtain ⟨hL, vs, Ls, ho, hl, hn, hs, hd, hw⟩ := h
  exact ⟨fun c hc => ⟨Nat.le_trans hB (hL c hc).1, (hL c hc).2⟩, vs, Ls, ho.le hB, hl, hn, hs, hd, fun i y z hy hz => (hw i y z hy hz).le hB⟩
theorem WLL.nil (k B : Nat) (w : World) : WLL (α := α) k B w [] (.slice none 0 0) [] :=
  ⟨(fun _ hc => nomatch hc), [], fun _ => [], .inl ⟨rfl, rfl⟩, rfl, by simp, fun _ c hc => hc, fun _ _ _ c hc => (nomatch hc), fun i y z hy => by simp at hy⟩
theorem WLL.shape (h : WLL k B w L v xs) : ∃ p c, v = .slice p xs.length c := by
  obtain ⟨hL, vs, Ls, ho, hl, _⟩ := h
  rcases ho with ⟨rfl, rfl⟩ | ⟨g, cap, cs, rfl, _⟩
  · exact ⟨none, 0, by rw [← hl]; rfl⟩
  · exact ⟨_, _, by rw [hl]⟩
end

/-! ### marks, slice by slice -/
structure NMk {α : Type} (fl : Bool) (nf B : Nat) (L : List Nat) (v : Value) (vs : List Value) (Ls : Nat → List Nat) (xs : List (List α)) (pre : Nat → Int) (i : Nat) (w : World) : Prop where
  out : Out B w v vs L
  len : vs.length = xs.length
  most : xs.length ≤ 9223372036854775807
  sub : ∀ i, ∀ c ∈ Ls i, c ∈ L
  dis : ∀ i j, i ≠ j → ∀ c ∈ Ls i, c ∉ Ls j
  big : ∀ c ∈ L, B ≤ c
  rest : ∀ (j : Nat) (y : Value) (x : List α), i ≤ j → vs[j]? = some y → xs[j]? = some x → WL nf B w (Ls j) y x.length
  done : ∀ (j : Nat) (y : Value) (x : List α), j < i → vs[j]? = some y → xs[j]? = some x → MkS fl nf (pre j) w (Ls j) y x.length
section
variable {α : Type} {fl : Bool} {nf B : Nat} {L : List Nat} {v : Value} {vs : List Value} {Ls : Nat → List Nat} {xs : List (List α)} {pre : Nat → Int} {i : Nat} {w u : World}
theorem NMk.start (h : WLL nf B w L v xs) : ∃ vs Ls, ∀ pre, NMk fl nf B L v vs Ls xs pre 0 w := by
  obtain ⟨hL, vs, Ls, ho, hl, hn, hs, hd, hw⟩ := h
  exact ⟨vs, Ls, fun pre => ⟨ho, hl, hn, hs, hd, fun c hc => (hL c hc).1, fun j y x _ hy hx => hw j y x hy hx, fun j _ _ hj => by omega⟩⟩
theorem NMk.slv (h : NMk fl nf B L v vs Ls xs pre i w) : Sl RVl 1 w v vs := h.out.sl (by rw [h.len]; exact h.most)
theorem NMk.ext (h : NMk fl nf B L v vs Ls xs pre i w) (x : Ext w u) : NMk fl nf B L v vs Ls xs pre i u :=
  ⟨h.out.same (.of_ext x) (Nat.le_refl _), h.len, h.most, h.sub, h.dis, h.big, fun j y z hj hy hz => (h.rest j y z hj hy hz).same (.of_ext x), fun j y z hj hy hz => (h.done j y z hj hy hz).kl (KpL.of_ext (L := []) x) (fun c _ => by simp)⟩
theorem NMk.step (h : NMk fl nf B L v vs Ls xs pre i w) (x : KpL (Ls i) w u) (hm : ∀ y z, vs[i]? = some y → xs[i]? = some z → MkS fl nf (pre i) u (Ls i) y z.length) : NMk fl nf B L v vs Ls xs pre (i + 1) u := by
  refine ⟨h.out.kl x (h.sub i), h.len, h.most, h.sub, h.dis, h.big, fun j y z hj hy hz => (h.rest j y z (by omega) hy hz).kl x (h.dis j i (by omega)), fun j y z hj hy hz => ?_⟩
  rcases Nat.lt_or_ge j i with h' | h'
  · exact (h.done j y z h' hy hz).kl x (h.dis j i (by omega))
  · obtain rfl : j = i := by omega
    exact hm y z hy hz
/-- the lists that the marks make up -/
def mkLL {β : Type} (f : Int → β) (nf : Nat) (pre : Nat → Int) (xs : List (List α)) : List (List β) := (List.range xs.length).map fun i => mkL f nf (pre i) ((xs[i]?).getD []).length
theorem mkLL_len {β : Type} (f : Int → β) (nf : Nat) (pre : Nat → Int) (xs : List (List α)) : (mkLL f nf pre xs).length = xs.length := by simp [mkLL]
theorem mkLL_at {β : Type} {f : Int → β} {nf : Nat} {pre : Nat → Int} {xs : List (List α)} {x : List α} (h : xs[i]? = some x) : (mkLL f nf pre xs)[i]? = some (mkL f nf (pre i) x.length) := by
  have hl := (List.getElem?_eq_some_iff.1 h).1
  simp [mkLL, List.getElem?_range hl, h]
theorem NMk.hang {β : Type} {R : Rel β} {f : Int → β} (h : NMk fl nf B L v vs Ls xs pre i w) (hi : xs.length ≤ i) (hnf : 0 < nf) (hn : ∀ x ∈ xs, x.length ≤ 9223372036854775807) (hR : ∀ (u : World) (m : Int), R u (f m) ((List.range nf).map fun c : Nat => mkc fl (m + c))) :
    Hang B w (fun u => Sl (RS R nf) 1 u v (mkLL f nf pre xs)) := fun u hu => by
  obtain ⟨hm, p, c, rfl, ho⟩ := (h.out.same hu (Nat.le_refl _)).sl (by rw [h.len]; exact h.most)
  refine ⟨by rw [mkLL_len]; exact h.most, p, c, by rw [mkLL_len, h.len], fun j x hj => ?_⟩
  have hjl := (List.getElem?_eq_some_iff.1 hj).1
  rw [mkLL_len] at hjl
  have hx : xs[j]? = some (xs[j]'hjl) := List.getElem?_eq_getElem hjl
  have hy : vs[j]? = some (vs[j]'(by rw [h.len]; exact hjl)) := List.getElem?_eq_getElem _
  rw [mkLL_at hx] at hj
  cases hj
  obtain ⟨b, off, cs, hp, hc, hr, hk, h0, hcap⟩ := ho j _ hy
  have hd := (h.done j _ _ (by omega) hy hx).same hu (fun c hc => h.big c (h.sub j c hc))
  exact ⟨b, off, cs, hp, hc, ⟨_, hr, hd.sl hnf (hn _ (List.getElem_mem _)) hR⟩, hk, h0, hcap⟩
end

/-! ### a slice of one's own that is filled with slices of new rows -/
def FillN {α : Type} (R : Rel α) (k : Nat) (w : World) (b n : Nat) (xs : List (List α)) (j : Nat) : Prop :=
  ∃ (cs : List Value) (Ls : Nat → List Nat), Blk w b cs ∧ cs.length = n ∧ (∀ i, ∀ c ∈ Ls i, i < j ∧ b + 1 ≤ c ∧ c < w.heap.size) ∧ (∀ i i', i ≠ i' → ∀ c ∈ Ls i, c ∉ Ls i') ∧
    ∀ (i : Nat) (x : List α), i < j → xs[i]? = some x → ∃ y, cs[i]? = some y ∧ WL k (b + 1) w (Ls i) y x.length ∧ Hang (b + 1) w (fun u => Sl R k u y x)
section
variable {α : Type} {R : Rel α} {k b n j : Nat} {w u : World} {xs : List (List α)}
theorem FillN.zero {cs : List Value} (hb : Blk w b cs) (hl : cs.length = n * 1) : FillN R k w b n xs 0 :=
  ⟨cs, fun _ => [], hb, by omega, fun _ c hc => (nomatch hc), fun _ _ _ c hc => (nomatch hc), fun _ _ hi => by omega⟩
theorem FillN.lt (h : FillN R k w b n xs j) : b < w.heap.size := let ⟨_, _, hb, _⟩ := h; hb.lt
theorem FillN.ext (h : FillN R k w b n xs j) (hx : Ext w u) : FillN R k u b n xs j :=
  let ⟨cs, Ls, hb, hl, hL, hd, h⟩ := h
  ⟨cs, Ls, hb.ext hx, hl, fun i c hc => ⟨(hL i c hc).1, (hL i c hc).2.1, Nat.lt_of_lt_of_le (hL i c hc).2.2 hx.size⟩, hd, fun i x hi hx' => let ⟨y, hy, hw, hh⟩ := h i x hi hx'; ⟨y, hy, hw.same (.of_ext hx), hh.ext hx⟩⟩
theorem FillN.cast {i : Nat} (h : FillN R k w b n xs i) (e : i = j) : FillN R k w b n xs j := e ▸ h
theorem FillN.wll {B : Nat} (h : FillN R k w b n xs j) (hj : n ≤ j) (hn : xs.length = n) (hm : n ≤ 9223372036854775807) (hB : B ≤ b) : ∃ L, WLL k B w L (.slice (some ⟨b, 0, none⟩) n n) xs := by
  obtain ⟨cs, Ls, hb, hl, hL, hd, h⟩ := h
  refine ⟨(List.range j).flatMap Ls, fun c hc => ?_, cs, Ls, .inr ⟨b, n, cs, by rw [hl], hb, by omega, fun _ _ h => h, hB, fun hc => ?_⟩, by omega, by omega, fun i c hc => ?_, hd, fun i y x hy hx => ?_⟩
  · obtain ⟨i, _, hi⟩ := List.mem_flatMap.1 hc
    have := hL i c hi; omega
  · obtain ⟨i, _, hi⟩ := List.mem_flatMap.1 hc
    have := hL i b hi; omega
  · exact List.mem_flatMap.2 ⟨i, List.mem_range.2 (hL i c hc).1, hc⟩
  · have hil := (List.getElem?_eq_some_iff.1 hx).1
    obtain ⟨y', hy', hw, _⟩ := h i x (by omega) hx
    rw [hy] at hy'; cases hy'
    exact hw.le (by omega)
theorem FillN.hang {C : Nat} (h : FillN R k w b n xs j) (hC : C ≤ b) (hj : n ≤ j) (hn : xs.length = n) (hm : n ≤ 9223372036854775807) : Hang C w (fun u => Sl (RS R k) 1 u (.slice (some ⟨b, 0, none⟩) n n) xs) := fun u hu => by
  obtain ⟨cs, Ls, hb, hl, hL, hd, h⟩ := h
  subst hn
  refine ⟨hm, _, _, rfl, fun i x hi => ?_⟩
  have hil := (List.getElem?_eq_some_iff.1 hi).1
  obtain ⟨y, hy, hw, hh⟩ := h i x (by omega) hi
  refine ⟨b, 0, [y], rfl, fun q z hq => ?_, ⟨y, rfl, hh u (hu.le (by omega))⟩, rfl, by decide, hil⟩
  match q, hq with
  | 0, hq => cases hq; rw [(hb.hang hC u hu).cell, Nat.mul_one, Nat.zero_add, Nat.add_zero]; exact hy
  | q + 1, hq => simp at hq
end
section
variable {P : Program} {a : Act} {w : World} {dst : Option Tmp} {ty : TypeId} {pos : String} {af : Array Edge} {g : Option (Nat × Bool)}
theorem does_fillN {α : Type} {R : Rel α} {k t : Nat} {x y : Operand} {b n j : Nat} {xs : List (List α)} {v : Value} {e : List α} {L : List Nat} {w0 : World} (hx : a.eval x = .pointer (some ⟨b, j * 1, none⟩)) (hy : a.eval y = v)
    (hS : ∀ w, (sizeOf t).run P w = .ok 1 w) (hf : FillN R k w0 b n xs j) (hE : Ext w0 w) (hj : j < n) (he : xs[j]? = some e) (hw : WL k w0.heap.size w L v e.length) (hh : Hang w0.heap.size w (fun u => Sl R k u v e)) :
    does P ⟨dst, .store t x y, ty, pos, af, g⟩ a w (fun u w' => u = undef ∧ Wr b w w' ∧ FillN R k w' b n xs (j + 1)) := by
  have hb0 := hf.lt
  obtain ⟨cs, Ls, hb, hl, hL, hd, h⟩ := hf
  have hbw := hb.ext hE
  have hv1 : v.cells.toList = [v] := by
    obtain ⟨p, c, rfl⟩ := hh.get.shape; rfl
  have h1' : v.cells.size = 1 := by rw [← Array.length_toList, hv1]; rfl
  refine (does_store hx hy hS h1' hbw (by omega) (by rw [hv1]; obtain ⟨p, c, rfl⟩ := hh.get.shape; rfl)).mono fun u w' ⟨hu, hW, hB⟩ => ⟨hu, hW, _, fun i => if i = j then L else Ls i, hB, ?_, fun i c hc => ?_, fun i i' hne c hc => ?_, fun i z hi hz => ?_⟩
  · rw [hv1]; simp only [splice, List.length_append, List.length_take, List.length_drop, List.length_cons, List.length_nil]; omega
  · dsimp only at hc
    have hsz := hW.size
    split at hc
    · have := hw.1 c hc; omega
    · have := hL i c hc; have := hE.size; omega
  · dsimp only at hc ⊢
    split at hc
    · rw [if_neg (by omega)]
      intro h'
      have h1 := hw.1 c hc
      have h2 := hL i' c h'
      omega
    · split
      · intro h'
        have h1 := hw.1 c h'
        have h2 := hL i c hc
        omega
      · exact hd i i' hne c hc
  · have hsp : ∀ q, (splice cs (j * 1) v.cells.toList)[q]? = if q = j then (if j < cs.length then some v else none) else cs[q]? := fun q => by
      rw [hv1, Nat.mul_one]
      have : splice cs j [v] = cs.set j v := by
        simp only [splice, List.length_cons, List.length_nil]
        rw [List.set_eq_take_append_cons_drop, if_pos (by omega), List.append_assoc]; rfl
      rw [this, List.getElem?_set]
      by_cases hq : q = j
      · subst hq; simp
      · rw [if_neg (fun h => hq h.symm), if_neg hq]
    dsimp only
    by_cases hij : i = j
    · subst hij
      rw [he] at hz; cases hz
      refine ⟨v, by rw [hsp, if_pos rfl, if_pos (by omega)], ?_, ?_⟩
      · rw [if_pos rfl]; exact (hw.le (by omega)).same (.of_wr hW (by omega))
      · exact (hh.le (by omega)).wr hW (by omega)
    · obtain ⟨y', hy', hw', hh'⟩ := h i z (by omega) hz
      refine ⟨y', by rw [hsp, if_neg hij]; exact hy', ?_, ?_⟩
      · rw [if_neg hij]; exact (hw'.same (.of_ext hE)).same (.of_wr hW (by omega))
      · exact (hh'.ext hE).wr hW (by omega)
end
/-! ### meshes that may be written -/
def WLM (B : Nat) (w : World) (L : List Nat) (p t : Value) (m : MeshT) : Prop :=
  (∀ c ∈ L, B ≤ c ∧ c < w.heap.size) ∧ ∃ L1 L2, WL 3 B w L1 p m.places.length ∧ WLL 1 B w L2 t m.tris ∧ (∀ c ∈ L1, c ∈ L) ∧ (∀ c ∈ L2, c ∈ L) ∧ (∀ c ∈ L1, c ∉ L2 ∧ t.ownBlock ≠ some c)
section
variable {B : Nat} {w u : World} {L L1 L2 : List Nat} {p t : Value} {m : MeshT}
theorem WLM.same (h : WLM B w L p t m) (x : Same B w u) : WLM B u L p t m := by
  obtain ⟨hL, L1, L2, h1, h2, s1, s2, hd⟩ := h
  exact ⟨fun c hc => ⟨(hL c hc).1, Nat.lt_of_lt_of_le (hL c hc).2 x.size⟩, L1, L2, h1.same x, h2.same x, s1, s2, hd⟩
theorem WLM.le {C : Nat} (h : WLM C w L p t m) (hB : B ≤ C) : WLM B w L p t m := by
  obtain ⟨hL, L1, L2, h1, h2, s1, s2, hd⟩ := h
  exact ⟨fun c hc => ⟨Nat.le_trans hB (hL c hc).1, (hL c hc).2⟩, L1, L2, h1.le hB, h2.le hB, s1, s2, hd⟩
theorem WLM.mk {C n : Nat} {xs : List (List Int)} (h1 : WL 3 B w L1 p n) (h2 : WLL 1 C w L2 t xs) (hBC : B ≤ C) (h12 : ∀ c ∈ L1, c < C) (hn : n = m.places.length) (hx : xs = m.tris) : WLM B w (L1 ++ L2) p t m := by
  subst hn hx
  refine ⟨fun c hc => ?_, L1, L2, h1, h2.le hBC, fun c hc => by simp [hc], fun c hc => by simp [hc], fun c hc => ⟨fun h => ?_, fun h => ?_⟩⟩
  · rcases List.mem_append.1 hc with hc | hc
    · exact h1.1 c hc
    · have := h2.1 c hc; omega
  · have := h2.1 c h; have := h12 c hc; omega
  · obtain ⟨_, vs, Ls, ho, _⟩ := h2
    rcases ho with ⟨rfl, _⟩ | ⟨g, cap, cs, rfl, _, _, _, hg, _⟩
    · simp [Value.ownBlock] at h
    · simp [Value.ownBlock] at h
      have := h12 c hc; omega
theorem WLL.kl {α : Type} {k : Nat} {M : List Nat} {v : Value} {xs : List (List α)} (h : WLL k B w L v xs) (x : KpL M w u) (hM : ∀ c ∈ M, c ∉ L ∧ v.ownBlock ≠ some c) : WLL k B u L v xs := by
  obtain ⟨hL, vs, Ls, ho, hl, hn, hs, hd, hw⟩ := h
  refine ⟨fun c hc => ⟨(hL c hc).1, Nat.lt_of_lt_of_le (hL c hc).2 x.size⟩, vs, Ls, ?_, hl, hn, hs, hd, fun i y z hy hz => (hw i y z hy hz).kl x (fun c hc hm => (hM c hm).1 (hs i c hc))⟩
  rcases ho with h | ⟨g, cap, cs, rfl, hb, hc, hcs, hB, hg⟩
  · exact .inl h
  · exact .inr ⟨g, cap, cs, rfl, hb.kl x (fun hm => (hM g hm).2 rfl), hc, hcs, hB, hg⟩
end
/-- where the marks of the lists begin -/
def preK (k : Int) (xs : List (List Int)) (i : Nat) : Int := k + (liSum xs i : Nat)
end Go.Proofs.Ytlfpeihlfmdmdaa
