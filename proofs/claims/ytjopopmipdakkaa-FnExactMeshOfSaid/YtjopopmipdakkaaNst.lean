/- slices of slices whose rows may be written; the marks in them -/
import Derived.Test.YtjopopmipdakkaaMsh
import Derived.Test.YtjopopmipdakkaaRwa
namespace Go.Proofs.Ytjopopmipdakkaa
open Go Go.RowKit
def MkS (fl : Bool) (nf : Nat) (k : Int) (w : World) (L : List Nat) (v : Value) (n : Nat) : Prop :=
  (v = .slice none 0 0 ∧ n = 0 ∧ L = []) ∨ ∃ g cap N, L = [g] ∧ v = .slice (some ⟨g, 0, none⟩) n cap ∧ Mk fl k w g N (n * nf) ∧ n ≤ cap
section
variable {fl : Bool} {nf : Nat} {k : Int} {w u : World} {L M : List Nat} {v : Value} {n : Nat}
theorem MkS.kl (h : MkS fl nf k w L v n) (x : KpL M w u) (hd : ∀ c ∈ L, c ∉ M) : MkS fl nf k u L v n := by
  rcases h with h | ⟨g, cap, N, rfl, hv, ⟨cs, hb, hl, hm⟩, hc⟩
  · exact .inl h
  · exact .inr ⟨g, cap, N, rfl, hv, ⟨cs, hb.kl x (hd g (by simp)), hl, hm⟩, hc⟩
theorem MkS.same {B : Nat} (h : MkS fl nf k w L v n) (x : Same B w u) (hB : ∀ c ∈ L, B ≤ c) : MkS fl nf k u L v n := by
  rcases h with h | ⟨g, cap, N, rfl, hv, ⟨cs, hb, hl, hm⟩, hc⟩
  · exact .inl h
  · exact .inr ⟨g, cap, N, rfl, hv, ⟨cs, hb.hang (hB g (by simp)) u x, hl, hm⟩, hc⟩
theorem MkS.sl {α : Type} {R : Rel α} {f : Int → α} (h : MkS fl nf k w L v n) (hnf : 0 < nf) (hn : n ≤ 9223372036854775807) (hR : ∀ (u : World) (m : Int), R u (f m) ((List.range nf).map fun c : Nat => mkc fl (m + c))) : Sl R nf w v (mkL f nf k n) := by
  rcases h with ⟨rfl, rfl, _⟩ | ⟨g, cap, N, rfl, rfl, hm, hc⟩
  · exact Sl_mk0 w
  · exact (Mk.hang (B := 0) hm (Nat.zero_le _) hc hnf hn hR).get
theorem WL.kl {j B : Nat} (h : WL j B w L v n) (x : KpL M w u) (hd : ∀ c ∈ L, c ∉ M) : WL j B u L v n := by
  obtain ⟨hL, h⟩ := h
  refine ⟨fun c hc => ⟨(hL c hc).1, Nat.lt_of_lt_of_le (hL c hc).2 x.size⟩, ?_⟩
  rcases h with h | ⟨g, cap, cs, rfl, hv, hB, hn, hc⟩
  · exact .inl h
  · exact .inr ⟨g, cap, cs, rfl, hv, hB.kl x (hd g (by simp)), hn, hc⟩
end
def Out (B : Nat) (w : World) (v : Value) (vs : List Value) (L : List Nat) : Prop :=
  (v = .slice none 0 0 ∧ vs = []) ∨ ∃ g cap cs, v = .slice (some ⟨g, 0, none⟩) vs.length cap ∧ Blk w g cs ∧ vs.length ≤ cap ∧ (∀ (i : Nat) (x : Value), vs[i]? = some x → cs[i]? = some x) ∧ B ≤ g ∧ g ∉ L
def WLL {α : Type} (k B : Nat) (w : World) (L : List Nat) (v : Value) (xs : List (List α)) : Prop :=
  (∀ c ∈ L, B ≤ c ∧ c < w.heap.size) ∧ ∃ (vs : List Value) (Ls : Nat → List Nat), Out B w v vs L ∧ vs.length = xs.length ∧ xs.length ≤ 9223372036854775807 ∧ (∀ i, ∀ c ∈ Ls i, c ∈ L) ∧ (∀ i j, i ≠ j → ∀ c ∈ Ls i, c ∉ Ls j) ∧
    ∀ (i : Nat) (y : Value) (x : List α), vs[i]? = some y → xs[i]? = some x → WL k B w (Ls i) y x.length
section
variable {α : Type} {k B : Nat} {w u : World} {L : List Nat} {v : Value} {vs : List Value} {xs : List (List α)}
theorem Out.same {C : Nat} (h : Out B w v vs L) (x : Same C w u) (hC : C ≤ B) : Out B u v vs L := by
  rcases h with h | ⟨g, cap, cs, hv, hb, hc, hcs, hB, hg⟩
  · exact .inl h
  · exact .inr ⟨g, cap, cs, hv, hb.hang (Nat.le_trans hC hB) u x, hc, hcs, hB, hg⟩
theorem Out.kl {M : List Nat} (h : Out B w v vs L) (x : KpL M w u) (hM : ∀ c ∈ M, c ∈ L) : Out B u v vs L := by
  rcases h with h | ⟨g, cap, cs, hv, hb, hc, hcs, hB, hg⟩
  · exact .inl h
  · exact .inr ⟨g, cap, cs, hv, hb.kl x (fun h => hg (hM _ h)), hc, hcs, hB, hg⟩
theorem Out.le {C : Nat} (h : Out C w v vs L) (hB : B ≤ C) : Out B w v vs L := by
  rcases h with h | ⟨g, cap, cs, hv, hb, hc, hcs, hC, hg⟩
  · exact .inl h
  · exact .inr ⟨g, cap, cs, hv, hb, hc, hcs, Nat.le_trans hB hC, hg⟩
def RVl : Rel Value := fun _ x cs => cs = [x]
theorem RVl.flat : Flat RVl := fun _ _ _ _ h => h
theorem Out.sl (h : Out B w v vs L) (hn : vs.length ≤ 9223372036854775807) : Sl RVl 1 w v vs := by
  rcases h with ⟨rfl, rfl⟩ | ⟨g, cap, cs, rfl, hb, hc, hcs, hB, hg⟩
  · exact Sl_nil _ _ _
  · refine ⟨hn, _, _, rfl, fun i x hi => ⟨g, 0, [x], rfl, fun j y hj => ?_, rfl, rfl, by decide, ?_⟩⟩
    · match j, hj with
      | 0, hj => cases hj; rw [hb.cell, Nat.mul_one, Nat.zero_add, Nat.add_zero]; exact hcs i _ hi
      | j + 1, hj => simp at hj
    · have := (List.getElem?_eq_some_iff.1 hi).1; omega
theorem WLL.same (h : WLL k B w L v xs) (x : Same B w u) : WLL k B u L v xs := by
  obtain ⟨hL, vs, Ls, ho, hl, hn, hs, hd, hw⟩ := h
  exact ⟨fun c hc => ⟨(hL c hc).1, Nat.lt_of_lt_of_le (hL c hc).2 x.size⟩, vs, Ls, ho.same x (Nat.le_refl _), hl, hn, hs, hd, fun i y z hy hz => (hw i y z hy hz).same x⟩
theorem WLL.le {C : Nat} (h : WLL k C w L v xs) (hB : B ≤ C) : WLL k B w L v xs := by
  obtain ⟨hL, vs, Ls, ho, hl, hn, hs, hd, hw⟩ := h
  exact ⟨fun c hc => ⟨Nat.le_trans hB (hL c hc).1, (hL c hc).2⟩, vs, Ls, ho.le hB, hl, hn, hs, hd, fun i y z hy hz => (hw i y z hy hz).le hB⟩
theorem WLL.nil (k B : Nat) (w : World) : WLL (α := α) k B w [] (.slice none 0 0) [] :=
  ⟨(fun _ hc => nomatch hc), [], fun _ => [], .inl ⟨rfl, rfl⟩, rfl, by simp, fun _ c hc => hc, fun _ _ _ c hc => (nomatch hc), fun i y z hy => by simp at hy⟩
theorem WLL.shape (h : WLL k B w L v xs) : ∃ p c, v = .slice p xs.length c := by
  obtain ⟨hL, vs, Ls, ho, hl, _⟩ := h
  rcases ho with ⟨rfl, rfl⟩ | ⟨g, cap, cs, rfl, _⟩
  · exact ⟨none, 0, by rw [← hl]; rfl⟩
  · exact ⟨_, _, by rw [hl]⟩
end
structure NMk {α : Type} (fl : Bool) (nf B : Nat) (L : List Nat) (v : Value) (vs : List Value) (Ls : Nat → List Nat) (xs : List (List α)) (pre : Nat → Int) (i : Nat) (w : World) : Prop where
  out : Out B w v vs L
  len : vs.length = xs.length
  most : xs.length ≤ 9223372036854775807
  sub : ∀ i, ∀ c ∈ Ls i, c ∈ L
  dis : ∀ i j, i ≠ j → ∀ c ∈ Ls i, c ∉ Ls j
  big : ∀ c ∈ L, B ≤ c
  rest : ∀ (j : Nat) (y : Value) (x : List α), i ≤ j → vs[j]? = some y → xs[j]? = some x → WL nf B w (Ls j) y x.length
  done : ∀ (j : Nat) (y : Value) (x : List α), j < i → vs[j]? = some y → xs[j]? = some x → MkS fl nf (pre j) w (Ls j) y x.length
section
variable {α : Type} {fl : Bool} {nf B : Nat} {L : List Nat} {v : Value} {vs : List Value} {Ls : Nat → List Nat} {xs : List (List α)} {pre : Nat → Int} {i : Nat} {w u : World}
theorem NMk.start (h : WLL nf B w L v xs) : ∃ vs Ls, ∀ pre, NMk fl nf B L v vs Ls xs pre 0 w := by
  obtain ⟨hL, vs, Ls, ho, hl, hn, hs, hd, hw⟩ := h
  exact ⟨vs, Ls, fun pre => ⟨ho, hl, hn, hs, hd, fun c hc => (hL c hc).1, fun j y x _ hy hx => hw j y x hy hx, fun j _ _ hj => by omega⟩⟩
theorem NMk.slv (h : NMk fl nf B L v vs Ls xs pre i w) : Sl RVl 1 w v vs := h.out.sl (by rw [h.len]; exact h.most)
theorem NMk.step (h : NMk fl nf B L v vs Ls xs pre i w) (x : KpL (Ls i) w u) (hm : ∀ y z, vs[i]? = some y → xs[i]? = some z → MkS fl nf (pre i) u (Ls i) y z.length) : NMk fl nf B L v vs Ls xs pre (i + 1) u := by
  refine ⟨h.out.kl x (h.sub i), h.len, h.most, h.sub, h.dis, h.big, fun j y z hj hy hz => (h.rest j y z (by omega) hy hz).kl x (h.dis j i (by omega)), fun j y z hj hy hz => ?_⟩
  rcases Nat.lt_or_ge j i with h' | h'
  · exact (h.done j y z h' hy hz).kl x (h.dis j i (by omega))
  · obtain rfl : j = i := by omega
    exact hm y z hy hz
def mkLL {β : Type} (f : Int → β) (nf : Nat) (pre : Nat → Int) (xs : List (List α)) : List (List β) := (List.range xs.length).map fun i => mkL f nf (pre i) ((xs[i]?).getD []).length
theorem mkLL_len {β : Type} (f : Int → β) (nf : Nat) (pre : Nat → Int) (xs : List (List α)) : (mkLL f nf pre xs).length = xs.length := by simp [mkLL]
theorem mkLL_at {β : Type} {f : Int → β} {nf : Nat} {pre : Nat → Int} {xs : List (List α)} {x : List α} (h : xs[i]? = some x) : (mkLL f nf pre xs)[i]? = some (mkL f nf (pre i) x.length) := by
  have hl := (List.getElem?_eq_some_iff.1 h).1
  simp [mkLL, List.getElem?_range hl, h]
theorem NMk.hang {β : Type} {R : Rel β} {f : Int → β} (h : NMk fl nf B L v vs Ls xs pre i w) (hi : xs.length ≤ i) (hnf : 0 < nf) (hn : ∀ x ∈ xs, x.length ≤ 9223372036854775807) (hR : ∀ (u : World) (m : Int), R u (f m) ((List.range nf).map fun c : Nat => mkc fl (m + c))) :
    Hang B w (fun u => Sl (RS R nf) 1 u v (mkLL f nf pre xs)) := fun u hu => by
  obtain ⟨hm, p, c, rfl, ho⟩ := (h.out.same hu (Nat.le_refl _)).sl (by rw [h.len]; exact h.most)
  refine ⟨by rw [mkLL_len]; exact h.most, p, c, by rw [mkLL_len, h.len], fun j x hj => ?_⟩
  have hjl := (List.getElem?_eq_some_iff.1 hj).1
  rw [mkLL_len] at hjl
  have hx : xs[j]? = some (xs[j]'hjl) := List.getElem?_eq_getElem hjl
  have hy : vs[j]? = some (vs[j]'(by rw [h.len]; exact hjl)) := List.getElem?_eq_getElem _
  rw [mkLL_at hx] at hj
  cases hj
  obtain ⟨b, off, cs, hp, hc, hr, hk, h0, hcap⟩ := ho j _ hy
  have hd := (h.done j _ _ (by omega) hy hx).same hu (fun c hc => h.big c (h.sub j c hc))
  exact ⟨b, off, cs, hp, hc, ⟨_, hr, hd.sl hnf (hn _ (List.getElem_mem _)) hR⟩, hk, h0, hcap⟩
end
def WLM (B : Nat) (w : World) (L : List Nat) (p t : Value) (m : MeshT) : Prop :=
  (∀ c ∈ L, B ≤ c ∧ c < w.heap.size) ∧ ∃ L1 L2, WL 3 B w L1 p m.places.length ∧ WLL 1 B w L2 t m.tris ∧ (∀ c ∈ L1, c ∈ L) ∧ (∀ c ∈ L2, c ∈ L) ∧ (∀ c ∈ L1, c ∉ L2 ∧ t.ownBlock ≠ some c)
section
variable {B : Nat} {w u : World} {L L1 L2 : List Nat} {p t : Value} {m : MeshT}
theorem WLM.same (h : WLM B w L p t m) (x : Same B w u) : WLM B u L p t m := by
  obtain ⟨hL, L1, L2, h1, h2, s1, s2, hd⟩ := h
  exact ⟨fun c hc => ⟨(hL c hc).1, Nat.lt_of_lt_of_le (hL c hc).2 x.size⟩, L1, L2, h1.same x, h2.same x, s1, s2, hd⟩
theorem WLM.le {C : Nat} (h : WLM C w L p t m) (hB : B ≤ C) : WLM B w L p t m := by
  obtain ⟨hL, L1, L2, h1, h2, s1, s2, hd⟩ := h
  exact ⟨fun c hc => ⟨Nat.le_trans hB (hL c hc).1, (hL c hc).2⟩, L1, L2, h1.le hB, h2.le hB, s1, s2, hd⟩
theorem WLM.mk {C n : Nat} {xs : List (List Int)} (h1 : WL 3 B w L1 p n) (h2 : WLL 1 C w L2 t xs) (hBC : B ≤ C) (h12 : ∀ c ∈ L1, c < C) (hn : n = m.places.length) (hx : xs = m.tris) : WLM B w (L1 ++ L2) p t m := by
  subst hn hx
  refine ⟨fun c hc => ?_, L1, L2, h1, h2.le hBC, fun c hc => by simp [hc], fun c hc => by simp [hc], fun c hc => ⟨fun h => ?_, fun h => ?_⟩⟩
  · rcases List.mem_append.1 hc with hc | hc
    · exact h1.1 c hc
    · have := h2.1 c hc; omega
  · have := h2.1 c h; have := h12 c hc; omega
  · obtain ⟨_, vs, Ls, ho, _⟩ := h2
    rcases ho with ⟨rfl, _⟩ | ⟨g, cap, cs, rfl, _, _, _, hg, _⟩
    · simp [Value.ownBlock] at h
    · simp [Value.ownBlock] at h
      have := h12 c hc; omega
theorem WLL.kl {α : Type} {k : Nat} {M : List Nat} {v : Value} {xs : List (List α)} (h : WLL k B w L v xs) (x : KpL M w u) (hM : ∀ c ∈ M, c ∉ L ∧ v.ownBlock ≠ some c) : WLL k B u L v xs := by
  obtain ⟨hL, vs, Ls, ho, hl, hn, hs, hd, hw⟩ := h
  refine ⟨fun c hc => ⟨(hL c hc).1, Nat.lt_of_lt_of_le (hL c hc).2 x.size⟩, vs, Ls, ?_, hl, hn, hs, hd, fun i y z hy hz => (hw i y z hy hz).kl x (fun c hc hm => (hM c hm).1 (hs i c hc))⟩
  rcases ho with h | ⟨g, cap, cs, rfl, hb, hc, hcs, hB, hg⟩
  · exact .inl h
  · exact .inr ⟨g, cap, cs, rfl, hb.kl x (fun hm => (hM g hm).2 rfl), hc, hcs, hB, hg⟩
end
def preK (k : Int) (xs : List (List Int)) (i : Nat) : Int := k + (liSum xs i : Nat)
end Go.Proofs.Ytjopopmipdakkaa
