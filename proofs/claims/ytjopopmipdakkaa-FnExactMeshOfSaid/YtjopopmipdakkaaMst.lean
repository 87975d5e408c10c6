/- meshes in the making: a box, places, triangles, and what tells the numbers of keys; all of it apart -/
import Derived.Test.YtjopopmipdakkaaMoi
namespace Go.Proofs.Ytjopopmipdakkaa
open Go Go.RowKit Go.Maps
def TrS (e : TypeId) (w : World) (v : Value) (xs : List (List Int)) (Lt : List Nat) : Prop :=
  ∃ (vs : List Value) (Ls : Nat → List Nat), OwS RVl 1 e w v vs ∧ vs.length = xs.length ∧ (∀ i, ∀ c ∈ Ls i, i < vs.length ∧ c ∈ Lt) ∧ (∀ i j, i ≠ j → ∀ c ∈ Ls i, c ∉ Ls j) ∧
    ∀ (i : Nat) (y : Value) (x : List Int), vs[i]? = some y → xs[i]? = some x → InS RI 1 w (Ls i) y x
theorem TrS.kl {e : TypeId} {w u : World} {v : Value} {xs : List (List Int)} {Lt M : List Nat} (h : TrS e w v xs Lt) (x : KpL M w u) (hv : ∀ c, v.ownBlock = some c → c ∉ M) (hM : ∀ c ∈ Lt, c ∉ M) : TrS e u v xs Lt := by
  obtain ⟨vs, Ls, ho, hl, hL, hd, hi⟩ := h
  exact ⟨vs, Ls, ho.kl RVl.flat x hv, hl, hL, hd, fun i y z hy hz => (hi i y z hy hz).kl RI.flat x fun c hc => hM c (hL i c hc).2⟩
def FP (ns : List Nat) (vp vt : Value) (Lt : List Nat) : List Nat := ns ++ (vp.ownBlock.toList ++ (vt.ownBlock.toList ++ Lt))
theorem mem_tl {v : Value} {c : Nat} : c ∈ v.ownBlock.toList ↔ v.ownBlock = some c := by cases v.ownBlock <;> simp [eq_comm]
theorem tl_nodup (v : Value) : v.ownBlock.toList.Nodup := by cases v.ownBlock <;> simp
section
variable {ns Lt L : List Nat} {vp vt v : Value} {s c : Nat}
theorem FP_iff : (FP ns vp vt Lt).Nodup ↔ ns.Nodup ∧ Lt.Nodup ∧ (∀ c ∈ ns, vp.ownBlock ≠ some c ∧ vt.ownBlock ≠ some c ∧ c ∉ Lt) ∧ (∀ c, vp.ownBlock = some c → vt.ownBlock ≠ some c ∧ c ∉ Lt) ∧ (∀ c, vt.ownBlock = some c → c ∉ Lt) := by
  unfold FP
  simp only [List.nodup_append, tl_nodup, mem_tl, List.mem_append, true_and]
  constructor
  · rintro ⟨h1, ⟨⟨h2, h3⟩, h4⟩, h5⟩
    exact ⟨h1, h2, fun c hc => ⟨fun e => h5 c hc c (.inl e) rfl, fun e => h5 c hc c (.inr (.inl e)) rfl, fun e => h5 c hc c (.inr (.inr e)) rfl⟩, fun c hc => ⟨fun e => h4 c hc c (.inl e) rfl, fun e => h4 c hc c (.inr e) rfl⟩, fun c hc e => h3 c hc c e rfl⟩
  · rintro ⟨h1, h2, h3, h4, h5⟩
    refine ⟨h1, ⟨⟨h2, fun a ha b hb e => h5 a ha (e ▸ hb)⟩, fun a ha b hb e => ?_⟩, fun a ha b hb e => ?_⟩
    · subst e; rcases hb with hb | hb
      · exact (h4 a ha).1 hb
      · exact (h4 a ha).2 hb
    · subst e; rcases hb with hb | hb | hb
      · exact (h3 a ha).1 hb
      · exact (h3 a ha).2.1 hb
      · exact (h3 a ha).2.2 hb
theorem FP_mem : c ∈ FP ns vp vt Lt ↔ c ∈ ns ∨ vp.ownBlock = some c ∨ vt.ownBlock = some c ∨ c ∈ Lt := by simp [FP]
theorem FP_p (h : (FP ns vp vt Lt).Nodup) (hs : ∀ c ∈ FP ns vp vt Lt, c < s) (hv : ∀ c, v.ownBlock = some c → vp.ownBlock = some c ∨ s ≤ c) : (FP ns v vt Lt).Nodup := by
  obtain ⟨h1, h2, h3, h4, h5⟩ := FP_iff.1 h
  refine FP_iff.2 ⟨h1, h2, fun c hc => ⟨fun e => ?_, (h3 c hc).2⟩, fun c hc => ?_, h5⟩
  · rcases hv c e with h | h
    · exact (h3 c hc).1 h
    · have := hs c (FP_mem.2 (.inl hc)); omega
  · rcases hv c hc with h | h
    · exact h4 c h
    · exact ⟨fun e => (by have := hs c (FP_mem.2 (.inr (.inr (.inl e)))); omega), fun e => (by have := hs c (FP_mem.2 (.inr (.inr (.inr e)))); omega)⟩
theorem FP_t (h : (FP ns vp vt Lt).Nodup) (hs : ∀ c ∈ FP ns vp vt Lt, c < s) (hv : ∀ c, v.ownBlock = some c → vt.ownBlock = some c ∨ s ≤ c) : (FP ns vp v Lt).Nodup := by
  obtain ⟨h1, h2, h3, h4, h5⟩ := FP_iff.1 h
  refine FP_iff.2 ⟨h1, h2, fun c hc => ⟨(h3 c hc).1, fun e => ?_, (h3 c hc).2.2⟩, fun c hc => ⟨fun e => ?_, (h4 c hc).2⟩, fun c hc => ?_⟩
  · rcases hv c e with h | h
    · exact (h3 c hc).2.1 h
    · have := hs c (FP_mem.2 (.inl hc)); omega
  · rcases hv c e with h | h
    · exact (h4 c hc).1 h
    · have := hs c (FP_mem.2 (.inr (.inl hc))); omega
  · rcases hv c hc with h | h
    · exact h5 c h
    · exact fun e => (by have := hs c (FP_mem.2 (.inr (.inr (.inr e)))); omega)
theorem FP_l (h : (FP ns vp vt Lt).Nodup) (hc : c ∉ FP ns vp vt Lt) : (FP ns vp vt (c :: Lt)).Nodup := by
  obtain ⟨h1, h2, h3, h4, h5⟩ := FP_iff.1 h
  rw [FP_mem] at hc
  refine FP_iff.2 ⟨h1, List.nodup_cons.2 ⟨fun e => hc (.inr (.inr (.inr e))), h2⟩, fun d hd => ⟨(h3 d hd).1, (h3 d hd).2.1, fun e => ?_⟩, fun d hd => ⟨(h4 d hd).1, fun e => ?_⟩, fun d hd e => ?_⟩ <;> rcases List.mem_cons.1 e with e | e
  · exact hc (.inl (e ▸ hd))
  · exact (h3 d hd).2.2 e
  · exact hc (.inr (.inl (e ▸ hd)))
  · exact (h4 d hd).2 e
  · exact hc (.inr (.inr (.inl (e ▸ hd))))
  · exact h5 d hd e
end
def knK (g : GridT) (ks : List Int) : List Int := (List.range (8 * g.vals.length)).map fun (j : Nat) => numK ks (j : Int)
def pairK (g : GridT) (k : Int) : Int × Int := (k / 8, k / 8 + offC g (k % 8))
def mdF (g : GridT) : Int → List Int → List ((Int × Int) × Int)
  | _, [] => []
  | i, k :: l => (pairK g k, i) :: mdF g (i + 1) l
def mdK (g : GridT) (ks : List Int) : List ((Int × Int) × Int) := mdF g 0 ks
section
variable {g : GridT} {ks : List Int} {k : Int} {i : Int}
theorem knK_len (g : GridT) (ks : List Int) : (knK g ks).length = 8 * g.vals.length := by simp [knK]
theorem knK_at (h : 0 ≤ k ∧ k < 8 * g.vals.length) : iAt (knK g ks) k.toNat = numK ks k := by
  unfold iAt knK
  rw [List.getElem?_map, List.getElem?_range (show k.toNat < 8 * g.vals.length by omega), Option.map_some, Option.getD_some, show ((k.toNat : Nat) : Int) = k by omega]
theorem knP_K (h : 0 ≤ k ∧ k < 8 * g.vals.length) : knP (knK g ks) ks.length k = knK g (addK ks k) := by
  unfold knP
  rw [knK_at h]
  split
  · rename_i hn
    rw [addK_new hn]
    apply List.ext_getElem?
    intro j
    rw [List.getElem?_set]
    unfold knK
    by_cases hj : k.toNat = j
    · subst hj
      rw [if_pos rfl, if_pos (by simp; omega), List.getElem?_map, List.getElem?_range (show k.toNat < 8 * g.vals.length by omega), Option.map_some, show ((k.toNat : Nat) : Int) = k by omega, numK_app, if_neg (by omega), if_pos rfl]
    · rw [if_neg hj, List.getElem?_map, List.getElem?_map]
      rcases Nat.lt_or_ge j (8 * g.vals.length) with h1 | h1
      · rw [List.getElem?_range h1, Option.map_some, Option.map_some, numK_app]
        split
        · rfl
        · rename_i h2
          have := numK_lt ks (j : Int)
          rw [if_neg (by omega)]; congr 1; omega
      · rw [List.getElem?_eq_none (by simpa using h1)]; rfl
  · rename_i hn; rw [addK_old (by omega)]
theorem psP_K (h : 0 ≤ k ∧ k < 8 * g.vals.length) : psP g (knK g ks) (ks.map (plK g)) k = (addK ks k).map (plK g) := by
  unfold psP
  rw [knK_at h]
  split
  · rename_i hn; rw [addK_new hn, List.map_append]; rfl
  · rename_i hn; rw [addK_old (by omega)]
theorem mdF_app (g : GridT) : ∀ (l : List Int) (i k : Int), mdF g i (l ++ [k]) = mdF g i l ++ [(pairK g k, i + l.length)]
  | [], i, k => by simp [mdF]
  | q :: l, i, k => by
    simp only [List.cons_append, mdF, List.length_cons]
    rw [mdF_app g l]
    congr 4; omega
theorem mdF_at : ∀ {l : List Int} {i : Int}, (∀ q ∈ l, pairK g q = pairK g k → q = k) → atM (mdF g i l) (pairK g k) = if numK l k < 0 then none else some (i + numK l k)
  | [], i, _ => by simp [mdF, atM, numK]
  | q :: l, i, h => by
    have ih := mdF_at (l := l) (i := i + 1) fun q hq => h q (by simp [hq])
    have hl := numK_lt l k
    unfold mdF atM numK
    by_cases e : q = k
    · subst e; simp
    · rw [if_neg (fun e2 => e (h q (by simp) e2)), if_neg e, ih]
      by_cases h0 : numK l k < 0
      · rw [if_pos h0, if_pos h0]; rfl
      · rw [if_neg h0, if_neg h0, if_neg (by omega)]; congr 1; omega
theorem mdF_none : ∀ {l : List Int} {i : Int}, (∀ q ∈ l, pairK g q = pairK g k → q = k) → numK l k < 0 → ∀ r ∈ mdF g i l, r.1 ≠ pairK g k
  | [], _, _, _, r, hr => by simp [mdF] at hr
  | q :: l, i, h, hn, r, hr => by
    unfold mdF at hr
    unfold numK at hn
    split at hn
    · omega
    · rename_i e
      rcases List.mem_cons.1 hr with rfl | hr
      · exact fun e2 => e (h q (by simp) e2)
      · refine mdF_none (l := l) (i := i + 1) (fun q hq => h q (by simp [hq])) ?_ r hr
        split at hn <;> omega
theorem mdK_at (h : ∀ q ∈ ks, pairK g q = pairK g k → q = k) : atM (mdK g ks) (pairK g k) = if numK ks k < 0 then none else some (numK ks k) := by
  unfold mdK; rw [mdF_at h, Int.zero_add]
theorem mmM_K (h : ∀ q ∈ ks, pairK g q = pairK g k → q = k) : mmM (mdK g ks) ks.length (pairK g k) = mdK g (addK ks k) := by
  unfold mmM
  rw [mdK_at h]
  by_cases h0 : numK ks k < 0
  · rw [if_pos h0, addK_new h0]
    simp only [Option.isNone_none, ↓reduceIte]
    unfold mdK
    rw [putM_none (mdF_none h h0), mdF_app, Int.zero_add]
  · rw [if_neg h0, if_neg (by simp), addK_old (by omega)]
theorem psM_K (h : ∀ q ∈ ks, pairK g q = pairK g k → q = k) : psM g (mdK g ks) (ks.map (plK g)) (pairK g k) k = (addK ks k).map (plK g) := by
  unfold psM
  rw [mdK_at h]
  by_cases h0 : numK ks k < 0
  · rw [if_pos h0, addK_new h0, List.map_append]; rfl
  · rw [if_neg h0, if_neg (by simp), addK_old (by omega)]
theorem mmA_K (h : ∀ q ∈ ks, pairK g q = pairK g k → q = k) : (atM (mmM (mdK g ks) ks.length (pairK g k)) (pairK g k)).getD 0 = numK (addK ks k) k := by
  rw [mmM_K h, mdK_at]
  · have := addK_pos (ks := ks) (p := k)
    rw [if_neg (by omega)]; rfl
  · intro q hq he
    rcases addK_mem hq with hq | hq
    · exact h q hq he
    · exact hq
end
end Go.Proofs.Ytjopopmipdakkaa
