/- meshes in the making: what is done to them -/
import Derived.Test.YtjopopmipdakkaaMst
namespace Go.Proofs.Ytjopopmipdakkaa
open Go Go.RowKit Go.Maps
structure MXK where
  e3 : TypeId
  eT : TypeId
  T : Nat → World → List Int → Prop
  box : Value → Value → Nat → List Value
structure MXK.Good (K : MXK) : Prop where
  T : ∀ {m : Nat} {w u : World} {M : List Nat} {ks : List Int}, K.T m w ks → KpL M w u → m ∉ M → K.T m u ks
  lt : ∀ {m : Nat} {w : World} {ks : List Int}, K.T m w ks → m < w.heap.size
def MXq (K : MXK) (N : Nat) (g : GridT) (b : Nat) (L : List Nat) (vp vt v : Value) (m : Nat) (Lt : List Nat) (w : World) (S : MshS) : Prop :=
  L = FP [b, m] vp v Lt ∧ L.Nodup ∧ (∀ c ∈ L, N ≤ c ∧ c < w.heap.size) ∧ Blk w b (K.box vp vt m) ∧ OwS RV3 3 K.e3 w vp (S.1.map (plK g)) ∧ TrS K.eT w v S.2 Lt ∧ K.T m w S.1
def MX (K : MXK) (N : Nat) (g : GridT) (b : Nat) (L : List Nat) (w : World) (S : MshS) : Prop := ∃ (vp vt : Value) (m : Nat) (Lt : List Nat), MXq K N g b L vp vt vt m Lt w S
section
variable {K : MXK} {N b m : Nat} {g : GridT} {L M Lt : List Nat} {vp vt v : Value} {w u : World} {S : MshS}
theorem MXq.kl (G : K.Good) (h : MXq K N g b L vp vt v m Lt w S) (x : KpL M w u) (hM : ∀ c ∈ L, c ∉ M) : MXq K N g b L vp vt v m Lt u S := by
  obtain ⟨rfl, hn, hb, hB, hP, hT, hm⟩ := h
  refine ⟨rfl, hn, fun c hc => ⟨(hb c hc).1, Nat.lt_of_lt_of_le (hb c hc).2 x.size⟩, hB.kl x (hM b (FP_mem.2 (.inl (by simp)))), hP.kl RV3.flat x fun c hc => hM c (FP_mem.2 (.inr (.inl hc))), hT.kl x (fun c hc => hM c (FP_mem.2 (.inr (.inr (.inl hc))))) (fun c hc => hM c (FP_mem.2 (.inr (.inr (.inr hc))))), G.T hm x (hM m (FP_mem.2 (.inl (by simp))))⟩
theorem MXq.ext (G : K.Good) (h : MXq K N g b L vp vt v m Lt w S) (x : Ext w u) : MXq K N g b L vp vt v m Lt u S := h.kl G (M := []) (KpL.of_ext x) fun _ _ => by simp
theorem MX.kl (G : K.Good) (h : MX K N g b L w S) (x : KpL M w u) (hM : ∀ c ∈ L, c ∉ M) : MX K N g b L u S := let ⟨_, _, _, _, h⟩ := h; ⟨_, _, _, _, h.kl G x hM⟩
theorem MX.ext (G : K.Good) (h : MX K N g b L w S) (x : Ext w u) : MX K N g b L u S := h.kl G (M := []) (KpL.of_ext x) fun _ _ => by simp
theorem MX.bnd (h : MX K N g b L w S) : ∀ c ∈ L, N ≤ c ∧ c < w.heap.size := let ⟨_, _, _, _, h⟩ := h; h.2.2.1
theorem MX.cast {S' : MshS} (h : MX K N g b L w S) (e : S = S') : MX K N g b L w S' := e ▸ h
theorem MX.place (h : MX K N g b L w S) : ∃ (vp vt : Value) (m gp : Nat), Blk w b (K.box vp vt m) ∧ (∀ B, Own RV3 3 K.e3 gp B w vp (S.1.map (plK g))) ∧ K.T m w S.1 ∧ N ≤ b ∧ N ≤ gp ∧ N ≤ m ∧ gp ≠ b ∧ m ≠ b ∧ m ≠ gp ∧ (∀ c ∈ [b, gp, m], c ∈ L ∨ w.heap.size ≤ c) ∧
    ∀ (M : List Nat) (w' : World) (vp' : Value) (ks' : List Int), KpL M w w' → (∀ c ∈ M, c ∈ [b, gp, m] ∨ c ∉ L ∧ c < w.heap.size) → Blk w' b (K.box vp' vt m) → Own RV3 3 K.e3 gp w.heap.size w' vp' (ks'.map (plK g)) → K.T m w' ks' → ∃ L', MX K N g b L' w' (ks', S.2) ∧ ∀ c ∈ L', c ∈ L ∨ w.heap.size ≤ c := by
  obtain ⟨vp, vt, m, Lt, rfl, hn, hb, hB, hP, hT, hm⟩ := h
  obtain ⟨h1, h2, h3, h4, h5⟩ := FP_iff.1 hn
  have hbb := hb b (FP_mem.2 (.inl (by simp)))
  have hmm := hb m (FP_mem.2 (.inl (by simp)))
  have hbm : m ≠ b := by intro e; subst e; simp at h1
  have key : ∀ c, vp.ownBlock.getD w.heap.size = c → (vp.ownBlock = some c ∨ c = w.heap.size ∧ vp.ownBlock = none) := fun c hc => by
    cases hv : vp.ownBlock with
    | none => rw [hv] at hc; exact .inr ⟨hc.symm, rfl⟩
    | some d => rw [hv] at hc; exact .inl (congrArg some hc)
  have hin : ∀ c ∈ [b, vp.ownBlock.getD w.heap.size, m], c ∈ FP [b, m] vp vt Lt ∨ w.heap.size ≤ c := fun c hc => by
    simp only [List.mem_cons, List.not_mem_nil, or_false] at hc
    rcases hc with rfl | hc | rfl
    · exact .inl (FP_mem.2 (.inl (by simp)))
    · rcases key c hc.symm with h | ⟨h, _⟩
      · exact .inl (FP_mem.2 (.inr (.inl h)))
      · exact .inr (by omega)
    · exact .inl (FP_mem.2 (.inl (by simp)))
  refine ⟨vp, vt, m, vp.ownBlock.getD w.heap.size, hB, hP.own _, hm, hbb.1, ?_, hmm.1, ?_, hbm, ?_, hin, fun M w' vp' ks' x hM hB' hO hm' => ?_⟩
  · rcases key _ rfl with h | ⟨h, _⟩
    · exact (hb _ (FP_mem.2 (.inr (.inl h)))).1
    · omega
  · intro e
    rcases key _ rfl with h | ⟨h, _⟩
    · exact (h3 b (by simp)).1 (e ▸ h)
    · omega
  · intro e
    rcases key _ rfl with h | ⟨h, _⟩
    · exact (h3 m (by simp)).1 (e ▸ h)
    · omega
  have hv' : ∀ c, vp'.ownBlock = some c → vp.ownBlock = some c ∨ w.heap.size ≤ c := fun c hc => by
    rcases hO.blk c hc with h | h
    · rcases key c h.symm with h | ⟨h, _⟩
      · exact .inl h
      · exact .inr (by omega)
    · exact .inr h
  have hnot : ∀ c, c ∈ FP [b, m] vp vt Lt → c < w.heap.size → c ≠ b → c ≠ m → vp.ownBlock ≠ some c → c ∉ M := fun c hF hc hb hm hv hmem => by
    rcases hM c hmem with hmem | ⟨hmem, _⟩
    rotate_left
    · exact hmem hF
    simp only [List.mem_cons, List.not_mem_nil, or_false] at hmem
    rcases hmem with h | h | h
    · exact hb h
    · rcases key c h.symm with h | ⟨h, _⟩
      · exact hv h
      · omega
    · exact hm h
  refine ⟨FP [b, m] vp' vt Lt, ⟨vp', vt, m, Lt, rfl, FP_p hn (fun c hc => (hb c hc).2) hv', fun c hc => ?_, hB', hO.ows, hT.kl x (fun c hc => ?_) (fun c hc => ?_), hm'⟩, fun c hc => ?_⟩
  · rcases FP_mem.1 hc with h | h | h | h
    · have := hb c (FP_mem.2 (.inl h)); exact ⟨this.1, Nat.lt_of_lt_of_le this.2 x.size⟩
    · refine ⟨?_, hO.ows.lt h⟩
      rcases hv' c h with h | h
      · exact (hb c (FP_mem.2 (.inr (.inl h)))).1
      · omega
    · have := hb c (FP_mem.2 (.inr (.inr (.inl h)))); exact ⟨this.1, Nat.lt_of_lt_of_le this.2 x.size⟩
    · have := hb c (FP_mem.2 (.inr (.inr (.inr h)))); exact ⟨this.1, Nat.lt_of_lt_of_le this.2 x.size⟩
  · have hl := hb c (FP_mem.2 (.inr (.inr (.inl hc))))
    exact hnot c (FP_mem.2 (.inr (.inr (.inl hc)))) hl.2 (fun e => (h3 b (by simp)).2.1 (e ▸ hc)) (fun e => (h3 m (by simp)).2.1 (e ▸ hc)) (fun e => (h4 c e).1 hc)
  · have hl := hb c (FP_mem.2 (.inr (.inr (.inr hc))))
    exact hnot c (FP_mem.2 (.inr (.inr (.inr hc)))) hl.2 (fun e => (h3 b (by simp)).2.2 (e ▸ hc)) (fun e => (h3 m (by simp)).2.2 (e ▸ hc)) (fun e => (h4 c e).2 hc)
  · rcases FP_mem.1 hc with h | h | h | h
    · exact .inl (FP_mem.2 (.inl h))
    · rcases hv' c h with h | h
      · exact .inl (FP_mem.2 (.inr (.inl h)))
      · exact .inr h
    · exact .inl (FP_mem.2 (.inr (.inr (.inl h))))
    · exact .inl (FP_mem.2 (.inr (.inr (.inr h))))
theorem InS.row {w : World} {g n cap : Nat} {x : List Int} (h : RowG RI 1 w g x) (hn : x.length = n) (hc : n ≤ cap) (hm : n ≤ 1000000) : InS RI 1 w [g] (.slice (some ⟨g, 0, none⟩) n cap) x := by
  subst hn; exact .inr ⟨g, cap, rfl, rfl, h, hc, by omega⟩
theorem MXq.close (G : K.Good) (h : MXq K N g b L vp vt v m Lt w S) (W : Wr b w u) (hB : Blk u b (K.box vp v m)) : MX K N g b L u S := by
  obtain ⟨rfl, hn, hb, _, hP, hT, hm⟩ := h
  obtain ⟨h1, h2, h3, h4, h5⟩ := FP_iff.1 hn
  have x := KpL.of_wr W
  have hbm : m ≠ b := by intro e; subst e; simp at h1
  exact ⟨vp, v, m, Lt, rfl, hn, fun c hc => ⟨(hb c hc).1, Nat.lt_of_lt_of_le (hb c hc).2 x.size⟩, hB, hP.kl RV3.flat x (fun c hc hm => by rw [List.mem_singleton] at hm; exact (h3 b (by simp)).1 (hm ▸ hc)), hT.kl x (fun c hc hm => by rw [List.mem_singleton] at hm; exact (h3 b (by simp)).2.1 (hm ▸ hc)) (fun c hc hm => by rw [List.mem_singleton] at hm; exact (h3 b (by simp)).2.2 (hm ▸ hc)), G.T hm x (by simpa using hbm)⟩
end
section
variable {P : Program} {a : Act} {w : World} {dst : Option Tmp} {ty : TypeId} {pos : String} {af : Array Edge} {ge : Option (Nat × Bool)}
theorem litV {w : World} {y : Value} : ∀ (i : Nat) (x : Value), [y][i]? = some x → RVl w x (([y].drop (i * 1)).take 1) := fun i x hi => by
  match i, hi with
  | 0, hi => cases hi; rfl
  | i + 1, hi => simp at hi
theorem does_appT {K : MXK} {N b m bl c c1 : Nat} {g : GridT} {L Lt : List Nat} {vp vt y z : Value} {S : MshS} {tr : List Int} {t : TypeId} {p q : Operand} (G : K.Good) (ht : P.underlying t = some (.slice K.eT))
    (hi : ∃ i, P.info? K.eT = some i ∧ i.zero = some z ∧ i.size = 1 ∧ i.bytes ≤ 1000) (hz : z.cells.size = 1) (hx : a.eval p = vt) (hy : a.eval q = .slice (some ⟨bl, 0, none⟩) 1 c) (h : MXq K N g b L vp vt vt m Lt w S) (hb : Blk w bl [y])
    (hin : InS RI 1 w [c1] y tr) (hc1 : c1 ∉ L) (hN : N ≤ c1) (hlen : S.2.length ≤ 99999999999) :
    does P ⟨dst, .call { callee := .builtin .append, args := #[p, q], argTypes := #[t, t] }, ty, pos, af, ge⟩ a w (fun v' w' => KpL L w w' ∧ ∃ L', MXq K N g b L' vp vt v' m (c1 :: Lt) w' (S.1, S.2 ++ [tr]) ∧ ∀ c ∈ L', c ∈ L ∨ c = c1 ∨ w.heap.size ≤ c) := by
  obtain ⟨rfl, hn, hbd, hB, hP, ⟨vs, Ls, hO, hl, hL, hd, hins⟩, hm⟩ := h
  obtain ⟨h1, h2, h3, h4, h5⟩ := FP_iff.1 hn
  have hc1n : c1 ∉ [b, m] ∧ vp.ownBlock ≠ some c1 ∧ vt.ownBlock ≠ some c1 ∧ c1 ∉ Lt := by rw [FP_mem] at hc1; exact ⟨fun e => hc1 (.inl e), fun e => hc1 (.inr (.inl e)), fun e => hc1 (.inr (.inr (.inl e))), fun e => hc1 (.inr (.inr (.inr e)))⟩
  have hc1l : c1 < w.heap.size := hin.lt c1 (by simp)
  have h1c : y.oneCell' = true := by rcases id hin with ⟨h, _⟩ | ⟨_, _, _, h, _⟩ <;> rw [h] <;> rfl
  refine (does_append (R := RVl) (k := 1) (g0 := vt.ownBlock.getD w.heap.size) (B := w.heap.size) (xs := vs) (ys := [y]) ht hi hz (by decide) hx hy (hO.own _ _) RVl.flat hb rfl rfl (by simp [h1c]) litV (by simp; omega) (Nat.le_refl _)).mono fun v' w' ⟨gg, hgg, x, hO'⟩ => ?_
  have hg : ∀ c, c = gg → vt.ownBlock = some c ∨ w.heap.size ≤ c := fun c hc => by
    subst hc
    rcases hgg with h | h
    · cases hv : vt.ownBlock with
      | none => rw [hv] at h; exact .inr (by rw [h]; exact Nat.le_refl _)
      | some d => rw [hv] at h; exact .inl (by rw [h]; rfl)
    · exact .inr h
  have hv' : ∀ c, v'.ownBlock = some c → vt.ownBlock = some c ∨ w.heap.size ≤ c := fun c hc => by
    rcases hO'.blk c hc with h | h
    · cases hv : vt.ownBlock with
      | none => rw [hv] at h; exact .inr (by rw [h]; exact Nat.le_refl _)
      | some d => rw [hv] at h; exact .inl (by rw [h]; rfl)
    · exact .inr h
  have hnot : ∀ c, c < w.heap.size → vt.ownBlock ≠ some c → c ∉ [gg] := fun c hc hv hmm => by
    rw [List.mem_singleton] at hmm
    rcases hg c hmm with h | h
    · exact hv h
    · omega
  have hlt : ∀ c, c ∈ FP [b, m] vp vt Lt → c < w.heap.size := fun c hc => (hbd c hc).2
  have hnd : (FP [b, m] vp v' (c1 :: Lt)).Nodup := by
    refine FP_t (FP_l hn hc1) (s := w.heap.size) (fun c hc => ?_) hv'
    rcases FP_mem.1 hc with h | h | h | h
    · exact hlt c (FP_mem.2 (.inl h))
    · exact hlt c (FP_mem.2 (.inr (.inl h)))
    · exact hlt c (FP_mem.2 (.inr (.inr (.inl h))))
    · rcases List.mem_cons.1 h with h | h
      · rw [h]; exact hc1l
      · exact hlt c (FP_mem.2 (.inr (.inr (.inr h))))
  refine ⟨(KpL.refl _ _).more x fun c hc => ?_, FP [b, m] vp v' (c1 :: Lt), ⟨rfl, hnd, fun c hc => ?_, hB.kl x (hnot b (hlt b (FP_mem.2 (.inl (by simp)))) (h3 b (by simp)).2.1), hP.kl RV3.flat x (fun c hc => hnot c (hlt c (FP_mem.2 (.inr (.inl hc)))) (h4 c hc).1), ⟨vs ++ [y], fun i => if i = vs.length then [c1] else Ls i, hO'.ows, by simp [hl], fun i c hc => ?_, fun i j hij c hc => ?_, fun i u z hu hz => ?_⟩, G.T hm x (hnot m (G.lt hm) (h3 m (by simp)).2.1)⟩, fun c hc => ?_⟩
  · rw [List.mem_singleton] at hc
    rcases hg c hc with h | h
    · exact .inl (FP_mem.2 (.inr (.inr (.inl h))))
    · exact .inr h
  · have hs := x.size
    rcases FP_mem.1 hc with h | h | h | h
    · have := hbd c (FP_mem.2 (.inl h)); exact ⟨this.1, by omega⟩
    · have := hbd c (FP_mem.2 (.inr (.inl h))); exact ⟨this.1, by omega⟩
    · refine ⟨?_, hO'.ows.lt h⟩
      rcases hv' c h with h | h
      · exact (hbd c (FP_mem.2 (.inr (.inr (.inl h))))).1
      · have := (hbd b (FP_mem.2 (.inl (by simp)))); omega
    · rcases List.mem_cons.1 h with h | h
      · rw [h]; exact ⟨hN, by omega⟩
      · have := hbd c (FP_mem.2 (.inr (.inr (.inr h)))); exact ⟨this.1, by omega⟩
  · dsimp only at hc
    split at hc
    · rename_i hiv; rw [List.mem_singleton] at hc; exact ⟨by simp; omega, by rw [hc]; simp⟩
    · have := hL i c hc; exact ⟨by simp; omega, List.mem_cons_of_mem _ this.2⟩
  · dsimp only at hc ⊢
    split at hc
    · rename_i hiv
      rw [List.mem_singleton] at hc
      rw [if_neg (fun h => hij (by rw [hiv, h]))]
      intro h'; exact hc1n.2.2.2 (hc ▸ (hL j c h').2)
    · split
      · intro h'; rw [List.mem_singleton] at h'; exact hc1n.2.2.2 (h' ▸ (hL i c hc).2)
      · exact hd i j hij c hc
  · dsimp only
    have hil := (List.getElem?_eq_some_iff.1 hz).1
    rcases Nat.lt_or_ge i vs.length with h | h
    · rw [List.getElem?_append_left h] at hu
      rw [List.getElem?_append_left (by omega)] at hz
      rw [if_neg (by omega)]
      exact (hins i u z hu hz).kl RI.flat x fun c hc => hnot c (hlt c (FP_mem.2 (.inr (.inr (.inr (hL i c hc).2))))) (fun e => h5 c e (hL i c hc).2)
    · simp at hil
      obtain rfl : i = vs.length := by omega
      rw [List.getElem?_append_right (Nat.le_refl _)] at hu
      rw [List.getElem?_append_right (by omega)] at hz
      simp [← hl] at hu hz
      subst hu hz
      rw [if_pos rfl]
      exact hin.kl RI.flat x fun c hc => by rw [List.mem_singleton] at hc; rw [hc]; exact hnot c1 hc1l hc1n.2.2.1
  · rcases FP_mem.1 hc with h | h | h | h
    · exact .inl (FP_mem.2 (.inl h))
    · exact .inl (FP_mem.2 (.inr (.inl h)))
    · rcases hv' c h with h | h
      · exact .inl (FP_mem.2 (.inr (.inr (.inl h))))
      · exact .inr (.inr h)
    · rcases List.mem_cons.1 h with h | h
      · exact .inr (.inl h)
      · exact .inl (FP_mem.2 (.inr (.inr (.inr h))))
end
end Go.Proofs.Ytjopopmipdakkaa
