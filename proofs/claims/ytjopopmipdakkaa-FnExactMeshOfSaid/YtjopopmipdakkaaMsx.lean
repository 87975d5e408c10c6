/- meshes in the making: how they begin, and what they are in the end -/
import Derived.Test.YtjopopmipdakkaaMsp
namespace Go.Proofs.Ytjopopmipdakkaa
open Go Go.RowKit Go.Maps
section
variable {α : Type} {R : Rel α} {k B : Nat} {e : TypeId} {w : World} {v : Value} {xs : List α}
theorem OwS.nil : OwS R k e w (.slice none 0 0) [] := ⟨[], World.ownsRow_nil w 0 e k, by simp⟩
theorem OwS.wl (h : OwS R k e w v xs) (hB : ∀ c, v.ownBlock = some c → B ≤ c) : WL k B w v.ownBlock.toList v xs.length := by
  obtain ⟨rows, hr, _⟩ := h
  rcases hr.2 with ⟨rfl, hn⟩ | ⟨g, cap, cur, rfl, hb, hgg, hnc, hcm, hsz, ht⟩
  · exact (WL.nil _ _ _).cast hn.symm
  · refine WL.one (cs := cur.toList) ⟨e, by simpa using hgg⟩ (hB g rfl) ?_ hnc
    simp only [Array.length_toList, hsz]; exact Nat.mul_le_mul_right _ hnc
end
theorem TrS.nil {e : TypeId} {w : World} {v : Value} (h : OwS RVl 1 e w v []) : TrS e w v [] [] :=
  ⟨[], fun _ => [], h, rfl, fun _ c hc => (nomatch hc), fun _ _ _ c hc => (nomatch hc), fun i y x hy => by simp at hy⟩
section
variable {e : TypeId} {N : Nat} {w : World} {v : Value} {xs : List (List Int)} {Lt : List Nat}
theorem TrS.ownN (h : TrS e w v xs Lt) (hL : ∀ c ∈ Lt, N ≤ c ∧ c < w.heap.size) (hv : ∀ c, v.ownBlock = some c → c ∉ Lt) : OwnN RI 1 e N (v.ownBlock.getD N) N w v xs := by
  obtain ⟨vs, Ls, ho, hl, h1, h2, h3⟩ := h
  exact ⟨vs, Ls, ho.own N N, hl, fun i c hc => ⟨(h1 i c hc).1, (hL c (h1 i c hc).2).1, (hL c (h1 i c hc).2).2, fun e => hv c e (h1 i c hc).2⟩, h2, h3⟩
theorem TrS.wll (h : TrS e w v xs Lt) (hL : ∀ c ∈ Lt, N ≤ c ∧ c < w.heap.size) (hv : ∀ c, v.ownBlock = some c → c ∉ Lt ∧ N ≤ c) : ∃ L, WLL 1 N w L v xs ∧ ∀ c ∈ L, c ∈ Lt := by
  obtain ⟨vs, Ls, ⟨rows, hr, hx⟩, hl, h1, h2, h3⟩ := h
  have hm : vs.length ≤ 9223372036854775807 := ((OwS.own ⟨rows, hr, hx⟩ N N : Own RVl 1 e _ N w v vs).sl (by decide)).1
  refine ⟨(List.range vs.length).flatMap Ls, ⟨fun c hc => ?_, vs, Ls, ?_, hl, by omega, fun i c hc => List.mem_flatMap.2 ⟨i, List.mem_range.2 (h1 i c hc).1, hc⟩, h2, fun i y x hy hx' => ((h3 i y x hy hx').wl fun c hc => (hL c (h1 i c hc).2).1)⟩, fun c hc => ?_⟩
  · obtain ⟨i, _, hi'⟩ := List.mem_flatMap.1 hc
    exact hL c (h1 i c hi').2
  · rcases hr.2 with ⟨rfl, hn⟩ | ⟨g, cap, cur, rfl, hb, hgg, hnc, hcm, hsz, ht⟩
    · exact .inl ⟨rfl, List.eq_nil_of_length_eq_zero hn⟩
    · refine .inr ⟨g, cap, cur.toList, rfl, ⟨e, by simpa using hgg⟩, hnc, fun i x hi' => ?_, (hv g rfl).2, fun hc => ?_⟩
      · have h1 := hx i x hi'
        have hlt := (List.getElem?_eq_some_iff.1 hi').1
        have h2 : ((rows.drop (i * 1)).take 1)[0]? = some x := by rw [h1]; rfl
        rw [List.getElem?_take, if_pos (by decide), List.getElem?_drop, Nat.mul_one, Nat.add_zero] at h2
        rw [← ht, List.getElem?_take] at h2
        split at h2
        · exact h2
        · cases h2
      · obtain ⟨i, _, hi'⟩ := List.mem_flatMap.1 hc
        exact (hv g rfl).1 (h1 i g hi').2
  · obtain ⟨i, _, hi'⟩ := List.mem_flatMap.1 hc
    exact (h1 i c hi').2
end
section
variable {K : MXK} {N b m : Nat} {g : GridT} {L : List Nat} {vp vt : Value} {w : World} {S : MshS}
theorem MX.made (G : K.Good) (hb : N ≤ b) (hm : N ≤ m) (hne : m ≠ b) (hB : Blk w b (K.box vp vt m)) (hT : K.T m w []) (hP : OwS RV3 3 K.e3 w vp []) (hR : OwS RVl 1 K.eT w vt [])
    (hp : ∀ c, vp.ownBlock = some c → N ≤ c ∧ c ≠ b ∧ c ≠ m ∧ vt.ownBlock ≠ some c) (ht : ∀ c, vt.ownBlock = some c → N ≤ c ∧ c ≠ b ∧ c ≠ m) : MX K N g b (FP [b, m] vp vt []) w ([], []) := by
  refine ⟨vp, vt, m, [], rfl, FP_iff.2 ⟨?_, List.nodup_nil, fun c hc => ⟨fun e => ?_, fun e => ?_, fun h => nomatch h⟩, fun c hc => ⟨(hp c hc).2.2.2, fun h => nomatch h⟩, fun c _ h => nomatch h⟩, fun c hc => ?_, hB, hP, TrS.nil hR, hT⟩
  · simp [Ne.symm hne]
  · have := hp c e; simp at hc; omega
  · have := ht c e; simp at hc; omega
  · rcases FP_mem.1 hc with h | h | h | h
    · simp at h
      rcases h with rfl | rfl
      · exact ⟨hb, hB.lt⟩
      · exact ⟨hm, G.lt hT⟩
    · exact ⟨(hp c h).1, hP.lt h⟩
    · exact ⟨(ht c h).1, hR.lt h⟩
    · exact nomatch h
theorem MX.fin (h : MX K N g b L w S) : ∃ (cs : List Value) (m : Nat) (Lw : List Nat), Blk w b (K.box (cellN cs 0) (cellN cs 1) m) ∧ N ≤ b ∧ Hang N w (fun u => RMeshT u (MeshT.mk (S.1.map (plK g)) S.2) cs) ∧ WLM N w Lw (cellN cs 0) (cellN cs 1) (MeshT.mk (S.1.map (plK g)) S.2) := by
  obtain ⟨vp, vt, m, Lt, rfl, hn, hb, hB, hP, hT, hm⟩ := h
  obtain ⟨h1, h2, h3, h4, h5⟩ := FP_iff.1 hn
  have hLt : ∀ c ∈ Lt, N ≤ c ∧ c < w.heap.size := fun c hc => hb c (FP_mem.2 (.inr (.inr (.inr hc))))
  have hvt : ∀ c, vt.ownBlock = some c → N ≤ c := fun c hc => (hb c (FP_mem.2 (.inr (.inr (.inl hc))))).1
  have hvp : ∀ c, vp.ownBlock = some c → N ≤ c := fun c hc => (hb c (FP_mem.2 (.inr (.inl hc)))).1
  have ho := hT.ownN hLt h5
  have g0 : ∀ {v : Value}, (∀ c, v.ownBlock = some c → N ≤ c) → N ≤ v.ownBlock.getD N := fun {v} h => by
    cases hv : v.ownBlock with
    | none => exact Nat.le_refl _
    | some c => exact h c hv
  obtain ⟨L2, hW, hs⟩ := hT.wll hLt fun c hc => ⟨h5 c hc, hvt c hc⟩
  refine ⟨[vp, vt], m, FP [b, m] vp vt Lt, hB, (hb b (FP_mem.2 (.inl (by simp)))).1, fun u hu => ⟨vp, vt, rfl, ((hP.own N N).hang RV3.flat (by decide) (g0 hvp) (Nat.le_refl _)) u hu, (ho.hang RI.flat (by decide) (g0 hvt) (Nat.le_refl _) (Nat.le_refl _)) u hu⟩, hb, vp.ownBlock.toList, L2, hP.wl hvp, hW, fun c hc => FP_mem.2 (.inr (.inl (mem_tl.1 hc))), fun c hc => FP_mem.2 (.inr (.inr (.inr (hs c hc)))), fun c hc => ?_⟩
  rw [mem_tl] at hc
  exact ⟨fun h => (h4 c hc).2 (hs c h), (h4 c hc).1⟩
end
end Go.Proofs.Ytjopopmipdakkaa
