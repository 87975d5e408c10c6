/- meshes in the making: the program's box, and the reference's -/
import Derived.Test.YtjopopmipdakkaaMsu
namespace Go.Proofs.Ytjopopmipdakkaa
open Go Go.RowKit Go.Maps
def KI (e3 eT : TypeId) (g_b g_o : Nat) (g : GridT) : MXK := ⟨e3, eT, fun m w ks => MapL encP (Value.int .i64) okP w m (mdK g ks), fun vp vt m => [Pt g_b g_o, vp, vt, .map (some m)]⟩
def KW (e3 eT cap : Nat) (g : GridT) : MXK := ⟨e3, eT, fun m w ks => RowG RI 1 w m (knK g ks), fun vp vt m => [vp, vt, .slice (some ⟨m, 0, none⟩) (8 * g.vals.length) cap]⟩
theorem KI.good {e3 eT : TypeId} {g_b g_o : Nat} {g : GridT} : (KI e3 eT g_b g_o g).Good := ⟨fun h x hm => MapL.kl h x hm, fun h => MapL.lt h⟩
theorem KW.good {e3 eT cap : Nat} {g : GridT} : (KW e3 eT cap g).Good := ⟨fun h x hm => RowG.kl h RI.flat x hm, fun h => RowG.lt h⟩
theorem MX.c0 {e3 eT : TypeId} {g_b g_o N b : Nat} {g : GridT} {L : List Nat} {w : World} {S : MshS} (h : MX (KI e3 eT g_b g_o g) N g b L w S) : Cells w b 0 [Pt g_b g_o] := by
  obtain ⟨vp, vt, m, Lt, _, _, _, hB, _⟩ := h
  exact Cells.sub (Blk.cells hB) 0 1
section
variable {g : GridT} {ks : List Int} {x y z k q p : Int}
theorem bits (c : Int) (h : 0 ≤ c ∧ c ≤ 7) : ∃ a b d : Int, (a = 0 ∨ a = 1) ∧ (b = 0 ∨ b = 1) ∧ (d = 0 ∨ d = 1) ∧ c % 2 = a ∧ c / 2 % 2 = b ∧ c / 4 = d ∧ c = a + 2 * b + 4 * d := ⟨_, _, _, (c2 h).1, (c2 h).2.1, (c2 h).2.2, rfl, rfl, rfl, by omega⟩
theorem offC_inj (hx : 2 ≤ g.x) (hy : 2 ≤ g.y) (hp : 0 ≤ p ∧ p ≤ 7) (hq : 0 ≤ q ∧ q ≤ 7) (h : offC g p = offC g q) : p = q := by
  have hP : g.x + 2 ≤ g.x * g.y := by
    have := Int.mul_le_mul_of_nonneg_left hy (show (0 : Int) ≤ g.x by omega); omega
  obtain ⟨a, b, d, ha, hb, hd, e1, e2, e3, e4⟩ := bits p hp
  obtain ⟨a', b', d', ha', hb', hd', e1', e2', e3', e4'⟩ := bits q hq
  unfold offC at h
  rw [e1, e2, e3, e1', e2', e3'] at h
  generalize g.x * g.y = P at h hP
  rcases ha with rfl | rfl <;> rcases hb with rfl | rfl <;> rcases hd with rfl | rfl <;> rcases ha' with rfl | rfl <;> rcases hb' with rfl | rfl <;> rcases hd' with rfl | rfl <;> simp only [Int.mul_zero, Int.mul_one, Int.add_zero, Int.zero_add] at h e4 e4' <;> omega
theorem pairK_inj (hx : 2 ≤ g.x) (hy : 2 ≤ g.y) (h : pairK g q = pairK g k) : q = k := by
  simp only [pairK, Prod.mk.injEq] at h
  have h2 : offC g (q % 8) = offC g (k % 8) := by have := h.2; rw [h.1] at this; omega
  have := offC_inj hx hy (by omega) (by omega) h2
  omega
theorem pair_key (h : 0 ≤ p ∧ p < q ∧ q ≤ 7) (ht : crnI g x y z p + offC g (q - p) = crnI g x y z q) : pairK g (keyE g x y z p q) = (crnI g x y z p, crnI g x y z q) := by
  have hk : keyE g x y z p q / 8 = crnI g x y z p ∧ keyE g x y z p q % 8 = q - p := key_div h
  unfold pairK; rw [hk.1, hk.2, ht]
def okS (g : GridT) (ks : List Int) : Prop := ks.Nodup ∧ ∀ k ∈ ks, 0 ≤ k ∧ k < 8 * g.vals.length
theorem okS.nil : okS g [] := ⟨List.nodup_nil, fun _ hk => nomatch hk⟩
theorem okS.add (h : okS g ks) (hk : 0 ≤ k ∧ k < 8 * g.vals.length) : okS g (addK ks k) := ⟨addK_nodup h.1, fun q hq => by
  rcases addK_mem hq with h' | h'
  · exact h.2 q h'
  · rw [h']; exact hk⟩
theorem nodup_toNat : ∀ {ks : List Int}, ks.Nodup → (∀ k ∈ ks, 0 ≤ k) → (ks.map Int.toNat).Nodup
  | [], _, _ => List.nodup_nil
  | k :: l, h, h0 => by
    obtain ⟨h1, h2⟩ := List.nodup_cons.1 h
    refine List.nodup_cons.2 ⟨fun hm => ?_, nodup_toNat h2 fun q hq => h0 q (by simp [hq])⟩
    obtain ⟨q, hq, e⟩ := List.mem_map.1 hm
    have a := h0 q (by simp [hq]); have b := h0 k (by simp)
    exact h1 ((show q = k by omega) ▸ hq)
theorem okS.len (h : okS g ks) : ks.length ≤ 8 * g.vals.length := by
  have h1 : (ks.map Int.toNat).Nodup := nodup_toNat h.1 fun k hk => (h.2 k hk).1
  have h2 := List.Nodup.length_le_of_subset (l₂ := List.range (8 * g.vals.length)) h1 (fun c hc => by
    obtain ⟨k, hk, rfl⟩ := List.mem_map.1 hc
    have := h.2 k hk
    rw [List.mem_range]; omega)
  simpa using h2
theorem okS.le (hg : isGrid g = true) (h : okS g ks) : ks.length ≤ 8192 := by
  have := h.len; have := isGrid_cnt hg; omega
theorem key_rng (hg : isGrid g = true) (hc : isCel g x y z = true) (h0 : 0 ≤ x ∧ 0 ≤ y ∧ 0 ≤ z) (h : 0 ≤ p ∧ p < q ∧ q ≤ 7) : 0 ≤ keyE g x y z p q ∧ keyE g x y z p q < 8 * g.vals.length := by
  have := cel_all hg hc h0 p ⟨by omega, by omega⟩
  unfold keyE; omega
theorem cel_2 (hc : isCel g x y z = true) (h0 : 0 ≤ x ∧ 0 ≤ y ∧ 0 ≤ z) : 2 ≤ g.x ∧ 2 ≤ g.y ∧ 2 ≤ g.z := by have := isCel_iff.1 hc; omega
end
end Go.Proofs.Ytjopopmipdakkaa
