/- meshes of grids: the cells row by row; that they are right -/
import Derived.Test.YtjopopmipdakkaaMsw
namespace Go.Proofs.Ytjopopmipdakkaa
open Go Go.RowKit
def rowS (g : GridT) (y z : Int) (s : MshS) : Nat → MshS
  | 0 => s
  | x + 1 => celS g (x : Int) y z (rowS g y z s x) 6
def plaS (g : GridT) (z : Int) (s : MshS) : Nat → MshS
  | 0 => s
  | y + 1 => rowS g (y : Int) z (plaS g z s y) (g.x - 1).toNat
def volS (g : GridT) : Nat → MshS
  | 0 => ([], [])
  | z + 1 => plaS g (z : Int) (volS g z) (g.y - 1).toNat
def endS (g : GridT) : MshS := volS g (g.z - 1).toNat
def meshG (g : GridT) : MeshT := MeshT.mk ((endS g).1.map (plK g)) (endS g).2
section
variable {g : GridT}
theorem msh_cel {i : Nat} {x y z : Int} (hx : xI g i = x) (hy : yI g i = y) (hz : zI g i = z) (hc : isCel g x y z = true) : mshS g (i + 1) = celS g x y z (mshS g i) 6 := by
  subst hx hy hz
  show (if _ then _ else _) = _
  rw [if_pos hc]
theorem msh_skip {i : Nat} {x y z : Int} (hx : xI g i = x) (hy : yI g i = y) (hz : zI g i = z) (hc : isCel g x y z = false) : mshS g (i + 1) = mshS g i := by
  subst hx hy hz
  show (if _ then _ else _) = _
  rw [if_neg (by rw [hc]; decide)]
theorem isCel_no {x y z : Int} (h : ¬ (x + 1 < g.x ∧ y + 1 < g.y ∧ z + 1 < g.z)) : isCel g x y z = false := by
  cases hc : isCel g x y z with
  | false => rfl
  | true => exact absurd (isCel_iff.1 hc) h
theorem idx_n {X Y : Nat} (hX : g.x = X) (hY : g.y = Y) {x y z : Nat} (hx : x < X) (hy : y < Y) : xI g ((x + X * (y + Y * z) : Nat) : Int) = x ∧ yI g ((x + X * (y + Y * z) : Nat) : Int) = y ∧ zI g ((x + X * (y + Y * z) : Nat) : Int) = z := by
  have h := idx_back (g := g) (x := x) (y := y) (z := z) ⟨by omega, by omega⟩ ⟨by omega, by omega⟩
  have e : ((x + X * (y + Y * z) : Nat) : Int) = (x : Int) + g.x * ((y : Int) + g.y * (z : Int)) := by rw [hX, hY]; push_cast; rfl
  rw [e]; exact h
section
variable {X Y Z : Nat} (hX : g.x = X) (hY : g.y = Y) (hZ : g.z = Z)
include hX hY hZ
theorem row_in {y z : Nat} (hy : y + 1 < Y) (hz : z + 1 < Z) : ∀ x, x + 1 ≤ X → mshS g (x + X * (y + Y * z)) = rowS g y z (mshS g (X * (y + Y * z))) x
  | 0, _ => by rw [Nat.zero_add]; rfl
  | x + 1, h => by
    obtain ⟨h1, h2, h3⟩ := idx_n hX hY (x := x) (y := y) (z := z) (by omega) (by omega)
    rw [show x + 1 + X * (y + Y * z) = (x + X * (y + Y * z)) + 1 by omega, msh_cel h1 h2 h3 (isCel_iff.2 (by omega)), row_in hy hz x (by omega)]
    rfl
theorem row_out {y z : Nat} (hy : y < Y) (h : ¬ (y + 1 < Y ∧ z + 1 < Z)) : ∀ x, x ≤ X → mshS g (x + X * (y + Y * z)) = mshS g (X * (y + Y * z))
  | 0, _ => by rw [Nat.zero_add]
  | x + 1, hx => by
    obtain ⟨h1, h2, h3⟩ := idx_n hX hY (x := x) (y := y) (z := z) (by omega) hy
    rw [show x + 1 + X * (y + Y * z) = (x + X * (y + Y * z)) + 1 by omega, msh_skip h1 h2 h3 (isCel_no (by omega)), row_out hy h x (by omega)]
theorem row_all {y z : Nat} (h1 : 1 ≤ X) (hy : y + 1 < Y) (hz : z + 1 < Z) : mshS g (X * (y + 1 + Y * z)) = rowS g y z (mshS g (X * (y + Y * z))) (X - 1) := by
  obtain ⟨a, b, c⟩ := idx_n hX hY (x := X - 1) (y := y) (z := z) (by omega) (by omega)
  have e : X * (y + 1 + Y * z) = (X - 1 + X * (y + Y * z)) + 1 := by rw [show y + 1 + Y * z = (y + Y * z) + 1 by omega, Nat.mul_add, Nat.mul_one]; omega
  rw [e, msh_skip a b c (isCel_no (by omega)), row_in hX hY hZ hy hz _ (by omega)]
theorem row_non {y z : Nat} (hy : y < Y) (h : ¬ (y + 1 < Y ∧ z + 1 < Z)) : mshS g (X * (y + 1 + Y * z)) = mshS g (X * (y + Y * z)) := by
  rw [show y + 1 + Y * z = (y + Y * z) + 1 by omega, Nat.mul_add, Nat.mul_one, Nat.add_comm, row_out hX hY hZ hy h X (Nat.le_refl _)]
theorem pla_in {z : Nat} (h1 : 1 ≤ X) (hz : z + 1 < Z) : ∀ y, y + 1 ≤ Y → mshS g (X * (y + Y * z)) = plaS g z (mshS g (X * (Y * z))) y
  | 0, _ => by rw [Nat.zero_add]; rfl
  | y + 1, h => by
    rw [row_all hX hY hZ h1 (by omega) hz, pla_in h1 hz y (by omega)]
    show _ = rowS g (y : Int) z _ (g.x - 1).toNat
    rw [show (g.x - 1).toNat = X - 1 by omega]
theorem pla_out {z : Nat} (hz : ¬ z + 1 < Z) : ∀ y, y ≤ Y → mshS g (X * (y + Y * z)) = mshS g (X * (Y * z))
  | 0, _ => by rw [Nat.zero_add]
  | y + 1, h => by rw [row_non hX hY hZ (by omega) (by omega), pla_out hz y (by omega)]
theorem pla_all {z : Nat} (h1 : 1 ≤ X) (h2 : 1 ≤ Y) (hz : z + 1 < Z) : mshS g (X * (Y * (z + 1))) = plaS g z (mshS g (X * (Y * z))) (Y - 1) := by
  rw [show Y * (z + 1) = (Y - 1) + 1 + Y * z by rw [Nat.mul_add, Nat.mul_one]; omega, row_non hX hY hZ (by omega) (by omega), pla_in hX hY hZ h1 hz _ (by omega)]
theorem vol_in (h1 : 1 ≤ X) (h2 : 1 ≤ Y) : ∀ z, z + 1 ≤ Z → mshS g (X * (Y * z)) = volS g z
  | 0, _ => rfl
  | z + 1, h => by
    rw [pla_all hX hY hZ h1 h2 (by omega), vol_in h1 h2 z (by omega)]
    show _ = plaS g (z : Int) _ (g.y - 1).toNat
    rw [show (g.y - 1).toNat = Y - 1 by omega]
theorem vol_all (h1 : 1 ≤ X) (h2 : 1 ≤ Y) (h3 : 1 ≤ Z) : mshS g (X * (Y * Z)) = volS g (Z - 1) := by
  have e : Y * Z = Y + Y * (Z - 1) := by
    obtain ⟨n, rfl⟩ : ∃ n, Z = n + 1 := ⟨Z - 1, by omega⟩
    rw [Nat.mul_add, Nat.mul_one, Nat.add_sub_cancel, Nat.add_comm]
  rw [e, pla_out hX hY hZ (by omega) Y (Nat.le_refl _), vol_in hX hY hZ h1 h2 _ (by omega)]
end
theorem msh_end (h : isGrid g = true) : mshS g g.vals.length = endS g := by
  obtain ⟨hx, hy, hz, hl, _⟩ := isGrid_cnt h
  have e : g.vals.length = g.x.toNat * (g.y.toNat * g.z.toNat) := by
    apply Int.ofNat.inj
    show (g.vals.length : Int) = ((g.x.toNat * (g.y.toNat * g.z.toNat) : Nat) : Int)
    push_cast
    rw [hl, Int.toNat_of_nonneg (by omega), Int.toNat_of_nonneg (by omega), Int.toNat_of_nonneg (by omega), Int.mul_assoc]
  rw [e, vol_all (X := g.x.toNat) (Y := g.y.toNat) (Z := g.z.toNat) (by omega) (by omega) (by omega) (by omega) (by omega) (by omega)]
  unfold endS
  rw [show (g.z - 1).toNat = g.z.toNat - 1 by omega]
end
def tr3 (n : Nat) (t : List Int) : Prop := ∃ a b c, t = [a, b, c] ∧ a ≠ b ∧ b ≠ c ∧ c ≠ a ∧ (0 ≤ a ∧ a < n) ∧ (0 ≤ b ∧ b < n) ∧ (0 ≤ c ∧ c < n)
def okM (g : GridT) (S : MshS) : Prop := okS g S.1 ∧ ∀ t ∈ S.2, tr3 S.1.length t
theorem tr3.le {n m : Nat} {t : List Int} (h : tr3 n t) (hm : n ≤ m) : tr3 m t := by
  obtain ⟨a, b, c, e, h1, h2, h3, h4, h5, h6⟩ := h
  exact ⟨a, b, c, e, h1, h2, h3, by omega, by omega, by omega⟩
theorem addK_le (ks : List Int) (p : Int) : ks.length ≤ (addK ks p).length := by unfold addK; split <;> simp
theorem foldK_le : ∀ (K ks : List Int), ks.length ≤ (K.foldl addK ks).length
  | [], _ => Nat.le_refl _
  | p :: K, ks => by rw [List.foldl_cons]; exact Nat.le_trans (addK_le ks p) (foldK_le K _)
theorem nA_fin {ks K : List Int} {i : Nat} (hi : i < K.length) : nA ks K i = numK (ksA ks K K.length) (iAt K i) ∧ 0 ≤ nA ks K i := by
  have hK : K[i]? = some (iAt K i) := by unfold iAt; rw [List.getElem?_eq_getElem hi]; rfl
  exact ⟨nA_later hi hi, by rw [nA_self hK]; exact addK_pos⟩
theorem nA_ne {ks K : List Int} {i j : Nat} (hi : i < K.length) (hj : j < K.length) (h : iAt K i ≠ iAt K j) : nA ks K i ≠ nA ks K j := fun e => by
  have h1 := nA_fin (ks := ks) hi
  have h2 := nA_fin (ks := ks) hj
  exact h (numK_inj (by rw [← h1.1]; exact h1.2) (by rw [← h1.1, ← h2.1]; exact e))
theorem trA_ok {ks K : List Int} {tu : Bool} {j : Nat} (hj : 3 * j + 2 < K.length) (h1 : iAt K (3 * j) ≠ iAt K (3 * j + 1)) (h2 : iAt K (3 * j + 1) ≠ iAt K (3 * j + 2)) (h3 : iAt K (3 * j + 2) ≠ iAt K (3 * j)) : tr3 (ksA ks K K.length).length (trA ks K tu j) := by
  have a := nA_fin (ks := ks) (K := K) (i := 3 * j) (by omega)
  have b := nA_fin (ks := ks) (K := K) (i := 3 * j + 1) (by omega)
  have c := nA_fin (ks := ks) (K := K) (i := 3 * j + 2) (by omega)
  have n1 := nA_ne (ks := ks) (by omega) (by omega) h1
  have n2 := nA_ne (ks := ks) (by omega) (by omega) h2
  have n3 := nA_ne (ks := ks) (by omega) (by omega) h3
  have l := fun p => numK_lt (ksA ks K K.length) p
  have la := l (iAt K (3 * j)); have lb := l (iAt K (3 * j + 1)); have lc := l (iAt K (3 * j + 2))
  unfold trA
  split
  · exact ⟨_, _, _, rfl, fun e => n3 e.symm, fun e => n2 e.symm, fun e => n1 e.symm, by omega, by omega, by omega⟩
  · exact ⟨_, _, _, rfl, n1, n2, n3, by omega, by omega, by omega⟩
def neE (e f : Int × Int) : Prop := ¬ (e.1 = f.1 ∧ e.2 = f.2) ∧ ¬ (e.1 = f.2 ∧ e.2 = f.1)
instance (e f : Int × Int) : Decidable (neE e f) := by unfold neE; infer_instance
theorem edB_ne (b0 b1 b2 b3 : Bool) : ∀ j < 2, 3 * j + 2 < (edB [b0, b1, b2, b3]).length → neE (pAt (edB [b0, b1, b2, b3]) (3 * j)) (pAt (edB [b0, b1, b2, b3]) (3 * j + 1)) ∧ neE (pAt (edB [b0, b1, b2, b3]) (3 * j + 1)) (pAt (edB [b0, b1, b2, b3]) (3 * j + 2)) ∧ neE (pAt (edB [b0, b1, b2, b3]) (3 * j + 2)) (pAt (edB [b0, b1, b2, b3]) (3 * j)) := by
  cases b0 <;> cases b1 <;> cases b2 <;> cases b3 <;> decide
def mmB (q a b c d : Nat) : Bool := !(a != b && c != d && min (iAt (cnQ q) a) (iAt (cnQ q) b) == min (iAt (cnQ q) c) (iAt (cnQ q) d) && max (iAt (cnQ q) a) (iAt (cnQ q) b) == max (iAt (cnQ q) c) (iAt (cnQ q) d)) || ((a == c && b == d) || (a == d && b == c))
theorem mmB_all : ∀ q < 6, ∀ a < 4, ∀ b < 4, ∀ c < 4, ∀ d < 4, mmB q a b c d = true := by decide +kernel
theorem mm_ne {q a b c d : Nat} (hq : q < 6) (ha : a < 4) (hb : b < 4) (hc : c < 4) (hd : d < 4) (hab : a ≠ b) (hcd : c ≠ d) (h1 : min (iAt (cnQ q) a) (iAt (cnQ q) b) = min (iAt (cnQ q) c) (iAt (cnQ q) d)) (h2 : max (iAt (cnQ q) a) (iAt (cnQ q) b) = max (iAt (cnQ q) c) (iAt (cnQ q) d)) : (a = c ∧ b = d) ∨ (a = d ∧ b = c) := by
  have h := mmB_all q hq a ha b hb c hc d hd
  unfold mmB at h
  rw [beq_iff_eq.2 h1, beq_iff_eq.2 h2, bne_iff_ne.2 hab, bne_iff_ne.2 hcd] at h
  simpa using h
section
variable {g : GridT} {x y z : Int} {q : Nat} {S : MshS}
theorem keyE_inj (hg : isGrid g = true) (hc : isCel g x y z = true) (h0 : 0 ≤ x ∧ 0 ≤ y ∧ 0 ≤ z) {p r p' r' : Int} (h : 0 ≤ p ∧ p < r ∧ r ≤ 7) (h' : 0 ≤ p' ∧ p' < r' ∧ r' ≤ 7) (e : keyE g x y z p r = keyE g x y z p' r') : p = p' ∧ r = r' := by
  have a := (cel_all hg hc h0 p ⟨by omega, by omega⟩).2.2
  have b := (cel_all hg hc h0 p' ⟨by omega, by omega⟩).2.2
  have h22 := cel_2 hc h0
  unfold keyE at e
  have hp := offC_inj h22.1 h22.2.1 (p := p) (q := p') ⟨by omega, by omega⟩ ⟨by omega, by omega⟩ (by omega)
  subst hp
  exact ⟨rfl, by omega⟩
theorem keyQ_ne (hg : isGrid g = true) (hc : isCel g x y z = true) (h0 : 0 ≤ x ∧ 0 ≤ y ∧ 0 ≤ z) (hq : q < 6) {e f : Int × Int} (he : (0 ≤ e.1 ∧ e.1 ≤ 3) ∧ (0 ≤ e.2 ∧ e.2 ≤ 3) ∧ e.1 ≠ e.2) (hf : (0 ≤ f.1 ∧ f.1 ≤ 3) ∧ (0 ≤ f.2 ∧ f.2 ≤ 3) ∧ f.1 ≠ f.2) (hn : neE e f) : keyQ g x y z q e ≠ keyQ g x y z q f := fun h => by
  obtain ⟨a1, a2, a3, _⟩ := edge_ok g hq he.1 he.2.1 he.2.2
  obtain ⟨b1, b2, b3, _⟩ := edge_ok g hq hf.1 hf.2.1 hf.2.2
  obtain ⟨h1, h2⟩ := keyE_inj hg hc h0 ⟨a1, a2, a3⟩ ⟨b1, b2, b3⟩ h
  obtain ⟨n1, n2⟩ := hn
  rcases mm_ne (a := e.1.toNat) (b := e.2.toNat) (c := f.1.toNat) (d := f.2.toNat) hq (by omega) (by omega) (by omega) (by omega) (by omega) (by omega) h1 h2 with h | h
  · exact n1 (by omega)
  · exact n2 (by omega)
theorem quaS_okM (hg : isGrid g = true) (hc : isCel g x y z = true) (h0 : 0 ≤ x ∧ 0 ≤ y ∧ 0 ≤ z) (hq : q < 6) (h : okM g S) : okM g (quaS g x y z q S) := by
  refine ⟨(quaS_ok hg hc h0 hq h.1).1, fun t ht => ?_⟩
  show tr3 (ksA _ _ _).length t
  rcases List.mem_append.1 ht with ht | ht
  · exact (h.2 t ht).le (foldK_le _ _)
  obtain ⟨j, hj, rfl⟩ := List.mem_map.1 ht
  rw [List.mem_range] at hj
  obtain ⟨b0, b1, b2, b3, hin⟩ := inQ_4 (g := g) (x := x) (y := y) (z := z) hq
  have hE : edQu g x y z q = edB [b0, b1, b2, b3] := by unfold edQu; rw [hin]
  obtain ⟨o1, o2, o3⟩ := edQu_ok (g := g) (x := x) (y := y) (z := z) hq
  have hl : (keysQ g x y z q).length = (edQu g x y z q).length := keysQ_len
  have hjl : 3 * j + 2 < (edQu g x y z q).length := by omega
  have hne := edB_ne b0 b1 b2 b3 j (by omega) (by rw [← hE]; exact hjl)
  rw [← hE] at hne
  have ee : ∀ i, i < (edQu g x y z q).length → (edQu g x y z q)[i]? = some (pAt (edQu g x y z q) i) := fun i hi => by unfold pAt; rw [List.getElem?_eq_getElem hi]; rfl
  have ek : ∀ i, i < (edQu g x y z q).length → iAt (keysQ g x y z q) i = keyQ g x y z q (pAt (edQu g x y z q) i) := fun i hi => iAt_some (keys_at (ee i hi))
  have eo : ∀ i, i < (edQu g x y z q).length → _ := fun i hi => o3 _ (List.mem_of_getElem? (ee i hi))
  refine trA_ok (by omega) ?_ ?_ ?_
  · rw [ek _ (by omega), ek _ (by omega)]; exact keyQ_ne hg hc h0 hq (eo _ (by omega)) (eo _ (by omega)) hne.1
  · rw [ek _ (by omega), ek _ (by omega)]; exact keyQ_ne hg hc h0 hq (eo _ (by omega)) (eo _ (by omega)) hne.2.1
  · rw [ek _ (by omega), ek _ (by omega)]; exact keyQ_ne hg hc h0 hq (eo _ (by omega)) (eo _ (by omega)) hne.2.2
theorem celS_okM (hg : isGrid g = true) (hc : isCel g x y z = true) (h0 : 0 ≤ x ∧ 0 ≤ y ∧ 0 ≤ z) (h : okM g S) : ∀ n, n ≤ 6 → okM g (celS g x y z S n) ∧ (celS g x y z S n).2.length ≤ S.2.length + 2 * n
  | 0, _ => ⟨h, Nat.le_refl _⟩
  | n + 1, hn => by
    have ih := celS_okM hg hc h0 h n (by omega)
    refine ⟨quaS_okM hg hc h0 (q := n) (by omega) ih.1, ?_⟩
    have := (quaS_ok hg hc h0 (q := n) (by omega) ih.1.1).2
    show (quaS g x y z n _).2.length ≤ _
    omega
theorem rowS_ok {y z : Nat} (hg : isGrid g = true) (hy : (y : Int) + 1 < g.y) (hz : (z : Int) + 1 < g.z) (h : okM g S) : ∀ n : Nat, (n : Int) + 1 ≤ g.x → okM g (rowS g y z S n) ∧ (rowS g y z S n).2.length ≤ S.2.length + 12 * n
  | 0, _ => ⟨h, Nat.le_refl _⟩
  | n + 1, hn => by
    have ih := rowS_ok hg hy hz h n (by omega)
    have := celS_okM hg (isCel_iff.2 ⟨by omega, hy, hz⟩) (x := n) ⟨by omega, by omega, by omega⟩ ih.1 6 (by omega)
    exact ⟨this.1, by show (celS g n y z _ 6).2.length ≤ _; omega⟩
theorem plaS_ok {z : Nat} (hg : isGrid g = true) (hz : (z : Int) + 1 < g.z) (h : okM g S) : ∀ n : Nat, (n : Int) + 1 ≤ g.y → okM g (plaS g z S n) ∧ (plaS g z S n).2.length ≤ S.2.length + n * (12 * (g.x - 1).toNat)
  | 0, _ => ⟨h, by simp [plaS]⟩
  | n + 1, hn => by
    have ih := plaS_ok hg hz h n (by omega)
    have hx := (isGrid_cnt hg).1
    have := rowS_ok hg (y := n) (z := z) (by omega) hz ih.1 (g.x - 1).toNat (by omega)
    refine ⟨this.1, ?_⟩
    show (rowS g n z _ _).2.length ≤ _
    rw [Nat.add_mul, Nat.one_mul]; omega
theorem volS_ok (hg : isGrid g = true) : ∀ n : Nat, (n : Int) + 1 ≤ g.z → okM g (volS g n) ∧ (volS g n).2.length ≤ n * ((g.y - 1).toNat * (12 * (g.x - 1).toNat))
  | 0, _ => ⟨⟨okS.nil, fun t ht => (nomatch ht)⟩, by simp [volS]⟩
  | n + 1, hn => by
    have ih := volS_ok hg n (by omega)
    have hy := (isGrid_cnt hg).2.1
    have := plaS_ok hg (z := n) (by omega) ih.1 (g.y - 1).toNat (by omega)
    refine ⟨this.1, ?_⟩
    show (plaS g n _ _).2.length ≤ _
    rw [Nat.add_mul, Nat.one_mul]; omega
end
theorem idx_nn {g : GridT} (hg : isGrid g = true) (k : Nat) : 0 ≤ xI g k ∧ 0 ≤ yI g k ∧ 0 ≤ zI g k := by
  obtain ⟨hx, hy, hz, _, _⟩ := isGrid_cnt hg
  exact ⟨Int.emod_nonneg _ (by omega), Int.emod_nonneg _ (by omega), Int.ediv_nonneg (Int.ediv_nonneg (by omega) (by omega)) (by omega)⟩
theorem mshS_ok {g : GridT} (hg : isGrid g = true) : ∀ k : Nat, okS g (mshS g k).1 ∧ (mshS g k).2.length ≤ 12 * k
  | 0 => ⟨okS.nil, Nat.le_refl _⟩
  | k + 1 => by
    have ih := mshS_ok hg k
    cases hc : isCel g (xI g k) (yI g k) (zI g k) with
    | true =>
      rw [msh_cel rfl rfl rfl hc]
      have := celS_ok hg hc (idx_nn hg k) ih.1 6 (Nat.le_refl _)
      exact ⟨this.1, by have := this.2; omega⟩
    | false => rw [msh_skip rfl rfl rfl hc]; exact ⟨ih.1, by have := ih.2; omega⟩
theorem cells_most : ∀ x < 16, ∀ y < 16, ∀ z < 16, (x + 1) * (y + 1) * (z + 1) ≤ 1024 → z * (y * (12 * x)) ≤ 9000 := by decide +kernel
section
variable {g : GridT}
theorem endS_ok (hg : isGrid g = true) : okM g (endS g) ∧ (endS g).2.length ≤ 9000 := by
  obtain ⟨hx, hy, hz, hl, hm⟩ := isGrid_cnt hg
  have h := volS_ok hg (g.z - 1).toNat (by omega)
  refine ⟨h.1, Nat.le_trans h.2 ?_⟩
  have e : (((g.x - 1).toNat + 1) * ((g.y - 1).toNat + 1) * ((g.z - 1).toNat + 1) : Nat) ≤ 1024 := by
    have e1 : (((g.x - 1).toNat + 1 : Nat) : Int) = g.x := by omega
    have e2 : (((g.y - 1).toNat + 1 : Nat) : Int) = g.y := by omega
    have e3 : (((g.z - 1).toNat + 1 : Nat) : Int) = g.z := by omega
    apply Int.ofNat_le.1
    rw [Int.natCast_mul, Int.natCast_mul, e1, e2, e3, ← hl]; exact hm
  exact cells_most _ (by omega) _ (by omega) _ (by omega) e
theorem meshG_len (hg : isGrid g = true) : (meshG g).places.length = (endS g).1.length ∧ (endS g).1.length ≤ 8192 := by
  refine ⟨by simp [meshG], (endS_ok hg).1.1.le hg⟩
theorem tr3_ok {n : Nat} {t : List Int} (hn : n ≤ 8192) (h : tr3 n t) : triOk n t = true := by
  obtain ⟨a, b, c, rfl, h1, h2, h3, h4, h5, h6⟩ := h
  have hw : IntKind.i64.wrap ((n : Int) - 1) = (n : Int) - 1 := in_i64 (by omega) (by omega)
  rw [triOk_3 (x := a) (y := b) (z := c) rfl rfl rfl rfl, hw]
  simp only [icmp, Bool.and_eq_true, Bool.not_eq_true', inI_iff]
  exact ⟨⟨⟨beq_eq_false_iff_ne.2 h1, beq_eq_false_iff_ne.2 h2⟩, beq_eq_false_iff_ne.2 h3⟩, by omega⟩
theorem meshG_ok (hg : isGrid g = true) : meshOk (meshG g) = true := by
  have h := endS_ok hg
  have hl := meshG_len hg
  simp only [meshOk, icmp, Bool.and_eq_true, decide_eq_true_eq, Bool.not_eq_true', List.any_eq_false]
  refine ⟨⟨fun t ht => ?_, by omega⟩, by show ((endS g).2.length : Int) ≤ 9000; omega⟩
  rw [hl.1, tr3_ok hl.2 (h.1.2 t ht)]; decide
def mshM (g : GridT) : MeshT := if isGrid g then meshG g else MeshT.mk [] []
theorem mshM_f (h : isGrid g = false) : mshM g = MeshT.mk [] [] := by unfold mshM; rw [h]; rfl
theorem mshM_t (h : isGrid g = true) : mshM g = meshG g := by unfold mshM; rw [h]; rfl
theorem liSum_3 {xs : List (List Int)} (h : ∀ x ∈ xs, x.length = 3) : ∀ k, k ≤ xs.length → liSum xs k = k * 3
  | 0, _ => by simp [liSum]
  | k + 1, hk => by
    have hx : xs[k]? = some (xs[k]'hk) := List.getElem?_eq_getElem hk
    rw [liSum_succ hx, liSum_3 h k (by omega), h _ (List.getElem_mem hk), Nat.add_mul, Nat.one_mul]
theorem mshM_le (g : GridT) : (mshM g).places.length ≤ 8192 ∧ meSz (mshM g) ≤ 100000 := by
  unfold mshM
  split
  · rename_i h
    have hl := meshG_len h
    have ho := endS_ok h
    refine ⟨by omega, ?_⟩
    unfold meSz
    rw [hl.1, show (meshG g).tris = (endS g).2 from rfl, liSum_3 (fun x hx => by obtain ⟨a, b, c, e, _⟩ := ho.1.2 x hx; rw [e]; rfl) _ (Nat.le_refl _)]; omega
  · exact ⟨Nat.zero_le _, by decide⟩
end
end Go.Proofs.Ytjopopmipdakkaa
