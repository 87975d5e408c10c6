/- meshes in the making: the reference's quarters, edge by edge -/
import Derived.Test.YtjopopmipdakkaaMsx
namespace Go.Proofs.Ytjopopmipdakkaa
open Go Go.RowKit Go.Maps
theorem RowG.lit3 {w : World} {b : Nat} {x y z : Int} (h : Blk w b [Iv x, Iv y, Iv z]) : RowG RI 1 w b [x, y, z] := ⟨_, h, Nat.le_refl _, fun i v hi => by
  match i, hi with
  | 0, hi => cases hi; rfl
  | 1, hi => cases hi; rfl
  | 2, hi => cases hi; rfl
  | i + 3, hi => simp at hi⟩
def triP (ks K : List Int) (i : Nat) : List Int := (List.range (i % 3)).map fun j => nA ks K (3 * (i / 3) + j)
section
variable {ks K : List Int} {i : Nat} {p n a b c : Int} {ts : List (List Int)} {tu : Bool}
theorem triP_len : (triP ks K i).length = i % 3 := by simp [triP]
theorem nA_i (h : K[i]? = some p) : nA ks K i = numK (addK (ksA ks K i) p) p := nA_self h
theorem triP_put (h : K[i]? = some p) (h3 : i % 3 ≠ 2) : triP ks K i ++ [numK (addK (ksA ks K i) p) p] = triP ks K (i + 1) := by
  rw [← nA_i h]
  unfold triP
  have h1 : (i + 1) % 3 = i % 3 + 1 := by omega
  have h2 : (i + 1) / 3 = i / 3 := by omega
  rw [h1, h2, List.range_succ, List.map_append]
  show _ = _ ++ [nA ks K (3 * (i / 3) + i % 3)]
  rw [show 3 * (i / 3) + i % 3 = i by omega]
theorem triP_nil (h3 : i % 3 = 2) : [] = triP ks K (i + 1) := by
  unfold triP
  rw [show (i + 1) % 3 = 0 by omega]; rfl
theorem triP_3 (h : K[i]? = some p) (h3 : i % 3 = 2) : triP ks K i ++ [numK (addK (ksA ks K i) p) p] = [nA ks K (3 * (i / 3)), nA ks K (3 * (i / 3) + 1), nA ks K (3 * (i / 3) + 2)] := by
  rw [← nA_i h]
  unfold triP
  rw [h3, show i = 3 * (i / 3) + 2 by omega, show (3 * (i / 3) + 2) / 3 = i / 3 by omega]
  rfl
theorem quw_a (h : K[i]? = some p) (h3 : i % 3 ≠ 2) : ((addK (ksA ks K i) p, ts ++ trsA ks K tu (i / 3)) : MshS) = (ksA ks K (i + 1), ts ++ trsA ks K tu ((i + 1) / 3)) := by
  rw [ksA_succ h, show (i + 1) / 3 = i / 3 by omega]
theorem quw_n (h : K[i]? = some p) (h3 : i % 3 = 2) {tr : List Int} (ht : tr = trA ks K tu (i / 3)) : ((addK (ksA ks K i) p, (ts ++ trsA ks K tu (i / 3)) ++ [tr]) : MshS) = (ksA ks K (i + 1), ts ++ trsA ks K tu ((i + 1) / 3)) := by
  rw [ksA_succ h, show (i + 1) / 3 = i / 3 + 1 by omega, ht, List.append_assoc, trsA_succ]
theorem quw_f (h : K[i]? = some p) (h3 : i % 3 = 2) (ht : tu = false) : ((addK (ksA ks K i) p, (ts ++ trsA ks K tu (i / 3)) ++ [triP ks K i ++ [numK (addK (ksA ks K i) p) p]]) : MshS) = (ksA ks K (i + 1), ts ++ trsA ks K tu ((i + 1) / 3)) :=
  quw_n h h3 (by rw [triP_3 h h3, ht]; rfl)
theorem quw_t (h : K[i]? = some p) (h3 : i % 3 = 2) (ht : tu = true) (ha : (triP ks K i ++ [numK (addK (ksA ks K i) p) p])[0]? = some a) (hb : (triP ks K i ++ [numK (addK (ksA ks K i) p) p])[1]? = some b) (hc : (triP ks K i ++ [numK (addK (ksA ks K i) p) p])[2]? = some c) :
    ((addK (ksA ks K i) p, (ts ++ trsA ks K tu (i / 3)) ++ [[a, c, b]]) : MshS) = (ksA ks K (i + 1), ts ++ trsA ks K tu ((i + 1) / 3)) := by
  rw [triP_3 h h3] at ha hb hc
  cases ha; cases hb; cases hc
  exact quw_n h h3 (by rw [ht]; rfl)
end
theorem cnQ_rng {q k : Nat} {c : Int} (h : (cnQ q)[k]? = some c) : 0 ≤ c ∧ c ≤ 7 := by
  have hm := List.mem_of_getElem? h
  unfold cnQ at hm
  (repeat' split at hm) <;> simp at hm <;> omega
theorem flE_len (E : List (Int × Int)) : (flE E).length = E.length := by simp [flE]
section
variable {g : GridT} {x y z : Int} {q i : Nat} {S : MshS} {Bs : List Bool} {t : List Int} {a b p r : Int}
theorem inQ_put {k : Nat} {c : Int} {e : Nat} (h : (cnQ q)[k]? = some c) (he : g.vals[(crnI g x y z c).toNat]? = some e) : (inQ g x y z q).take k ++ [negF e] = (inQ g x y z q).take (k + 1) := by
  rw [List.take_add_one]
  have : (inQ g x y z q)[k]? = some (negF e) := by unfold inQ; rw [List.getElem?_map, h, Option.map_some, negAt_of he]
  rw [this]; rfl
theorem quw_all (hq : q < 6) (hB : Bs = inQ g x y z q) : (flE (edB Bs)).length ≤ 6 ∧ (flE (edB Bs)).length = (keysQ g x y z q).length := by
  subst hB
  have h := edQu_ok (g := g) (x := x) (y := y) (z := z) hq
  rw [flE_len, keysQ_len]
  exact ⟨by show (edQu g x y z q).length ≤ 6; omega, rfl⟩
theorem flE_at {E : List (Int × Int)} (h : (flE E)[i]? = some t) : ∃ e, E[i]? = some e ∧ t = [e.1, e.2] := by
  unfold flE at h
  rw [List.getElem?_map] at h
  cases he : E[i]? with
  | none => rw [he] at h; cases h
  | some e => rw [he] at h; exact ⟨e, rfl, (Option.some.inj h).symm⟩
theorem quw_el (hq : q < 6) (hB : Bs = inQ g x y z q) (h : (flE (edB Bs))[i]? = some t) : t.length = 2 ∧ ∀ (j : Nat) (a : Int), t[j]? = some a → 0 ≤ a ∧ a ≤ 3 := by
  subst hB
  obtain ⟨e, he, rfl⟩ := flE_at h
  have h3 := (edQu_ok (g := g) (x := x) (y := y) (z := z) hq).2.2 e (List.mem_of_getElem? he)
  refine ⟨rfl, fun j a ha => ?_⟩
  match j, ha with
  | 0, ha => cases ha; exact h3.1
  | 1, ha => cases ha; exact h3.2.1
  | j + 2, ha => simp at ha
theorem quw_edge {M : Int} (hg : isGrid g = true) (hc : isCel g x y z = true) (h0 : 0 ≤ x ∧ 0 ≤ y ∧ 0 ≤ z) (hq : q < 6) (hB : Bs = inQ g x y z q) (h : (flE (edB Bs))[i]? = some t) (ha : t[0]? = some a) (hb : t[1]? = some b) (hp : (cnQ q)[a.toNat]? = some p) (hr : (cnQ q)[b.toNat]? = some r) (hM : M = max p r) :
    (0 ≤ min p r ∧ min p r < M ∧ M ≤ 7 ∧ offC g (min p r) + offC g (M - min p r) = offC g M) ∧ (keysQ g x y z q)[i]? = some (keyE g x y z (min p r) M) ∧ (0 ≤ keyE g x y z (min p r) M ∧ keyE g x y z (min p r) M < 8 * g.vals.length) := by
  subst hB hM
  obtain ⟨e, he, rfl⟩ := flE_at h
  cases ha; cases hb
  obtain ⟨h1, h2, h3⟩ := (edQu_ok (g := g) (x := x) (y := y) (z := z) hq).2.2 e (List.mem_of_getElem? he)
  have hE := edge_ok g hq h1 h2 h3
  rw [iAt_some hp, iAt_some hr] at hE
  have hk := keys_at he
  unfold keyQ at hk
  rw [iAt_some hp, iAt_some hr] at hk
  exact ⟨hE, hk, keysQ_rng hg hc h0 hq _ (List.mem_of_getElem? hk)⟩
theorem quw_start {K : List Int} {tu : Bool} : S = (ksA S.1 K 0, S.2 ++ trsA S.1 K tu (0 / 3)) := by simp [ksA, trsA]
theorem quw_end (h : i = (keysQ g x y z q).length) : ((ksA S.1 (keysQ g x y z q) i, S.2 ++ trsA S.1 (keysQ g x y z q) (tuQ q) (i / 3)) : MshS) = quaS g x y z q S := by subst h; rfl
end
theorem WL.shape {k B : Nat} {w : World} {L : List Nat} {v : Value} {n : Nat} (h : WL k B w L v n) : ∃ p c, v = .slice p n c := WL.shape' h
theorem OwnN.ows_nil {α : Type} {R : Rel α} {k C g0 B : Nat} {e : TypeId} {w : World} {v : Value} (h : OwnN R k e C g0 B w v []) : OwS RVl 1 e w v [] := by
  obtain ⟨vs, _, ho, hl, _⟩ := h
  obtain rfl : vs = [] := List.eq_nil_of_length_eq_zero hl
  exact ho.ows
theorem knK_nil (g : GridT) : knK g [] = List.replicate (8 * g.vals.length) (-1) := by
  apply List.ext_getElem?
  intro i
  unfold knK
  rw [List.getElem?_map, List.getElem?_replicate]
  rcases Nat.lt_or_ge i (8 * g.vals.length) with h | h
  · rw [List.getElem?_range h, if_pos h]; rfl
  · rw [List.getElem?_eq_none (by simpa using h), if_neg (by omega)]; rfl
theorem grid_pos {g : GridT} (hg : isGrid g = true) : 1 ≤ g.vals.length := by
  obtain ⟨hx, hy, hz, hl, _⟩ := isGrid_cnt hg
  have := Int.mul_pos (Int.mul_pos (show 0 < g.x by omega) (show 0 < g.y by omega)) (show 0 < g.z by omega)
  omega
theorem cur_ok {g : GridT} (hg : isGrid g = true) {x y z q : Nat} (hx : (x : Int) + 1 < g.x) (hy : (y : Int) + 1 < g.y) (hz : (z : Int) + 1 < g.z) (hq : q ≤ 6) :
    okS g (celS g x y z (rowS g y z (plaS g z (volS g z) y) x) q).1 ∧ (celS g x y z (rowS g y z (plaS g z (volS g z) y) x) q).2.length ≤ 50000 := by
  obtain ⟨bx, byy, bz, _, _⟩ := isGrid_cnt hg
  have h1 := volS_ok hg z (by omega)
  have h2 := plaS_ok (z := z) hg (by omega) h1.1 y (by omega)
  have h3 := rowS_ok (y := y) (z := z) hg (by omega) (by omega) h2.1 x (by omega)
  have h4 := celS_okM (x := x) (y := y) (z := z) hg (isCel_iff.2 ⟨hx, hy, hz⟩) ⟨by omega, by omega, by omega⟩ h3.1 q hq
  refine ⟨h4.1.1, ?_⟩
  have e1 : (g.y - 1).toNat * (12 * (g.x - 1).toNat) ≤ 15 * 180 := Nat.mul_le_mul (by omega) (by omega)
  have e2 : z * ((g.y - 1).toNat * (12 * (g.x - 1).toNat)) ≤ 14 * (15 * 180) := Nat.mul_le_mul (by omega) e1
  have e3 : y * (12 * (g.x - 1).toNat) ≤ 14 * 180 := Nat.mul_le_mul (by omega) (by omega)
  have := h1.2; have := h2.2; have := h3.2; have := h4.2
  omega
end Go.Proofs.Ytjopopmipdakkaa
