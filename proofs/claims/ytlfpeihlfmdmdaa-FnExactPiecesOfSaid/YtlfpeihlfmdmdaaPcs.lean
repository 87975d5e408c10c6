/- pieces of meshes: two tellings of what stands beside a place, alike -/
import Derived.Test.YtlfpeihlfmdmdaaGph
import Derived.Test.YtlfpeihlfmdmdaaNex
namespace Go.Proofs.Ytlfpeihlfmdmdaa
open Go Go.RowKit

section
variable {P : Program} {a : Act} {w : World} {dst : Option Tmp} {ty : TypeId} {pos : String} {af : Array Edge} {g : Option (Nat × Bool)}
/-- append onto an empty literal: a new row, or the literal itself -/
theorem does_appendE {α : Type} {R : Rel α} {k bo N m c : Nat} {e : TypeId} {z : Value} {ys : List α} {p : Option Addr} {t : TypeId} {x y : Operand} (ht : P.underlying t = some (.slice e))
    (hi : ∃ i, P.info? e = some i ∧ i.zero = some z ∧ i.size = k ∧ i.bytes ≤ 1000) (hz : z.cells.size = k) (hk : 0 < k) (hone : ∀ w x cs, R w x cs → cs.all Value.oneCell' = true) (hx : a.eval x = .slice (some ⟨bo, 0, none⟩) 0 0) (hy : a.eval y = .slice p m c)
    (ho : Own R k e bo 0 w (.slice (some ⟨bo, 0, none⟩) 0 0) []) (hb : N ≤ bo) (hN : N ≤ w.heap.size) (hR : Flat R) (hs : Sl R k w (.slice p m c) ys) (hlen : m ≤ 100000000000) :
    does P ⟨dst, .call { callee := .builtin .append, args := #[x, y], argTypes := #[t, t] }, ty, pos, af, g⟩ a w (fun v' w' => Ext w w' ∧ ∃ (q : Value) (g : Nat), v' = q ∧ N ≤ g ∧ Own R k e g N w' q ys) := by
  have hl : ys.length = m := hs.cap.1
  rcases Nat.eq_zero_or_pos ys.length with h0 | h0
  · obtain rfl : m = 0 := by omega
    obtain rfl : ys = [] := List.eq_nil_of_length_eq_zero h0
    obtain ⟨i, hi, _, hsz, _⟩ := hi
    obtain ⟨rows, hr, _⟩ := id ho
    exact (does_append0 ht ⟨i, hi, hsz⟩ hx hy hr).mono fun v' w' ⟨h1, h2⟩ => by subst h1 h2; exact ⟨Ext.refl _, _, bo, rfl, hb, ho.reB⟩
  · obtain ⟨b, off, rfl⟩ := hs.ptr (by omega)
    obtain ⟨cs, hcl, hnews, h1, hys⟩ := cellG hone hs
    obtain ⟨i, hi, hz', hsz, hby⟩ := hi
    have hbytes : (0 + m) * i.bytes ≤ 140737488355328 := Nat.le_trans (Nat.mul_le_mul (show 0 + m ≤ 100000000000 by omega) hby) (by decide)
    subst hsz
    have hr := run_append_grow (P := P) w t ty e i z ht hi hz' ⟨bo, 0, none⟩ 0 0 [] (by simp) (fun j v h => by simp at h) ⟨b, off, none⟩ m c cs hcl hnews (by omega) (by omega) (growslice_fits (by omega) hbytes)
    simp only [Nat.zero_add, Array.empty_append] at hr
    have hge := grownCap_ge w m 0 e
    have hcm : grownCap w m 0 e ≤ maxLen := grownCap_le_maxLen w m 0 e (by simp only [maxLen]; omega)
    refine (does_run (P := P) (a := a) (u := .slice (some ⟨w.heap.size, 0, none⟩) m (grownCap w m 0 e)) (w' := w.drew.alloc (.cells (cs.toArray ++ Builtin.zeroCells z.cells (grownCap w m 0 e - m)) e)) ?_).mono fun v1 w1 ⟨h3, h4⟩ => ?_
    · unfold execOp
      simp only [resolve, invoke, builtin, Sem.run_bind, Sem.run_pure, Result.andThen_ok, List.map_toArray, List.map_cons, List.map_nil, hx, hy, hr]
    · subst h3 h4
      refine ⟨(Ext.draw w).gr (Ext.alloc w.drew _), _, w.heap.size, rfl, hN, cs, ?_, fun g hg => .inl (by simp [Value.ownBlock] at hg; exact hg.symm), fun j u hj => hR w _ _ _ (hys j u hj)⟩
      rw [hl]
      refine ⟨hcl, .inr ⟨w.heap.size, _, _, rfl, Nat.zero_le _, heap_alloc_new w.drew _, hge, hcm, ?_, ?_⟩⟩
      · simp only [Array.size_append, List.size_toArray, size_zeroCells, hz, hcl, ← Nat.add_mul]
        congr 1; omega
      · simp only [Array.toList_append]
        rw [← hcl]; exact List.take_left
end
def vAtL (vs : List Value) (y : Int) : Value := (vs[y.toNat]?).getD undef
theorem sameX_selfI (l : List Int) : sameX eqI l l = true := sameX_self (fun x => by simp [eqI, icmp]) l
theorem drop_at {l : List Int} {i : Nat} {x : Int} (h : l[i]? = some x) : l.drop i = x :: l.drop (i + 1) := by
  obtain ⟨hi, rfl⟩ := List.getElem?_eq_some_iff.1 h
  exact List.drop_eq_getElem_cons hi
/-- the list at a place -/
def atL (xss : List (List Int)) (i : Int) : List Int := (xss[i.toNat]?).getD []
/-- .. which grows -/
def insA (xss : List (List Int)) (i : Int) (x : List Int) : List (List Int) := xss.set i.toNat ((xss[i.toNat]?).getD [] ++ x)
def tot : List (List Int) → Nat
  | [] => 0
  | x :: l => x.length + tot l
section
variable {xss : List (List Int)} {i j l : Int} {x : List Int}
theorem insA_len : (insA xss i x).length = xss.length := by simp [insA]
theorem insA_mem (hi : i.toNat < xss.length) : l ∈ atL (insA xss i x) j ↔ l ∈ atL xss j ∨ (j.toNat = i.toNat ∧ l ∈ x) := by
  unfold atL insA
  rw [List.getElem?_set]
  by_cases h : i.toNat = j.toNat
  · rw [if_pos h, if_pos hi, h, Option.getD_some, List.mem_append]
    exact ⟨fun h1 => h1.imp id fun h2 => ⟨rfl, h2⟩, fun h1 => h1.imp id fun h2 => h2.2⟩
  · rw [if_neg h]
    exact ⟨.inl, fun h1 => h1.elim id fun h2 => absurd h2.1.symm h⟩
theorem tot_set : ∀ {xss : List (List Int)} {n : Nat} {y : List Int}, n < xss.length → tot (xss.set n ((xss[n]?).getD [] ++ y)) = tot xss + y.length
  | a :: l, 0, y, _ => by simp [tot]; omega
  | a :: l, n + 1, y, h => by
    have := tot_set (xss := l) (n := n) (y := y) (by simpa using h)
    simp only [List.set_cons_succ, List.getElem?_cons_succ, tot] at this ⊢; omega
theorem insA_tot (hi : i.toNat < xss.length) : tot (insA xss i x) = tot xss + x.length := tot_set hi
theorem tot_at : ∀ {xss : List (List Int)} {n : Nat} {y : List Int}, xss[n]? = some y → y.length ≤ tot xss
  | a :: l, 0, y, h => by cases h; simp [tot]
  | a :: l, n + 1, y, h => by have := tot_at (xss := l) (n := n) (y := y) (by simpa using h); simp only [tot]; omega
theorem tot_atL : (atL xss i).length ≤ tot xss := by
  unfold atL
  cases h : xss[i.toNat]? with
  | none => simp
  | some y => exact tot_at h
theorem tot_take : ∀ {xss : List (List Int)} {n : Nat} {y : List Int}, xss[n]? = some y → tot (xss.take (n + 1)) = tot (xss.take n) + y.length
  | a :: l, 0, y, h => by cases h; simp [tot]
  | a :: l, n + 1, y, h => by
    have := tot_take (xss := l) (n := n) (y := y) (by simpa using h)
    simp only [List.take_succ_cons, tot] at this ⊢; omega
theorem tot_take_le : ∀ (xss : List (List Int)) (n : Nat), tot (xss.take n) ≤ tot xss
  | [], n => by simp
  | a :: l, 0 => by simp [tot]
  | a :: l, n + 1 => by have := tot_take_le l n; simp only [List.take_succ_cons, tot]; omega
theorem tot_zero : ∀ n : Nat, tot (List.replicate n []) = 0
  | 0 => rfl
  | n + 1 => by rw [List.replicate_succ]; simp only [tot, tot_zero n, List.length_nil]
theorem atL_zero (n : Nat) : atL (List.replicate n []) i = [] := by
  unfold atL
  rw [List.getElem?_replicate]
  split <;> rfl
theorem atL_some {n : Nat} (h : xss[n]? = some x) : atL xss n = x := by
  unfold atL; rw [show ((n : Int)).toNat = n by omega, h]; rfl
theorem atL_some' (h : xss[i.toNat]? = some x) : atL xss i = x := by
  unfold atL; rw [h]; rfl
theorem Sl.valat {w : World} {v : Value} {L : List (List Int)} {vs : List Value} {y : Int} (h : Sl (RS RI 1) 1 w v L) (h2 : Sl RVl 1 w v vs) (hd : 0 ≤ y ∧ y < vs.length) : Sl RI 1 w (vAtL vs y) (atL L y) := by
  obtain ⟨_, p, c, rfl, hall⟩ := h
  obtain ⟨_, p2, c2, he, hal2⟩ := h2
  simp only [Value.slice.injEq] at he
  obtain ⟨rfl, hlen, rfl⟩ := he
  have h1 : L[y.toNat]? = some (L[y.toNat]'(by omega)) := List.getElem?_eq_getElem _
  have h2 : vs[y.toNat]? = some (vs[y.toNat]'(by omega)) := List.getElem?_eq_getElem _
  obtain ⟨b, off, cs, hp, hc, ⟨u, rfl, hu⟩, _⟩ := hall _ _ h1
  obtain ⟨b2, off2, cs2, hp2, hc2, hr2, _⟩ := hal2 _ _ h2
  have hr2 : cs2 = [_] := hr2
  subst hr2
  rw [hp] at hp2
  simp only [Option.some.injEq, Addr.mk.injEq] at hp2
  obtain ⟨rfl, rfl, _⟩ := hp2
  have a1 := hc 0 u rfl
  have a2 := hc2 0 _ rfl
  rw [a1] at a2
  unfold vAtL atL
  rw [h1, h2, Option.getD_some, Option.getD_some, ← Option.some.inj a2]; exact hu
theorem atL_nat : atL xss (i.toNat : Int) = atL xss i := by unfold atL; rw [show ((i.toNat : Nat) : Int).toNat = i.toNat by omega]
end
/-! ### the program: all of a triangle stands beside each of its places -/
def besQ (t : List Int) (xss : List (List Int)) : Nat → List (List Int)
  | 0 => xss
  | q + 1 => insA (besQ t xss q) (iAt t q) t
def besTo (m : MeshT) : Nat → List (List Int)
  | 0 => List.replicate m.places.length []
  | k + 1 => match m.tris[k]? with | some t => besQ t (besTo m k) 3 | none => besTo m k
def besL (m : MeshT) : List (List Int) := besTo m m.tris.length
theorem besQ_len (t : List Int) (xss : List (List Int)) : ∀ q, (besQ t xss q).length = xss.length
  | 0 => rfl
  | q + 1 => by unfold besQ; rw [insA_len, besQ_len t xss q]
theorem besTo_len (m : MeshT) : ∀ k, (besTo m k).length = m.places.length
  | 0 => by simp [besTo]
  | k + 1 => by unfold besTo; split <;> simp [besQ_len, besTo_len m k]
theorem besL_len (m : MeshT) : (besL m).length = m.places.length := besTo_len m _
theorem besQ_step {t x : List Int} {xss : List (List Int)} {q : Nat} {i : Int} (hi : t[q]? = some i) (hx : (besQ t xss q)[i.toNat]? = some x) : (besQ t xss q).set i.toNat (x ++ t) = besQ t xss (q + 1) := by
  have e1 : iAt t q = i := by simp [iAt, hi]
  simp only [besQ, insA, e1, hx, Option.getD_some]
theorem besTo_step {m : MeshT} {k q : Nat} {t : List Int} (h : m.tris[k]? = some t) (hq : q = 3) : besQ t (besTo m k) q = besTo m (k + 1) := by subst hq; simp [besTo, h]
theorem iAt_mem {t : List Int} {q : Nat} (h : q < t.length) : iAt t q ∈ t := by
  unfold iAt; rw [List.getElem?_eq_getElem h]; exact List.getElem_mem h
theorem iAt_take {t : List Int} {q : Nat} (h : q < t.length) : t.take (q + 1) = t.take q ++ [iAt t q] := by
  unfold iAt; rw [List.take_add_one, List.getElem?_eq_getElem h]; rfl
section
variable {m : MeshT}
theorem besQ_mem {t : List Int} {xss : List (List Int)} {j l : Int} (hb : ∀ i ∈ t, 0 ≤ i ∧ i < xss.length) (hj : 0 ≤ j) : ∀ q, q ≤ t.length → (l ∈ atL (besQ t xss q) j ↔ l ∈ atL xss j ∨ (j ∈ t.take q ∧ l ∈ t))
  | 0, _ => by simp [besQ]
  | q + 1, hq => by
    have h1 := hb _ (iAt_mem (t := t) (q := q) (by omega))
    unfold besQ
    rw [insA_mem (by rw [besQ_len]; omega), besQ_mem hb hj q (by omega), iAt_take (by omega), List.mem_append, List.mem_singleton]
    constructor
    · rintro ((h | h) | h)
      · exact .inl h
      · exact .inr ⟨.inl h.1, h.2⟩
      · exact .inr ⟨.inr (by omega), h.2⟩
    · rintro (h | ⟨h | h, h2⟩)
      · exact .inl (.inl h)
      · exact .inl (.inr ⟨h, h2⟩)
      · exact .inr ⟨by rw [h], h2⟩
theorem besQ_tot {t : List Int} {xss : List (List Int)} (hb : ∀ i ∈ t, 0 ≤ i ∧ i < xss.length) : ∀ q, q ≤ t.length → tot (besQ t xss q) = tot xss + q * t.length
  | 0, _ => by simp [besQ]
  | q + 1, hq => by
    have h1 := hb _ (iAt_mem (t := t) (q := q) (by omega))
    unfold besQ
    rw [insA_tot (by rw [besQ_len]; omega), besQ_tot hb q (by omega), Nat.succ_mul]; omega
theorem besTo_mem (hm : meshOk m = true) {j l : Int} (hj : 0 ≤ j) : ∀ k, k ≤ m.tris.length → (l ∈ atL (besTo m k) j ↔ ∃ t ∈ m.tris.take k, j ∈ t ∧ l ∈ t)
  | 0, _ => by simp [besTo, atL_zero]
  | k + 1, hk => by
    have ht : m.tris[k]? = some (m.tris[k]'hk) := List.getElem?_eq_getElem hk
    have htr := mesh_tri hm ht
    rw [← besTo_step ht rfl, besQ_mem (fun i hi => by rw [besTo_len]; exact htr.2 i hi) hj 3 (by omega), besTo_mem hm hj k (by omega), List.take_of_length_le (l := m.tris[k]'hk) (by omega), List.take_add_one, ht]
    simp only [Option.toList_some, List.mem_append, List.mem_singleton]
    constructor
    · rintro (⟨t, h1, h2⟩ | h)
      · exact ⟨t, .inl h1, h2⟩
      · exact ⟨_, .inr rfl, h⟩
    · rintro ⟨t, h1 | rfl, h2⟩
      · exact .inl ⟨t, h1, h2⟩
      · exact .inr h2
theorem besTo_tot (hm : meshOk m = true) : ∀ k, k ≤ m.tris.length → tot (besTo m k) = 9 * k
  | 0, _ => by simp [besTo, tot_zero]
  | k + 1, hk => by
    have ht : m.tris[k]? = some (m.tris[k]'hk) := List.getElem?_eq_getElem hk
    have htr := mesh_tri hm ht
    rw [← besTo_step ht rfl, besQ_tot (fun i hi => by rw [besTo_len]; exact htr.2 i hi) 3 (by omega), besTo_tot hm k (by omega)]; omega
theorem besQ_most (hm : meshOk m = true) {k q n : Nat} {t x : List Int} (ht : m.tris[k]? = some t) (hq : q ≤ 3) (h : (besQ t (besTo m k) q)[n]? = some x) : x.length ≤ 90000 := by
  have hk := (List.getElem?_eq_some_iff.1 ht).1
  have htr := mesh_tri hm ht
  have h1 := tot_at h
  rw [besQ_tot (fun i hi => by rw [besTo_len]; exact htr.2 i hi) q (by omega), besTo_tot hm k (by omega)] at h1
  have := mesh_len hm
  have : q * t.length ≤ 3 * t.length := Nat.mul_le_mul_right _ hq
  omega
theorem besL_most (hm : meshOk m = true) (y : Int) : (atL (besL m) y).length ≤ 90000 := by
  have h1 := tot_atL (xss := besL m) (i := y)
  have h2 : tot (besL m) = 9 * m.tris.length := besTo_tot hm _ (Nat.le_refl _)
  have := mesh_len hm
  omega
theorem besL_mem (hm : meshOk m = true) {j l : Int} (hj : 0 ≤ j) : l ∈ atL (besL m) j ↔ ∃ t ∈ m.tris, j ∈ t ∧ l ∈ t := by
  have h := besTo_mem (l := l) hm hj _ (Nat.le_refl _)
  rw [List.take_of_length_le (Nat.le_refl _)] at h; exact h
/-! ### the reference: the next places, and those from which edges come -/
theorem nxQ_mem {t : List Int} {xss : List (List Int)} {j l : Int} (ht : t.length = 3) (hb : ∀ i ∈ t, 0 ≤ i ∧ i < xss.length) (hj : 0 ≤ j) : ∀ q, q ≤ 3 → (l ∈ atL (nxQ t xss q) j ↔ l ∈ atL xss j ∨ ∃ p, p < q ∧ iAt t p = j ∧ iAt t ((p + 1) % 3) = l)
  | 0, _ => by simp [nxQ]
  | q + 1, hq => by
    have h1 := hb _ (iAt_mem (t := t) (q := q) (by omega))
    show l ∈ atL (insA (nxQ t xss q) (iAt t q) [iAt t ((q + 1) % 3)]) j ↔ _
    rw [insA_mem (by rw [nxQ_len]; omega), nxQ_mem ht hb hj q (by omega), List.mem_singleton]
    constructor
    · rintro ((h | ⟨p, h⟩) | h)
      · exact .inl h
      · exact .inr ⟨p, by omega, h.2⟩
      · exact .inr ⟨q, by omega, by omega, h.2.symm⟩
    · rintro (h | ⟨p, h, h2⟩)
      · exact .inl (.inl h)
      · rcases Nat.lt_or_ge p q with h3 | h3
        · exact .inl (.inr ⟨p, h3, h2⟩)
        · obtain rfl : p = q := by omega
          exact .inr ⟨by rw [h2.1], h2.2.symm⟩
theorem nxQ_tot {t : List Int} {xss : List (List Int)} (ht : t.length = 3) (hb : ∀ i ∈ t, 0 ≤ i ∧ i < xss.length) : ∀ q, q ≤ 3 → tot (nxQ t xss q) = tot xss + q
  | 0, _ => rfl
  | q + 1, hq => by
    have h1 := hb _ (iAt_mem (t := t) (q := q) (by omega))
    show tot (insA (nxQ t xss q) (iAt t q) [iAt t ((q + 1) % 3)]) = _
    rw [insA_tot (by rw [nxQ_len]; omega), nxQ_tot ht hb q (by omega)]; rfl
theorem nextTo_mem (hm : meshOk m = true) {j l : Int} (hj : 0 ≤ j) : ∀ k, k ≤ m.tris.length → (l ∈ atL (nextTo m k) j ↔ ∃ t ∈ m.tris.take k, ∃ p, p < 3 ∧ iAt t p = j ∧ iAt t ((p + 1) % 3) = l)
  | 0, _ => by simp [nextTo, atL_zero]
  | k + 1, hk => by
    have ht : m.tris[k]? = some (m.tris[k]'hk) := List.getElem?_eq_getElem hk
    have htr := mesh_tri hm ht
    rw [← nextTo_step ht rfl, nxQ_mem htr.1 (fun i hi => by rw [nextTo_len]; exact htr.2 i hi) hj 3 (by omega), nextTo_mem hm hj k (by omega), List.take_add_one, ht]
    simp only [Option.toList_some, List.mem_append, List.mem_singleton]
    constructor
    · rintro (⟨t, h1, h2⟩ | h)
      · exact ⟨t, .inl h1, h2⟩
      · exact ⟨_, .inr rfl, h⟩
    · rintro ⟨t, h1 | rfl, h2⟩
      · exact .inl ⟨t, h1, h2⟩
      · exact .inr h2
theorem nextTo_tot (hm : meshOk m = true) : ∀ k, k ≤ m.tris.length → tot (nextTo m k) = 3 * k
  | 0, _ => by simp [nextTo, tot_zero]
  | k + 1, hk => by
    have ht : m.tris[k]? = some (m.tris[k]'hk) := List.getElem?_eq_getElem hk
    have htr := mesh_tri hm ht
    rw [← nextTo_step ht rfl, nxQ_tot htr.1 (fun i hi => by rw [nextTo_len]; exact htr.2 i hi) 3 (by omega), nextTo_tot hm k (by omega)]; omega
theorem nextL_mem (hm : meshOk m = true) {j l : Int} (hj : 0 ≤ j) : l ∈ atL (nextL m) j ↔ ∃ t ∈ m.tris, ∃ p, p < 3 ∧ iAt t p = j ∧ iAt t ((p + 1) % 3) = l := by
  have h := nextTo_mem (l := l) hm hj _ (Nat.le_refl _)
  rw [List.take_of_length_le (Nat.le_refl _)] at h; exact h
theorem nextL_tot (hm : meshOk m = true) : tot (nextL m) ≤ 27000 := by
  have h1 : tot (nextL m) = 3 * m.tris.length := nextTo_tot hm _ (Nat.le_refl _)
  have := mesh_len hm
  omega
theorem nextL_rng (hm : meshOk m = true) {j l : Int} (hj : 0 ≤ j) (h : l ∈ atL (nextL m) j) : 0 ≤ l ∧ l < m.places.length := by
  obtain ⟨t, ht, p, hp, _, hl⟩ := (nextL_mem hm hj).1 h
  obtain ⟨k, hk⟩ := List.getElem?_of_mem ht
  have htr := mesh_tri hm hk
  exact htr.2 l (hl ▸ iAt_mem (by rw [htr.1]; omega))
def bkQ (i : Nat) (ns : List Int) (xss : List (List Int)) : Nat → List (List Int)
  | 0 => xss
  | q + 1 => insA (bkQ i ns xss q) (iAt ns q) [(i : Int)]
def bkTo (m : MeshT) : Nat → List (List Int)
  | 0 => List.replicate m.places.length []
  | k + 1 => match (nextL m)[k]? with | some ns => bkQ k ns (bkTo m k) ns.length | none => bkTo m k
def bkL (m : MeshT) : List (List Int) := bkTo m m.places.length
theorem bkQ_len (i : Nat) (ns : List Int) (xss : List (List Int)) : ∀ q, (bkQ i ns xss q).length = xss.length
  | 0 => rfl
  | q + 1 => by unfold bkQ; rw [insA_len, bkQ_len i ns xss q]
theorem bkTo_len (m : MeshT) : ∀ k, (bkTo m k).length = m.places.length
  | 0 => by simp [bkTo]
  | k + 1 => by unfold bkTo; split <;> simp [bkQ_len, bkTo_len m k]
theorem bkL_len (m : MeshT) : (bkL m).length = m.places.length := bkTo_len m _
theorem bkQ_step {ns x : List Int} {xss : List (List Int)} {i q : Nat} {j : Int} (hi : ns[q]? = some j) (hx : (bkQ i ns xss q)[j.toNat]? = some x) : (bkQ i ns xss q).set j.toNat (x ++ [(i : Int)]) = bkQ i ns xss (q + 1) := by
  have e1 : iAt ns q = j := by simp [iAt, hi]
  simp only [bkQ, insA, e1, hx, Option.getD_some]
theorem bkTo_step {k q : Nat} {ns : List Int} (h : (nextL m)[k]? = some ns) (hq : q = ns.length) : bkQ k ns (bkTo m k) q = bkTo m (k + 1) := by subst hq; simp [bkTo, h]
theorem next_row (hm : meshOk m = true) {k : Nat} {ns : List Int} (h : (nextL m)[k]? = some ns) : ∀ i ∈ ns, 0 ≤ i ∧ i < m.places.length := fun i hi => nextL_rng hm (j := (k : Int)) (by omega) (by rw [atL_some h]; exact hi)
theorem bkQ_mem {i : Nat} {ns : List Int} {xss : List (List Int)} {j l : Int} (hb : ∀ i ∈ ns, 0 ≤ i ∧ i < xss.length) (hj : 0 ≤ j) : ∀ q, q ≤ ns.length → (l ∈ atL (bkQ i ns xss q) j ↔ l ∈ atL xss j ∨ (j ∈ ns.take q ∧ l = i))
  | 0, _ => by simp [bkQ]
  | q + 1, hq => by
    have h1 := hb _ (iAt_mem (t := ns) (q := q) (by omega))
    unfold bkQ
    rw [insA_mem (by rw [bkQ_len]; omega), bkQ_mem hb hj q (by omega), iAt_take (by omega), List.mem_append, List.mem_singleton, List.mem_singleton]
    constructor
    · rintro ((h | h) | h)
      · exact .inl h
      · exact .inr ⟨.inl h.1, h.2⟩
      · exact .inr ⟨.inr (by omega), h.2⟩
    · rintro (h | ⟨h | h, h2⟩)
      · exact .inl (.inl h)
      · exact .inl (.inr ⟨h, h2⟩)
      · exact .inr ⟨by rw [h], h2⟩
theorem bkQ_tot {i : Nat} {ns : List Int} {xss : List (List Int)} (hb : ∀ i ∈ ns, 0 ≤ i ∧ i < xss.length) : ∀ q, q ≤ ns.length → tot (bkQ i ns xss q) = tot xss + q
  | 0, _ => rfl
  | q + 1, hq => by
    have h1 := hb _ (iAt_mem (t := ns) (q := q) (by omega))
    unfold bkQ
    rw [insA_tot (by rw [bkQ_len]; omega), bkQ_tot hb q (by omega)]; rfl
theorem bkTo_mem (hm : meshOk m = true) {j l : Int} (hj : 0 ≤ j) : ∀ k, k ≤ (nextL m).length → (l ∈ atL (bkTo m k) j ↔ ∃ i : Nat, i < k ∧ l = i ∧ j ∈ atL (nextL m) l)
  | 0, _ => by simp [bkTo, atL_zero]
  | k + 1, hk => by
    have hx : (nextL m)[k]? = some ((nextL m)[k]'hk) := List.getElem?_eq_getElem hk
    have hr := next_row hm hx
    rw [← bkTo_step hx rfl, bkQ_mem (fun i hi => by rw [bkTo_len]; exact hr i hi) hj _ (Nat.le_refl _), bkTo_mem hm hj k (by omega), List.take_of_length_le (Nat.le_refl _)]
    constructor
    · rintro (⟨i, h1, h2⟩ | ⟨h1, rfl⟩)
      · exact ⟨i, by omega, h2⟩
      · exact ⟨k, by omega, rfl, by rw [atL_some hx]; exact h1⟩
    · rintro ⟨i, h1, h2, h3⟩
      rcases Nat.lt_or_ge i k with h4 | h4
      · exact .inl ⟨i, h4, h2, h3⟩
      · obtain rfl : i = k := by omega
        subst h2
        rw [atL_some hx] at h3
        exact .inr ⟨h3, rfl⟩
theorem bkTo_tot (hm : meshOk m = true) : ∀ k, k ≤ (nextL m).length → tot (bkTo m k) = tot ((nextL m).take k)
  | 0, _ => by simp [bkTo, tot_zero, tot]
  | k + 1, hk => by
    have hx : (nextL m)[k]? = some ((nextL m)[k]'hk) := List.getElem?_eq_getElem hk
    have hr := next_row hm hx
    rw [← bkTo_step hx rfl, bkQ_tot (fun i hi => by rw [bkTo_len]; exact hr i hi) _ (Nat.le_refl _), bkTo_tot hm k (by omega), tot_take hx]
theorem bkQ_most (hm : meshOk m = true) {k q n : Nat} {ns x : List Int} (hns : (nextL m)[k]? = some ns) (hq : q ≤ ns.length) (h : (bkQ k ns (bkTo m k) q)[n]? = some x) : x.length ≤ 54000 := by
  have hk := (List.getElem?_eq_some_iff.1 hns).1
  have hr := next_row hm hns
  have h1 := tot_at h
  rw [bkQ_tot (fun i hi => by rw [bkTo_len]; exact hr i hi) q hq, bkTo_tot hm k (by omega)] at h1
  have h2 := tot_take_le (nextL m) k
  have h3 := nextL_tot hm
  have h4 := tot_at hns
  omega
theorem bkL_most (hm : meshOk m = true) (y : Int) : (atL (bkL m) y).length ≤ 27000 := by
  have h1 := tot_atL (xss := bkL m) (i := y)
  have h2 : tot (bkL m) = _ := bkTo_tot hm m.places.length (by rw [nextL_len]; exact Nat.le_refl _)
  have h3 := tot_take_le (nextL m) m.places.length
  have h4 := nextL_tot hm
  omega
theorem nxL_most (hm : meshOk m = true) (y : Int) : (atL (nextL m) y).length ≤ 27000 := Nat.le_trans tot_atL (nextL_tot hm)
theorem bkL_mem (hm : meshOk m = true) {j l : Int} (hj : 0 ≤ j) : l ∈ atL (bkL m) j ↔ (0 ≤ l ∧ l < m.places.length) ∧ j ∈ atL (nextL m) l := by
  have h : (l ∈ atL (bkL m) j ↔ _) := bkTo_mem (l := l) hm hj m.places.length (by rw [nextL_len]; exact Nat.le_refl _)
  rw [h]
  exact ⟨fun ⟨i, h1, h2, h3⟩ => ⟨by omega, h3⟩, fun ⟨h1, h2⟩ => ⟨l.toNat, by omega, by omega, h2⟩⟩
/-! ### the two graphs -/
def hasA (L : List (List Int)) (y : Int) : Bool := decide (0 < (atL L y).length)
theorem hasA_at {L : List (List Int)} {y : Int} {x : List Int} (h : L[y.toNat]? = some x) : icmp .gtr (x.length : Int) 0 = hasA L y := by
  rw [Bool.eq_iff_iff]; unfold hasA; rw [atL_some' h]; simp [icmp]
def cI (m : MeshT) (y : Int) : Bool := hasA (besL m) y
def nI (m : MeshT) (y : Int) : List Int := atL (besL m) y
def cS (m : MeshT) (y : Int) : Bool := hasA (nextL m) y
def nS (m : MeshT) (y : Int) : List Int := atL (nextL m) y ++ atL (bkL m) y
theorem cI_iff (hm : meshOk m = true) {y : Int} (hy : 0 ≤ y) : cI m y = true ↔ ∃ t ∈ m.tris, y ∈ t := by
  rw [cI, hasA, decide_eq_true_eq]
  constructor
  · intro h
    obtain ⟨l, hl⟩ := List.exists_mem_of_length_pos h
    obtain ⟨t, h1, h2, _⟩ := (besL_mem hm hy).1 hl
    exact ⟨t, h1, h2⟩
  · rintro ⟨t, h1, h2⟩
    exact List.length_pos_of_mem ((besL_mem hm hy).2 ⟨t, h1, h2, h2⟩)
theorem mem_iAt {t : List Int} {y : Int} (h : y ∈ t) : ∃ p, p < t.length ∧ iAt t p = y := by
  obtain ⟨p, hp⟩ := List.getElem?_of_mem h
  exact ⟨p, (List.getElem?_eq_some_iff.1 hp).1, by simp [iAt, hp]⟩
theorem cS_iff (hm : meshOk m = true) {y : Int} (hy : 0 ≤ y) : cS m y = true ↔ ∃ t ∈ m.tris, y ∈ t := by
  rw [cS, hasA, decide_eq_true_eq]
  constructor
  · intro h
    obtain ⟨l, hl⟩ := List.exists_mem_of_length_pos h
    obtain ⟨t, h1, p, hp, h2, _⟩ := (nextL_mem hm hy).1 hl
    obtain ⟨k, hk⟩ := List.getElem?_of_mem h1
    exact ⟨t, h1, h2 ▸ iAt_mem (by rw [(mesh_tri hm hk).1]; exact hp)⟩
  · rintro ⟨t, h1, h2⟩
    obtain ⟨k, hk⟩ := List.getElem?_of_mem h1
    obtain ⟨p, hp, h3⟩ := mem_iAt h2
    exact List.length_pos_of_mem ((nextL_mem hm hy).2 ⟨t, h1, p, by rw [(mesh_tri hm hk).1] at hp; exact hp, h3, rfl⟩)
theorem cS_eq (hm : meshOk m = true) : cS m = cI m := by
  funext y
  have e1 : cS m y = cS m (y.toNat : Int) := by unfold cS hasA; rw [atL_nat]
  have e2 : cI m y = cI m (y.toNat : Int) := by unfold cI hasA; rw [atL_nat]
  rw [e1, e2, Bool.eq_iff_iff, cS_iff hm (by omega), cI_iff hm (by omega)]
theorem tri_at (hm : meshOk m = true) {t : List Int} (ht : t ∈ m.tris) : t.length = 3 ∧ ∀ i ∈ t, 0 ≤ i ∧ i < m.places.length := by
  obtain ⟨k, hk⟩ := List.getElem?_of_mem ht
  exact mesh_tri hm hk
theorem grI (hm : meshOk m = true) : Gr m.places.length (cI m) (nI m) where
  rng := fun k hk _ l hl => by
    obtain ⟨t, h1, _, h3⟩ := (besL_mem hm hk.1).1 hl
    exact (tri_at hm h1).2 l h3
  sym := fun k l hk _ _ hl => by
    obtain ⟨t, h1, h2, h3⟩ := (besL_mem hm hk.1).1 hl
    exact (besL_mem hm ((tri_at hm h1).2 l h3).1).2 ⟨t, h1, h3, h2⟩
theorem nS_iff (hm : meshOk m = true) {k l : Int} (hk : 0 ≤ k) : l ∈ nS m k ↔ l ∈ atL (nextL m) k ∨ (0 ≤ l ∧ l < m.places.length) ∧ k ∈ atL (nextL m) l := by
  unfold nS; rw [List.mem_append, bkL_mem hm hk]
theorem nS_len (hm : meshOk m = true) (k : Int) : (nS m k).length ≤ 54000 := by
  have h1 := nxL_most hm k
  have h2 := bkL_most hm k
  unfold nS; rw [List.length_append]; omega
theorem nS_rng (hm : meshOk m = true) {k l : Int} (hk : 0 ≤ k) (h : l ∈ nS m k) : 0 ≤ l ∧ l < m.places.length := by
  rcases (nS_iff hm hk).1 h with h | h
  · exact nextL_rng hm hk h
  · exact h.1
theorem grS (hm : meshOk m = true) : Gr m.places.length (cS m) (nS m) where
  rng := fun k hk _ l hl => nS_rng hm hk.1 hl
  sym := fun k l hk _ _ hl => by
    have hr := nS_rng hm hk.1 hl
    rcases (nS_iff hm hk.1).1 hl with h | h
    · exact (nS_iff hm hr.1).2 (.inr ⟨hk, h⟩)
    · exact (nS_iff hm hr.1).2 (.inl h.2)
/-- what is next to a place, or has it next to it, is a triangle's -/
theorem nS_nI (hm : meshOk m = true) {k l : Int} (hk : 0 ≤ k) (h : l ∈ nS m k) : l ∈ nI m k := by
  have hr := nS_rng hm hk h
  rcases (nS_iff hm hk).1 h with h | h
  · obtain ⟨t, h1, p, hp, h2, h3⟩ := (nextL_mem hm hk).1 h
    have ht := (tri_at hm h1).1
    exact (besL_mem hm hk).2 ⟨t, h1, h2 ▸ iAt_mem (by omega), h3 ▸ iAt_mem (by omega)⟩
  · obtain ⟨t, h1, p, hp, h2, h3⟩ := (nextL_mem hm hr.1).1 h.2
    have ht := (tri_at hm h1).1
    exact (besL_mem hm hk).2 ⟨t, h1, h3 ▸ iAt_mem (by omega), h2 ▸ iAt_mem (by omega)⟩
theorem nS_c (hm : meshOk m = true) {k l : Int} (hk : 0 ≤ k) (h : l ∈ nS m k) : cS m l = true := by
  have hr := nS_rng hm hk h
  obtain ⟨t, h1, _, h3⟩ := (besL_mem hm hk).1 (nS_nI hm hk h)
  exact (cS_iff hm hr.1).2 ⟨t, h1, h3⟩
theorem nI_nS (hm : meshOk m = true) {k l : Int} (hk : 0 ≤ k) (h : l ∈ nI m k) : l = k ∨ l ∈ nS m k := by
  obtain ⟨t, h1, h2, h3⟩ := (besL_mem hm hk).1 h
  have ht := tri_at hm h1
  have hl := ht.2 l h3
  obtain ⟨p, hp, hpk⟩ := mem_iAt h2
  obtain ⟨q, hq, hql⟩ := mem_iAt h3
  rw [nS_iff hm hk]
  rcases (by omega : p = q ∨ q = (p + 1) % 3 ∨ p = (q + 1) % 3) with h4 | h4 | h4
  · exact .inl (by rw [← hpk, ← hql, h4])
  · exact .inr (.inl ((nextL_mem hm hk).2 ⟨t, h1, p, by omega, hpk, by rw [← h4]; exact hql⟩))
  · exact .inr (.inr ⟨hl, (nextL_mem hm hl.1).2 ⟨t, h1, q, by omega, hql, by rw [← h4]; exact hpk⟩⟩)
end
theorem markR_alike {n : Nat} {c : Int → Bool} {nb nb2 : Int → List Int} {o : List Int} {i v : Int} (h : ∀ k : Int, Conn c nb i k ↔ Conn c nb2 i k) : markR n c nb o i v = markR n c nb2 o i v := by
  unfold markR
  refine List.map_congr_left fun k _ => ?_
  by_cases h1 : Conn c nb i k
  · rw [if_pos h1, if_pos ((h k).1 h1)]
  · rw [if_neg h1, if_neg fun h2 => h1 ((h k).2 h2)]
theorem numTo_alike {n : Nat} {c : Int → Bool} {nb nb2 : Int → List Int} (h : ∀ i : Nat, i < n → c i = true → ∀ k : Int, Conn c nb (i : Int) k ↔ Conn c nb2 (i : Int) k) : ∀ k, k ≤ n → numTo n c nb k = numTo n c nb2 k
  | 0, _ => rfl
  | k + 1, hk => by
    have ih := numTo_alike h k (by omega)
    by_cases hs : 0 ≤ iAt (numTo n c nb k).1 k ∨ c k = false
    · rw [numTo_skip hs, numTo_skip (by rw [← ih]; exact hs), ih]
    · have h1 : iAt (numTo n c nb k).1 k < 0 := by omega
      have h2 : c k = true := by simpa using fun h => hs (.inr h)
      rw [numTo_new h1 h2, numTo_new (by rw [← ih]; exact h1) h2, ih, markR_alike (h k (by omega) h2)]
noncomputable def pcsM (m : MeshT) : List Int × Int := if meshOk m then numTo m.places.length (cI m) (nI m) m.places.length else ([], 0)
section
variable {m : MeshT}
theorem pcsM_f (h : meshOk m = false) : pcsM m = ([], 0) := by unfold pcsM; rw [h]; rfl
theorem pcsM_t (h : meshOk m = true) : pcsM m = numTo m.places.length (cI m) (nI m) m.places.length := by unfold pcsM; rw [h]; rfl
theorem pcsM_0 (h : meshOk m = true) (h0 : m.places.length = 0) : pcsM m = ([], 0) := by rw [pcsM_t h, h0]; rfl
/-- **the two tellings** -/
theorem pcsM_s (h : meshOk m = true) : pcsM m = numTo m.places.length (cS m) (nS m) m.places.length := by
  rw [pcsM_t h, cS_eq h]
  have hG := grS h
  rw [cS_eq h] at hG
  refine numTo_alike (fun i hi hc k => ⟨fun hk => Conn.alike (grI h) (fun k hk _ l hl => nI_nS h hk.1 hl) (by omega) hc hk, fun hk => Conn.alike hG (fun k hk _ l hl => .inr (nS_nI h hk.1 hl)) (by omega) hc hk⟩) _ (Nat.le_refl _)
theorem pcsM_le (m : MeshT) : (pcsM m).1.length ≤ 8192 := by
  cases h : meshOk m with
  | false => rw [pcsM_f h]; exact Nat.zero_le _
  | true => rw [pcsM_t h, numTo_len]; exact (mesh_len h).1
end
end Go.Proofs.Ytlfpeihlfmdmdaa
