/- rows whose cells are slices of one's own that grow -/
import Derived.Test.YtlfpeihlfmdmdaaOwN
import Derived.Test.YtlfpeihlfmdmdaaNrm
namespace Go.Proofs.Ytlfpeihlfmdmdaa
open Go Go.RowKit

/-- each of these values is a slice of one's own; their blocks, from C on, lie apart -/
def NxI (e : TypeId) (C : Nat) (w : World) (vs : List Value) (xss : List (List Int)) : Prop :=
  vs.length = xss.length ∧ C ≤ w.heap.size ∧ (∀ (i : Nat) (y : Value) (c : Nat), vs[i]? = some y → y.ownBlock = some c → C ≤ c) ∧
    (∀ (i j : Nat) (y z : Value) (c : Nat), i ≠ j → vs[i]? = some y → vs[j]? = some z → y.ownBlock = some c → z.ownBlock ≠ some c) ∧
    ∀ (i : Nat) (y : Value) (x : List Int), vs[i]? = some y → xss[i]? = some x → ∀ g, (∀ c, y.ownBlock = some c → c = g) → ∀ B, Own RI 1 e g B w y x
section
variable {e : TypeId} {C : Nat} {w u : World} {vs : List Value} {xss : List (List Int)}
theorem Own.lt {α : Type} {R : Rel α} {k g0 B c : Nat} {v : Value} {xs : List α} (h : Own R k e g0 B w v xs) (hc : v.ownBlock = some c) : c < w.heap.size := by
  obtain ⟨rows, hr, _⟩ := h; exact (hr.lt c hc).2
theorem NxI.len (h : NxI e C w vs xss) : vs.length = xss.length := h.1
theorem NxI.kl {L : List Nat} (h : NxI e C w vs xss) (x : KpL L w u) (hL : ∀ c ∈ L, c < C ∨ w.heap.size ≤ c) : NxI e C u vs xss := by
  obtain ⟨hl, hC, hb, hd, ho⟩ := h
  refine ⟨hl, Nat.le_trans hC x.size, hb, hd, fun i y z hy hz g hg B => ?_⟩
  have h1 := ho i y z hy hz
  cases hv : y.ownBlock with
  | none =>
    obtain ⟨N, hN⟩ := lt_some (g :: L)
    have h2 := (h1 N (fun c hc => by rw [hv] at hc; cases hc) (N + 1)).kl RI.flat x fun c hc => ⟨Nat.ne_of_lt (hN c (by simp [hc])), .inl (Nat.lt_succ_of_lt (hN c (by simp [hc])))⟩
    obtain ⟨rows, hr, _, hx⟩ := h2
    exact ⟨rows, hr, fun c hc => (by rw [hv] at hc; cases hc), hx⟩
  | some c =>
    obtain rfl := hg c hv
    refine Own.klA (fun B => h1 c hg B) RI.flat x (fun hm => ?_) B
    have h2 := (h1 c hg 0).lt hv
    rcases hL c hm with h3 | h3
    · have := hb i y c hy hv; omega
    · omega
theorem NxI.ext (h : NxI e C w vs xss) (x : Ext w u) : NxI e C u vs xss := h.kl (L := []) (KpL.of_ext x) all0
theorem NxI.wr {b : Nat} (h : NxI e C w vs xss) (x : Wr b w u) (hb : b < C) : NxI e C u vs xss := h.kl (KpL.of_wr x) (allS (.inl hb) all0)
theorem NxI.same (h : NxI e C w vs xss) {D : Nat} (x : Same D w u) (hD : D ≤ C) : NxI e C u vs xss := by
  obtain ⟨hl, hC, hb, hd, ho⟩ := h
  refine ⟨hl, Nat.le_trans hC x.size, hb, hd, fun i y z hy hz g hg B => ?_⟩
  have h1 := ho i y z hy hz
  cases hv : y.ownBlock with
  | none =>
    obtain ⟨rows, hr, _, hx⟩ := (h1 D (fun c hc => by rw [hv] at hc; cases hc) D).same RI.flat x (Nat.le_refl _) (Nat.le_refl _)
    exact ⟨rows, hr, fun c hc => (by rw [hv] at hc; cases hc), hx⟩
  | some c =>
    obtain rfl := hg c hv
    obtain ⟨rows, hr, _, hx⟩ := (h1 c hg c).same RI.flat x (Nat.le_trans hD (hb i y c hy hv)) (Nat.le_trans hD (hb i y c hy hv))
    exact ⟨rows, hr, fun c' hc' => .inl (hg c' hc'), hx⟩
theorem NxI.zero (n : Nat) (hC : C ≤ w.heap.size) : NxI e C w (List.replicate n (.slice none 0 0)) (List.replicate n []) := by
  have hn : ∀ (i : Nat) (y : Value), (List.replicate n (Value.slice none 0 0))[i]? = some y → y = .slice none 0 0 := fun i y h => by
    rw [List.getElem?_replicate] at h
    split at h
    · exact (Option.some.inj h).symm
    · cases h
  refine ⟨by simp, hC, fun i y c hy hc => ?_, fun i j y z c _ hy _ hc => ?_, fun i y x hy hx g _ B => ?_⟩
  · rw [hn i y hy] at hc; cases hc
  · rw [hn i y hy] at hc; cases hc
  · rw [hn i y hy]
    rw [List.getElem?_replicate] at hx
    split at hx
    · cases hx; exact Own.nil
    · cases hx
theorem NxI.reC {n C' : Nat} (_h : NxI e C w (List.replicate n (.slice none 0 0)) (List.replicate n [])) (hC : C' ≤ w.heap.size) : NxI e C' w (List.replicate n (.slice none 0 0)) (List.replicate n []) := NxI.zero n hC
/-- one of them, its block named -/
theorem NxI.own {i : Nat} {y : Value} {x : List Int} (h : NxI e C w vs xss) (hy : vs[i]? = some y) (hx : xss[i]? = some x) :
    ∃ g1, C ≤ g1 ∧ (y.ownBlock = some g1 ∨ y.ownBlock = none ∧ g1 = w.heap.size) ∧ ∀ B, Own RI 1 e g1 B w y x := by
  obtain ⟨hl, hC, hb, hd, ho⟩ := h
  cases hv : y.ownBlock with
  | none => exact ⟨w.heap.size, hC, .inr ⟨rfl, rfl⟩, ho i y x hy hx _ fun c hc => by rw [hv] at hc; cases hc⟩
  | some c => exact ⟨c, hb i y c hy hv, .inl rfl, ho i y x hy hx _ fun c' hc' => by rw [hv] at hc'; cases hc'; rfl⟩
/-- .. which has grown -/
theorem NxI.put {i g1 B : Nat} {y z : Value} {x : List Int} (h : NxI e C w vs xss) (hy : vs[i]? = some y) (hg1 : y.ownBlock = some g1 ∨ y.ownBlock = none ∧ g1 = w.heap.size) (K : KpL [g1] w u) (hO : Own RI 1 e g1 B u z x) (hB : w.heap.size ≤ B) : NxI e C u (vs.set i z) (xss.set i x) := by
  obtain ⟨hl, hC, hb, hd, ho⟩ := h
  have hil := (List.getElem?_eq_some_iff.1 hy).1
  have hgC : C ≤ g1 := by
    rcases hg1 with h | ⟨_, h⟩
    · exact hb i y g1 hy h
    · rw [h]; exact hC
  have hsx : ∃ x0, xss[i]? = some x0 := ⟨_, List.getElem?_eq_getElem (by omega)⟩
  -- the block of another one
  have hoth : ∀ (j : Nat) (v : Value) (c : Nat), j ≠ i → vs[j]? = some v → v.ownBlock = some c → c ≠ g1 ∧ c < w.heap.size := fun j v c hji hv hc => by
    have hjl := (List.getElem?_eq_some_iff.1 hv).1
    have hlt : c < w.heap.size := (ho j v _ hv (List.getElem?_eq_getElem (by omega)) c (fun c' hc' => by rw [hc] at hc'; cases hc'; rfl) 0).lt hc
    refine ⟨fun e => ?_, hlt⟩
    rcases hg1 with h | ⟨_, h⟩
    · exact hd j i v y c hji hv hy hc (by rw [e]; exact h)
    · omega
  have hz : ∀ c, z.ownBlock = some c → c = g1 ∨ w.heap.size ≤ c := fun c hc => by
    obtain ⟨_, _, hg, _⟩ := hO
    exact (hg c hc).imp id (Nat.le_trans hB)
  have hget : ∀ (j : Nat) (v : Value), (vs.set i z)[j]? = some v → (j = i ∧ v = z) ∨ (j ≠ i ∧ vs[j]? = some v) := fun j v hv => by
    rw [List.getElem?_set] at hv
    split at hv
    · rename_i h; subst h
      exact .inl ⟨rfl, (Option.some.inj hv).symm⟩
    · rename_i h; exact .inr ⟨fun e => h e.symm, hv⟩
  refine ⟨by simp [hl], Nat.le_trans hC K.size, fun j v c hv hc => ?_, fun j k v v' c hjk hv hv' hc hc' => ?_, fun j v x' hv hx' g hg B' => ?_⟩
  · rcases hget j v hv with ⟨_, rfl⟩ | ⟨hji, hv⟩
    · rcases hz c hc with h | h
      · rw [h]; exact hgC
      · exact Nat.le_trans hC h
    · exact hb j v c hv hc
  · rcases hget j v hv with ⟨hji, hvz⟩ | ⟨hji, hv2⟩
    · rcases hget k v' hv' with ⟨hki, _⟩ | ⟨hki, hv2⟩
      · exact hjk (hji.trans hki.symm)
      · have h1 := hoth k v' c hki hv2 hc'
        rcases hz c (by rw [← hvz]; exact hc) with h | h
        · exact h1.1 h
        · omega
    · rcases hget k v' hv' with ⟨hki, hvz⟩ | ⟨hki, hv3⟩
      · have h1 := hoth j v c hji hv2 hc
        rcases hz c (by rw [← hvz]; exact hc') with h | h
        · exact h1.1 h
        · omega
      · exact hd j k v v' c hjk hv2 hv3 hc hc'
  · rcases hget j v hv with ⟨rfl, rfl⟩ | ⟨hji, hv⟩
    · rw [List.getElem?_set, if_pos rfl, if_pos (by omega)] at hx'
      cases hx'
      obtain ⟨rows, hr, _, hx⟩ := hO
      exact ⟨rows, hr, fun c hc => .inl (hg c hc), hx⟩
    · rw [List.getElem?_set, if_neg (fun h => hji h.symm)] at hx'
      have h1 := ho j v x' hv hx'
      cases hvb : v.ownBlock with
      | none =>
        have h2 := (h1 (g1 + 1) (fun c hc => by rw [hvb] at hc; cases hc) (g1 + 2)).kl RI.flat K (allS ⟨by omega, .inl (by omega)⟩ all0)
        obtain ⟨rows, hr, _, hx⟩ := h2
        exact ⟨rows, hr, fun c hc => (by rw [hvb] at hc; cases hc), hx⟩
      | some c =>
        obtain rfl := hg c hvb
        have h2 := hoth j v c hji hv hvb
        exact Own.klA (fun B => h1 c hg B) RI.flat K (by simpa using h2.1) B'
/-- the row and its cells, as a slice of slices -/
theorem NxI.hang {D g n cap : Nat} (h : NxI e C w vs xss) (hr : RowG RVl 1 w g vs) (hn : xss.length = n) (hg : D ≤ g) (hD : D ≤ C) (hc : n ≤ cap) (hm : n ≤ 9223372036854775807) : Hang D w (fun u => Sl (RS RI 1) 1 u (.slice (some ⟨g, 0, none⟩) n cap) xss) := fun u hu => by
  obtain ⟨hl, _, hb, hd, ho⟩ := h.same hu hD
  subst hn
  obtain ⟨hm', p, c, he, hs⟩ := hr.hang (cap := cap) RVl.flat hl hg hc hm (by decide) u hu
  simp only [Value.slice.injEq] at he
  obtain ⟨rfl, _, rfl⟩ := he
  refine ⟨hm, _, _, rfl, fun i x hx => ?_⟩
  have hil := (List.getElem?_eq_some_iff.1 hx).1
  have hy : vs[i]? = some (vs[i]'(by omega)) := List.getElem?_eq_getElem _
  obtain ⟨b, off, cs, hp, hcc, hrr, hkk, h0', hcap⟩ := hs i _ hy
  refine ⟨b, off, cs, hp, hcc, ⟨_, hrr, ?_⟩, hkk, h0', hcap⟩
  cases hv : (vs[i]'(by omega)).ownBlock with
  | none => exact (ho i _ x hy hx 0 (fun c hc => by rw [hv] at hc; cases hc) 0).sl (by decide)
  | some c => exact (ho i _ x hy hx c (fun c' hc => by rw [hv] at hc; cases hc; rfl) 0).sl (by decide)
theorem NxI.cast {yss : List (List Int)} (h : NxI e C w vs xss) (he : xss = yss) : NxI e C w vs yss := he ▸ h
end
/-- listed blocks may have been written, and those from C on -/
def KpC (C : Nat) (M : List Nat) (w u : World) : Prop := ∃ L, KpL L w u ∧ ∀ c ∈ L, c ∈ M ∨ C ≤ c
section
variable {C : Nat} {L M : List Nat} {w u v : World}
theorem KpC.refl (C : Nat) (M : List Nat) (w : World) : KpC C M w w := ⟨[], KpL.refl _ _, all0⟩
theorem KpC.mk (h : KpL L w u) (hL : ∀ c ∈ L, c ∈ M ∨ C ≤ c) : KpC C M w u := ⟨L, h, hL⟩
theorem KpC.ext (h : KpC C M w u) (x : Ext u v) : KpC C M w v := let ⟨L, k, hL⟩ := h; ⟨L, k.ext x, hL⟩
theorem KpC.kl (h : KpC C M w u) (x : KpL L u v) (hL : ∀ c ∈ L, c ∈ M ∨ C ≤ c) : KpC C M w v := by
  obtain ⟨L', k, hL'⟩ := h
  refine ⟨L' ++ L, k.kl x (fun b hb => by simp [hb]) (fun b hb => by simp [hb]), fun c hc => ?_⟩
  rcases List.mem_append.1 hc with h | h
  · exact hL' c h
  · exact hL c h
theorem KpC.size (h : KpC C M w u) : w.heap.size ≤ u.heap.size := let ⟨_, k, _⟩ := h; k.size
end
section
variable {P : Program} {a : Act} {w : World} {dst : Option Tmp} {ty : TypeId} {pos : String} {af : Array Edge} {g : Option (Nat × Bool)}
theorem does_loadRowV {t : TypeId} {x : Operand} {b off i : Nat} {e : Value} {xs : List Value} (hx : a.eval x = .pointer (some ⟨b, off, none⟩)) (hA : ∀ w, (isAgg t).run P w = .ok false w) (h : RowG RVl 1 w b xs) (ho : off = i * 1) (he : xs[i]? = some e) :
    does P ⟨dst, .load t x, ty, pos, af, g⟩ a w (Is e w) := by
  subst ho
  obtain ⟨cs, hc, hr, _⟩ := h.at he
  subst hr
  exact does_load hx hA (by have := hc 0 _ rfl; rwa [Nat.add_zero] at this)
end
/-- what stands beside each place -/
def nxA (t : List Int) (xss : List (List Int)) (q : Nat) : List (List Int) := xss.set (iAt t q).toNat ((xss[(iAt t q).toNat]?).getD [] ++ [iAt t ((q + 1) % 3)])
def nxQ (t : List Int) (xss : List (List Int)) : Nat → List (List Int)
  | 0 => xss
  | q + 1 => nxA t (nxQ t xss q) q
def nextTo (m : MeshT) : Nat → List (List Int)
  | 0 => List.replicate m.places.length []
  | k + 1 => match m.tris[k]? with | some t => nxQ t (nextTo m k) 3 | none => nextTo m k
def nextL (m : MeshT) : List (List Int) := nextTo m m.tris.length
theorem nxQ_len (t : List Int) (xss : List (List Int)) : ∀ q, (nxQ t xss q).length = xss.length
  | 0 => rfl
  | q + 1 => by simp [nxQ, nxA, nxQ_len t xss q]
theorem nextTo_len (m : MeshT) : ∀ k, (nextTo m k).length = m.places.length
  | 0 => by simp [nextTo]
  | k + 1 => by unfold nextTo; split <;> simp [nxQ_len, nextTo_len m k]
theorem nextL_len (m : MeshT) : (nextL m).length = m.places.length := nextTo_len m _
theorem nxQ_step {t x : List Int} {xss : List (List Int)} {q : Nat} {i j : Int} (hi : t[q]? = some i) (hj : t[(q + 1) % 3]? = some j) (hx : (nxQ t xss q)[i.toNat]? = some x) : (nxQ t xss q).set i.toNat (x ++ [j]) = nxQ t xss (q + 1) := by
  have e1 : iAt t q = i := by simp [iAt, hi]
  have e2 : iAt t ((q + 1) % 3) = j := by simp [iAt, hj]
  simp only [nxQ, nxA, e1, e2, hx, Option.getD_some]
theorem nxA_most {t x : List Int} {xss : List (List Int)} {q i n : Nat} (h : ∀ (i : Nat) (x : List Int), xss[i]? = some x → x.length ≤ n) (hx : (nxA t xss q)[i]? = some x) : x.length ≤ n + 1 := by
  unfold nxA at hx
  rw [List.getElem?_set] at hx
  split at hx
  · split at hx
    · rename_i he hl
      have hg : xss[(iAt t q).toNat]? = some (xss[(iAt t q).toNat]'hl) := List.getElem?_eq_getElem hl
      have := h _ _ hg
      cases hx
      rw [hg]; simp; omega
    · cases hx
  · have := h _ _ hx; omega
theorem nxQ_most' {t : List Int} {xss : List (List Int)} {n : Nat} (h : ∀ (i : Nat) (x : List Int), xss[i]? = some x → x.length ≤ n) : ∀ (q i : Nat) (x : List Int), (nxQ t xss q)[i]? = some x → x.length ≤ n + q
  | 0, i, x, hx => h i x hx
  | q + 1, _, _, hx => nxA_most (nxQ_most' h q) hx
theorem nextTo_most {m : MeshT} : ∀ (k i : Nat) (x : List Int), (nextTo m k)[i]? = some x → x.length ≤ 3 * k
  | 0, _, _, hx => by
    simp only [nextTo, List.getElem?_replicate] at hx
    split at hx
    · cases hx; simp
    · cases hx
  | k + 1, i, x, hx => by
    unfold nextTo at hx
    split at hx
    · have := nxQ_most' (nextTo_most k) _ _ _ hx; omega
    · have := nextTo_most k i x hx; omega
theorem nxQ_most {m : MeshT} {t x : List Int} {k q i : Nat} (h : (nxQ t (nextTo m k) q)[i]? = some x) : x.length ≤ 3 * k + q := nxQ_most' (nextTo_most k) q i x h
theorem nextTo_step {m : MeshT} {k q : Nat} {t : List Int} (h : m.tris[k]? = some t) (hq : q = 3) : nxQ t (nextTo m k) q = nextTo m (k + 1) := by subst hq; simp [nextTo, h]
end Go.Proofs.Ytlfpeihlfmdmdaa
