/- meshes in the making: quarters of cells -/
import Derived.Test.YtjopopmipdakkaaMsv
namespace Go.Proofs.Ytjopopmipdakkaa
open Go Go.RowKit Go.Maps
theorem Sl_lit4 {α : Type} {R : Rel α} {w : World} {b : Nat} {c0 c1 c2 c3 : Value} {x0 x1 x2 x3 : α} (hb : Blk w b [c0, c1, c2, c3]) (h0 : R w x0 [c0]) (h1 : R w x1 [c1]) (h2 : R w x2 [c2]) (h3 : R w x3 [c3]) : Sl R 1 w (.slice (some ⟨b, 0, none⟩) 4 4) [x0, x1, x2, x3] :=
  Sl_lit hb (by decide) (by simp) fun i x hi => by
    match i, hi with
    | 0, hi => cases hi; exact ⟨h0, rfl⟩
    | 1, hi => cases hi; exact ⟨h1, rfl⟩
    | 2, hi => cases hi; exact ⟨h2, rfl⟩
    | 3, hi => cases hi; exact ⟨h3, rfl⟩
    | i + 4, hi => simp at hi
section
variable {α : Type} {R : Rel α} {k g0 B : Nat} {e : TypeId} {w w1 : World} {v : Value} {xs : List α}
theorem Own.startX {c : Nat} (h : Own R k e g0 B w1 v xs) (h' : Own R k e g0 B w v xs) (hv : v.ownBlock = some c) : ∃ g1, (g1 = g0 ∨ B ≤ g1) ∧ g1 = c ∧ g1 < w1.heap.size ∧ ∀ B, Own R k e g1 B w v xs := by
  obtain ⟨rows, hr, hg, hx⟩ := h'
  exact ⟨c, hg c hv, rfl, h.ows.lt hv, fun B => ⟨rows, hr, fun g' h' => .inl (by rw [hv] at h'; cases h'; rfl), hx⟩⟩
theorem Own.klB {u : World} {M : List Nat} (h : Own R k e g0 B w v xs) (hR : Flat R) (x : KpL M w u) (hM : ∀ c ∈ M, c ≠ g0 ∧ c < B) : Own R k e g0 B u v xs :=
  let ⟨rows, hr, hx⟩ := h.ows.kl hR x fun c hc hm => (h.blk c hc).elim (fun e => (hM c hm).1 e) (fun e => absurd e (Nat.not_le_of_lt (hM c hm).2))
  ⟨rows, hr, h.blk, hx⟩
theorem Own.startP (h : Own R k e g0 B w1 v xs) (h' : Own R k e g0 B w v xs) (hp : 0 < xs.length) : ∃ g1, (g1 = g0 ∨ B ≤ g1) ∧ g1 < w1.heap.size ∧ ∀ B, Own R k e g1 B w v xs := by
  obtain ⟨rows, hr, hg, hx⟩ := id h'
  rcases hr.2 with ⟨_, hn⟩ | ⟨c, cap, cur, rfl, _⟩
  · omega
  · exact ⟨c, hg c rfl, h.ows.lt rfl, fun B => ⟨rows, hr, fun g' h' => .inl (by cases h'; rfl), hx⟩⟩
end
theorem ret_valKN {P : Program} {fn : Func} {l : List Value} {w w0 : World} {L : List Nat} {R : Value → World → Prop} {v : Value} (hr : (results fn (fr l).tmps).run P w = .ok v w) (hx : KpL L w0 w) (h : R v w) :
    bodyPost P fn (fun e w' => ∃ v, e = .returned v ∧ KpL L w0 w' ∧ R v w') .normal (fr l) w := ⟨rfl, v, hr, v, rfl, hx, h⟩
theorem res_0 {P : Program} {fn : Func} {l : List Value} {w : World} (h : fn.results = #[]) : (results fn (fr l).tmps).run P w = .ok (.tuple #[]) w := by simp [results, h]
theorem MXq.shape {K : MXK} {N b m : Nat} {g : GridT} {L Lt : List Nat} {vp vt v : Value} {w : World} {S : MshS} (h : MXq K N g b L vp vt v m Lt w S) : ∃ (p : Option Addr) (n q : Nat), v = .slice p n q :=
  let ⟨_, _, _, _, _, ⟨vs, _, hO, _⟩, _⟩ := h
  let ⟨p, q, e⟩ := (hO.own 0 0).shape
  ⟨p, vs.length, q, e⟩
theorem edB_ok (b0 b1 b2 b3 : Bool) : ∀ e ∈ edB [b0, b1, b2, b3], (0 ≤ e.1 ∧ e.1 ≤ 3) ∧ (0 ≤ e.2 ∧ e.2 ≤ 3) ∧ e.1 ≠ e.2 := by cases b0 <;> cases b1 <;> cases b2 <;> cases b3 <;> decide
theorem edB_len (b0 b1 b2 b3 : Bool) : (edB [b0, b1, b2, b3]).length = 3 * ((edB [b0, b1, b2, b3]).length / 3) ∧ (edB [b0, b1, b2, b3]).length / 3 ≤ 2 := by cases b0 <;> cases b1 <;> cases b2 <;> cases b3 <;> decide
def digOk (p r : Int) : Prop := (0 ≤ p ∧ p < r ∧ r ≤ 7) ∧ p % 2 + (r - p) % 2 = r % 2 ∧ p / 2 % 2 + (r - p) / 2 % 2 = r / 2 % 2 ∧ p / 4 + (r - p) / 4 = r / 4
instance (p r : Int) : Decidable (digOk p r) := by unfold digOk; infer_instance
theorem dig_ok : ∀ q < 6, ∀ a < 4, ∀ b < 4, a ≠ b → digOk (min (iAt (cnQ q) a) (iAt (cnQ q) b)) (max (iAt (cnQ q) a) (iAt (cnQ q) b)) := by decide
theorem offC_add {g : GridT} {m d M : Int} (h1 : m % 2 + d % 2 = M % 2) (h2 : m / 2 % 2 + d / 2 % 2 = M / 2 % 2) (h3 : m / 4 + d / 4 = M / 4) : offC g m + offC g d = offC g M := by
  unfold offC; rw [← h1, ← h2, ← h3, Int.mul_add, Int.mul_add]; omega
theorem edge_ok (g : GridT) {q : Nat} {a b : Int} (hq : q < 6) (ha : 0 ≤ a ∧ a ≤ 3) (hb : 0 ≤ b ∧ b ≤ 3) (hne : a ≠ b) :
    0 ≤ min (iAt (cnQ q) a.toNat) (iAt (cnQ q) b.toNat) ∧ min (iAt (cnQ q) a.toNat) (iAt (cnQ q) b.toNat) < max (iAt (cnQ q) a.toNat) (iAt (cnQ q) b.toNat) ∧ max (iAt (cnQ q) a.toNat) (iAt (cnQ q) b.toNat) ≤ 7 ∧
    offC g (min (iAt (cnQ q) a.toNat) (iAt (cnQ q) b.toNat)) + offC g (max (iAt (cnQ q) a.toNat) (iAt (cnQ q) b.toNat) - min (iAt (cnQ q) a.toNat) (iAt (cnQ q) b.toNat)) = offC g (max (iAt (cnQ q) a.toNat) (iAt (cnQ q) b.toNat)) := by
  obtain ⟨h1, h2, h3, h4⟩ := dig_ok q hq a.toNat (by omega) b.toNat (by omega) (by omega)
  exact ⟨h1.1, h1.2.1, h1.2.2, offC_add h2 h3 h4⟩
theorem quaL_at : ∀ {q : Nat} {e : QuaT}, quaL[q]? = some e → q < 6 ∧ cnQ q = [e.a, e.b, e.c, e.d] ∧ tuQ q = e.t ∧ (0 ≤ e.a ∧ e.a ≤ 7) ∧ (0 ≤ e.b ∧ e.b ≤ 7) ∧ (0 ≤ e.c ∧ e.c ≤ 7) ∧ (0 ≤ e.d ∧ e.d ≤ 7)
  | 0, e, h => by cases h; decide
  | 1, e, h => by cases h; decide
  | 2, e, h => by cases h; decide
  | 3, e, h => by cases h; decide
  | 4, e, h => by cases h; decide
  | 5, e, h => by cases h; decide
  | q + 6, e, h => by simp [quaL] at h
theorem cnQ_len (q : Nat) : (cnQ q).length = 4 := by unfold cnQ; (repeat' split) <;> rfl
theorem grp_at {E : List (Int × Int)} {j n : Nat} {t : I6T} (hE : E.length = 3 * n) (h : (grp E)[j]? = some t) : j < n ∧ E[3 * j]? = some (t.a, t.b) ∧ E[3 * j + 1]? = some (t.c, t.d) ∧ E[3 * j + 2]? = some (t.e, t.f) := by
  unfold grp at h
  rw [List.getElem?_map, hE, show 3 * n / 3 = n by omega] at h
  rcases Nat.lt_or_ge j n with hj | hj
  · rw [List.getElem?_range hj] at h
    have h := Option.some.inj h
    have e : ∀ i, i < 3 * n → E[i]? = some (pAt E i) := fun i hi => by unfold pAt; rw [List.getElem?_eq_getElem (by omega)]; rfl
    refine ⟨hj, ?_, ?_, ?_⟩
    · rw [e _ (by omega), ← h]
    · rw [e _ (by omega), ← h]
    · rw [e _ (by omega), ← h]
  · rw [List.getElem?_eq_none (by simpa using hj)] at h; cases h
theorem grp_len {E : List (Int × Int)} : (grp E).length = E.length / 3 := by simp [grp]
section
variable {g : GridT} {x y z : Int} {q j : Nat} {ks K : List Int} {ts : List (List Int)} {p1 p2 p3 : Int} {tu : Bool} {S : MshS}
theorem inQ_len : (inQ g x y z q).length = 4 := by unfold inQ; rw [List.length_map, cnQ_len]
theorem keys_at {i : Nat} {e : Int × Int} (h : (edQu g x y z q)[i]? = some e) : (keysQ g x y z q)[i]? = some (keyQ g x y z q e) := by unfold keysQ; rw [List.getElem?_map, h]; rfl
theorem ksA_3 (h1 : K[3 * j]? = some p1) (h2 : K[3 * j + 1]? = some p2) (h3 : K[3 * j + 2]? = some p3) : ksA ks K (3 * (j + 1)) = addK (addK (addK (ksA ks K (3 * j)) p1) p2) p3 := by
  rw [show 3 * (j + 1) = 3 * j + 1 + 1 + 1 by omega, ksA_succ h3, ksA_succ h2, ksA_succ h1]
theorem tri_3 (h1 : K[3 * j]? = some p1) (h2 : K[3 * j + 1]? = some p2) (h3 : K[3 * j + 2]? = some p3) :
    nA ks K (3 * j) = numK (addK (ksA ks K (3 * j)) p1) p1 ∧ nA ks K (3 * j + 1) = numK (addK (addK (ksA ks K (3 * j)) p1) p2) p2 ∧ nA ks K (3 * j + 2) = numK (addK (addK (addK (ksA ks K (3 * j)) p1) p2) p3) p3 := by
  refine ⟨nA_self h1, ?_, ?_⟩
  · rw [nA_self h2, ksA_succ h1]
  · rw [nA_self h3, ksA_succ h2, ksA_succ h1]
theorem tri_step (h1 : K[3 * j]? = some p1) (h2 : K[3 * j + 1]? = some p2) (h3 : K[3 * j + 2]? = some p3) {t : List Int}
    (ht : t = if tu then [numK (addK (ksA ks K (3 * j)) p1) p1, numK (addK (addK (addK (ksA ks K (3 * j)) p1) p2) p3) p3, numK (addK (addK (ksA ks K (3 * j)) p1) p2) p2] else [numK (addK (ksA ks K (3 * j)) p1) p1, numK (addK (addK (ksA ks K (3 * j)) p1) p2) p2, numK (addK (addK (addK (ksA ks K (3 * j)) p1) p2) p3) p3]) :
    ((addK (addK (addK (ksA ks K (3 * j)) p1) p2) p3, (ts ++ trsA ks K tu j) ++ [t]) : MshS) = (ksA ks K (3 * (j + 1)), ts ++ trsA ks K tu (j + 1)) := by
  obtain ⟨e1, e2, e3⟩ := tri_3 (ks := ks) h1 h2 h3
  rw [ksA_3 h1 h2 h3, List.append_assoc, ← trsA_succ, ht, ← e1, ← e2, ← e3]
  rfl
theorem okS.ksA (h : okS g ks) (hK : ∀ k ∈ K, 0 ≤ k ∧ k < 8 * g.vals.length) (i : Nat) : okS g (ksA ks K i) :=
  ⟨foldK_nodup h.1, fun q hq => (foldK_mem hq).elim (h.2 q) fun h => hK q (List.mem_of_mem_take h)⟩
theorem inQ_4 (_hq : q < 6) : ∃ b0 b1 b2 b3, inQ g x y z q = [b0, b1, b2, b3] := by
  obtain ⟨a, b, c, d, h⟩ : ∃ a b c d, cnQ q = [a, b, c, d] := by unfold cnQ; (repeat' split) <;> exact ⟨_, _, _, _, rfl⟩
  unfold inQ; rw [h]; exact ⟨_, _, _, _, rfl⟩
theorem edQu_ok (hq : q < 6) : (edQu g x y z q).length = 3 * ((edQu g x y z q).length / 3) ∧ (edQu g x y z q).length / 3 ≤ 2 ∧ ∀ e ∈ edQu g x y z q, (0 ≤ e.1 ∧ e.1 ≤ 3) ∧ (0 ≤ e.2 ∧ e.2 ≤ 3) ∧ e.1 ≠ e.2 := by
  obtain ⟨b0, b1, b2, b3, h⟩ := inQ_4 (g := g) (x := x) (y := y) (z := z) hq
  unfold edQu; rw [h]
  exact ⟨(edB_len b0 b1 b2 b3).1, (edB_len b0 b1 b2 b3).2, edB_ok b0 b1 b2 b3⟩
theorem keysQ_rng (hg : isGrid g = true) (hc : isCel g x y z = true) (h0 : 0 ≤ x ∧ 0 ≤ y ∧ 0 ≤ z) (hq : q < 6) : ∀ k ∈ keysQ g x y z q, 0 ≤ k ∧ k < 8 * g.vals.length := fun k hk => by
  obtain ⟨e, he, rfl⟩ := List.mem_map.1 hk
  obtain ⟨h1, h2, h3⟩ := (edQu_ok hq).2.2 e he
  obtain ⟨a, b, c, _⟩ := edge_ok g hq h1 h2 h3
  exact key_rng hg hc h0 ⟨a, b, c⟩
theorem keysQ_len : (keysQ g x y z q).length = (edQu g x y z q).length := by simp [keysQ]
theorem quaS_ok (hg : isGrid g = true) (hc : isCel g x y z = true) (h0 : 0 ≤ x ∧ 0 ≤ y ∧ 0 ≤ z) (hq : q < 6) (h : okS g S.1) : okS g (quaS g x y z q S).1 ∧ (quaS g x y z q S).2.length ≤ S.2.length + 2 := by
  refine ⟨h.ksA (keysQ_rng hg hc h0 hq) _, ?_⟩
  have := (edQu_ok (g := g) (x := x) (y := y) (z := z) hq).2.1
  show (S.2 ++ trsA _ _ _ _).length ≤ _
  rw [List.length_append, trsA, List.length_map, List.length_range, keysQ_len]; omega
def edOk (g : GridT) (C : List Int) (a b : Int) : Prop := 0 ≤ min (iAt C a.toNat) (iAt C b.toNat) ∧ min (iAt C a.toNat) (iAt C b.toNat) < max (iAt C a.toNat) (iAt C b.toNat) ∧ max (iAt C a.toNat) (iAt C b.toNat) ≤ 7 ∧
  offC g (min (iAt C a.toNat) (iAt C b.toNat)) + offC g (max (iAt C a.toNat) (iAt C b.toNat) - min (iAt C a.toNat) (iAt C b.toNat)) = offC g (max (iAt C a.toNat) (iAt C b.toNat))
def edKey (g : GridT) (x y z : Int) (C : List Int) (a b : Int) : Int := keyE g x y z (min (iAt C a.toNat) (iAt C b.toNat)) (max (iAt C a.toNat) (iAt C b.toNat))
theorem tri_all {C : List Int} {Bs : List Bool} {t : I6T} (hg : isGrid g = true) (hc : isCel g x y z = true) (h0 : 0 ≤ x ∧ 0 ≤ y ∧ 0 ≤ z) (hq : q < 6) (hB : Bs = inQ g x y z q) (hC : cnQ q = C) (h : (grp (edB Bs))[j]? = some t) (hok : okS g S.1) :
    j < 2 ∧ ((0 ≤ t.a ∧ t.a ≤ 3) ∧ (0 ≤ t.b ∧ t.b ≤ 3) ∧ (0 ≤ t.c ∧ t.c ≤ 3) ∧ (0 ≤ t.d ∧ t.d ≤ 3) ∧ (0 ≤ t.e ∧ t.e ≤ 3) ∧ (0 ≤ t.f ∧ t.f ≤ 3)) ∧ (edOk g C t.a t.b ∧ edOk g C t.c t.d ∧ edOk g C t.e t.f) ∧
    ((keysQ g x y z q)[3 * j]? = some (edKey g x y z C t.a t.b) ∧ (keysQ g x y z q)[3 * j + 1]? = some (edKey g x y z C t.c t.d) ∧ (keysQ g x y z q)[3 * j + 2]? = some (edKey g x y z C t.e t.f)) ∧
    ((0 ≤ edKey g x y z C t.a t.b ∧ edKey g x y z C t.a t.b < 8 * g.vals.length) ∧ (0 ≤ edKey g x y z C t.c t.d ∧ edKey g x y z C t.c t.d < 8 * g.vals.length) ∧ (0 ≤ edKey g x y z C t.e t.f ∧ edKey g x y z C t.e t.f < 8 * g.vals.length)) ∧ okS g (ksA S.1 (keysQ g x y z q) (3 * j)) := by
  subst hB hC
  obtain ⟨o1, o2, o3⟩ := edQu_ok (g := g) (x := x) (y := y) (z := z) hq
  obtain ⟨hj, e1, e2, e3⟩ := grp_at o1 h
  obtain ⟨a1, a2, a3⟩ := o3 _ (List.mem_of_getElem? e1)
  obtain ⟨b1, b2, b3⟩ := o3 _ (List.mem_of_getElem? e2)
  obtain ⟨c1, c2, c3⟩ := o3 _ (List.mem_of_getElem? e3)
  have k1 := keys_at e1; have k2 := keys_at e2; have k3 := keys_at e3
  have hR := keysQ_rng (q := q) hg hc h0 hq
  exact ⟨by omega, ⟨a1, a2, b1, b2, c1, c2⟩, ⟨edge_ok g hq a1 a2 a3, edge_ok g hq b1 b2 b3, edge_ok g hq c1 c2 c3⟩, ⟨k1, k2, k3⟩, ⟨hR _ (List.mem_of_getElem? k1), hR _ (List.mem_of_getElem? k2), hR _ (List.mem_of_getElem? k3)⟩, hok.ksA hR _⟩
theorem qua_start : S = (ksA S.1 K (3 * 0), S.2 ++ trsA S.1 K tu 0) := by simp [ksA, trsA]
theorem qua_end (hq : q < 6) (h : j = (grp (edB (inQ g x y z q))).length) : ((ksA S.1 (keysQ g x y z q) (3 * j), S.2 ++ trsA S.1 (keysQ g x y z q) (tuQ q) j) : MshS) = quaS g x y z q S := by
  have h1 := (edQu_ok (g := g) (x := x) (y := y) (z := z) hq).1
  rw [grp_len] at h
  have h2 : (keysQ g x y z q).length = 3 * j := by rw [keysQ_len, h]; exact h1
  unfold quaS; rw [h2, show 3 * j / 3 = j by omega]
theorem inQ_bs {b0 b1 b2 b3 : Bool} {c0 c1 c2 c3 : Int} (h : cnQ q = [c0, c1, c2, c3]) (h0 : b0 = negAt g (crnI g x y z c0)) (h1 : b1 = negAt g (crnI g x y z c1)) (h2 : b2 = negAt g (crnI g x y z c2)) (h3 : b3 = negAt g (crnI g x y z c3)) : [b0, b1, b2, b3] = inQ g x y z q := by
  unfold inQ; rw [h, h0, h1, h2, h3]; rfl
theorem negAt_of {k : Int} {e : Nat} (h : g.vals[k.toNat]? = some e) : negAt g k = negF e := by unfold negAt; rw [h]; rfl
theorem celS_ok (hg : isGrid g = true) (hc : isCel g x y z = true) (h0 : 0 ≤ x ∧ 0 ≤ y ∧ 0 ≤ z) (h : okS g S.1) : ∀ n, n ≤ 6 → okS g (celS g x y z S n).1 ∧ (celS g x y z S n).2.length ≤ S.2.length + 2 * n
  | 0, _ => ⟨h, Nat.le_refl _⟩
  | n + 1, hn => by
    have ih := celS_ok hg hc h0 h n (by omega)
    have := quaS_ok hg hc h0 (q := n) (by omega) ih.1
    exact ⟨this.1, by have := this.2; unfold celS; omega⟩
end
end Go.Proofs.Ytjopopmipdakkaa
