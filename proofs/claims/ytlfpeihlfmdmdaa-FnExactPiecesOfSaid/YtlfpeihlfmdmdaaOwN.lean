/- slices of one's own whose elements are slices of new rows -/
import Derived.Test.YtlfpeihlfmdmdaaNst
namespace Go.Proofs.Ytlfpeihlfmdmdaa
open Go Go.RowKit

/-- a slice whose row is of list L -/
def InS {α : Type} (R : Rel α) (k : Nat) (w : World) (L : List Nat) (y : Value) (x : List α) : Prop :=
  (y = .slice none 0 0 ∧ x = [] ∧ L = []) ∨ ∃ g cap, L = [g] ∧ y = .slice (some ⟨g, 0, none⟩) x.length cap ∧ RowG R k w g x ∧ x.length ≤ cap ∧ x.length ≤ 9223372036854775807
section
variable {α : Type} {R : Rel α} {k : Nat} {w u : World} {L M : List Nat} {y : Value} {x : List α}
theorem InS.kl (h : InS R k w L y x) (hR : Flat R) (z : KpL M w u) (hd : ∀ c ∈ L, c ∉ M) : InS R k u L y x := by
  rcases h with h | ⟨g, cap, rfl, hy, hr, hc⟩
  · exact .inl h
  · exact .inr ⟨g, cap, rfl, hy, hr.kl hR z (hd g (by simp)), hc⟩
theorem InS.same {B : Nat} (h : InS R k w L y x) (hR : Flat R) (z : Same B w u) (hB : ∀ c ∈ L, B ≤ c) : InS R k u L y x := by
  rcases h with h | ⟨g, cap, rfl, hy, hr, hc⟩
  · exact .inl h
  · exact .inr ⟨g, cap, rfl, hy, hr.same hR z (hB g (by simp)), hc⟩
theorem InS.lt (h : InS R k w L y x) : ∀ c ∈ L, c < w.heap.size := by
  rcases h with ⟨_, _, rfl⟩ | ⟨g, cap, rfl, _, hr, _⟩
  · exact fun _ hc => nomatch hc
  · intro c hc; rw [List.mem_singleton] at hc; rw [hc]; exact hr.lt
theorem InS.sl (h : InS R k w L y x) (hR : Flat R) (hk : 0 < k) : Sl R k w y x := by
  rcases h with ⟨rfl, rfl, _⟩ | ⟨g, cap, rfl, rfl, hr, hc, hn⟩
  · exact Sl_nil _ _ _
  · exact hr.sl hR rfl hc hn hk
theorem InS.wl {B : Nat} (h : InS R k w L y x) (hB : ∀ c ∈ L, B ≤ c) : WL k B w L y x.length := by
  rcases h with ⟨rfl, rfl, rfl⟩ | ⟨g, cap, rfl, rfl, hr, hc, _⟩
  · exact WL.nil _ _ _
  · exact hr.wl rfl (hB g (by simp)) hc
theorem InS.of_wl {B n : Nat} (h : WL k B w L y n) (hs : Sl R k w y x) (hx : x.length = n) : InS R k w L y x := by
  subst hx
  have hm := hs.1
  obtain ⟨p, q, rfl⟩ : ∃ p q, y = .slice p x.length q := hs.shape
  rcases Nat.eq_zero_or_pos x.length with h0 | h0
  · obtain ⟨hL, ⟨hv, _, rfl⟩ | ⟨g, cap, cs, rfl, hv, hb, hl, hc⟩⟩ := h
    · have : x = [] := List.eq_nil_of_length_eq_zero h0
      subst this; exact .inl ⟨hv, rfl, rfl⟩
    · have : x = [] := List.eq_nil_of_length_eq_zero h0
      subst this
      exact .inr ⟨g, cap, rfl, hv, ⟨cs, hb, by simp, fun i z hi => by simp at hi⟩, hc, by simp⟩
  · obtain ⟨g, rfl, rfl, hr, hq, _⟩ := WL.rowg h hs h0
    exact .inr ⟨g, q, rfl, rfl, hr, hq, hm⟩
end
/-- a slice of one's own: its elements are slices whose rows lie apart from its own row and from each other, from block C on -/
def OwnN {α : Type} (R : Rel α) (k : Nat) (e : TypeId) (C g0 B : Nat) (w : World) (v : Value) (xs : List (List α)) : Prop :=
  ∃ (vs : List Value) (Ls : Nat → List Nat), Own RVl 1 e g0 B w v vs ∧ vs.length = xs.length ∧ (∀ i, ∀ c ∈ Ls i, i < vs.length ∧ C ≤ c ∧ c < w.heap.size ∧ v.ownBlock ≠ some c) ∧ (∀ i j, i ≠ j → ∀ c ∈ Ls i, c ∉ Ls j) ∧
    ∀ (i : Nat) (y : Value) (x : List α), vs[i]? = some y → xs[i]? = some x → InS R k w (Ls i) y x
section
variable {α : Type} {R : Rel α} {k C g0 B : Nat} {e : TypeId} {w u : World} {v : Value} {xs : List (List α)}
theorem OwnN.of_nil (h : Own RVl 1 e g0 B w v []) : OwnN R k e C g0 B w v [] :=
  ⟨[], fun _ => [], h, rfl, fun _ c hc => (nomatch hc), fun _ _ _ c hc => (nomatch hc), fun i y x hy => by simp at hy⟩
theorem OwnN.ext (h : OwnN R k e C g0 B w v xs) (hR : Flat R) (z : Ext w u) : OwnN R k e C g0 B u v xs := by
  obtain ⟨vs, Ls, ho, hl, hL, hd, hi⟩ := h
  exact ⟨vs, Ls, ho.ext RVl.flat z, hl, fun i c hc => by have := hL i c hc; exact ⟨this.1, this.2.1, Nat.lt_of_lt_of_le this.2.2.1 z.size, this.2.2.2⟩, hd, fun i y x hy hx => (hi i y x hy hx).kl hR (KpL.of_ext (L := []) z) (fun c _ => by simp)⟩
theorem OwnN.kl {M : List Nat} (h : OwnN R k e C g0 B w v xs) (hR : Flat R) (z : KpL M w u) (hM : ∀ c ∈ M, c ≠ g0 ∧ (c < B ∨ w.heap.size ≤ c)) (hC : ∀ c ∈ M, c < C ∨ w.heap.size ≤ c) : OwnN R k e C g0 B u v xs := by
  obtain ⟨vs, Ls, ho, hl, hL, hd, hi⟩ := h
  refine ⟨vs, Ls, ho.kl RVl.flat z hM, hl, fun i c hc => ?_, hd, fun i y x hy hx => (hi i y x hy hx).kl hR z fun c hc hm => ?_⟩
  · have := hL i c hc; exact ⟨this.1, this.2.1, Nat.lt_of_lt_of_le this.2.2.1 z.size, this.2.2.2⟩
  · have h1 := hL i c hc; have h2 := hC c hm; omega
theorem OwnN.hang {D : Nat} (h : OwnN R k e C g0 B w v xs) (hR : Flat R) (hk : 0 < k) (h0 : D ≤ g0) (hB : D ≤ B) (hC : D ≤ C) : Hang D w (fun u => Sl (RS R k) 1 u v xs) := fun u hu => by
  obtain ⟨vs, Ls, ho, hl, hL, hd, hi⟩ := h
  obtain ⟨hm, p, c, rfl, hs⟩ := ho.hang RVl.flat (by decide) h0 hB u hu
  refine ⟨by omega, p, c, by rw [hl], fun i x hx => ?_⟩
  have hil := (List.getElem?_eq_some_iff.1 hx).1
  have hy : vs[i]? = some (vs[i]'(by omega)) := List.getElem?_eq_getElem _
  obtain ⟨b, off, cs, hp, hc, hr, hkk, h0', hcap⟩ := hs i _ hy
  have hin := (hi i _ _ hy hx).same hR hu (fun c hc => Nat.le_trans hC (hL i c hc).2.1)
  exact ⟨b, off, cs, hp, hc, ⟨_, hr, hin.sl hR hk⟩, hkk, h0', hcap⟩
theorem OwnN.wll {D : Nat} (h : OwnN R k e C g0 B w v xs) (h0 : D ≤ g0) (hB : D ≤ B) (hC : D ≤ C) : ∃ L, WLL k D w L v xs ∧ ∀ c ∈ L, C ≤ c := by
  have hm : xs.length ≤ 9223372036854775807 := by
    obtain ⟨vs, Ls, ho, hl, _⟩ := h
    rw [← hl]; exact (ho.sl (by decide)).1
  obtain ⟨vs, Ls, ⟨rows, hr, hg, hx⟩, hl, hL, hd, hi⟩ := h
  refine ⟨(List.range vs.length).flatMap Ls, ⟨fun c hc => ?_, vs, Ls, ?_, hl, hm, fun i c hc => List.mem_flatMap.2 ⟨i, List.mem_range.2 (hL i c hc).1, hc⟩, hd, fun i y x hy hx' => ((hi i y x hy hx').wl fun c hc => Nat.le_trans hC (hL i c hc).2.1)⟩, fun c hc => ?_⟩
  · obtain ⟨i, _, hi'⟩ := List.mem_flatMap.1 hc
    have := hL i c hi'; omega
  · rcases hr.2 with ⟨rfl, hn⟩ | ⟨g, cap, cur, rfl, hb, hgg, hnc, hcm, hsz, ht⟩
    · exact .inl ⟨rfl, List.eq_nil_of_length_eq_zero hn⟩
    · refine .inr ⟨g, cap, cur.toList, rfl, ⟨e, by simpa using hgg⟩, hnc, fun i x hi' => ?_, by rcases hg g rfl with h | h <;> omega, fun hc => ?_⟩
      · have h1 := hx i x hi'
        have hlt := (List.getElem?_eq_some_iff.1 hi').1
        have h2 : ((rows.drop (i * 1)).take 1)[0]? = some x := by rw [h1]; rfl
        rw [List.getElem?_take, if_pos (by decide), List.getElem?_drop, Nat.mul_one, Nat.add_zero] at h2
        rw [← ht, List.getElem?_take] at h2
        split at h2
        · exact h2
        · cases h2
      · obtain ⟨i, _, hi'⟩ := List.mem_flatMap.1 hc
        exact (hL i g hi').2.2.2 rfl
  · obtain ⟨i, _, hi'⟩ := List.mem_flatMap.1 hc
    exact (hL i c hi').2.1
theorem OwnN.nil : OwnN R k e C g0 B w (.slice none 0 0) [] := OwnN.of_nil Own.nil
theorem OwnN.reC {C' : Nat} (h : OwnN R k e C g0 B w v []) : OwnN R k e C' g0 B w v [] := by
  obtain ⟨vs, Ls, ho, hl, _⟩ := h
  have : vs = [] := List.eq_nil_of_length_eq_zero hl
  subst this; exact OwnN.of_nil ho
theorem OwnN.shape (h : OwnN R k e C g0 B w v xs) : ∃ p c, v = .slice p xs.length c := by
  obtain ⟨vs, Ls, ho, hl, _⟩ := h
  obtain ⟨p, c, rfl⟩ := ho.shape
  exact ⟨p, c, by rw [hl]⟩
theorem OwnN.same {D : Nat} (h : OwnN R k e C g0 B w v xs) (hR : Flat R) (z : Same D w u) (h0 : D ≤ g0) (hB : D ≤ B) (hC : D ≤ C) : OwnN R k e C g0 B u v xs := by
  obtain ⟨vs, Ls, ho, hl, hL, hd, hi⟩ := h
  exact ⟨vs, Ls, ho.same RVl.flat z h0 hB, hl, fun i c hc => by have := hL i c hc; exact ⟨this.1, this.2.1, Nat.lt_of_lt_of_le this.2.2.1 z.size, this.2.2.2⟩, hd, fun i y x hy hx => (hi i y x hy hx).same hR z fun c hc => Nat.le_trans hC (hL i c hc).2.1⟩
theorem OwnN.sl (h : OwnN R k e C g0 B w v xs) (hR : Flat R) (hk : 0 < k) : Sl (RS R k) 1 w v xs := (h.hang (D := 0) hR hk (Nat.zero_le _) (Nat.zero_le _) (Nat.zero_le _)).get
theorem OwnN.back {g1 B1 : Nat} (h : OwnN R k e C g1 B1 w v xs) (h1 : g1 = g0 ∨ B ≤ g1) (hB : B ≤ B1) : OwnN R k e C g0 B w v xs := by
  obtain ⟨vs, Ls, ho, r⟩ := h
  exact ⟨vs, Ls, ho.back h1 hB, r⟩
theorem OwnN.cast {ys : List (List α)} (h : OwnN R k e C g0 B w v xs) (he : xs = ys) : OwnN R k e C g0 B w v ys := he ▸ h
end
/-! ### an own slice, its row named: block g1, if it has one -/
section
variable {α : Type} {R : Rel α} {k C g0 g1 B : Nat} {e : TypeId} {w u : World} {v : Value} {xs : List α} {xss : List (List α)}
theorem Own.startA {w1 : World} (h : Own R k e g0 B w1 v xs) (h' : Own R k e g0 B w v xs) : ∃ g1, (g1 = g0 ∨ B ≤ g1) ∧ (g1 = g0 ∨ g1 < w1.heap.size) ∧ ∀ B, Own R k e g1 B w v xs := by
  obtain ⟨rows, hr, hg, hx⟩ := h'
  cases hv : v.ownBlock with
  | none => exact ⟨g0, .inl rfl, .inl rfl, fun B => ⟨rows, hr, by simp [hv], hx⟩⟩
  | some g =>
    obtain ⟨_, hr1, _, _⟩ := h
    refine ⟨g, hg g hv, .inr (hr1.lt g hv).2, fun B => ⟨rows, hr, fun g' h' => ?_, hx⟩⟩
    rw [hv] at h'; cases h'; exact .inl rfl
theorem OwnN.startA {w1 : World} (h : OwnN R k e C g0 B w1 v xss) (h' : OwnN R k e C g0 B w v xss) : ∃ g1, (g1 = g0 ∨ B ≤ g1) ∧ (g1 = g0 ∨ g1 < w1.heap.size) ∧ ∀ B, OwnN R k e C g1 B w v xss := by
  obtain ⟨vs1, _, h1, _⟩ := h
  obtain ⟨vs, Ls, ho, r⟩ := h'
  obtain ⟨rows, hr, hg, hx⟩ := ho
  cases hv : v.ownBlock with
  | none => exact ⟨g0, .inl rfl, .inl rfl, fun B => ⟨vs, Ls, ⟨rows, hr, by simp [hv], hx⟩, r⟩⟩
  | some g =>
    obtain ⟨_, hr1, _, _⟩ := h1
    refine ⟨g, hg g hv, .inr (hr1.lt g hv).2, fun B => ⟨vs, Ls, ⟨rows, hr, fun g' h' => ?_, hx⟩, r⟩⟩
    rw [hv] at h'; cases h'; exact .inl rfl
theorem OwnN.start' {w1 : World} (h : OwnN R k e C g0 B w1 v xss) (h' : OwnN R k e C g0 B w v xss) : ∃ g1, (g1 = g0 ∨ B ≤ g1) ∧ (g1 = g0 ∨ g1 < w1.heap.size) ∧ OwnN R k e C g1 w.heap.size w v xss := by
  obtain ⟨g1, a, b, c⟩ := OwnN.startA h h'
  exact ⟨g1, a, b, c _⟩
theorem lt_some (L : List Nat) : ∃ N, ∀ c ∈ L, c < N := by
  induction L with
  | nil => exact ⟨0, fun _ hc => nomatch hc⟩
  | cons a l ih =>
    obtain ⟨N, hN⟩ := ih
    refine ⟨N + a + 1, fun c hc => ?_⟩
    rcases List.mem_cons.1 hc with h | h
    · omega
    · have := hN c h; omega
theorem Own.klA {L : List Nat} (h : ∀ B, Own R k e g1 B w v xs) (hR : Flat R) (x : KpL L w u) (hL : g1 ∉ L) : ∀ B, Own R k e g1 B u v xs := fun B => by
  obtain ⟨N, hN⟩ : ∃ N, ∀ c ∈ L, c < N := lt_some L
  obtain ⟨rows, hr, hg, hx⟩ := (h N).kl hR x fun c hc => ⟨fun e => hL (e ▸ hc), .inl (hN c hc)⟩
  obtain ⟨rows0, hr0, hg0, hx0⟩ := h (u.heap.size + 1)
  refine ⟨rows, hr, fun g hg' => ?_, hx⟩
  rcases hg0 g hg' with h1 | h1
  · exact .inl h1
  · have := (hr.lt g hg').2; omega
theorem Own.leB {B1 : Nat} (h : Own R k e g1 B1 w v xs) (hB : B ≤ B1) : Own R k e g1 B w v xs := h.back (.inl rfl) hB
theorem KpL.new {L : List Nat} {g : Nat} (h : KpL [g] w u) (hg : g ∈ L ∨ w.heap.size ≤ g) : KpL L w u :=
  ⟨h.os, h.tape, h.output, h.size, fun i hi hn => h.other i hi fun hm => by
    rw [List.mem_singleton] at hm
    rcases hg with h' | h'
    · exact hn (hm ▸ h')
    · omega⟩
end
section
variable {P : Program} {a : Act} {w : World} {dst : Option Tmp} {ty : TypeId} {pos : String} {af : Array Edge} {g : Option (Nat × Bool)}
theorem does_appendN {α : Type} {R : Rel α} {k C g0 B b c : Nat} {e : TypeId} {v z y : Value} {xs : List (List α)} {x : List α} {t : TypeId} {p q : Operand} {L : List Nat} {w0 : World} (ht : P.underlying t = some (.slice e))
    (hi : ∃ i, P.info? e = some i ∧ i.zero = some z ∧ i.size = 1 ∧ i.bytes ≤ 1000) (hz : z.cells.size = 1) (hx : a.eval p = v) (hy : a.eval q = .slice (some ⟨b, 0, none⟩) 1 c) (ho : OwnN R k e C g0 B w0 v xs) (hR : Flat R) (hE : Ext w0 w) (hb : Blk w b [y])
    (h1 : y.oneCell' = true) (hin : InS R k w L y x) (hL : ∀ c ∈ L, w0.heap.size ≤ c) (hC : C ≤ w0.heap.size) (hlen : xs.length ≤ 99999999999) (hB : B ≤ w.heap.size) :
    does P ⟨dst, .call { callee := .builtin .append, args := #[p, q], argTypes := #[t, t] }, ty, pos, af, g⟩ a w (fun v' w' => ∃ g, (g = g0 ∨ B ≤ g) ∧ KpL [g] w w' ∧ OwnN R k e C g0 B w' v' (xs ++ [x])) := by
  obtain ⟨vs, Ls, hOw, hl, hL0, hd, hi0⟩ := ho
  have hown0 : ∀ q, v.ownBlock = some q → q < w0.heap.size := fun q hq => by obtain ⟨rows0, hr0, _⟩ := hOw; exact (hr0.lt q hq).2
  have hLs : ∀ i, ∀ c ∈ Ls i, i < vs.length ∧ C ≤ c ∧ c < w.heap.size ∧ v.ownBlock ≠ some c := fun i c hc => by have := hL0 i c hc; exact ⟨this.1, this.2.1, Nat.lt_of_lt_of_le this.2.2.1 hE.size, this.2.2.2⟩
  have his : ∀ (i : Nat) (y : Value) (x : List α), vs[i]? = some y → xs[i]? = some x → InS R k w (Ls i) y x := fun i y x hy hx => (hi0 i y x hy hx).kl hR (KpL.of_ext (L := []) hE) (fun c _ => by simp)
  obtain ⟨rows, hr, hg, hrx⟩ := hOw.ext RVl.flat hE
  obtain ⟨i, hi, hz', hs, hby⟩ := hi
  have hnews : ∀ j u, [y][j]? = some u → w.cell? ((⟨b, 0, none⟩ : Addr).add j) = some u := fun j u hu => by
    rw [Addr.add_lit]; exact hb.cells j u hu
  have hbytes : (vs.length + 1) * i.bytes ≤ 140737488355328 := Nat.le_trans (Nat.mul_le_mul (show vs.length + 1 ≤ 100000000000 by omega) hby) (by decide)
  obtain ⟨v', w', hrun, hown, hgr, _, hblk⟩ := run_append_own_at w 0 t ty e i z 1 i.bytes ht hi hz' hs rfl hz (by decide) v vs.length rows hr ⟨b, 0, none⟩ 1 c [y] rfl hnews (fun u hu => by rw [List.mem_singleton] at hu; rw [hu]; exact h1) (by simp only [maxLen]; omega) hbytes (Nat.zero_le _)
  refine (does_run (u := v') (w' := w') ?_).mono fun v1 w1 ⟨h3, h4⟩ => ?_
  · unfold execOp
    simp only [resolve, invoke, builtin, Sem.run_bind, Sem.run_pure, Result.andThen_ok, List.map_toArray, List.map_cons, List.map_nil, hx, hy, hrun]
  · subst h3 h4
    have hK : KpL [v.ownBlock.getD w.heap.size] w w1 := ⟨hgr.os, hgr.tape, hgr.output, hgr.size, fun q hq hne => hgr.block q hq fun h => hne (by rw [← h]; simp)⟩
    have hnot : ∀ c, c < w.heap.size → v.ownBlock ≠ some c → c ∉ [v.ownBlock.getD w.heap.size] := fun c hc hne hm => by
      rw [List.mem_singleton] at hm
      cases hv : v.ownBlock with
      | none => rw [hv] at hm; simp at hm; omega
      | some q => rw [hv] at hm hne; simp at hm hne; exact hne hm.symm
    have hLn : ∀ c ∈ L, c < w.heap.size ∧ v.ownBlock ≠ some c := fun c hc => ⟨hin.lt c hc, fun h => by have := hown0 c h; have := hL c hc; omega⟩
    have hp : ∀ g, v1.ownBlock = some g → g = g0 ∨ B ≤ g := fun g' hg' => by
      rcases hblk with h | h
      · exact hg g' (by rw [← h, hg'])
      · rw [h] at hg'; cases hg'; exact .inr hB
    have hne1 : ∀ c, c < w.heap.size → v.ownBlock ≠ some c → v1.ownBlock ≠ some c := fun c hc hne h => by
      rcases hblk with h' | h'
      · exact hne (by rw [← h', h])
      · rw [h'] at h; cases h; omega
    refine ⟨v.ownBlock.getD w.heap.size, ?_, hK, vs ++ [y], fun i => if i = vs.length then L else Ls i, ⟨rows ++ [y], by rw [List.length_append]; exact hown, hp, fun i u hi => ?_⟩, by simp [hl], fun i c hc => ?_, fun i j hij c hc => ?_, fun i u z hu hz => ?_⟩
    · cases hv : v.ownBlock with
      | none => exact .inr hB
      | some q => exact hg q hv
    · have hrl : rows.length = vs.length := by have := hr.1; omega
      rcases Nat.lt_or_ge i vs.length with h | h
      · rw [List.getElem?_append_left h] at hi
        have h2 := hrx i u hi
        rw [List.drop_append_of_le_length (by omega), List.take_append_of_le_length (by simp; omega)]
        exact h2
      · rw [List.getElem?_append_right h] at hi
        have hi0 : i = vs.length := by
          have := (List.getElem?_eq_some_iff.1 hi).1
          simp at this; omega
        subst hi0
        simp at hi
        subst hi
        rw [Nat.mul_one, ← hrl, List.drop_left]; rfl
    · dsimp only at hc
      have hsz := hgr.size
      split at hc
      · have h1 := hLn c hc
        have h2 := hL c hc
        rename_i hiv
        exact ⟨by simp; omega, by omega, by omega, hne1 c h1.1 h1.2⟩
      · have h1 := hLs i c hc
        exact ⟨by simp; omega, h1.2.1, by omega, hne1 c h1.2.2.1 h1.2.2.2⟩
    · dsimp only at hc ⊢
      split at hc
      · rename_i hiv
        rw [if_neg (fun h => hij (by rw [hiv, h]))]
        intro h'
        have h1 := hL c hc; have h2 := hL0 j c h'; omega
      · split
        · intro h'
          have h1 := hL c h'; have h2 := hL0 i c hc; omega
        · exact hd i j hij c hc
    · dsimp only
      have hil := (List.getElem?_eq_some_iff.1 hz).1
      rcases Nat.lt_or_ge i vs.length with h | h
      · rw [List.getElem?_append_left h] at hu
        rw [List.getElem?_append_left (by omega)] at hz
        rw [if_neg (by omega)]
        exact (his i u z hu hz).kl hR hK fun c hc => hnot c (hLs i c hc).2.2.1 (hLs i c hc).2.2.2
      · simp at hil
        obtain rfl : i = vs.length := by omega
        rw [List.getElem?_append_right (Nat.le_refl _)] at hu
        rw [List.getElem?_append_right (by omega)] at hz
        simp [← hl] at hu hz
        subst hu hz
        rw [if_pos rfl]
        exact hin.kl hR hK fun c hc => hnot c (hLn c hc).1 (hLn c hc).2
/-- append of nothing -/
theorem run_append0 {P : Program} {w : World} {k t ty e n c : Nat} {i : TypeInfo} {v : Value} {p : Option Addr} {rows : List Value} (ht : P.underlying t = some (.slice e)) (hi : P.info? e = some i) (_hs : i.size = k) (ho : w.ownsRow 0 e k v n rows) :
    (Builtin.append_ #[t, t] ty #[v, .slice p 0 c]).run P w = .ok v w := by
  rcases ho.2 with ⟨rfl, rfl⟩ | ⟨g, cap, cur, rfl, hbg, hg, hnc, hcm, hcs, htake⟩
  · cases p <;> simp [Builtin.append_, run_underlying ht, sizeOf, typeInfo, hi, Builtin.lenOf, Builtin.firstCells, loadCells, loadCellsFrom]
  · cases p <;> simp [Builtin.append_, run_underlying ht, sizeOf, typeInfo, hi, Builtin.lenOf, Builtin.firstCells, loadCells, loadCellsFrom, hnc, storeCells]
theorem does_append0 {k c : Nat} {e : TypeId} {v : Value} {xs : List Value} {t n : Nat} {x y : Operand} {p : Option Addr} (ht : P.underlying t = some (.slice e)) (hi : ∃ i, P.info? e = some i ∧ i.size = k)
    (hx : a.eval x = v) (hy : a.eval y = .slice p 0 c) (ho : w.ownsRow 0 e k v n xs) :
    does P ⟨dst, .call { callee := .builtin .append, args := #[x, y], argTypes := #[t, t] }, ty, pos, af, g⟩ a w (Is v w) := by
  obtain ⟨i, hi, hs⟩ := hi
  refine does_run ?_
  unfold execOp
  simp only [resolve, invoke, builtin, Sem.run_bind, Sem.run_pure, Result.andThen_ok, List.map_toArray, List.map_cons, List.map_nil, hx, hy, run_append0 ht hi hs ho]
/-- append of a slice that is read, an empty one too -/
theorem does_appendS' {α : Type} {R : Rel α} {k g0 B m c : Nat} {e : TypeId} {v z : Value} {xs ys : List α} {p : Option Addr} {t : TypeId} {x y : Operand} (ht : P.underlying t = some (.slice e))
    (hi : ∃ i, P.info? e = some i ∧ i.zero = some z ∧ i.size = k ∧ i.bytes ≤ 1000) (hz : z.cells.size = k) (hk : 0 < k) (hone : ∀ w x cs, R w x cs → cs.all Value.oneCell' = true) (hx : a.eval x = v) (hy : a.eval y = .slice p m c) (ho : Own R k e g0 B w v xs) (hR : Flat R) (hs : Sl R k w (.slice p m c) ys)
    (hlen : xs.length + m ≤ 100000000000) (hB : B ≤ w.heap.size) :
    does P ⟨dst, .call { callee := .builtin .append, args := #[x, y], argTypes := #[t, t] }, ty, pos, af, g⟩ a w (fun v' w' => ∃ g, (g = g0 ∨ B ≤ g) ∧ KpL [g] w w' ∧ Own R k e g0 B w' v' (xs ++ ys)) := by
  rcases Nat.eq_zero_or_pos ys.length with h0 | h0
  · have hl : ys.length = m := hs.cap.1
    obtain rfl : m = 0 := by omega
    have : ys = [] := List.eq_nil_of_length_eq_zero h0
    subst this
    obtain ⟨i, hi, _, hsz, _⟩ := hi
    obtain ⟨rows, hr, rest⟩ := id ho
    exact (does_append0 ht ⟨i, hi, hsz⟩ hx hy hr).mono fun v' w' ⟨h1, h2⟩ => by subst h1 h2; exact ⟨g0, .inl rfl, KpL.refl _ _, by rw [List.append_nil]; exact ho⟩
  · exact does_appendS ht hi hz hk hone hx hy ho hR hs h0 hlen hB
/-- .. in a region whose order is drawn: block g1 alone is written, of those that there are -/
theorem does_appendA {α : Type} {R : Rel α} {k g1 N0 b m c : Nat} {e : TypeId} {v z : Value} {xs ys : List α} {t : TypeId} {x y : Operand} {cs : List Value} (ht : P.underlying t = some (.slice e))
    (hi : ∃ i, P.info? e = some i ∧ i.zero = some z ∧ i.size = k ∧ i.bytes ≤ 1000) (hz : z.cells.size = k) (hk : 0 < k) (hx : a.eval x = v) (hy : a.eval y = .slice (some ⟨b, 0, none⟩) m c) (ho : ∀ B, Own R k e g1 B w v xs) (hR : Flat R) (hb : Blk w b cs)
    (hm : ys.length = m) (hl : cs.length = m * k) (h1 : cs.all Value.oneCell' = true) (hys : ∀ i x, ys[i]? = some x → R w x ((cs.drop (i * k)).take k)) (hlen : xs.length + m ≤ 100000000000) (hB : N0 ≤ w.heap.size) :
    does P ⟨dst, .call { callee := .builtin .append, args := #[x, y], argTypes := #[t, t] }, ty, pos, af, g⟩ a w (fun v' w' => KpL [g1] w w' ∧ Own R k e g1 N0 w' v' (xs ++ ys)) :=
  (does_append ht hi hz hk hx hy (ho w.heap.size) hR hb hm hl h1 hys hlen (Nat.le_refl _)).mono fun v' w' ⟨g, hg, hK, hO⟩ => ⟨hK.new (hg.imp (fun h => by simp [h]) id), hO.leB hB⟩
theorem does_appendSA {α : Type} {R : Rel α} {k g1 N0 m c : Nat} {e : TypeId} {v z : Value} {xs ys : List α} {t : TypeId} {x y : Operand} {p : Option Addr} (ht : P.underlying t = some (.slice e))
    (hi : ∃ i, P.info? e = some i ∧ i.zero = some z ∧ i.size = k ∧ i.bytes ≤ 1000) (hz : z.cells.size = k) (hk : 0 < k) (hone : ∀ w x cs, R w x cs → cs.all Value.oneCell' = true) (hx : a.eval x = v) (hy : a.eval y = .slice p m c) (ho : ∀ B, Own R k e g1 B w v xs) (hR : Flat R) (hb : Sl R k w (.slice p m c) ys)
    (hlen : xs.length + m ≤ 100000000000) (hB : N0 ≤ w.heap.size) :
    does P ⟨dst, .call { callee := .builtin .append, args := #[x, y], argTypes := #[t, t] }, ty, pos, af, g⟩ a w (fun v' w' => KpL [g1] w w' ∧ Own R k e g1 N0 w' v' (xs ++ ys)) := by
  exact (does_appendS' ht hi hz hk hone hx hy (ho w.heap.size) hR hb hlen (Nat.le_refl _)).mono fun v' w' ⟨g, hg, hK, hO⟩ => ⟨hK.new (hg.imp (fun h => by simp [h]) id), hO.leB hB⟩
theorem does_appendNA {α : Type} {R : Rel α} {k C g1 b c : Nat} {e : TypeId} {v z y : Value} {xs : List (List α)} {x : List α} {t : TypeId} {p q : Operand} {L : List Nat} {w0 : World} (ht : P.underlying t = some (.slice e))
    (hi : ∃ i, P.info? e = some i ∧ i.zero = some z ∧ i.size = 1 ∧ i.bytes ≤ 1000) (hz : z.cells.size = 1) (hx : a.eval p = v) (hy : a.eval q = .slice (some ⟨b, 0, none⟩) 1 c) (ho : ∀ B, OwnN R k e C g1 B w0 v xs) (hR : Flat R) (hE : Ext w0 w) (hb : Blk w b [y])
    (hw : WL k w0.heap.size w L y x.length) (hs : Sl R k w y x) (hC : C ≤ w0.heap.size) (hlen : xs.length ≤ 99999999999) :
    does P ⟨dst, .call { callee := .builtin .append, args := #[p, q], argTypes := #[t, t] }, ty, pos, af, g⟩ a w (fun v' w' => KpL [g1] w w' ∧ OwnN R k e C g1 w0.heap.size w' v' (xs ++ [x])) :=
  (does_appendN ht hi hz hx hy (ho w.heap.size) hR hE hb (by obtain ⟨p, q, rfl⟩ := hs.shape; rfl) (InS.of_wl hw hs rfl) (fun c hc => (hw.1 c hc).1) hC hlen (Nat.le_refl _)).mono fun v' w' ⟨g, hg, hK, hO⟩ => ⟨hK.new (hg.imp (fun h => by simp [h]) id), hO.back (.inl rfl) hE.size⟩
end
end Go.Proofs.Ytlfpeihlfmdmdaa
