/- slices of one's own whose elements are slices of new rows -/
import Derived.Test.YtjopopmipdakkaaNst
namespace Go.Proofs.Ytjopopmipdakkaa
open Go Go.RowKit
def InS {α : Type} (R : Rel α) (k : Nat) (w : World) (L : List Nat) (y : Value) (x : List α) : Prop :=
  (y = .slice none 0 0 ∧ x = [] ∧ L = []) ∨ ∃ g cap, L = [g] ∧ y = .slice (some ⟨g, 0, none⟩) x.length cap ∧ RowG R k w g x ∧ x.length ≤ cap ∧ x.length ≤ 9223372036854775807
section
variable {α : Type} {R : Rel α} {k : Nat} {w u : World} {L M : List Nat} {y : Value} {x : List α}
theorem InS.kl (h : InS R k w L y x) (hR : Flat R) (z : KpL M w u) (hd : ∀ c ∈ L, c ∉ M) : InS R k u L y x := by
  rcases h with h | ⟨g, cap, rfl, hy, hr, hc⟩
  · exact .inl h
  · exact .inr ⟨g, cap, rfl, hy, hr.kl hR z (hd g (by simp)), hc⟩
theorem InS.same {B : Nat} (h : InS R k w L y x) (hR : Flat R) (z : Same B w u) (hB : ∀ c ∈ L, B ≤ c) : InS R k u L y x := by
  rcases h with h | ⟨g, cap, rfl, hy, hr, hc⟩
  · exact .inl h
  · exact .inr ⟨g, cap, rfl, hy, hr.same hR z (hB g (by simp)), hc⟩
theorem InS.lt (h : InS R k w L y x) : ∀ c ∈ L, c < w.heap.size := by
  rcases h with ⟨_, _, rfl⟩ | ⟨g, cap, rfl, _, hr, _⟩
  · exact fun _ hc => nomatch hc
  · intro c hc; rw [List.mem_singleton] at hc; rw [hc]; exact hr.lt
theorem InS.sl (h : InS R k w L y x) (hR : Flat R) (hk : 0 < k) : Sl R k w y x := by
  rcases h with ⟨rfl, rfl, _⟩ | ⟨g, cap, rfl, rfl, hr, hc, hn⟩
  · exact Sl_nil _ _ _
  · exact hr.sl hR rfl hc hn hk
theorem InS.wl {B : Nat} (h : InS R k w L y x) (hB : ∀ c ∈ L, B ≤ c) : WL k B w L y x.length := by
  rcases h with ⟨rfl, rfl, rfl⟩ | ⟨g, cap, rfl, rfl, hr, hc, _⟩
  · exact WL.nil _ _ _
  · exact hr.wl rfl (hB g (by simp)) hc
end
def OwnN {α : Type} (R : Rel α) (k : Nat) (e : TypeId) (C g0 B : Nat) (w : World) (v : Value) (xs : List (List α)) : Prop :=
  ∃ (vs : List Value) (Ls : Nat → List Nat), Own RVl 1 e g0 B w v vs ∧ vs.length = xs.length ∧ (∀ i, ∀ c ∈ Ls i, i < vs.length ∧ C ≤ c ∧ c < w.heap.size ∧ v.ownBlock ≠ some c) ∧ (∀ i j, i ≠ j → ∀ c ∈ Ls i, c ∉ Ls j) ∧
    ∀ (i : Nat) (y : Value) (x : List α), vs[i]? = some y → xs[i]? = some x → InS R k w (Ls i) y x
section
variable {α : Type} {R : Rel α} {k C g0 B : Nat} {e : TypeId} {w u : World} {v : Value} {xs : List (List α)}
theorem OwnN.of_nil (h : Own RVl 1 e g0 B w v []) : OwnN R k e C g0 B w v [] :=
  ⟨[], fun _ => [], h, rfl, fun _ c hc => (nomatch hc), fun _ _ _ c hc => (nomatch hc), fun i y x hy => by simp at hy⟩
theorem OwnN.hang {D : Nat} (h : OwnN R k e C g0 B w v xs) (hR : Flat R) (hk : 0 < k) (h0 : D ≤ g0) (hB : D ≤ B) (hC : D ≤ C) : Hang D w (fun u => Sl (RS R k) 1 u v xs) := fun u hu => by
  obtain ⟨vs, Ls, ho, hl, hL, hd, hi⟩ := h
  obtain ⟨hm, p, c, rfl, hs⟩ := ho.hang RVl.flat (by decide) h0 hB u hu
  refine ⟨by omega, p, c, by rw [hl], fun i x hx => ?_⟩
  have hil := (List.getElem?_eq_some_iff.1 hx).1
  have hy : vs[i]? = some (vs[i]'(by omega)) := List.getElem?_eq_getElem _
  obtain ⟨b, off, cs, hp, hc, hr, hkk, h0', hcap⟩ := hs i _ hy
  have hin := (hi i _ _ hy hx).same hR hu (fun c hc => Nat.le_trans hC (hL i c hc).2.1)
  exact ⟨b, off, cs, hp, hc, ⟨_, hr, hin.sl hR hk⟩, hkk, h0', hcap⟩
theorem OwnN.same {D : Nat} (h : OwnN R k e C g0 B w v xs) (hR : Flat R) (z : Same D w u) (h0 : D ≤ g0) (hB : D ≤ B) (hC : D ≤ C) : OwnN R k e C g0 B u v xs := by
  obtain ⟨vs, Ls, ho, hl, hL, hd, hi⟩ := h
  exact ⟨vs, Ls, ho.same RVl.flat z h0 hB, hl, fun i c hc => by have := hL i c hc; exact ⟨this.1, this.2.1, Nat.lt_of_lt_of_le this.2.2.1 z.size, this.2.2.2⟩, hd, fun i y x hy hx => (hi i y x hy hx).same hR z fun c hc => Nat.le_trans hC (hL i c hc).2.1⟩
end
section
variable {α : Type} {R : Rel α} {k C g0 g1 B : Nat} {e : TypeId} {w u : World} {v : Value} {xs : List α} {xss : List (List α)}
theorem Own.startA {w1 : World} (h : Own R k e g0 B w1 v xs) (h' : Own R k e g0 B w v xs) : ∃ g1, (g1 = g0 ∨ B ≤ g1) ∧ (g1 = g0 ∨ g1 < w1.heap.size) ∧ ∀ B, Own R k e g1 B w v xs := by
  obtain ⟨rows, hr, hg, hx⟩ := h'
  cases hv : v.ownBlock with
  | none => exact ⟨g0, .inl rfl, .inl rfl, fun B => ⟨rows, hr, by simp [hv], hx⟩⟩
  | some g =>
    obtain ⟨_, hr1, _, _⟩ := h
    refine ⟨g, hg g hv, .inr (hr1.lt g hv).2, fun B => ⟨rows, hr, fun g' h' => ?_, hx⟩⟩
    rw [hv] at h'; cases h'; exact .inl rfl
theorem lt_some (L : List Nat) : ∃ N, ∀ c ∈ L, c < N := by
  induction L with
  | nil => exact ⟨0, fun _ hc => nomatch hc⟩
  | cons a l ih =>
    obtain ⟨N, hN⟩ := ih
    refine ⟨N + a + 1, fun c hc => ?_⟩
    rcases List.mem_cons.1 hc with h | h
    · omega
    · have := hN c h; omega
theorem Own.klA {L : List Nat} (h : ∀ B, Own R k e g1 B w v xs) (hR : Flat R) (x : KpL L w u) (hL : g1 ∉ L) : ∀ B, Own R k e g1 B u v xs := fun B => by
  obtain ⟨N, hN⟩ : ∃ N, ∀ c ∈ L, c < N := lt_some L
  obtain ⟨rows, hr, hg, hx⟩ := (h N).kl hR x fun c hc => ⟨fun e => hL (e ▸ hc), .inl (hN c hc)⟩
  obtain ⟨rows0, hr0, hg0, hx0⟩ := h (u.heap.size + 1)
  refine ⟨rows, hr, fun g hg' => ?_, hx⟩
  rcases hg0 g hg' with h1 | h1
  · exact .inl h1
  · have := (hr.lt g hg').2; omega
theorem Own.leB {B1 : Nat} (h : Own R k e g1 B1 w v xs) (hB : B ≤ B1) : Own R k e g1 B w v xs := h.back (.inl rfl) hB
theorem KpL.new {L : List Nat} {g : Nat} (h : KpL [g] w u) (hg : g ∈ L ∨ w.heap.size ≤ g) : KpL L w u :=
  ⟨h.os, h.tape, h.output, h.size, fun i hi hn => h.other i hi fun hm => by
    rw [List.mem_singleton] at hm
    rcases hg with h' | h'
    · exact hn (hm ▸ h')
    · omega⟩
end
section
variable {P : Program} {a : Act} {w : World} {dst : Option Tmp} {ty : TypeId} {pos : String} {af : Array Edge} {g : Option (Nat × Bool)}
theorem does_appendA {α : Type} {R : Rel α} {k g1 N0 b m c : Nat} {e : TypeId} {v z : Value} {xs ys : List α} {t : TypeId} {x y : Operand} {cs : List Value} (ht : P.underlying t = some (.slice e))
    (hi : ∃ i, P.info? e = some i ∧ i.zero = some z ∧ i.size = k ∧ i.bytes ≤ 1000) (hz : z.cells.size = k) (hk : 0 < k) (hx : a.eval x = v) (hy : a.eval y = .slice (some ⟨b, 0, none⟩) m c) (ho : ∀ B, Own R k e g1 B w v xs) (hR : Flat R) (hb : Blk w b cs)
    (hm : ys.length = m) (hl : cs.length = m * k) (h1 : cs.all Value.oneCell' = true) (hys : ∀ i x, ys[i]? = some x → R w x ((cs.drop (i * k)).take k)) (hlen : xs.length + m ≤ 100000000000) (hB : N0 ≤ w.heap.size) :
    does P ⟨dst, .call { callee := .builtin .append, args := #[x, y], argTypes := #[t, t] }, ty, pos, af, g⟩ a w (fun v' w' => KpL [g1] w w' ∧ Own R k e g1 N0 w' v' (xs ++ ys)) :=
  (does_append ht hi hz hk hx hy (ho w.heap.size) hR hb hm hl h1 hys hlen (Nat.le_refl _)).mono fun v' w' ⟨g, hg, hK, hO⟩ => ⟨hK.new (hg.imp (fun h => by simp [h]) id), hO.leB hB⟩
end
end Go.Proofs.Ytjopopmipdakkaa
