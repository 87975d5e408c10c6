/- slices of a body's own, apart from each other; arrays at an index that varies -/
import Derived.Test.YtjopopmipdakkaaMoh
namespace Go.Proofs.Ytjopopmipdakkaa
open Go Go.RowKit
def OwS {α : Type} (R : Rel α) (k : Nat) (e : TypeId) (w : World) (v : Value) (xs : List α) : Prop :=
  ∃ rows, w.ownsRow 0 e k v xs.length rows ∧ ∀ i x, xs[i]? = some x → R w x ((rows.drop (i * k)).take k)
section
variable {α : Type} {R : Rel α} {k g0 B N : Nat} {e : TypeId} {w u : World} {v y : Value} {xs ys : List α}
theorem Own.ows (h : Own R k e g0 B w v xs) : OwS R k e w v xs := let ⟨rows, hr, _, hx⟩ := h; ⟨rows, hr, hx⟩
theorem OwS.own (h : OwS R k e w v xs) (d : Nat) : ∀ B, Own R k e (v.ownBlock.getD d) B w v xs := fun _ =>
  let ⟨rows, hr, hx⟩ := h; ⟨rows, hr, fun g hg => .inl (by rw [hg]; rfl), hx⟩
theorem OwS.lt {c : Nat} (h : OwS R k e w v xs) (hc : v.ownBlock = some c) : c < w.heap.size := by
  obtain ⟨rows, hr, _⟩ := h; exact (hr.lt c hc).2
theorem OwS.kl {M : List Nat} (h : OwS R k e w v xs) (hR : Flat R) (x : KpL M w u) (hM : ∀ c, v.ownBlock = some c → c ∉ M) : OwS R k e u v xs := by
  obtain ⟨rows, hr, hx⟩ := h
  refine ⟨rows, ⟨hr.1, ?_⟩, fun i y hi => hR _ _ _ _ (hx i y hi)⟩
  rcases hr.2 with hn | ⟨g, cap, cur, rfl, hb, hgg, rest⟩
  · exact .inl hn
  · refine .inr ⟨g, cap, cur, rfl, hb, ?_, rest⟩
    rw [x.other g (Array.getElem?_eq_some_iff.1 hgg).1 (hM g rfl)]
    exact hgg
theorem Own.blk (h : Own R k e g0 B w v xs) : ∀ c, v.ownBlock = some c → c = g0 ∨ B ≤ c := let ⟨_, _, hg, _⟩ := h; hg
theorem Own.klA' {α : Type} {R : Rel α} {k g0 : Nat} {e : TypeId} {w u : World} {v : Value} {xs : List α} {M : List Nat} (h : ∀ B, Own R k e g0 B w v xs) (hR : Flat R) (z : KpL M w u) (hM : ∀ c ∈ M, c ≠ g0) : ∀ B, Own R k e g0 B u v xs := fun B => by
  obtain ⟨N, hN⟩ := lt_some M
  obtain ⟨rows, hr, hg, hx⟩ := (h (max B N)).kl hR z fun c hc => ⟨hM c hc, .inl (by have := hN c hc; omega)⟩
  exact ⟨rows, hr, fun g hgg => (hg g hgg).imp id fun h => by omega, hx⟩
theorem Own.startN {w1 : World} (h : Own R k e g0 B w1 v xs) (h' : Own R k e g0 B w v xs) (hB : B ≤ w.heap.size) : ∃ g1, (g1 = g0 ∨ B ≤ g1) ∧ (g1 < w1.heap.size ∨ w.heap.size ≤ g1) ∧ ∀ B, Own R k e g1 B w v xs := by
  obtain ⟨rows, hr, hg, hx⟩ := h'
  cases hv : v.ownBlock with
  | none => exact ⟨w.heap.size, .inr hB, .inr (Nat.le_refl _), fun B => ⟨rows, hr, by simp [hv], hx⟩⟩
  | some g =>
    obtain ⟨_, hr1, _, _⟩ := h
    refine ⟨g, hg g hv, .inl (hr1.lt g hv).2, fun B => ⟨rows, hr, fun g' h' => ?_, hx⟩⟩
    rw [hv] at h'; cases h'; exact .inl rfl
def Pair (R : Rel α) (k : Nat) (e : TypeId) (N : Nat) (w : World) (v : Value) (xs : List α) (y : Value) (ys : List α) : Prop :=
  OwS R k e w v xs ∧ OwS R k e w y ys ∧ (∀ c, v.ownBlock = some c → y.ownBlock ≠ some c) ∧ (∀ c, v.ownBlock = some c → N ≤ c) ∧ (∀ c, y.ownBlock = some c → N ≤ c)
theorem Pair.swap (h : Pair R k e N w v xs y ys) : Pair R k e N w y ys v xs := ⟨h.2.1, h.1, fun c h1 h2 => h.2.2.1 c h2 h1, h.2.2.2.2, h.2.2.2.1⟩
theorem Pair.cast {xs' ys' : List α} (h : Pair R k e N w v xs y ys) (h1 : xs = xs') (h2 : ys = ys') : Pair R k e N w v xs' y ys' := by subst h1 h2; exact h
theorem Pair.start {g1 B1 : Nat} (h1 : Own R k e g0 B w v xs) (h2 : Own R k e g1 B1 w y ys) (hv : v.ownBlock = some g0) (hy : y.ownBlock = some g1) (hne : g0 ≠ g1) (hN : N ≤ g0) (hN1 : N ≤ g1) : Pair R k e N w v xs y ys :=
  ⟨h1.ows, h2.ows, fun c h3 h4 => hne (by rw [hv] at h3; rw [hy] at h4; cases h3; cases h4; rfl), fun c h3 => by rw [hv] at h3; cases h3; exact hN, fun c h3 => by rw [hy] at h3; cases h3; exact hN1⟩
theorem Pair.names (h : Pair R k e N w v xs y ys) (hN : N ≤ w.heap.size) : ∃ g1 g2, g1 ≠ g2 ∧ N ≤ g1 ∧ N ≤ g2 ∧ (∀ B, Own R k e g1 B w v xs) ∧ (∀ B, Own R k e g2 B w y ys) ∧ (∀ c, y.ownBlock = some c → c ≠ g1) ∧ (∀ c, v.ownBlock = some c → c ≠ g2) := by
  obtain ⟨h1, h2, hd, hn1, hn2⟩ := h
  refine ⟨v.ownBlock.getD w.heap.size, y.ownBlock.getD (w.heap.size + 1), ?_, ?_, ?_, h1.own _, h2.own _, fun c hc => ?_, fun c hc => ?_⟩ <;> cases hv : v.ownBlock <;> cases hy : y.ownBlock <;> simp only [Option.getD_some, Option.getD_none]
  · omega
  · have := h2.lt hy; omega
  · have := h1.lt hv; omega
  · exact fun e => hd _ hv (by rw [hy, e])
  · exact hN
  · exact hN
  · exact hn1 _ hv
  · exact hn1 _ hv
  · omega
  · exact hn2 _ hy
  · omega
  · exact hn2 _ hy
  · rw [hy] at hc; cases hc
  · have := h2.lt hc; omega
  · rw [hy] at hc; cases hc
  · rw [hy] at hc; cases hc; exact fun e => hd _ hv (by rw [hy, e])
  · rw [hv] at hc; cases hc
  · rw [hv] at hc; cases hc
  · have := h1.lt hc; omega
  · rw [hv] at hc; cases hc; exact fun e => hd _ hv (by rw [hy, e])
theorem Pair.step {xs' : List α} {v' : Value} (hv : Own R k e g0 w.heap.size u v' xs') (hy : OwS R k e w y ys) (hR : Flat R) (K : KpL [g0] w u) (hd : ∀ c, y.ownBlock = some c → c ≠ g0) (hN : N ≤ g0) (hw : N ≤ w.heap.size) (hn : ∀ c, y.ownBlock = some c → N ≤ c) : Pair R k e N u v' xs' y ys := by
  refine ⟨hv.ows, hy.kl hR K fun c hc hm => hd c hc (by simpa using hm), fun c h1 h2 => ?_, fun c h1 => ?_, hn⟩
  · rcases hv.blk c h1 with h | h
    · exact hd c h2 h
    · have := hy.lt h2; omega
  · rcases hv.blk c h1 with h | h
    · rw [h]; exact hN
    · omega
end
def bAt (l : List Bool) (i : Nat) : Bool := (l[i]?).getD false
theorem pickB (l : List Bool) (i : Nat) (h : i < l.length) : ((l.map Bo)[i]?).getD undef = Bo (bAt l i) := by
  unfold bAt; rw [List.getElem?_map, List.getElem?_eq_getElem h]; rfl
section
variable {P : Program} {a : Act} {w : World} {dst : Option Tmp} {ty : TypeId} {pos : String} {af : Array Edge} {g : Option (Nat × Bool)}
theorem does_indexVB {t : TypeId} {x y : Operand} {i : Int} (l : List Bool) {u : Value} (hx : a.eval x = u) (hy : a.eval y = .int .i64 i) (h : ∀ w, (Instr.index t u (.int .i64 i)).run P w = .ok (((l.map Bo)[i.toNat]?).getD undef) w) (hl : i.toNat < l.length) : does P ⟨dst, .index t x y, ty, pos, af, g⟩ a w (Is (Bo (bAt l i.toNat)) w) := by
  rw [pickB l _ hl] at h; exact does_index_run hx hy h
theorem does_indexAtV {t : TypeId} {x y : Operand} {b o n : Nat} {i : Int} {k : Nat} (ht : P.underlying t = some (.array (P.arrayLen t) (P.elem t))) (hn : P.arrayLen t = n) (hS : ∀ w, (sizeOf (P.elem t)).run P w = .ok k w) (hx : a.eval x = .pointer (some ⟨b, o, none⟩)) (hy : a.eval y = .int .i64 i) (h0 : 0 ≤ i) (h1 : i < n) :
    does P ⟨dst, .indexAddr t x y, ty, pos, af, g⟩ a w (Is (.pointer (some ⟨b, o + i.toNat * k, none⟩)) w) := by
  refine does_indexAt_run hx hy fun w => ?_
  have h := run_indexAt_array (P := P) w t ⟨b, o, none⟩ .i64 i ht
  rw [if_pos ⟨h0, by rw [hn]; exact h1⟩, hS, Result.andThen_ok, Addr.add_lit] at h
  exact h
theorem does_loadVI {t : TypeId} {x : Operand} {b o off i : Nat} {l : List Int} (hx : a.eval x = .pointer (some ⟨b, off, none⟩)) (hA : ∀ w, (isAgg t).run P w = .ok false w) (hc : Cells w b o (l.map Iv)) (ho : off = o + i * 1) (hi : i < l.length) : does P ⟨dst, .load t x, ty, pos, af, g⟩ a w (Is (Iv (iAt l i)) w) := by
  refine does_load hx hA ?_
  rw [ho, Nat.mul_one]
  refine hc i _ ?_
  unfold iAt; rw [List.getElem?_map, List.getElem?_eq_getElem hi]; rfl
def tabR : List Int := [1, 2, 3, 0, 3, 2, 0, 1, 3, 0, 2, 1]
theorem does_loadR {t : TypeId} {x : Operand} {b off : Nat} {i : Int} (hx : a.eval x = .pointer (some ⟨b, off, none⟩)) (hA : ∀ w, (isAgg t).run P w = .ok true w) (hS : ∀ w, (sizeOf t).run P w = .ok 3 w) (hc : Cells w b 0 (tabR.map Iv)) (ho : off = 0 + i.toNat * 3) (h0 : 0 ≤ i) (h1 : i < 4) :
    does P ⟨dst, .load t x, ty, pos, af, g⟩ a w (Is (.agg #[Iv (iAt (restL i) 0), Iv (iAt (restL i) 1), Iv (iAt (restL i) 2)]) w) := by
  subst ho
  have hq : i = 0 ∨ i = 1 ∨ i = 2 ∨ i = 3 := by omega
  rcases hq with rfl | rfl | rfl | rfl
  · exact does_loadAgg (cs := [Iv 1, Iv 2, Iv 3]) hx hA hS (Cells.sub hc 0 3) rfl
  · exact does_loadAgg (cs := [Iv 0, Iv 3, Iv 2]) hx hA hS (Cells.sub hc 3 3) rfl
  · exact does_loadAgg (cs := [Iv 0, Iv 1, Iv 3]) hx hA hS (Cells.sub hc 6 3) rfl
  · exact does_loadAgg (cs := [Iv 0, Iv 2, Iv 1]) hx hA hS (Cells.sub hc 9 3) rfl
end
section
variable {bs : List Bool} {v : Bool} {k : Nat}
theorem posN_len (v : Bool) (bs : List Bool) : ∀ k, (posN v bs k).length ≤ k
  | 0 => Nat.le_refl _
  | k + 1 => by unfold posN; have := posN_len v bs k; split <;> simp <;> omega
theorem posN_rng : ∀ (k : Nat) (x : Int), x ∈ posN v bs k → 0 ≤ x ∧ x < k
  | 0, x, h => by simp [posN] at h
  | k + 1, x, h => by
    unfold posN at h
    split at h
    · rcases List.mem_append.1 h with h | h
      · have := posN_rng k x h; omega
      · rw [List.mem_singleton] at h; omega
    · have := posN_rng k x h; omega
theorem posN_put {b : Bool} (hk : k < bs.length) (h : bAt bs k = b) (hv : b = v) : posN v bs k ++ [(k : Int)] = posN v bs (k + 1) := by
  subst hv
  have e : bs[k]? = some b := by rw [List.getElem?_eq_getElem hk]; unfold bAt at h; rw [List.getElem?_eq_getElem hk] at h; exact congrArg some h
  show _ = if _ then _ else _; rw [if_pos e]
theorem posN_skip {b : Bool} (hk : k < bs.length) (h : bAt bs k = b) (hv : b ≠ v) : posN v bs k = posN v bs (k + 1) := by
  have e : bs[k]? = some b := by rw [List.getElem?_eq_getElem hk]; unfold bAt at h; rw [List.getElem?_eq_getElem hk] at h; exact congrArg some h
  show _ = if _ then _ else _; rw [if_neg (by rw [e]; exact fun h => hv (Option.some.inj h))]
end
theorem grp_3e (a b c d e f : Int) : grp [(a, b), (c, d), (e, f)] = [⟨a, b, c, d, e, f⟩] := by simp [grp, pAt, List.range_succ]
theorem grp_6e (a b c d e f g h i j k l : Int) : grp [(a, b), (c, d), (e, f), (g, h), (i, j), (k, l)] = [⟨a, b, c, d, e, f⟩, ⟨g, h, i, j, k, l⟩] := by simp [grp, pAt, List.range_succ]
theorem grp_0e : grp [] = [] := rfl
section
variable {i o : List Int} {a b c d : Int}
theorem edP_1 (h : i.length = 1) (ha : i[0]? = some a) : edP i o = [(a, iAt (restL a) 0), (a, iAt (restL a) 1), (a, iAt (restL a) 2)] := by unfold edP; rw [if_pos h, iAt_some ha]
theorem edP_3 (h : i.length = 3) (ha : o[0]? = some a) : edP i o = [(a, iAt (restL a) 0), (a, iAt (restL a) 2), (a, iAt (restL a) 1)] := by unfold edP; rw [if_neg (by omega), if_pos h, iAt_some ha]
theorem edP_2a (h : i.length = 2) (ha : i[0]? = some a) (hb : i[1]? = some b) (hc : o[0]? = some c) (hd : o[1]? = some d) (hs : (a = 0 ∧ b = 2) ∨ (a = 1 ∧ b = 3)) : edP i o = [(a, d), (a, c), (b, c), (a, d), (b, c), (b, d)] := by
  unfold edP; rw [if_neg (by omega), if_neg (by omega), if_pos h, iAt_some ha, iAt_some hb, iAt_some hc, iAt_some hd, if_pos hs]
theorem edP_2b (h : i.length = 2) (ha : i[0]? = some a) (hb : i[1]? = some b) (hc : o[0]? = some c) (hd : o[1]? = some d) (hs : ¬ ((a = 0 ∧ b = 2) ∨ (a = 1 ∧ b = 3))) : edP i o = [(a, c), (a, d), (b, d), (a, c), (b, d), (b, c)] := by
  unfold edP; rw [if_neg (by omega), if_neg (by omega), if_pos h, iAt_some ha, iAt_some hb, iAt_some hc, iAt_some hd, if_neg hs]
theorem edP_0 (h1 : i.length ≠ 1) (h2 : i.length ≠ 2) (h3 : i.length ≠ 3) : edP i o = [] := by unfold edP; rw [if_neg h1, if_neg h3, if_neg h2]
end
theorem posN_put' {bs : List Bool} {v b : Bool} {k : Nat} (h : bs[k]? = some b) (hv : b = v) : posN v bs k ++ [(k : Int)] = posN v bs (k + 1) := by
  subst hv; show _ = if _ then _ else _; rw [if_pos h]
theorem posN_skip' {bs : List Bool} {v b c : Bool} {k : Nat} (h : bs[k]? = some b) (hc : b = c) (hv : c ≠ v) : posN v bs k = posN v bs (k + 1) := by
  subst hc; show _ = if _ then _ else _; rw [if_neg (by rw [h]; exact fun h => hv (Option.some.inj h))]
theorem restL_len (a : Int) : (restL a).length = 3 := by unfold restL; (repeat' split) <;> rfl
def flE (E : List (Int × Int)) : List (List Int) := E.map fun e => [e.1, e.2]
theorem posN_sum (bs : List Bool) : ∀ k, k ≤ bs.length → (posN true bs k).length + (posN false bs k).length = k
  | 0, _ => rfl
  | k + 1, hk => by
    have ih := posN_sum bs k (by omega)
    have e : bs[k]? = some (bs[k]'hk) := List.getElem?_eq_getElem hk
    unfold posN
    rw [e]
    cases bs[k]'hk <;> simp <;> omega
end Go.Proofs.Ytjopopmipdakkaa
