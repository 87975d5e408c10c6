/- copy between a slice and a row of one's own: rows filled by copies of themselves -/
import Derived.Test.YtlfpeihlfmdmdaaQue
import Derived.Laws.CopyRow
namespace Go.Proofs.Ytlfpeihlfmdmdaa
open Go Go.RowKit

theorem in_u64 {n : Int} (h0 : 0 ≤ n) (h1 : n ≤ 18446744073709551615) : IntKind.u64.wrap n = n := by simp [IntKind.wrap, IntKind.bits, IntKind.signed]; omega
/-- j cells x, the others zero -/
def repTo (n j : Nat) (x : Int) : List Int := List.replicate j x ++ List.replicate (n - j) 0
theorem repTo_len {n j : Nat} {x : Int} (h : j ≤ n) : (repTo n j x).length = n := by simp [repTo]; omega
theorem repTo_all {n j : Nat} {x : Int} (h : n ≤ j) : repTo n j x = List.replicate j x := by unfold repTo; rw [Nat.sub_eq_zero_of_le h]; simp
theorem repTo_put {n j m : Nat} {x : Int} (h : j + m ≤ n) : (repTo n j x).take j ++ List.replicate m x ++ (repTo n j x).drop (j + m) = repTo n (j + m) x := by
  unfold repTo
  have h1 : (List.replicate j x ++ List.replicate (n - j) (0 : Int)).take j = List.replicate j x := by
    rw [List.take_append_of_le_length (by simp)]; simp
  have h2 : (List.replicate j x ++ List.replicate (n - j) (0 : Int)).drop (j + m) = List.replicate (n - (j + m)) 0 := by
    rw [List.drop_append, List.drop_of_length_le (by simp), List.nil_append, List.drop_replicate, List.length_replicate]; congr 1; omega
  rw [h1, h2]
  simp
section
variable {P : Program} {a : Act} {w : World} {dst : Option Tmp} {ty : TypeId} {pos : String} {af : Array Edge} {g : Option (Nat × Bool)}
theorem RowG.cellI {L : List Int} {b i : Nat} {x : Int} (h : RowG RI 1 w b L) (hi : L[i]? = some x) : w.cell? ⟨b, i, none⟩ = some (.int .i64 x) := by
  obtain ⟨cs, hb, hl, h⟩ := h
  have h1 : (cs.drop (i * 1)).take 1 = [.int .i64 x] := h i x hi
  have h2 : ((cs.drop (i * 1)).take 1)[0]? = some (.int .i64 x) := by rw [h1]; rfl
  rw [List.getElem?_take, if_pos (by decide), List.getElem?_drop, Nat.mul_one, Nat.add_zero] at h2
  have h3 := hb.cells i _ h2
  rwa [Nat.zero_add] at h3
theorem does_copyI {t e : TypeId} {x y : Operand} {b j dl dc sl sc : Nat} {ad : Addr} {L ys : List Int} (ht : P.underlying t = some (.slice e)) (hs : (P.info? e).map (·.size) = some 1)
    (hx : a.eval x = .slice (some ⟨b, j, none⟩) dl dc) (hy : a.eval y = .slice (some ad) sl sc) (h : RowG RI 1 w b L) (hn : ys.length = Nat.min sl dl)
    (hsrc : ∀ (i : Nat) (z : Int), ys[i]? = some z → w.cell? (ad.add i) = some (.int .i64 z)) (hfit : j + ys.length ≤ L.length) :
    does P ⟨dst, .call { callee := .builtin .copy, args := #[x, y], argTypes := #[t, t] }, ty, pos, af, g⟩ a w (fun v w' => v = .int .i64 (ys.length : Nat) ∧ KpL [b] w w' ∧ RowG RI 1 w' b (L.take j ++ ys ++ L.drop (j + ys.length))) := by
  obtain ⟨cs, ⟨T, hb⟩, hl, hc⟩ := h
  have hrun := run_copy_row (P := P) w t t ty e b j dl dc ad sl sc cs.toArray T (ys.map (Value.int .i64)) ht hs hb (by rw [List.length_map]; exact hn) (fun i v hv => by
      rw [List.getElem?_map] at hv
      cases hi : ys[i]? with
      | none => rw [hi] at hv; cases hv
      | some z => rw [hi] at hv; cases hv; exact hsrc i z hi) (by rw [List.length_map, List.size_toArray]; omega) (fun v hv => by obtain ⟨z, _, rfl⟩ := List.mem_map.1 hv; rfl)
  rw [List.length_map] at hrun
  refine (does_run (P := P) (a := a) (u := goInt ys.length) (w' := w.setRow b (cs.take j ++ ys.map (Value.int .i64) ++ cs.drop (j + ys.length)).toArray) ?_).mono fun v1 w1 ⟨h7, h8⟩ => ?_
  · unfold execOp
    simp only [resolve, invoke, builtin, Sem.run_bind, Sem.run_pure, Result.andThen_ok, List.map_toArray, List.map_cons, List.map_nil, hx, hy, hrun]
  · subst h7 h8
    refine ⟨rfl, ⟨rfl, rfl, rfl, by simp, fun q hq hn => setRow_other w b q _ (fun e => hn (by simp [e]))⟩, _, ⟨T, setRow_heap w b cs.toArray _ T _ hb⟩, by simp; omega, fun i z hi => ?_⟩
    show ((_ : List Value).drop (i * 1)).take 1 = [.int .i64 z]
    have key : (cs.take j ++ ys.map (Value.int .i64) ++ cs.drop (j + ys.length))[i]? = some (.int .i64 z) := by
      have hcs : ∀ (q : Nat) (u : Int), L[q]? = some u → cs[q]? = some (.int .i64 u) := fun q u hq => by
        have h1 : (cs.drop (q * 1)).take 1 = [.int .i64 u] := hc q u hq
        have h2 : ((cs.drop (q * 1)).take 1)[0]? = some (.int .i64 u) := by rw [h1]; rfl
        rw [List.getElem?_take, if_pos (by decide), List.getElem?_drop, Nat.mul_one, Nat.add_zero] at h2
        exact h2
      have l1 : (L.take j).length = j := by simp; omega
      have l2 : (cs.take j).length = j := by simp; omega
      rw [List.append_assoc] at hi ⊢
      rcases Nat.lt_or_ge i j with h | h
      · rw [List.getElem?_append_left (by omega), List.getElem?_take, if_pos h] at hi ⊢
        exact hcs i z hi
      · rw [List.getElem?_append_right (by omega), l1] at hi
        rw [List.getElem?_append_right (by omega), l2]
        rcases Nat.lt_or_ge (i - j) ys.length with h' | h'
        · rw [List.getElem?_append_left h'] at hi
          rw [List.getElem?_append_left (by simpa using h'), List.getElem?_map, hi]; rfl
        · rw [List.getElem?_append_right h', List.getElem?_drop] at hi
          rw [List.getElem?_append_right (by simpa using h'), List.length_map, List.getElem?_drop]
          exact hcs _ z hi
    apply List.ext_getElem?
    intro q
    rw [List.getElem?_take]
    match q with
    | 0 => rw [if_pos (by decide), List.getElem?_drop, Nat.mul_one, Nat.add_zero, key]; rfl
    | q + 1 => rw [if_neg (by omega)]; rfl
/-- the row's head is copied behind itself -/
theorem does_copySelf {t e : TypeId} {x y : Operand} {b n j dc sc : Nat} {z : Int} (ht : P.underlying t = some (.slice e)) (hs : (P.info? e).map (·.size) = some 1)
    (hx : a.eval x = .slice (some ⟨b, j, none⟩) (n - j) dc) (hy : a.eval y = .slice (some ⟨b, 0, none⟩) j sc) (h : RowG RI 1 w b (repTo n j z)) (hj : j ≤ n) :
    does P ⟨dst, .call { callee := .builtin .copy, args := #[x, y], argTypes := #[t, t] }, ty, pos, af, g⟩ a w (fun v w' => v = .int .i64 (min j (n - j) : Nat) ∧ KpL [b] w w' ∧ RowG RI 1 w' b (repTo n (j + min j (n - j)) z)) := by
  have hm : j + min j (n - j) ≤ n := by omega
  refine (does_copyI (ys := List.replicate (min j (n - j)) z) ht hs hx hy h (by rw [List.length_replicate]) (fun i u hi => ?_) (by rw [repTo_len hj]; simp; omega)).mono fun v w' ⟨h1, h2, h3⟩ => ⟨?_, h2, ?_⟩
  · rw [Addr.add_lit, Nat.zero_add]
    refine h.cellI ?_
    have hlt := (List.getElem?_eq_some_iff.1 hi).1
    rw [List.length_replicate] at hlt
    rw [List.getElem?_replicate, if_pos hlt] at hi
    unfold repTo
    rw [List.getElem?_append_left (by simp; omega), List.getElem?_replicate, if_pos (by omega)]
    exact hi
  · rw [h1, List.length_replicate]
  · rw [List.length_replicate, repTo_put hm] at h3; exact h3
/-- one element is copied to the row's head -/
theorem does_copyOne {t e : TypeId} {x y : Operand} {b n dc sc : Nat} {p : Option Addr} {z : Int} {zs : List Int} (hz : zs = [z]) (ht : P.underlying t = some (.slice e)) (hs : (P.info? e).map (·.size) = some 1)
    (hx : a.eval x = .slice (some ⟨b, 0, none⟩) n dc) (hy : a.eval y = .slice p zs.length sc) (hq : Sl RI 1 w (.slice p zs.length sc) zs) (h : RowG RI 1 w b (List.replicate n 0)) (hn : 1 ≤ n) :
    does P ⟨dst, .call { callee := .builtin .copy, args := #[x, y], argTypes := #[t, t] }, ty, pos, af, g⟩ a w (fun v w' => v = .int .i64 1 ∧ KpL [b] w w' ∧ RowG RI 1 w' b (repTo n 1 z)) := by
  subst hz
  obtain ⟨_, p', c', hv, hall⟩ := hq
  cases hv
  obtain ⟨b2, off, cs, rfl, hc, hr, _⟩ := hall 0 z rfl
  have hr : cs = [.int .i64 z] := hr
  subst hr
  refine (does_copyI (ys := [z]) ht hs hx hy h (by show 1 = min 1 n; omega) (fun i u hi => ?_) (by simp; omega)).mono fun v w' ⟨h1, h2, h3⟩ => ⟨h1, h2, ?_⟩
  · match i, hi with
    | 0, hi =>
      cases hi
      have := hc 0 _ rfl
      rw [Addr.add_lit]
      simpa using this
    | i + 1, hi => simp at hi
  · have e : (List.replicate n (0 : Int)).take 0 ++ [z] ++ (List.replicate n 0).drop (0 + [z].length) = repTo n 1 z := by
      unfold repTo; simp
    rw [e] at h3; exact h3
/-- .. or none, where there is no room -/
theorem does_copyOne' {t e : TypeId} {x y : Operand} {b n dc sc : Nat} {p : Option Addr} {z : Int} {zs : List Int} (hz : zs = [z]) (ht : P.underlying t = some (.slice e)) (hs : (P.info? e).map (·.size) = some 1)
    (hx : a.eval x = .slice (some ⟨b, 0, none⟩) n dc) (hy : a.eval y = .slice p zs.length sc) (hq : Sl RI 1 w (.slice p zs.length sc) zs) (h : RowG RI 1 w b (List.replicate n 0)) :
    does P ⟨dst, .call { callee := .builtin .copy, args := #[x, y], argTypes := #[t, t] }, ty, pos, af, g⟩ a w (fun v w' => v = .int .i64 (min 1 n : Nat) ∧ KpL [b] w w' ∧ RowG RI 1 w' b (repTo n (min 1 n) z)) := by
  rcases Nat.eq_zero_or_pos n with h0 | h0
  · subst h0
    subst hz
    obtain ⟨_, p', c', hv, hall⟩ := hq
    cases hv
    obtain ⟨b2, off, cs, rfl, hc, hr, _⟩ := hall 0 z rfl
    exact (does_copyI (ys := []) ht hs hx hy h rfl (fun i u hi => by simp at hi) (by simp)).mono fun v w' ⟨h1, h2, h3⟩ => ⟨h1, h2, h3⟩
  · refine (does_copyOne hz ht hs hx hy hq h h0).mono fun v w' ⟨h1, h2, h3⟩ => ?_
    rw [show min 1 n = 1 by omega]; exact ⟨h1, h2, h3⟩
theorem does_sliceLo {t b n c : Nat} {x y : Operand} {j : Int} (ht : P.underlying t = some (.slice (P.elem t))) (hS : ∀ w, (sizeOf (P.elem t)).run P w = .ok 1 w) (hx : a.eval x = .slice (some ⟨b, 0, none⟩) n c) (hy : a.eval y = .int .i64 j) (h0 : 0 ≤ j) (h1 : j < c) (h2 : j ≤ n) :
    does P ⟨dst, .slice t x (some y) none none, ty, pos, af, g⟩ a w (Is (.slice (some ⟨b, j.toNat, none⟩) (n - j.toNat) (c - j.toNat)) w) := by
  have hr := run_slice_l (P := P) w t (some ⟨b, 0, none⟩) n c ht .i64 j h0 (by omega)
  rw [hS, Result.andThen_ok, ← run_sliceAt_slice (P := P) w t _ _ _ _ ht] at hr
  have e : sliced (some ⟨b, 0, none⟩) j.toNat n c 1 = .slice (some ⟨b, j.toNat, none⟩) (n - j.toNat) (c - j.toNat) := by
    simp only [sliced, if_neg (show ¬ c = j.toNat by omega), Option.map_some]
    rw [Addr.add_lit]; simp
  rw [e] at hr
  exact does_run (by simp [execOp, hx, hy, hr])
theorem does_sliceHi {t b n c : Nat} {x y : Operand} {j : Int} (ht : P.underlying t = some (.slice (P.elem t))) (hS : ∀ w, (sizeOf (P.elem t)).run P w = .ok 1 w) (hx : a.eval x = .slice (some ⟨b, 0, none⟩) n c) (hy : a.eval y = .int .i64 j) (h0 : 0 ≤ j) (h1 : j ≤ c) (h2 : 0 < c) :
    does P ⟨dst, .slice t x none (some y) none, ty, pos, af, g⟩ a w (Is (.slice (some ⟨b, 0, none⟩) j.toNat c) w) := by
  have hr := run_sliceTo (P := P) (w := w) (p := some ⟨b, 0, none⟩) (n := n) (c := c) (h := j) ht hS h0 h1
  have e : sliced (some ⟨b, 0, none⟩) 0 j.toNat c 1 = .slice (some ⟨b, 0, none⟩) j.toNat c := by
    simp only [sliced, if_neg (show ¬ c = 0 by omega), Option.map_some]
    rw [Addr.add_lit]; simp
  rw [e] at hr
  exact does_run (by simp [execOp, hx, hy, hr])
end
end Go.Proofs.Ytlfpeihlfmdmdaa
