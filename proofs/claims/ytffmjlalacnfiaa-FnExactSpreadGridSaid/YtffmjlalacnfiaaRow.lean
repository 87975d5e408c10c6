/- rows of numbers that are written in place -/
import Derived.Test.YtffmjlalacnfiaaTak
import Derived.Laws.Cover3
namespace Go.Proofs.Ytffmjlalacnfiaa
open Go Go.RowKit

/-- block g begins with these numbers -/
def RowF (w : World) (g : Nat) (xs : List Nat) : Prop := ∃ cs, Blk w g cs ∧ ∀ (i x : Nat), xs[i]? = some x → ∃ r, cs[i]? = some (Value.float .f32 r) ∧ cf .f32 r = x
section
variable {w u : World} {g : Nat} {xs : List Nat}
theorem RowF.ext (h : RowF w g xs) (x : Ext w u) : RowF u g xs := let ⟨cs, hb, h⟩ := h; ⟨cs, hb.ext x, h⟩
theorem RowF.kl {L : List Nat} (h : RowF w g xs) (x : KpL L w u) (hn : g ∉ L) : RowF u g xs := let ⟨cs, hb, h⟩ := h; ⟨cs, hb.kl x hn, h⟩
theorem RowF.wr {b : Nat} (h : RowF w g xs) (x : Wr b w u) (hn : g ≠ b) : RowF u g xs := let ⟨cs, hb, h⟩ := h; ⟨cs, hb.wr x hn, h⟩
theorem RowF.cast {ys : List Nat} (h : RowF w g xs) (e : xs = ys) : RowF w g ys := e ▸ h
theorem RowF.len (h : RowF w g xs) : ∃ cs, Blk w g cs ∧ xs.length ≤ cs.length := by
  obtain ⟨cs, hb, h⟩ := h
  refine ⟨cs, hb, ?_⟩
  rcases Nat.lt_or_ge cs.length xs.length with hl | hl
  · obtain ⟨r, hr, _⟩ := h cs.length _ (List.getElem?_eq_getElem hl)
    rw [List.getElem?_eq_none (Nat.le_refl _)] at hr; cases hr
  · exact hl
theorem WL.row {B n q : Nat} {L : List Nat} {p : Option Addr} (h : WL 1 B w L (.slice p n q) n) (hs : Sl RF 1 w (.slice p n q) xs) (hn : 0 < n) : ∃ g, p = some ⟨g, 0, none⟩ ∧ L = [g] ∧ RowF w g xs ∧ n ≤ q ∧ B ≤ g := by
  obtain ⟨hL, ⟨_, rfl, _⟩ | ⟨g, cap, cs, rfl, hv, hb, hl, hc⟩⟩ := h
  · omega
  · cases hv
    refine ⟨g, rfl, rfl, ⟨cs, hb, fun i x hi => ?_⟩, hc, (hL g (by simp)).1⟩
    obtain ⟨b', off', c0, hp, hc0, ⟨r, hr, hx⟩, _⟩ := hs.get i x hi
    cases hp
    subst hr
    have h1 := hc0 0 _ rfl
    rw [Nat.mul_one, Nat.add_zero, Nat.zero_add, hb.cell i] at h1
    exact ⟨r, h1, hx⟩
theorem RowF.lt (h : RowF w g xs) : g < w.heap.size := let ⟨_, hb, _⟩ := h; hb.lt
theorem RowF.hang {B n cap : Nat} (h : RowF w g xs) (hn : xs.length = n) (hB : B ≤ g) (hc : n ≤ cap) (hm : n ≤ 9223372036854775807) : Hang B w (fun u => Sl RF 1 u (.slice (some ⟨g, 0, none⟩) n cap) xs) := fun u hu => by
  subst hn
  obtain ⟨cs, hb, h⟩ := h
  refine ⟨hm, _, cap, rfl, fun i x hi => ?_⟩
  obtain ⟨r, hr, hx⟩ := h i x hi
  have hlt := (List.getElem?_eq_some_iff.1 hi).1
  refine ⟨g, 0, [Value.float .f32 r], rfl, fun j v hj => ?_, ⟨r, rfl, hx⟩, rfl, by decide, by omega⟩
  match j, hj with
  | 0, hj =>
    cases hj
    have h3 := (hb.hang hB u hu).cell i
    rw [hr] at h3
    rw [show (0 : Nat) + i * 1 + 0 = i by omega]
    exact h3
  | j + 1, hj => simp at hj
theorem RowF.sl {n cap : Nat} (h : RowF w g xs) (hn : xs.length = n) (hc : n ≤ cap) (hm : n ≤ 9223372036854775807) : Sl RF 1 w (.slice (some ⟨g, 0, none⟩) n cap) xs := (h.hang hn (Nat.zero_le _) hc hm).get
theorem RowF.wl {B n cap : Nat} (h : RowF w g xs) (hn : xs.length = n) (hB : B ≤ g) (hc : n ≤ cap) : WL 1 B w [g] (.slice (some ⟨g, 0, none⟩) n cap) n := by
  obtain ⟨cs, hb, hl⟩ := h.len
  exact WL.one hb hB (by omega) hc
theorem Own.row {g0 B : Nat} {e : TypeId} {v : Value} (h : Own RF 1 e g0 B w v xs) : (v = .slice none 0 0 ∧ xs = []) ∨ ∃ g cap, v = .slice (some ⟨g, 0, none⟩) xs.length cap ∧ (g = g0 ∨ B ≤ g) ∧ RowF w g xs ∧ xs.length ≤ cap := by
  obtain ⟨rows, hr, hg, hx⟩ := h
  rcases hr.2 with ⟨rfl, hn⟩ | ⟨g, cap, cur, rfl, hb, hgg, hnc, hcm, hsz, ht⟩
  · exact .inl ⟨rfl, List.eq_nil_of_length_eq_zero hn⟩
  · refine .inr ⟨g, cap, rfl, hg g rfl, ⟨cur.toList, ⟨e, by simpa using hgg⟩, fun i x hi => ?_⟩, hnc⟩
    obtain ⟨r, hr', hx'⟩ := hx i x hi
    refine ⟨r, ?_, hx'⟩
    have hlt := (List.getElem?_eq_some_iff.1 hi).1
    have h0 : ((rows.drop (i * 1)).take 1)[0]? = some (Value.float .f32 r) := by rw [hr']; rfl
    rw [List.getElem?_take, if_pos (by decide), List.getElem?_drop, Nat.mul_one, Nat.add_zero] at h0
    rw [← ht, List.getElem?_take] at h0
    split at h0
    · exact h0
    · cases h0
theorem cellL {b off : Nat} {m cap : Nat} {ys : List Nat} (h : Sl RF 1 w (.slice (some ⟨b, off, none⟩) m cap) ys) : ∃ cs : List Value, cs.length = m ∧ (∀ j u, cs[j]? = some u → w.cell? ((⟨b, off, none⟩ : Addr).add j) = some u) ∧ cs.all Value.oneCell' = true ∧ ∀ i x, ys[i]? = some x → RF w x ((cs.drop (i * 1)).take 1) := by
  have hl : ys.length = m := by obtain ⟨_, p', c', h1, _⟩ := h; cases h1; rfl
  have key : ∀ i, i < m → ∃ r, w.cell? ⟨b, off + i, none⟩ = some (Value.float .f32 r) ∧ ∀ x, ys[i]? = some x → cf .f32 r = x := fun i hi => by
    obtain ⟨b', off', cs, hp, hc, ⟨r, hr, hx⟩, _⟩ := h.get i _ (List.getElem?_eq_getElem (by omega))
    cases hp
    subst hr
    refine ⟨r, ?_, fun x hx' => ?_⟩
    · have := hc 0 _ rfl
      rw [Nat.mul_one, Nat.add_zero] at this; exact this
    · rw [List.getElem?_eq_getElem (by omega)] at hx'; rw [← Option.some.inj hx']; exact hx
  refine ⟨(List.range m).map fun i => (w.cell? ⟨b, off + i, none⟩).getD undef, by simp, fun j u hj => ?_, ?_, fun i x hi => ?_⟩
  · rw [List.getElem?_map] at hj
    have hjm : j < m := by
      rcases Nat.lt_or_ge j m with h | h
      · exact h
      · rw [List.getElem?_eq_none (by simpa using h)] at hj; cases hj
    rw [List.getElem?_range hjm] at hj
    obtain ⟨r, hr, _⟩ := key j hjm
    simp only [Option.map_some, hr, Option.getD_some] at hj
    rw [Addr.add_lit, hr, hj]
  · rw [List.all_eq_true]
    intro v hv
    obtain ⟨i, hi, rfl⟩ := List.mem_map.1 hv
    obtain ⟨r, hr, _⟩ := key i (List.mem_range.1 hi)
    rw [hr]; rfl
  · have hlt := (List.getElem?_eq_some_iff.1 hi).1
    obtain ⟨r, hr, hx⟩ := key i (by omega)
    refine ⟨r, ?_, hx x hi⟩
    rw [Nat.mul_one]
    have hd : ((List.range m).map fun i => (w.cell? ⟨b, off + i, none⟩).getD undef)[i]? = some (Value.float .f32 r) := by
      rw [List.getElem?_map, List.getElem?_range (by omega)]; simp [hr]
    have hlt' : i < ((List.range m).map fun i => (w.cell? ⟨b, off + i, none⟩).getD undef).length := by simp; omega
    rw [List.drop_eq_getElem_cons hlt']
    rw [List.getElem?_eq_getElem hlt'] at hd
    rw [Option.some.inj hd]; rfl
end
section
variable {P : Program} {a : Act} {w : World} {dst : Option Tmp} {ty : TypeId} {pos : String} {af : Array Edge} {g : Option (Nat × Bool)}
theorem does_loadRow {t : TypeId} {x : Operand} {b off i e : Nat} {xs : List Nat} (hx : a.eval x = .pointer (some ⟨b, off, none⟩)) (hA : ∀ w, (isAgg t).run P w = .ok false w) (h : RowF w b xs) (ho : off = i) (he : xs[i]? = some e) :
    does P ⟨dst, .load t x, ty, pos, af, g⟩ a w (fun v w' => ∃ r, v = .float .f32 r ∧ cf .f32 r = e ∧ w' = w) := by
  subst ho
  obtain ⟨cs, hb, h⟩ := h
  obtain ⟨r, hr, hxe⟩ := h off e he
  have hc : w.cell? ⟨b, off, none⟩ = some (.float .f32 r) := by rw [hb.cell off]; exact hr
  exact (does_load hx hA hc).mono fun v w' ⟨h1, h2⟩ => ⟨r, h1, hxe, h2⟩
theorem does_storeRow {t : TypeId} {x y : Operand} {b off i r : Nat} {xs : List Nat} (hx : a.eval x = .pointer (some ⟨b, off, none⟩)) (hy : a.eval y = .float .f32 r) (hS : ∀ w, (sizeOf t).run P w = .ok 1 w) (h : RowF w b xs) (ho : off = i) (hi : i < xs.length) :
    does P ⟨dst, .store t x y, ty, pos, af, g⟩ a w (fun v w' => v = undef ∧ Wr b w w' ∧ RowF w' b (xs.set i (cf .f32 r))) := by
  subst ho
  obtain ⟨cs0, hb0, hl0⟩ := h.len
  obtain ⟨cs, hb, h⟩ := h
  have hcs : xs.length ≤ cs.length := by
    obtain ⟨T, h1⟩ := hb0; obtain ⟨T', h2⟩ := hb
    rw [h1] at h2; cases h2; exact hl0
  refine (does_store hx hy hS (by rfl) hb (by omega) (by rfl)).mono fun v w' ⟨hv, hw, hB⟩ => ⟨hv, hw, _, hB, fun j x hj => ?_⟩
  have e : splice cs off (Value.float FloatKind.f32 r).cells.toList = cs.set off (.float .f32 r) := by
    have : (Value.float FloatKind.f32 r).cells.toList = [.float .f32 r] := rfl
    rw [this]
    simp only [splice, List.length_cons, List.length_nil]
    rw [List.set_eq_take_append_cons_drop, if_pos (by omega), List.append_assoc]; rfl
  rw [e]
  rw [List.getElem?_set] at hj ⊢
  by_cases hji : off = j
  · subst hji
    rw [if_pos rfl, if_pos hi] at hj
    rw [if_pos rfl, if_pos (by omega)]
    exact ⟨r, rfl, Option.some.inj hj⟩
  · rw [if_neg hji] at hj ⊢
    exact h j x hj
theorem does_appendF {g0 B m c : Nat} {e : TypeId} {v : Value} {xs ys : List Nat} {p : Option Addr} {t : TypeId} {x y : Operand} (ht : P.underlying t = some (.slice e))
    (hi : ∃ i, P.info? e = some i ∧ i.zero = some (Value.float .f32 0) ∧ i.size = 1 ∧ i.bytes ≤ 1000) (hx : a.eval x = v) (hy : a.eval y = .slice p m c) (ho : Own RF 1 e g0 B w v xs) (hs : Sl RF 1 w (.slice p m c) ys) (hne : 0 < ys.length)
    (hlen : xs.length + m ≤ 100000000000) (hB : B ≤ w.heap.size) :
    does P ⟨dst, .call { callee := .builtin .append, args := #[x, y], argTypes := #[t, t] }, ty, pos, af, g⟩ a w (fun v' w' => ∃ g, (g = g0 ∨ B ≤ g) ∧ KpL [g] w w' ∧ Own RF 1 e g0 B w' v' (xs ++ ys)) := by
  have hl : ys.length = m := by obtain ⟨_, p', c', h1, _⟩ := hs; cases h1; rfl
  obtain ⟨b, off, cs1, rfl, _⟩ := hs.get 0 _ (List.getElem?_eq_getElem hne)
  obtain ⟨cs, hcl, hnews, h1, hys⟩ := cellL hs
  obtain ⟨i, hi, hz', hsz, hby⟩ := hi
  obtain ⟨rows, hr, hg, hrx⟩ := ho
  have hbytes : (xs.length + m) * i.bytes ≤ 140737488355328 := Nat.le_trans (Nat.mul_le_mul hlen hby) (by decide)
  obtain ⟨v', w', hrun, hown, hgr, _, hblk⟩ := run_append_own_at w 0 t ty e i (Value.float .f32 0) 1 i.bytes ht hi hz' hsz rfl rfl (by decide) v xs.length rows hr ⟨b, off, none⟩ m c cs (by omega) hnews (fun u hu => List.all_eq_true.1 h1 u hu) (by simp only [maxLen]; omega) hbytes (Nat.zero_le _)
  refine (does_run (u := v') (w' := w') ?_).mono fun v1 w1 ⟨h3, h4⟩ => ?_
  · unfold execOp
    simp only [resolve, invoke, builtin, Sem.run_bind, Sem.run_pure, Result.andThen_ok, List.map_toArray, List.map_cons, List.map_nil, hx, hy, hrun]
  · subst h3 h4
    have hlt : ∀ i y, (xs ++ ys)[i]? = some y → RF w1 y (((rows ++ cs).drop (i * 1)).take 1) := fun i y hi => by
      rcases Nat.lt_or_ge i xs.length with h | h
      · rw [List.getElem?_append_left h] at hi
        have h1 : i * 1 + 1 ≤ rows.length := by rw [hr.1]; omega
        have h2 := hrx i y hi
        rw [List.drop_append_of_le_length (by omega), List.take_append_of_le_length (by simp; omega)]
        exact h2
      · rw [List.getElem?_append_right h] at hi
        have h2 := hys _ y hi
        have h3 : (rows ++ cs).drop (i * 1) = cs.drop ((i - xs.length) * 1) := by
          rw [List.drop_append, hr.1, List.drop_of_length_le (by rw [hr.1]; omega), List.nil_append]
          congr 1; omega
        rw [h3]; exact h2
    have hp : ∀ g, v1.ownBlock = some g → g = g0 ∨ B ≤ g := fun g' hg' => by
      rcases hblk with h | h
      · exact hg g' (by rw [← h, hg'])
      · rw [h] at hg'; cases hg'; exact .inr hB
    refine ⟨v.ownBlock.getD g0, ?_, ⟨hgr.os, hgr.tape, hgr.output, hgr.size, fun q hq hne => hgr.block q hq fun h => hne ?_⟩, rows ++ cs, ?_, hp, hlt⟩
    · cases hv : v.ownBlock with
      | none => exact .inl rfl
      | some q => exact hg q hv
    · rw [← h]; simp
    · rw [List.length_append, hl]; exact hown
end
section
variable {P : Program} {a : Act} {w : World} {dst : Option Tmp} {ty : TypeId} {pos : String} {af : Array Edge} {g : Option (Nat × Bool)}
theorem does_slnil {t t' e : TypeId} {x y : Operand} {p : Option Addr} {n c : Nat} (ht : P.underlying t = some (.slice e)) (hx : a.eval x = .slice p n c) (hy : a.eval y = .slice none 0 0) :
    does P ⟨dst, .binOp .eql t x y t', ty, pos, af, g⟩ a w (Is (.bool p.isNone) w) := does_run (by
  have hb : (binOp .eql t (.slice p n c) (.slice none 0 0)).run P w = .ok (.bool p.isNone) w := by
    simp only [binOp]
    simp [run_equal_slice_nil w t e p n c ht]
  simp [execOp, hx, hy, eqGuard_at_slice, hb])
theorem Sl.some_of {α : Type} {R : Rel α} {k : Nat} {p : Option Addr} {n c : Nat} {xs : List α} (h : Sl R k w (.slice p n c) xs) (hn : 0 < xs.length) : p.isNone = false := by
  obtain ⟨b, off, cs, rfl, _⟩ := h.get 0 _ (List.getElem?_eq_getElem hn)
  rfl
end
/-! ### sweeps -/
def relaxF (st : Nat) (i : Nat) (s : List Nat × Bool) (j : Int) : List Nat × Bool :=
  if fcmp .lss (ford .f32 (fop .add .f32 ((s.1[j.toNat]?).getD 0) st) ((s.1[i]?).getD 0)) then (s.1.set i (fop .add .f32 ((s.1[j.toNat]?).getD 0) st), true) else s
def rowS (g : GridT) (i : Int) (s : List Nat × Bool) (m : Nat) : List Nat × Bool := ((nb g i).take m).foldl (relaxF g.step i.toNat) s
def swI (back : Bool) (n k : Nat) : Int := if back then (n : Int) - 1 - k else k
def sweepTo (g : GridT) (back : Bool) : Nat → List Nat × Bool
  | 0 => (g.vals, false)
  | k + 1 => rowS g (swI back g.vals.length k) (sweepTo g back k) (nb g (swI back g.vals.length k)).length
def sweepG (g : GridT) (back : Bool) : List Nat × Bool := sweepTo g back g.vals.length
theorem relax_len (st i : Nat) (s : List Nat × Bool) (j : Int) : (relaxF st i s j).1.length = s.1.length := by unfold relaxF; split <;> simp
theorem fold_len (st i : Nat) : ∀ (l : List Int) (s : List Nat × Bool), (l.foldl (relaxF st i) s).1.length = s.1.length
  | [], s => rfl
  | j :: l, s => by rw [List.foldl_cons, fold_len st i l, relax_len]
theorem rowS_len (g : GridT) (i : Int) (s : List Nat × Bool) (m : Nat) : (rowS g i s m).1.length = s.1.length := fold_len _ _ _ _
theorem sweepTo_len (g : GridT) (back : Bool) : ∀ k, (sweepTo g back k).1.length = g.vals.length
  | 0 => rfl
  | k + 1 => by unfold sweepTo; rw [rowS_len, sweepTo_len g back k]
theorem rowS_succ {g : GridT} {i : Int} {s : List Nat × Bool} {m : Nat} {j : Int} (h : (nb g i)[m]? = some j) : rowS g i s (m + 1) = relaxF g.step i.toNat (rowS g i s m) j := by
  unfold rowS
  rw [List.take_add_one, h, Option.toList_some, List.foldl_append]; rfl
theorem relax_t {st i : Nat} {s : List Nat × Bool} {j : Int} {x y : Nat} (hx : s.1[j.toNat]? = some x) (hy : s.1[i]? = some y) (h : fcmp .lss (ford .f32 (fop .add .f32 x st) y) = true) : relaxF st i s j = (s.1.set i (fop .add .f32 x st), true) := by
  unfold relaxF; rw [hx, hy, Option.getD_some, Option.getD_some, h, if_pos rfl]
theorem relax_f {st i : Nat} {s : List Nat × Bool} {j : Int} {x y : Nat} (hx : s.1[j.toNat]? = some x) (hy : s.1[i]? = some y) (h : fcmp .lss (ford .f32 (fop .add .f32 x st) y) = false) : relaxF st i s j = s := by
  unfold relaxF; rw [hx, hy, Option.getD_some, Option.getD_some, h, if_neg Bool.false_ne_true]
/-- what the numbers are does not matter to what is right and what lies beside what -/
theorem isGrid_vals {g : GridT} {xs : List Nat} (h : isGrid g = true) (hl : xs.length = g.vals.length) : isGrid ⟨g.low, g.step, g.x, g.y, g.z, xs⟩ = true := by
  unfold isGrid at h ⊢; simp only [hl]; exact h
theorem nb_vals (g : GridT) (xs : List Nat) (i : Int) : nb ⟨g.low, g.step, g.x, g.y, g.z, xs⟩ i = nb g i := by
  unfold nb
  have hp : ∀ k, nbPart ⟨g.low, g.step, g.x, g.y, g.z, xs⟩ i k = nbPart g i k := fun k => by
    unfold nbPart; rfl
  have hk : ∀ k, nbK ⟨g.low, g.step, g.x, g.y, g.z, xs⟩ i k = nbK g i k := fun k => by
    induction k with
    | zero => rfl
    | succ k ih => unfold nbK; rw [ih, hp]
  exact hk 6
def swN (g : GridT) : Nat → List Nat
  | 0 => g.vals
  | k + 1 => (sweepG ⟨g.low, g.step, g.x, g.y, g.z, swN g k⟩ (icmp .eql ((k : Int) % 2) 1)).1
theorem swN_len (g : GridT) : ∀ k, (swN g k).length = g.vals.length
  | 0 => rfl
  | k + 1 => by unfold swN sweepG; rw [sweepTo_len]; exact swN_len g k
def swpOk (g : GridT) (n : Int) : Bool := isGrid g && inI n 0 32
def swpR (g : GridT) (n : Int) : GridT := if swpOk g n then ⟨g.low, g.step, g.x, g.y, g.z, swN g n.toNat⟩ else zG
theorem swpOk_f {g : GridT} {n : Int} (h : isGrid g = false ∨ inI n 0 32 = false) : swpOk g n = false := by rcases h with h | h <;> simp [swpOk, h]
theorem swpOk_t {g : GridT} {n : Int} (h : isGrid g = true ∧ inI n 0 32 = true) : swpOk g n = true := by simp [swpOk, h.1, h.2]
theorem swpR_f {g : GridT} {n : Int} (h : swpOk g n = false) : swpR g n = zG := by unfold swpR; rw [h]; rfl
theorem swpR_t {g : GridT} {n : Int} {k : Nat} (h : swpOk g n = true) (h1 : (k : Int) ≤ n) (h2 : ¬ (k : Int) < n) : swpR g n = ⟨g.low, g.step, g.x, g.y, g.z, swN g k⟩ := by
  have : n.toNat = k := by omega
  unfold swpR; rw [h, this]; rfl
theorem swpR_len (g : GridT) (n : Int) : (swpR g n).vals.length ≤ 5000 := by
  unfold swpR
  split
  · rename_i h
    simp only [swpOk, Bool.and_eq_true] at h
    have hc := isGrid_cnt h.1
    simp only [swN_len]; omega
  · exact Nat.zero_le _
theorem sweepG_len (g : GridT) (b : Bool) : (sweepG g b).1.length = g.vals.length := sweepTo_len g b _
/-- whether the sweep after k ones changes a number -/
def stChg (g : GridT) (k : Nat) : Bool := (sweepG ⟨g.low, g.step, g.x, g.y, g.z, swN g k⟩ (icmp .eql ((k : Int) % 2) 1)).2
/-- the first sweep, of n from k on, that changes none -/
def sprF (g : GridT) : Nat → Nat → Option Nat
  | 0, _ => none
  | n + 1, k => if stChg g k then sprF g n (k + 1) else some k
def sprFind (g : GridT) : Option Nat := sprF g 33 0
theorem sprF_succ (g : GridT) (n k : Nat) : sprF g (n + 1) k = if stChg g k then sprF g n (k + 1) else some k := rfl
theorem sprF_skip {g : GridT} : ∀ {k j n : Nat}, (∀ i, j ≤ i → i < j + k → stChg g i = true) → sprF g (n + k) j = sprF g n (j + k)
  | 0, _, _, _ => rfl
  | k + 1, j, n, h => by
    show sprF g (n + k + 1) j = _
    rw [sprF_succ, h j (Nat.le_refl _) (by omega), if_pos rfl, sprF_skip fun i h1 h2 => h i (by omega) (by omega), show j + 1 + k = j + (k + 1) by omega]
theorem sprFind_some {g : GridT} {k : Nat} (hk : k ≤ 32) (h : ∀ j, j < k → stChg g j = true) (hn : stChg g k = false) : sprFind g = some k := by
  unfold sprFind
  rw [show (33 : Nat) = (32 - k + 1) + k by omega, sprF_skip fun i _ hi => h i (by omega), Nat.zero_add]
  rw [sprF_succ, hn, if_neg Bool.false_ne_true]
theorem sprFind_none {g : GridT} (h : ∀ j, j < 33 → stChg g j = true) : sprFind g = none := by
  unfold sprFind
  rw [show (33 : Nat) = 0 + 33 from rfl, sprF_skip fun i _ hi => h i (by omega)]; rfl
theorem chg_step {g : GridT} {k : Nat} (h : ∀ j, j < k → stChg g j = true) (hk : stChg g k = true) : ∀ j, j < k + 1 → stChg g j = true := fun j hj => by
  rcases Nat.lt_or_ge j k with h1 | h1
  · exact h j h1
  · rw [show j = k by omega]; exact hk
def sprG (g : GridT) : GridT := if isGrid g then match sprFind g with | some k => ⟨g.low, g.step, g.x, g.y, g.z, swN g (k + 1)⟩ | none => zG else zG
def sprI (g : GridT) : Int := if isGrid g then match sprFind g with | some k => (k : Int) | none => 0 else 0
def sprB (g : GridT) : Bool := isGrid g && (sprFind g).isSome
section
variable {g : GridT} {k : Nat}
theorem sprG_f (h : isGrid g = false) : sprG g = zG := by unfold sprG; rw [h]; rfl
theorem sprI_f (h : isGrid g = false) : sprI g = 0 := by unfold sprI; rw [h]; rfl
theorem sprB_f (h : isGrid g = false) : sprB g = false := by unfold sprB; rw [h]; rfl
theorem sprG_n (h : isGrid g = true) (hf : sprFind g = none) : sprG g = zG := by unfold sprG; rw [h, hf]; rfl
theorem sprI_n (h : isGrid g = true) (hf : sprFind g = none) : sprI g = 0 := by unfold sprI; rw [h, hf]; rfl
theorem sprB_n (hf : sprFind g = none) : sprB g = false := by unfold sprB; rw [hf]; simp
theorem sprG_s (h : isGrid g = true) (hf : sprFind g = some k) : sprG g = ⟨g.low, g.step, g.x, g.y, g.z, swN g (k + 1)⟩ := by unfold sprG; rw [h, hf]; rfl
theorem sprI_s (h : isGrid g = true) (hf : sprFind g = some k) : sprI g = k := by unfold sprI; rw [h, hf]; rfl
theorem sprB_s (h : isGrid g = true) (hf : sprFind g = some k) : sprB g = true := by unfold sprB; rw [h, hf]; rfl
theorem sprG_len (g : GridT) : (sprG g).vals.length ≤ 5000 := by
  cases h : isGrid g
  · rw [sprG_f h]; exact Nat.zero_le _
  · cases hf : sprFind g with
    | none => rw [sprG_n h hf]; exact Nat.zero_le _
    | some k =>
      rw [sprG_s h hf]
      have hc := isGrid_cnt h
      simp only [swN_len]; omega
end
theorem vol_pos {g : GridT} (h : isGrid g = true) : 0 < g.vals.length := by
  have hc := isGrid_cnt h
  have h1 : 1 * 1 ≤ g.x * g.y := Int.mul_le_mul hc.1.1 hc.2.1.1 (by omega) (by omega)
  have h2 : 1 * 1 ≤ g.x * g.y * g.z := Int.mul_le_mul (by omega) hc.2.2.1.1 (by omega) (by omega)
  omega
theorem nb_get {g : GridT} {xs : List Nat} {i : Int} {m : Nat} {j : Int} (h : (nb ⟨g.low, g.step, g.x, g.y, g.z, xs⟩ i)[m]? = some j) : (nb g i)[m]? = some j := by rw [nb_vals] at h; exact h
theorem sweepTo_step {g : GridT} {back : Bool} {k m : Nat} {i : Int} (hi : swI back g.vals.length k = i) (h1 : m ≤ (nb g i).length) (h2 : ¬ (m : Int) < (nb g i).length) : sweepTo g back (k + 1) = rowS g i (sweepTo g back k) m := by
  have hm : m = (nb g i).length := by omega
  subst hi
  rw [hm]; rfl
theorem swI_t {back : Bool} {n k : Nat} (h : back = true) : swI back n k = (n : Int) - 1 - k := by rw [h]; rfl
theorem swI_f {back : Bool} {n k : Nat} (h : back = false) : swI back n k = k := by rw [h]; rfl
end Go.Proofs.Ytffmjlalacnfiaa
