/- Slices that are read: element by element, each what a relation tells. -/
import Derived.Test.YthmejogjmjjmgaaReg
namespace Go.Proofs.Ythmejogjmjjmgaa
open Go Go.RowKit

/-- what k cells stand for -/
abbrev Rel (α : Type) := World → α → List Value → Prop
/-- it stays so as the world grows -/
def Mono {α : Type} (R : Rel α) : Prop := ∀ w w' x cs, Ext w w' → R w x cs → R w' x cs

/-- a slice that reads as these elements, of k cells each -/
def Sl {α : Type} (R : Rel α) (k : Nat) (w : World) (v : Value) (xs : List α) : Prop :=
  xs.length ≤ 140737488355328 ∧ ∃ p c, v = .slice p xs.length c ∧ ∀ i x, xs[i]? = some x → ∃ b off cs, p = some ⟨b, off, none⟩ ∧ Cells w b (off + i * k) cs ∧ R w x cs ∧ cs.length = k ∧ 0 < k ∧ i < c

def RF : Rel Nat := fun _ x cs => ∃ r, cs = [.float .f32 r] ∧ cf .f32 r = x
def RI : Rel Int := fun _ n cs => cs = [.int .i64 n]
def RS {α : Type} (R : Rel α) (k : Nat) : Rel (List α) := fun w xs cs => ∃ v, cs = [v] ∧ Sl R k w v xs

theorem RF.mono : Mono RF := fun _ _ _ _ _ h => h
theorem RI.mono : Mono RI := fun _ _ _ _ _ h => h
theorem Sl.ext {α : Type} {R : Rel α} {k : Nat} {w w' : World} {v : Value} {xs : List α} (h : Sl R k w v xs) (hR : Mono R) (hx : Ext w w') : Sl R k w' v xs := by
  obtain ⟨hl, p, c, rfl, h⟩ := h
  refine ⟨hl, p, c, rfl, fun i x hi => ?_⟩
  obtain ⟨b, off, cs, rfl, hc, hr, hk⟩ := h i x hi
  exact ⟨b, off, cs, rfl, hc.ext hx, hR _ _ _ _ hx hr, hk⟩
theorem RS.mono {α : Type} {R : Rel α} {k : Nat} (hR : Mono R) : Mono (RS R k) := fun _ _ _ _ hx ⟨v, hv, hs⟩ => ⟨v, hv, hs.ext hR hx⟩
theorem Sl.len {α : Type} {R : Rel α} {k : Nat} {w : World} {v : Value} {xs : List α} (h : Sl R k w v xs) : xs.length ≤ 140737488355328 := h.1
/-- the shape of the value -/
theorem Sl.shape {α : Type} {R : Rel α} {k : Nat} {w : World} {v : Value} {xs : List α} (h : Sl R k w v xs) : ∃ p c, v = .slice p xs.length c := ⟨_, _, h.2.choose_spec.choose_spec.1⟩
theorem Sl.get {α : Type} {R : Rel α} {k : Nat} {w : World} {p : Option Addr} {n c : Nat} {xs : List α} (h : Sl R k w (.slice p n c) xs) (i : Nat) (x : α) (hi : xs[i]? = some x) :
    ∃ b off cs, p = some ⟨b, off, none⟩ ∧ Cells w b (off + i * k) cs ∧ R w x cs ∧ cs.length = k := by
  obtain ⟨_, p', c', he, h⟩ := h
  cases he
  obtain ⟨b, off, cs, hp, hc, hr, hk, _⟩ := h i x hi
  exact ⟨b, off, cs, hp, hc, hr, hk⟩

theorem Sl_nil {α : Type} (R : Rel α) (k : Nat) (w : World) : Sl R k w (.slice none 0 0) [] := ⟨by simp, none, 0, rfl, fun i x hi => by simp at hi⟩
/-- a pointer to what stands for x -/
def PtrR {α : Type} (R : Rel α) (w : World) (v : Value) (x : α) : Prop := ∃ b off cs, v = .pointer (some ⟨b, off, none⟩) ∧ Cells w b off cs ∧ R w x cs
theorem PtrR.ext {α : Type} {R : Rel α} {w w' : World} {v : Value} {x : α} (h : PtrR R w v x) (hR : Mono R) (hx : Ext w w') : PtrR R w' v x :=
  let ⟨b, off, cs, hv, hc, hr⟩ := h
  ⟨b, off, cs, hv, hc.ext hx, hR _ _ _ _ hx hr⟩

section
variable {P : Program} {a : Act} {w : World} {dst : Option Tmp} {ty : TypeId} {pos : String} {af : Array Edge} {g : Option (Nat × Bool)}
theorem does_indexSl {α : Type} {R : Rel α} {k t : Nat} {x y : Operand} {p : Option Addr} {n c : Nat} {xs : List α} {i : Int} {e : α} (ht : P.underlying t = some (.slice (P.elem t))) (hS : ∀ w, (sizeOf (P.elem t)).run P w = .ok k w)
    (hx : a.eval x = .slice p n c) (hy : a.eval y = .int .i64 i) (h : Sl R k w (.slice p n c) xs) (h0 : 0 ≤ i) (he : xs[i.toNat]? = some e) :
    does P ⟨dst, .indexAddr t x y, ty, pos, af, g⟩ a w (fun v w' => ∃ b off cs, v = .pointer (some ⟨b, off, none⟩) ∧ Cells w b off cs ∧ R w e cs ∧ w' = w) := by
  have hl : xs.length = n := by obtain ⟨_, p', c', h1, _⟩ := h; cases h1; rfl
  have hlt : i.toNat < xs.length := (List.getElem?_eq_some_iff.1 he).1
  obtain ⟨b, off, cs, rfl, hc, hr, hk⟩ := h.get i.toNat e he
  refine (does_run (u := .pointer (some ⟨b, off + i.toNat * k, none⟩)) (w' := w) ?_).mono fun v w' ⟨h1, h2⟩ => ⟨b, _, cs, h1, hc, hr, h2⟩
  have hb : 0 ≤ i ∧ i < (n : Int) := ⟨h0, by omega⟩
  have hr2 := run_indexAt_slice (P := P) w t ⟨b, off, none⟩ n c .i64 i ht
  rw [if_pos hb] at hr2
  have ha : (⟨b, off, none⟩ : Addr).add (i.toNat * k) = ⟨b, off + i.toNat * k, none⟩ := Addr.add_lit b off _
  simp only [hS, Result.andThen_ok, ha] at hr2
  simp only [execOp, hx, hy, Sem.run_bind, hr2, Result.andThen_ok, Sem.run_pure]
theorem does_makeFunc {fn : Fn} {fs cs : Array Operand} {us vs : List Value} {u : Value} (hf : fs.toList.map a.eval = us) (hc : cs.toList.map a.eval = vs) (hu : u = .func fn us.toArray vs.toArray) :
    does P ⟨dst, .makeFunc fn fs cs, ty, pos, af, g⟩ a w (Is u w) := does_run (by
  have h1 : fs.map a.eval = us.toArray := by rw [← Array.toList_inj, Array.toList_map, hf]
  have h2 : cs.map a.eval = vs.toArray := by rw [← Array.toList_inj, Array.toList_map, hc]
  simp [execOp, Instr.makeFunc, h1, h2, hu])
/-- the byte of a string at a place -/
def byteAt (s : ByteArray) (i : Nat) : Nat := if h : i < s.size then (s[i]'h).toNat else 0
theorem does_index_string {t : TypeId} {x y : Operand} {s : ByteArray} {i : Int} (ht : P.underlying t = some .string) (hx : a.eval x = .string s) (hy : a.eval y = .int .i64 i) (h0 : 0 ≤ i) (h1 : i < s.size) :
    does P ⟨dst, .index t x y, ty, pos, af, g⟩ a w (Is (.int .u8 (byteAt s i.toNat : Nat)) w) := does_run (by
  have hr := run_index_string (P := P) w t s .i64 i ht
  rw [dif_pos ⟨h0, h1⟩] at hr
  have hb : byteAt s i.toNat = (s[i.toNat]'(by omega)).toNat := by unfold byteAt; rw [dif_pos (by omega)]
  simp only [execOp, hx, hy, Sem.run_bind, hr, Result.andThen_ok, Sem.run_pure, hb])
/-- a call of a function value -/
theorem does_callf {f : FuncId} {x : Operand} {xs : Array Operand} {ats : Array TypeId} {fst cap args : Array Value} {R : Value → World → Prop} (hv : a.eval x = .func (.func f) fst cap)
    (hf : ∀ args w, (callFunc f args).run P w = .ok (.enter f args) w) (hx : xs.toList.map a.eval = args.toList)
    (h : Gives P f (fst ++ args ++ cap) w R) : does P ⟨dst, .call ⟨.value x, xs, ats⟩, ty, pos, af, g⟩ a w (fun v w' => Ext w w' ∧ R v w') :=
  does_callv hv hf hx (by simp) h
end

/-! slices written out -/
theorem Sl_lit {α : Type} {R : Rel α} {k : Nat} {w : World} {b : Nat} {cs : List Value} {xs : List α} (hb : Blk w b cs) (hk : 0 < k) (hl : xs.length ≤ 1000) (h : ∀ i x, xs[i]? = some x → R w x ((cs.drop (i * k)).take k) ∧ ((cs.drop (i * k)).take k).length = k) :
    Sl R k w (.slice (some ⟨b, 0, none⟩) xs.length xs.length) xs := by
  refine ⟨by omega, _, _, rfl, fun i x hi => ?_⟩
  obtain ⟨h1, h2⟩ := h i x hi
  exact ⟨b, 0, _, rfl, hb.cells.sub (i * k) k, h1, h2, hk, (List.getElem?_eq_some_iff.1 hi).1⟩
theorem Sl_lit1 {α : Type} {R : Rel α} {w : World} {b : Nat} {c0 : Value} {x0 : α} (hb : Blk w b [c0]) (h0 : R w x0 [c0]) : Sl R 1 w (.slice (some ⟨b, 0, none⟩) 1 1) [x0] :=
  Sl_lit hb (by decide) (by simp) fun i x hi => by
    match i, hi with
    | 0, hi => cases hi; exact ⟨h0, rfl⟩
    | i + 1, hi => simp at hi
theorem Sl_lit2 {α : Type} {R : Rel α} {w : World} {b : Nat} {c0 c1 : Value} {x0 x1 : α} (hb : Blk w b [c0, c1]) (h0 : R w x0 [c0]) (h1 : R w x1 [c1]) : Sl R 1 w (.slice (some ⟨b, 0, none⟩) 2 2) [x0, x1] :=
  Sl_lit hb (by decide) (by simp) fun i x hi => by
    match i, hi with
    | 0, hi => cases hi; exact ⟨h0, rfl⟩
    | 1, hi => cases hi; exact ⟨h1, rfl⟩
    | i + 2, hi => simp at hi
theorem Sl_lit3 {α : Type} {R : Rel α} {w : World} {b : Nat} {c0 c1 c2 : Value} {x0 x1 x2 : α} (hb : Blk w b [c0, c1, c2]) (h0 : R w x0 [c0]) (h1 : R w x1 [c1]) (h2 : R w x2 [c2]) : Sl R 1 w (.slice (some ⟨b, 0, none⟩) 3 3) [x0, x1, x2] :=
  Sl_lit hb (by decide) (by simp) fun i x hi => by
    match i, hi with
    | 0, hi => cases hi; exact ⟨h0, rfl⟩
    | 1, hi => cases hi; exact ⟨h1, rfl⟩
    | 2, hi => cases hi; exact ⟨h2, rfl⟩
    | i + 3, hi => simp at hi

/-- a function value that tells a Bool of a number -/
def TellsF (P : Program) (v : Value) (w : World) (p : Nat → Bool) : Prop :=
  ∃ f fst cap, v = .func (.func f) fst cap ∧ (∀ args w, (callFunc f args).run P w = .ok (.enter f args) w) ∧ ∀ r w', Ext w w' → Gives P f (fst ++ #[.float .f32 r] ++ cap) w' (fun u _ => u = .bool (p (cf .f32 r)))
/-- a function value that makes a number of two -/
def NumF2 (P : Program) (v : Value) (w : World) (p : Nat → Nat → Nat) : Prop :=
  ∃ f fst cap, v = .func (.func f) fst cap ∧ (∀ args w, (callFunc f args).run P w = .ok (.enter f args) w) ∧ ∀ r s w', Ext w w' → Gives P f (fst ++ #[.float .f32 r, .float .f32 s] ++ cap) w' (fun u _ => ∃ t, u = .float .f32 t ∧ cf .f32 t = p (cf .f32 r) (cf .f32 s))
/-- the first element of which p holds, or -1 -/
def findI {α : Type} (p : α → Bool) (xs : List α) : Int := match xs.findIdx? p with | some i => i | none => -1
theorem findI_at {α : Type} {p : α → Bool} {xs : List α} {k : Nat} (h : ∀ j, j < k → ∀ x, xs[j]? = some x → p x = false) {x : α} (hx : xs[k]? = some x) (hp : p x = true) : findI p xs = k := by
  have hlt := (List.getElem?_eq_some_iff.1 hx).1
  have hxe := (List.getElem?_eq_some_iff.1 hx).2
  have : xs.findIdx? p = some k := by
    rw [List.findIdx?_eq_some_iff_getElem]
    refine ⟨hlt, by rw [hxe]; exact hp, fun j hj => ?_⟩
    have := h j hj _ (List.getElem?_eq_getElem (by omega))
    simp [this]
  simp [findI, this]
theorem findI_none {α : Type} {p : α → Bool} {xs : List α} {k : Nat} (h : ∀ j, j < k → ∀ x, xs[j]? = some x → p x = false) (hk : xs.length ≤ k) : findI p xs = -1 := by
  have : xs.findIdx? p = none := by
    rw [List.findIdx?_eq_none_iff]
    intro x hx
    obtain ⟨i, hi, rfl⟩ := List.mem_iff_getElem.1 hx
    exact h i (by omega) _ (List.getElem?_eq_getElem hi)
  simp [findI, this]
/-- of the first k elements p holds of none -/
def NoneTo {α : Type} (p : α → Bool) (xs : List α) (k : Nat) : Prop := ∀ j, j < k → ∀ x, xs[j]? = some x → p x = false
theorem NoneTo.zero {α : Type} {p : α → Bool} {xs : List α} : NoneTo p xs 0 := fun j hj => by omega
theorem NoneTo.step {α : Type} {p : α → Bool} {xs : List α} {k : Nat} (h : NoneTo p xs k) {e : α} (he : xs[k]? = some e) (hp : p e = false) : NoneTo p xs (k + 1) := fun j hj x hx => by
  rcases Nat.lt_or_ge j k with h' | h'
  · exact h j h' x hx
  · obtain rfl : j = k := by omega
    rw [he] at hx; cases hx; exact hp
theorem findI_any {α : Type} (p : α → Bool) (xs : List α) : icmp .geq (findI p xs) 0 = xs.any p := by
  unfold findI icmp
  cases h : xs.findIdx? p with
  | none =>
    rw [List.findIdx?_eq_none_iff] at h
    have : xs.any p = false := by simpa using h
    simp [this]
  | some i =>
    rw [List.findIdx?_eq_some_iff_getElem] at h
    obtain ⟨hi, hp, _⟩ := h
    have : xs.any p = true := List.any_eq_true.2 ⟨_, List.getElem_mem hi, hp⟩
    simp [this]
end Go.Proofs.Ythmejogjmjjmgaa
