/- maps, told as lists of what they hold, in the order in which it came in -/
import Derived.Test.YtoblnfkpjgghiaaRgm
import Derived.Maps.RangeRun
import Derived.Maps.Keyed
import Derived.WideKeyEntry
import Derived.WideKeyPair
namespace Go.Proofs.Ytoblnfkpjgghiaa
open Go Go.RowKit Go.Maps

/-! ### lists of keys and values -/
section
variable {κ ν : Type} [DecidableEq κ]
def atM : List (κ × ν) → κ → Option ν
  | [], _ => none
  | q :: l, p => if q.1 = p then some q.2 else atM l p
def putM : List (κ × ν) → κ → ν → List (κ × ν)
  | [], p, v => [(p, v)]
  | q :: l, p, v => if q.1 = p then (p, v) :: l else q :: putM l p v
variable {l : List (κ × ν)} {p q : κ} {v v0 : ν}
theorem atM_none : ∀ {l : List (κ × ν)}, (∀ q ∈ l, q.1 ≠ p) → atM l p = none
  | [], _ => rfl
  | q :: l, h => by unfold atM; rw [if_neg (h q (by simp))]; exact atM_none fun r hr => h r (by simp [hr])
theorem putM_none : ∀ {l : List (κ × ν)}, (∀ q ∈ l, q.1 ≠ p) → putM l p v = l ++ [(p, v)]
  | [], _ => rfl
  | q :: l, h => by unfold putM; rw [if_neg (h q (by simp)), putM_none fun r hr => h r (by simp [hr])]; rfl
theorem atM_get : ∀ {l : List (κ × ν)} {j : Nat}, (l.map Prod.fst).Nodup → l[j]? = some (p, v) → atM l p = some v
  | [], _, _, h => by simp at h
  | q :: l, 0, _, h => by cases h; simp [atM]
  | q :: l, j + 1, hn, h => by
    have hn' := List.nodup_cons.1 (by simpa using hn : (q.1 :: l.map Prod.fst).Nodup)
    have h' : l[j]? = some (p, v) := by simpa using h
    unfold atM
    rw [if_neg fun e => hn'.1 (List.mem_map.2 ⟨(p, v), List.mem_of_getElem? h', e.symm⟩)]
    exact atM_get hn'.2 h'
theorem putM_get : ∀ {l : List (κ × ν)} {j : Nat}, (l.map Prod.fst).Nodup → l[j]? = some (p, v0) → putM l p v = l.set j (p, v)
  | [], _, _, h => by simp at h
  | q :: l, 0, _, h => by cases h; simp [putM]
  | q :: l, j + 1, hn, h => by
    have hn' := List.nodup_cons.1 (by simpa using hn : (q.1 :: l.map Prod.fst).Nodup)
    have h' : l[j]? = some (p, v0) := by simpa using h
    unfold putM
    rw [if_neg fun e => hn'.1 (List.mem_map.2 ⟨(p, v0), List.mem_of_getElem? h', e.symm⟩), putM_get hn'.2 h']
    rfl
theorem atM_put (l : List (κ × ν)) (p : κ) (v : ν) (q : κ) : atM (putM l p v) q = if p = q then some v else atM l q := by
  induction l with
  | nil => simp [putM, atM]
  | cons r l ih =>
    unfold putM
    by_cases h : r.1 = p
    · rw [if_pos h]; simp only [atM]
      by_cases hq : p = q
      · simp [hq]
      · rw [if_neg hq, if_neg hq, if_neg (by rw [h]; exact hq)]
    · rw [if_neg h]; simp only [atM]
      by_cases hr : r.1 = q
      · rw [if_pos hr, if_pos hr, if_neg (by rw [← hr]; exact fun e => h e.symm)]
      · rw [if_neg hr, if_neg hr, ih]
theorem putM_keys (l : List (κ × ν)) (p : κ) (v : ν) (q : κ) : q ∈ (putM l p v).map Prod.fst ↔ q = p ∨ q ∈ l.map Prod.fst := by
  induction l with
  | nil => simp [putM]
  | cons r l ih =>
    unfold putM
    by_cases h : r.1 = p
    · rw [if_pos h]; simp [h]
    · rw [if_neg h]
      simp only [List.map_cons, List.mem_cons, ih]
      constructor
      · rintro (h | h | h) <;> simp [h]
      · rintro (h | h | h) <;> simp [h]
theorem putM_nodup (l : List (κ × ν)) (p : κ) (v : ν) (h : (l.map Prod.fst).Nodup) : ((putM l p v).map Prod.fst).Nodup := by
  induction l with
  | nil => simp [putM]
  | cons r l ih =>
    have hn := List.nodup_cons.1 (by simpa using h : (r.1 :: l.map Prod.fst).Nodup)
    unfold putM
    by_cases h : r.1 = p
    · rw [if_pos h]; simp only [List.map_cons]; rw [← h]; exact List.nodup_cons.2 hn
    · rw [if_neg h]; simp only [List.map_cons]
      exact List.nodup_cons.2 ⟨fun hm => ((putM_keys l p v r.1).1 hm).elim h hn.1, ih hn.2⟩
theorem putM_len (l : List (κ × ν)) (p : κ) (v : ν) : (putM l p v).length ≤ l.length + 1 := by
  induction l with
  | nil => simp [putM]
  | cons r l ih => unfold putM; split <;> simp; exact ih
theorem atM_mem {l : List (κ × ν)} (h : atM l p = some v) : (p, v) ∈ l := by
  induction l with
  | nil => cases h
  | cons r l ih =>
    unfold atM at h
    split at h
    · rename_i hr; cases h; rw [← hr]; simp
    · exact List.mem_cons_of_mem _ (ih h)
theorem atM_of_mem {l : List (κ × ν)} (hn : (l.map Prod.fst).Nodup) (h : (p, v) ∈ l) : atM l p = some v := by
  obtain ⟨j, hj⟩ := List.getElem?_of_mem h; exact atM_get hn hj
end

/-! ### the keys of a map's type, as plain values -/
structure KeyE (P : Program) (k : TypeId) (κ : Type) (enc : κ → Value) (ok : κ → Prop) : Prop where
  keyed : Keyed P k
  at_ : ∀ p, ok p → ∃ l, keyOf P k (enc p) = some l
  inj : ∀ p q, enc p = enc q → p = q
def encP (p : Int × Int) : Value := .agg #[.int .i64 p.1, .int .i64 p.2]
def okP (p : Int × Int) : Prop := 0 ≤ p.1 ∧ p.1 ≤ 1000000 ∧ 0 ≤ p.2 ∧ p.2 ≤ 1000000
def okK (p : Int) : Prop := 0 ≤ p ∧ p ≤ 1000000
theorem wf64 {a : Int} (h0 : 0 ≤ a) (h1 : a ≤ 1000000) : (Lit.int .i64 a).wf = true := by
  have e1 : IntKind.i64.min = -9223372036854775808 := by decide
  have e2 : IntKind.i64.max = 9223372036854775807 := by decide
  simp only [Lit.wf, e1, e2, Bool.and_eq_true, decide_eq_true_eq]; omega
theorem KeyE.pair {P : Program} {k e : TypeId} (A : Go.WideMaps.ArrKey P k e 2) (he : P.underlying e = some (.int .i64)) (hsz : ∃ m, P.types.size = m + 1) : KeyE P k (Int × Int) encP okP where
  keyed := Keyed.of_law A.law
  at_ p hp := ⟨_, Go.WideMaps.keyOf_pair A he hsz (wf64 hp.1 hp.2.1) (wf64 hp.2.2.1 hp.2.2.2)⟩
  inj p q h := by
    obtain ⟨a, b⟩ := p; obtain ⟨c, d⟩ := q
    simp only [encP, Value.agg.injEq] at h
    have h2 := congrArg Array.toList h
    simp at h2
    exact Prod.ext h2.1 h2.2
theorem KeyE.int {P : Program} {k : TypeId} (hk : P.underlying k = some (.int .i64)) : KeyE P k Int (Value.int .i64) okK where
  keyed := int_keyed hk
  at_ p hp := ⟨_, keyOf_int_mk hk (wf64 hp.1 hp.2)⟩
  inj p q h := by simpa using h

/-! ### a map's block -/
/-- block b holds this map -/
def MapL {κ ν : Type} (enc : κ → Value) (vnc : ν → Value) (ok : κ → Prop) (w : World) (b : Nat) (l : List (κ × ν)) : Prop :=
  ∃ (arr : Array MapEntry) (clock : Nat), w.heap[b]? = some (.map arr clock) ∧ MapKept.Stamped arr clock ∧ arr.toList.map (fun x => (x.key, x.val)) = l.map (fun p => (enc p.1, vnc p.2)) ∧ ∀ p ∈ l, ok p.1
/-- .. the entry of key p, which may just have been made, has this stamp -/
def MapE {κ ν : Type} [DecidableEq κ] (enc : κ → Value) (vnc : ν → Value) (ok : κ → Prop) (z : ν) (w : World) (b : Nat) (l : List (κ × ν)) (p : κ) (st : Nat) : Prop :=
  ∃ (arr : Array MapEntry) (clock j : Nat) (e0 : MapEntry), w.heap[b]? = some (.map arr clock) ∧ MapKept.Stamped arr clock ∧ arr.toList.map (fun x => (x.key, x.val)) = (putM l p ((atM l p).getD z)).map (fun p => (enc p.1, vnc p.2)) ∧ (∀ q ∈ l, ok q.1) ∧ ok p ∧
    arr.toList[j]? = some e0 ∧ e0.key = enc p ∧ e0.born = st ∧ (l.map Prod.fst).Nodup
section
variable {κ ν : Type} {P : Program} {k : TypeId} {enc : κ → Value} {vnc : ν → Value} {ok : κ → Prop} {w u : World} {b : Nat} {l : List (κ × ν)} {p : κ} {z : ν} {st : Nat}
theorem MapL.ext (h : MapL enc vnc ok w b l) (x : Ext w u) : MapL enc vnc ok u b l := by
  obtain ⟨arr, clock, hb, r⟩ := h; exact ⟨arr, clock, (x.block b (Array.getElem?_eq_some_iff.1 hb).1).trans hb, r⟩
theorem MapL.kl {L : List Nat} (h : MapL enc vnc ok w b l) (x : KpL L w u) (hn : b ∉ L) : MapL enc vnc ok u b l := by
  obtain ⟨arr, clock, hb, r⟩ := h; exact ⟨arr, clock, (x.other b (Array.getElem?_eq_some_iff.1 hb).1 hn).trans hb, r⟩
theorem MapL.lt (h : MapL enc vnc ok w b l) : b < w.heap.size := by obtain ⟨arr, clock, hb, r⟩ := h; exact (Array.getElem?_eq_some_iff.1 hb).1
theorem MapL.cast {l' : List (κ × ν)} (h : MapL enc vnc ok w b l) (e : l = l') : MapL enc vnc ok w b l' := e ▸ h
theorem MapL.nodup (h : MapL enc vnc ok w b l) : (l.map Prod.fst).Nodup := by
  obtain ⟨arr, clock, _, hs, he, _⟩ := h
  have h1 : (arr.toList.map (·.key)) = (l.map Prod.fst).map enc := by
    have := congrArg (List.map Prod.fst) he
    simpa [Function.comp_def] using this
  have h2 := hs.2.2
  rw [h1] at h2
  exact (List.pairwise_map.1 h2).imp fun h e => h (by rw [e])
/-- where a key stands -/
theorem find_key (K : KeyE P k κ enc ok) {arr : Array MapEntry} {l : List (κ × ν)} (he : arr.toList.map (fun x => (x.key, x.val)) = l.map (fun p => (enc p.1, vnc p.2))) (hok : ∀ p ∈ l, ok p.1) (hp : ok p) (w : World) :
    ((Instr.findKey k (enc p) arr.toList).run P w = .ok none w ∧ (∀ q ∈ l, q.1 ≠ p) ∧ ∀ x ∈ arr.toList, x.key ≠ enc p) ∨ ∃ (j : Nat) (e0 : MapEntry) (v : ν), (Instr.findKey k (enc p) arr.toList).run P w = .ok (some (j, vnc v)) w ∧ l[j]? = some (p, v) ∧ arr.toList[j]? = some e0 ∧ e0.key = enc p ∧ e0.val = vnc v := by
  obtain ⟨lp, hlp⟩ := K.at_ p hp
  have hkeys : ∀ e ∈ arr.toList, ∃ l, keyOf P k e.key = some l := fun e hm => by
    have : (e.key, e.val) ∈ l.map (fun p => (enc p.1, vnc p.2)) := by rw [← he]; exact List.mem_map.2 ⟨e, hm, rfl⟩
    obtain ⟨q, hq, hqe⟩ := List.mem_map.1 this
    obtain ⟨lq, hlq⟩ := K.at_ q.1 (hok q hq)
    have h1 : enc q.1 = e.key := congrArg Prod.fst hqe
    exact ⟨lq, by rw [← h1]; exact hlq⟩
  rcases K.keyed.find w hlp arr.toList hkeys with ⟨h1, h2⟩ | ⟨j, e0, h1, h2, h3⟩
  · refine .inl ⟨h1, fun q hq e => ?_, h2⟩
    have : (enc q.1, vnc q.2) ∈ arr.toList.map (fun x => (x.key, x.val)) := by rw [he]; exact List.mem_map.2 ⟨q, hq, rfl⟩
    obtain ⟨x, hx, hxe⟩ := List.mem_map.1 this
    exact h2 x hx (by rw [show x.key = enc q.1 from congrArg Prod.fst hxe, e])
  · have hj : (l.map (fun p => (enc p.1, vnc p.2)))[j]? = some (e0.key, e0.val) := by rw [← he, List.getElem?_map, h2]; rfl
    rw [List.getElem?_map] at hj
    cases hl : l[j]? with
    | none => rw [hl] at hj; cases hj
    | some q =>
      rw [hl] at hj
      simp only [Option.map_some, Option.some.injEq, Prod.mk.injEq] at hj
      have hq : q.1 = p := K.inj _ _ (by rw [hj.1, h3])
      refine .inr ⟨j, e0, q.2, by rw [h1, ← hj.2], ?_, h2, h3, hj.2.symm⟩
      rw [← hq]; exact hl
variable {a : Act} {dst : Option Tmp} {ty : TypeId} {pos : String} {af : Array Edge} {g : Option (Nat × Bool)}
theorem does_makeMap {t : TypeId} (enc : κ → Value) (vnc : ν → Value) (ok : κ → Prop) :
    does P ⟨dst, .makeMap t none, ty, pos, af, g⟩ a w (fun v w' => ∃ b, v = .map (some b) ∧ w.heap.size ≤ b ∧ MapL enc vnc ok w' b [] ∧ Ext w w') := by
  refine (does_run (u := .map (some w.heap.size)) (w' := w.alloc (.map #[] 0)) ?_).mono fun v w' ⟨h1, h2⟩ => ?_
  · simp [execOp, Instr.makeMap]
  · subst h1 h2
    exact ⟨_, rfl, Nat.le_refl _, ⟨#[], 0, heap_alloc_new w _, MapKept.stamped_empty 0, by simp, fun _ h => (by cases h)⟩, Ext.alloc w _⟩
theorem set_map_keys {arr : Array MapEntry} {l : List (κ × ν)} {j : Nat} {e0 : MapEntry} {v : ν} (he : arr.toList.map (fun x => (x.key, x.val)) = l.map (fun p => (enc p.1, vnc p.2))) (h3 : arr.toList[j]? = some e0) (h4 : e0.key = enc p) :
    (arr.modify j (fun x => { x with val := vnc v })).toList.map (fun x => (x.key, x.val)) = (l.set j (p, v)).map (fun p => (enc p.1, vnc p.2)) := by
  have hl : l.length = arr.toList.length := by have := congrArg List.length he; simpa using this.symm
  apply List.ext_getElem?
  intro i
  rw [Array.toList_modify, List.getElem?_map, List.getElem?_map, List.getElem?_modify, List.getElem?_set]
  by_cases hij : j = i
  · subst hij
    have hjl := (List.getElem?_eq_some_iff.1 h3).1
    rw [if_pos rfl, if_pos (by omega), h3]
    simp [h4]
  · rw [if_neg hij]
    have := congrArg (·[i]?) he
    simpa [hij] using this
theorem stamped_set {arr : Array MapEntry} {clock j : Nat} {v : Value} (hs : MapKept.Stamped arr clock) : MapKept.Stamped (arr.modify j (fun x => { x with val := v })) clock := by
  have h1 : ∀ (f : MapEntry → Nat), (∀ x, f { x with val := v } = f x) → (arr.modify j (fun x => { x with val := v })).toList.map f = arr.toList.map f := fun f hf => by
    apply List.ext_getElem?
    intro i
    rw [Array.toList_modify, List.getElem?_map, List.getElem?_map, List.getElem?_modify]
    by_cases hij : j = i
    · cases arr.toList[i]? <;> simp [hij, hf]
    · cases arr.toList[i]? <;> simp [hij]
  have h2 : (arr.modify j (fun x => { x with val := v })).toList.map (·.key) = arr.toList.map (·.key) := by
    apply List.ext_getElem?
    intro i
    rw [Array.toList_modify, List.getElem?_map, List.getElem?_map, List.getElem?_modify]
    by_cases hij : j = i
    · cases arr.toList[i]? <;> simp [hij]
    · cases arr.toList[i]? <;> simp [hij]
  refine ⟨fun x hx => ?_, by rw [h1 (·.born) (fun _ => rfl)]; exact hs.2.1, by rw [h2]; exact hs.2.2⟩
  have : x.born ∈ (arr.modify j (fun x => { x with val := v })).toList.map (·.born) := List.mem_map.2 ⟨x, hx, rfl⟩
  rw [h1 (·.born) (fun _ => rfl)] at this
  obtain ⟨y, hy, e⟩ := List.mem_map.1 this
  rw [← e]; exact hs.1 y hy
end
section
variable {κ ν : Type} [DecidableEq κ] {P : Program} {k : TypeId} {enc : κ → Value} {vnc : ν → Value} {ok : κ → Prop} {w u : World} {b : Nat} {l : List (κ × ν)} {p : κ} {z : ν} {st : Nat}
theorem MapE.ext (h : MapE enc vnc ok z w b l p st) (x : Ext w u) : MapE enc vnc ok z u b l p st := by
  obtain ⟨arr, clock, j, e0, hb, r⟩ := h; exact ⟨arr, clock, j, e0, (x.block b (Array.getElem?_eq_some_iff.1 hb).1).trans hb, r⟩
variable {a : Act} {dst : Option Tmp} {ty : TypeId} {pos : String} {af : Array Edge} {g : Option (Nat × Bool)}
theorem run_lookupL {t e : TypeId} (K : KeyE P k κ enc ok) (ht : P.underlying t = some (.map k e)) (hz : ∀ w, (zeroValue e).run P w = .ok (vnc z) w) {arr : Array MapEntry} {clock : Nat} (hb : w.heap[b]? = some (.map arr clock)) (he : arr.toList.map (fun x => (x.key, x.val)) = l.map (fun p => (enc p.1, vnc p.2))) (hok : ∀ p ∈ l, ok p.1) (hn : (l.map Prod.fst).Nodup) (hp : ok p) :
    (Instr.lookup t (.map (some b)) (enc p) false).run P w = .ok (vnc ((atM l p).getD z)) w := by
  obtain ⟨lp, hlp⟩ := K.at_ p hp
  rcases find_key K he hok hp w with ⟨h1, h2, _⟩ | ⟨j, e0, v, h1, h2, _⟩
  · simp [Instr.lookup, run_underlying ht, MapKept.run_getObj_map hb, K.keyed.check w _ hlp, h1, hz, Result.andThen, atM_none h2]
  · simp [Instr.lookup, run_underlying ht, MapKept.run_getObj_map hb, K.keyed.check w _ hlp, h1, Result.andThen, atM_get hn h2]
theorem does_lookup {t e : TypeId} {x y : Operand} (K : KeyE P k κ enc ok) (ht : P.underlying t = some (.map k e)) (hz : ∀ w, (zeroValue e).run P w = .ok (vnc z) w) (hx : a.eval x = .map (some b)) (hy : a.eval y = enc p) (h : MapL enc vnc ok w b l) (hp : ok p) :
    does P ⟨dst, .lookup t x y false, ty, pos, af, g⟩ a w (Is (vnc ((atM l p).getD z)) w) := by
  have hn := h.nodup
  obtain ⟨arr, clock, hb, hs, he, hok⟩ := h
  have hr := run_lookupL K ht hz hb he hok hn hp
  exact does_run (by simp [execOp, hx, hy, hr])
theorem does_lookupJ {t e : TypeId} {x y : Operand} (K : KeyE P k κ enc ok) (ht : P.underlying t = some (.map k e)) (hz : ∀ w, (zeroValue e).run P w = .ok (vnc z) w) (hx : a.eval x = .map (some b)) (hy : a.eval y = enc p) (h : MapL enc vnc ok w b l ∨ ∃ st, MapE enc vnc ok z w b l p st) (hp : ok p) :
    does P ⟨dst, .lookup t x y false, ty, pos, af, g⟩ a w (Is (vnc ((atM l p).getD z)) w) := by
  rcases h with h | ⟨st, arr, clock, j, e0, hb, hs, he, hok, hp', _, _, _, hn⟩
  · exact does_lookup K ht hz hx hy h hp
  · have hr := run_lookupL K ht hz hb he (fun q hq => ((putM_keys l p _ q.1).1 (List.mem_map.2 ⟨q, hq, rfl⟩)).elim (fun e => e ▸ hp') fun h => by obtain ⟨r, hr, hre⟩ := List.mem_map.1 h; rw [← hre]; exact hok r hr) (putM_nodup l p _ hn) hp
    rw [atM_put, if_pos rfl, Option.getD_some] at hr
    exact does_run (by simp [execOp, hx, hy, hr])
theorem does_mapEntry {t e : TypeId} {x y : Operand} (K : KeyE P k κ enc ok) (ht : P.underlying t = some (.map k e)) (hz : ∀ w, (zeroValue e).run P w = .ok (vnc z) w) (hx : a.eval x = .map (some b)) (hy : a.eval y = enc p) (h : MapL enc vnc ok w b l) (hp : ok p) :
    does P ⟨dst, .mapEntry t x y, ty, pos, af, g⟩ a w (fun v w' => ∃ v0 st, v = .tuple #[v0, goInt (st : Nat)] ∧ KpL [b] w w' ∧ MapE enc vnc ok z w' b l p st) := by
  have hn := h.nodup
  obtain ⟨arr, clock, hb, hs, he, hok⟩ := h
  obtain ⟨lp, hlp⟩ := K.at_ p hp
  have hK : ∀ o, KpL [b] w (ChangeMaps.setBlock w b o) := fun o => ⟨rfl, rfl, rfl, by simp [ChangeMaps.setBlock], fun i _ hi => ChangeMaps.heap_setBlock_other hb o (fun e => hi (by simp [e]))⟩
  rcases find_key K he hok hp w with ⟨h1, h2, h2'⟩ | ⟨j, e0, v, h1, h2, h3, h4, h5⟩
  · refine (does_run (u := .tuple #[vnc z, goInt clock]) (w' := ChangeMaps.setBlock w b (.map (arr.push ⟨enc p, vnc z, clock⟩) (clock + 1))) ?_).mono fun v w' ⟨e1, e2⟩ => ?_
    · simp [execOp, hx, hy, Instr.mapEntry, run_underlying ht, MapKept.run_getObj_map hb, K.keyed.check w false hlp, h1, hz, MapKept.run_setObj_map _ hb, Result.andThen, ChangeMaps.setBlock]
    · subst e1 e2
      refine ⟨_, clock, rfl, hK _, _, _, arr.toList.length, ⟨enc p, vnc z, clock⟩, ChangeMaps.heap_setBlock_same hb _, MapKept.stamped_push hs h2', ?_, hok, hp, by simp, rfl, rfl, hn⟩
      rw [atM_none h2, putM_none h2]; simp [he]
  · have hj : arr[j]? = some e0 := by simpa using h3
    have hjl := (List.getElem?_eq_some_iff.1 h3).1
    have hsame : arr.modify j (fun x => { x with key := enc p }) = arr := by
      apply Array.ext'
      rw [Array.toList_modify]
      apply List.ext_getElem?
      intro i
      rw [List.getElem?_modify]
      by_cases hij : j = i
      · subst hij
        have h3' := h3
        simp only [if_true] at h3' ⊢
        rw [h3', ← h4]; rfl
      · simp [hij]
    refine (does_run (u := .tuple #[vnc v, goInt e0.born]) (w' := ChangeMaps.setBlock w b (.map arr clock)) ?_).mono fun v' w' ⟨e1, e2⟩ => ?_
    · simp [execOp, hx, hy, Instr.mapEntry, run_underlying ht, MapKept.run_getObj_map hb, K.keyed.check w false hlp, h1, hj, h4, K.keyed.stays w hlp, hsame, MapKept.run_setObj_map _ hb, Result.andThen, ChangeMaps.setBlock]
    · subst e1 e2
      refine ⟨_, e0.born, rfl, hK _, arr, clock, j, e0, ChangeMaps.heap_setBlock_same hb _, hs, ?_, hok, hp, h3, h4, rfl, hn⟩
      rw [atM_get hn h2, Option.getD_some, putM_get hn h2, he]
      congr 1
      have : l.set j (p, v) = l := by
        apply List.ext_getElem?
        intro i
        rw [List.getElem?_set]
        by_cases hij : j = i
        · subst hij; rw [if_pos rfl, h2]; split <;> first | rfl | (rename_i hh; exact absurd (List.getElem?_eq_some_iff.1 h2).1 hh)
        · rw [if_neg hij]
      exact this.symm
theorem does_entryStore {t : TypeId} {x s y : Operand} {v : ν} (K : KeyE P k κ enc ok) (hx : a.eval x = .map (some b)) (hS : a.eval s = goInt (st : Nat)) (hy : a.eval y = vnc v) (h : MapE enc vnc ok z w b l p st) :
    does P ⟨dst, .entryStore t x s y, ty, pos, af, g⟩ a w (fun u w' => u = undef ∧ KpL [b] w w' ∧ MapL enc vnc ok w' b (putM l p v)) := by
  obtain ⟨arr, clock, j, e0, hb, hs, he, hok, hp, h3, h4, rfl, hn⟩ := h
  have hidx : arr.findIdx? (fun e => ((e.born : Nat) : Int) == ((e0.born : Nat) : Int)) = some j := by
    rw [Go.WideElems.findIdx_arr]; exact Go.WideElems.findIdx_born hs.2.1 h3
  have hok2 : ∀ q ∈ putM l p ((atM l p).getD z), ok q.1 := fun q hq => ((putM_keys l p _ q.1).1 (List.mem_map.2 ⟨q, hq, rfl⟩)).elim (fun e => e ▸ hp) fun h => by obtain ⟨r, hr, hre⟩ := List.mem_map.1 h; rw [← hre]; exact hok r hr
  have hl1 : (putM l p ((atM l p).getD z))[j]? = some (p, (atM l p).getD z) := by
    have hj : ((putM l p ((atM l p).getD z)).map (fun p => (enc p.1, vnc p.2)))[j]? = some (e0.key, e0.val) := by rw [← he, List.getElem?_map, h3]; rfl
    rw [List.getElem?_map] at hj
    cases hl : (putM l p ((atM l p).getD z))[j]? with
    | none => rw [hl] at hj; cases hj
    | some q =>
      rw [hl] at hj
      simp only [Option.map_some, Option.some.injEq, Prod.mk.injEq] at hj
      have hq : q.1 = p := K.inj _ _ (by rw [hj.1, h4])
      have h5 : atM (putM l p ((atM l p).getD z)) p = some q.2 := atM_get (j := j) (putM_nodup l p _ hn) (by rw [hl, ← hq])
      rw [atM_put, if_pos rfl] at h5
      rw [← hq]
      have := Option.some.inj h5
      rw [hq, this]; rw [← hq]
  have hrun : (execOp a.eval ⟨dst, .entryStore t x s y, ty, pos, af, g⟩).run P w = .ok .skip (ChangeMaps.setBlock w b (.map (arr.modify j (fun x => { x with val := vnc v })) clock)) := by
    simp [execOp, hx, hS, hy, Instr.entryStore, MapKept.run_getObj_map hb, asInt, asIntOf, goInt, hidx, MapKept.run_setObj_map _ hb, Result.andThen, ChangeMaps.setBlock]
  · unfold does
    rw [hrun]
    refine ⟨rfl, ⟨rfl, rfl, rfl, by simp [ChangeMaps.setBlock], fun i _ hi => ChangeMaps.heap_setBlock_other hb _ (fun e => hi (by simp [e]))⟩, _, clock, ChangeMaps.heap_setBlock_same hb _, stamped_set hs, ?_, fun q hq => ?_⟩
    · rw [set_map_keys he h3 h4]
      congr 1
      rw [← putM_get (v := v) (putM_nodup l p _ hn) hl1]
      -- putting twice
      clear hl1 he hok2
      induction l with
      | nil => simp [putM]
      | cons r l ih =>
        have hn' := List.nodup_cons.1 (by simpa using hn : (r.1 :: l.map Prod.fst).Nodup)
        by_cases hr : r.1 = p
        · simp [putM, hr]
        · have e1 : atM (r :: l) p = atM l p := by simp [atM, hr]
          rw [e1]
          simp only [putM, if_neg hr]
          rw [ih (fun q hq => hok q (by simp [hq])) hn'.2]
    · exact ((putM_keys l p _ q.1).1 (List.mem_map.2 ⟨q, hq, rfl⟩)).elim (fun e => e ▸ hp) fun h => by obtain ⟨r, hr, hre⟩ := List.mem_map.1 h; rw [← hre]; exact hok r hr
end
end Go.Proofs.Ytoblnfkpjgghiaa
