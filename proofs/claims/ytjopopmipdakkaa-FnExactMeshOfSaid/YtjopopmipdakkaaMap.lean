/- maps, told as lists of what they hold, in the order in which it came in -/
import Derived.Test.YtjopopmipdakkaaRgm
import Derived.Maps.RangeRun
import Derived.Maps.Keyed
import Derived.WideKeyEntry
import Derived.WideKeyPair
namespace Go.Proofs.Ytjopopmipdakkaa
open Go Go.RowKit Go.Maps
section
variable {κ ν : Type} [DecidableEq κ]
def atM : List (κ × ν) → κ → Option ν
  | [], _ => none
  | q :: l, p => if q.1 = p then some q.2 else atM l p
def putM : List (κ × ν) → κ → ν → List (κ × ν)
  | [], p, v => [(p, v)]
  | q :: l, p, v => if q.1 = p then (p, v) :: l else q :: putM l p v
variable {l : List (κ × ν)} {p q : κ} {v v0 : ν}
theorem atM_none : ∀ {l : List (κ × ν)}, (∀ q ∈ l, q.1 ≠ p) → atM l p = none
  | [], _ => rfl
  | q :: l, h => by unfold atM; rw [if_neg (h q (by simp))]; exact atM_none fun r hr => h r (by simp [hr])
theorem putM_none : ∀ {l : List (κ × ν)}, (∀ q ∈ l, q.1 ≠ p) → putM l p v = l ++ [(p, v)]
  | [], _ => rfl
  | q :: l, h => by unfold putM; rw [if_neg (h q (by simp)), putM_none fun r hr => h r (by simp [hr])]; rfl
theorem atM_get : ∀ {l : List (κ × ν)} {j : Nat}, (l.map Prod.fst).Nodup → l[j]? = some (p, v) → atM l p = some v
  | [], _, _, h => by simp at h
  | q :: l, 0, _, h => by cases h; simp [atM]
  | q :: l, j + 1, hn, h => by
    have hn' := List.nodup_cons.1 (by simpa using hn : (q.1 :: l.map Prod.fst).Nodup)
    have h' : l[j]? = some (p, v) := by simpa using h
    unfold atM
    rw [if_neg fun e => hn'.1 (List.mem_map.2 ⟨(p, v), List.mem_of_getElem? h', e.symm⟩)]
    exact atM_get hn'.2 h'
theorem putM_get : ∀ {l : List (κ × ν)} {j : Nat}, (l.map Prod.fst).Nodup → l[j]? = some (p, v0) → putM l p v = l.set j (p, v)
  | [], _, _, h => by simp at h
  | q :: l, 0, _, h => by cases h; simp [putM]
  | q :: l, j + 1, hn, h => by
    have hn' := List.nodup_cons.1 (by simpa using hn : (q.1 :: l.map Prod.fst).Nodup)
    have h' : l[j]? = some (p, v0) := by simpa using h
    unfold putM
    rw [if_neg fun e => hn'.1 (List.mem_map.2 ⟨(p, v0), List.mem_of_getElem? h', e.symm⟩), putM_get hn'.2 h']
    rfl
theorem atM_put (l : List (κ × ν)) (p : κ) (v : ν) (q : κ) : atM (putM l p v) q = if p = q then some v else atM l q := by
  induction l with
  | nil => simp [putM, atM]
  | cons r l ih =>
    unfold putM
    by_cases h : r.1 = p
    · rw [if_pos h]; simp only [atM]
      by_cases hq : p = q
      · simp [hq]
      · rw [if_neg hq, if_neg hq, if_neg (by rw [h]; exact hq)]
    · rw [if_neg h]; simp only [atM]
      by_cases hr : r.1 = q
      · rw [if_pos hr, if_pos hr, if_neg (by rw [← hr]; exact fun e => h e.symm)]
      · rw [if_neg hr, if_neg hr, ih]
theorem putM_keys (l : List (κ × ν)) (p : κ) (v : ν) (q : κ) : q ∈ (putM l p v).map Prod.fst ↔ q = p ∨ q ∈ l.map Prod.fst := by
  induction l with
  | nil => simp [putM]
  | cons r l ih =>
    unfold putM
    by_cases h : r.1 = p
    · rw [if_pos h]; simp [h]
    · rw [if_neg h]
      simp only [List.map_cons, List.mem_cons, ih]
      constructor
      · rintro (h | h | h) <;> simp [h]
      · rintro (h | h | h) <;> simp [h]
end
structure KeyE (P : Program) (k : TypeId) (κ : Type) (enc : κ → Value) (ok : κ → Prop) : Prop where
  keyed : Keyed P k
  at_ : ∀ p, ok p → ∃ l, keyOf P k (enc p) = some l
  inj : ∀ p q, enc p = enc q → p = q
def encP (p : Int × Int) : Value := .agg #[.int .i64 p.1, .int .i64 p.2]
def okP (p : Int × Int) : Prop := 0 ≤ p.1 ∧ p.1 ≤ 1000000 ∧ 0 ≤ p.2 ∧ p.2 ≤ 1000000
theorem wf64 {a : Int} (h0 : 0 ≤ a) (h1 : a ≤ 1000000) : (Lit.int .i64 a).wf = true := by
  have e1 : IntKind.i64.min = -9223372036854775808 := by decide
  have e2 : IntKind.i64.max = 9223372036854775807 := by decide
  simp only [Lit.wf, e1, e2, Bool.and_eq_true, decide_eq_true_eq]; omega
theorem KeyE.pair {P : Program} {k e : TypeId} (A : Go.WideMaps.ArrKey P k e 2) (he : P.underlying e = some (.int .i64)) (hsz : ∃ m, P.types.size = m + 1) : KeyE P k (Int × Int) encP okP where
  keyed := Keyed.of_law A.law
  at_ p hp := ⟨_, Go.WideMaps.keyOf_pair A he hsz (wf64 hp.1 hp.2.1) (wf64 hp.2.2.1 hp.2.2.2)⟩
  inj p q h := by
    obtain ⟨a, b⟩ := p; obtain ⟨c, d⟩ := q
    simp only [encP, Value.agg.injEq] at h
    have h2 := congrArg Array.toList h
    simp at h2
    exact Prod.ext h2.1 h2.2
def MapL {κ ν : Type} (enc : κ → Value) (vnc : ν → Value) (ok : κ → Prop) (w : World) (b : Nat) (l : List (κ × ν)) : Prop :=
  ∃ (arr : Array MapEntry) (clock : Nat), w.heap[b]? = some (.map arr clock) ∧ MapKept.Stamped arr clock ∧ arr.toList.map (fun x => (x.key, x.val)) = l.map (fun p => (enc p.1, vnc p.2)) ∧ ∀ p ∈ l, ok p.1
section
variable {κ ν : Type} {P : Program} {k : TypeId} {enc : κ → Value} {vnc : ν → Value} {ok : κ → Prop} {w u : World} {b : Nat} {l : List (κ × ν)} {p : κ} {z : ν} {st : Nat}
theorem MapL.ext (h : MapL enc vnc ok w b l) (x : Ext w u) : MapL enc vnc ok u b l := by
  obtain ⟨arr, clock, hb, r⟩ := h; exact ⟨arr, clock, (x.block b (Array.getElem?_eq_some_iff.1 hb).1).trans hb, r⟩
theorem MapL.kl {L : List Nat} (h : MapL enc vnc ok w b l) (x : KpL L w u) (hn : b ∉ L) : MapL enc vnc ok u b l := by
  obtain ⟨arr, clock, hb, r⟩ := h; exact ⟨arr, clock, (x.other b (Array.getElem?_eq_some_iff.1 hb).1 hn).trans hb, r⟩
theorem MapL.lt (h : MapL enc vnc ok w b l) : b < w.heap.size := by obtain ⟨arr, clock, hb, r⟩ := h; exact (Array.getElem?_eq_some_iff.1 hb).1
theorem MapL.cast {l' : List (κ × ν)} (h : MapL enc vnc ok w b l) (e : l = l') : MapL enc vnc ok w b l' := e ▸ h
theorem MapL.nodup (h : MapL enc vnc ok w b l) : (l.map Prod.fst).Nodup := by
  obtain ⟨arr, clock, _, hs, he, _⟩ := h
  have h1 : (arr.toList.map (·.key)) = (l.map Prod.fst).map enc := by
    have := congrArg (List.map Prod.fst) he
    simpa [Function.comp_def] using this
  have h2 := hs.2.2
  rw [h1] at h2
  exact (List.pairwise_map.1 h2).imp fun h e => h (by rw [e])
theorem find_key (K : KeyE P k κ enc ok) {arr : Array MapEntry} {l : List (κ × ν)} (he : arr.toList.map (fun x => (x.key, x.val)) = l.map (fun p => (enc p.1, vnc p.2))) (hok : ∀ p ∈ l, ok p.1) (hp : ok p) (w : World) :
    ((Instr.findKey k (enc p) arr.toList).run P w = .ok none w ∧ (∀ q ∈ l, q.1 ≠ p) ∧ ∀ x ∈ arr.toList, x.key ≠ enc p) ∨ ∃ (j : Nat) (e0 : MapEntry) (v : ν), (Instr.findKey k (enc p) arr.toList).run P w = .ok (some (j, vnc v)) w ∧ l[j]? = some (p, v) ∧ arr.toList[j]? = some e0 ∧ e0.key = enc p ∧ e0.val = vnc v := by
  obtain ⟨lp, hlp⟩ := K.at_ p hp
  have hkeys : ∀ e ∈ arr.toList, ∃ l, keyOf P k e.key = some l := fun e hm => by
    have : (e.key, e.val) ∈ l.map (fun p => (enc p.1, vnc p.2)) := by rw [← he]; exact List.mem_map.2 ⟨e, hm, rfl⟩
    obtain ⟨q, hq, hqe⟩ := List.mem_map.1 this
    obtain ⟨lq, hlq⟩ := K.at_ q.1 (hok q hq)
    have h1 : enc q.1 = e.key := congrArg Prod.fst hqe
    exact ⟨lq, by rw [← h1]; exact hlq⟩
  rcases K.keyed.find w hlp arr.toList hkeys with ⟨h1, h2⟩ | ⟨j, e0, h1, h2, h3⟩
  · refine .inl ⟨h1, fun q hq e => ?_, h2⟩
    have : (enc q.1, vnc q.2) ∈ arr.toList.map (fun x => (x.key, x.val)) := by rw [he]; exact List.mem_map.2 ⟨q, hq, rfl⟩
    obtain ⟨x, hx, hxe⟩ := List.mem_map.1 this
    exact h2 x hx (by rw [show x.key = enc q.1 from congrArg Prod.fst hxe, e])
  · have hj : (l.map (fun p => (enc p.1, vnc p.2)))[j]? = some (e0.key, e0.val) := by rw [← he, List.getElem?_map, h2]; rfl
    rw [List.getElem?_map] at hj
    cases hl : l[j]? with
    | none => rw [hl] at hj; cases hj
    | some q =>
      rw [hl] at hj
      simp only [Option.map_some, Option.some.injEq, Prod.mk.injEq] at hj
      have hq : q.1 = p := K.inj _ _ (by rw [hj.1, h3])
      refine .inr ⟨j, e0, q.2, by rw [h1, ← hj.2], ?_, h2, h3, hj.2.symm⟩
      rw [← hq]; exact hl
variable {a : Act} {dst : Option Tmp} {ty : TypeId} {pos : String} {af : Array Edge} {g : Option (Nat × Bool)}
theorem does_makeMap {t : TypeId} (enc : κ → Value) (vnc : ν → Value) (ok : κ → Prop) :
    does P ⟨dst, .makeMap t none, ty, pos, af, g⟩ a w (fun v w' => ∃ b, v = .map (some b) ∧ w.heap.size ≤ b ∧ MapL enc vnc ok w' b [] ∧ Ext w w') := by
  refine (does_run (u := .map (some w.heap.size)) (w' := w.alloc (.map #[] 0)) ?_).mono fun v w' ⟨h1, h2⟩ => ?_
  · simp [execOp, Instr.makeMap]
  · subst h1 h2
    exact ⟨_, rfl, Nat.le_refl _, ⟨#[], 0, heap_alloc_new w _, MapKept.stamped_empty 0, by simp, fun _ h => (by cases h)⟩, Ext.alloc w _⟩
theorem set_map_keys {arr : Array MapEntry} {l : List (κ × ν)} {j : Nat} {e0 : MapEntry} {v : ν} (he : arr.toList.map (fun x => (x.key, x.val)) = l.map (fun p => (enc p.1, vnc p.2))) (h3 : arr.toList[j]? = some e0) (h4 : e0.key = enc p) :
    (arr.modify j (fun x => { x with val := vnc v })).toList.map (fun x => (x.key, x.val)) = (l.set j (p, v)).map (fun p => (enc p.1, vnc p.2)) := by
  have hl : l.length = arr.toList.length := by have := congrArg List.length he; simpa using this.symm
  apply List.ext_getElem?
  intro i
  rw [Array.toList_modify, List.getElem?_map, List.getElem?_map, List.getElem?_modify, List.getElem?_set]
  by_cases hij : j = i
  · subst hij
    have hjl := (List.getElem?_eq_some_iff.1 h3).1
    rw [if_pos rfl, if_pos (by omega), h3]
    simp [h4]
  · rw [if_neg hij]
    have := congrArg (·[i]?) he
    simpa [hij] using this
theorem stamped_set {arr : Array MapEntry} {clock j : Nat} {v : Value} (hs : MapKept.Stamped arr clock) : MapKept.Stamped (arr.modify j (fun x => { x with val := v })) clock := by
  have h1 : ∀ (f : MapEntry → Nat), (∀ x, f { x with val := v } = f x) → (arr.modify j (fun x => { x with val := v })).toList.map f = arr.toList.map f := fun f hf => by
    apply List.ext_getElem?
    intro i
    rw [Array.toList_modify, List.getElem?_map, List.getElem?_map, List.getElem?_modify]
    by_cases hij : j = i
    · cases arr.toList[i]? <;> simp [hij, hf]
    · cases arr.toList[i]? <;> simp [hij]
  have h2 : (arr.modify j (fun x => { x with val := v })).toList.map (·.key) = arr.toList.map (·.key) := by
    apply List.ext_getElem?
    intro i
    rw [Array.toList_modify, List.getElem?_map, List.getElem?_map, List.getElem?_modify]
    by_cases hij : j = i
    · cases arr.toList[i]? <;> simp [hij]
    · cases arr.toList[i]? <;> simp [hij]
  refine ⟨fun x hx => ?_, by rw [h1 (·.born) (fun _ => rfl)]; exact hs.2.1, by rw [h2]; exact hs.2.2⟩
  have : x.born ∈ (arr.modify j (fun x => { x with val := v })).toList.map (·.born) := List.mem_map.2 ⟨x, hx, rfl⟩
  rw [h1 (·.born) (fun _ => rfl)] at this
  obtain ⟨y, hy, e⟩ := List.mem_map.1 this
  rw [← e]; exact hs.1 y hy
end
end Go.Proofs.Ytjopopmipdakkaa
