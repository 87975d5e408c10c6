/- maps, written whole, counted, and walked in whatever order -/
import Derived.Test.YtoblnfkpjgghiaaMap
namespace Go.Proofs.Ytoblnfkpjgghiaa
open Go Go.RowKit Go.Maps

section
variable {κ ν : Type} [DecidableEq κ] {P : Program} {k : TypeId} {enc : κ → Value} {vnc : ν → Value} {ok : κ → Prop} {w u : World} {b r : Nat} {l : List (κ × ν)} {p : κ} {v : ν}
variable {a : Act} {dst : Option Tmp} {ty : TypeId} {pos : String} {af : Array Edge} {g : Option (Nat × Bool)}
theorem does_mapUpdate {t e : TypeId} {x y z : Operand} (K : KeyE P k κ enc ok) (ht : P.underlying t = some (.map k e)) (hx : a.eval x = .map (some b)) (hy : a.eval y = enc p) (hz : a.eval z = vnc v) (h : MapL enc vnc ok w b l) (hp : ok p) :
    does P ⟨dst, .mapUpdate t x y z, ty, pos, af, g⟩ a w (fun u w' => u = undef ∧ KpL [b] w w' ∧ MapL enc vnc ok w' b (putM l p v)) := by
  have hn := h.nodup
  obtain ⟨arr, clock, hb, hs, he, hok⟩ := h
  obtain ⟨lp, hlp⟩ := K.at_ p hp
  have hK : ∀ o, KpL [b] w (ChangeMaps.setBlock w b o) := fun o => ⟨rfl, rfl, rfl, by simp [ChangeMaps.setBlock], fun i _ hi => ChangeMaps.heap_setBlock_other hb o (fun e => hi (by simp [e]))⟩
  have hok2 : ∀ q ∈ putM l p v, ok q.1 := fun q hq => ((putM_keys l p _ q.1).1 (List.mem_map.2 ⟨q, hq, rfl⟩)).elim (fun e => e ▸ hp) fun h => by obtain ⟨r, hr, hre⟩ := List.mem_map.1 h; rw [← hre]; exact hok r hr
  rcases find_key K he hok hp w with ⟨h1, h2, h2'⟩ | ⟨j, e0, v0, h1, h2, h3, h4, h5⟩
  · have hrun : (execOp a.eval ⟨dst, .mapUpdate t x y z, ty, pos, af, g⟩).run P w = .ok .skip (ChangeMaps.setBlock w b (.map (arr.push ⟨enc p, vnc v, clock⟩) (clock + 1))) := by
      simp [execOp, hx, hy, hz, Instr.mapUpdate, run_underlying ht, MapKept.run_getObj_map hb, K.keyed.check w false hlp, h1, MapKept.run_setObj_map _ hb, Result.andThen, ChangeMaps.setBlock]
    unfold does
    rw [hrun]
    refine ⟨rfl, hK _, _, _, ChangeMaps.heap_setBlock_same hb _, MapKept.stamped_push hs h2', ?_, hok2⟩
    rw [putM_none h2]; simp [he]
  · have hj : arr[j]? = some e0 := by simpa using h3
    have hsame : arr.modify j (fun x => { x with key := enc p, val := vnc v }) = arr.modify j (fun x => { x with val := vnc v }) := by
      apply Array.ext'
      rw [Array.toList_modify, Array.toList_modify]
      apply List.ext_getElem?
      intro i
      rw [List.getElem?_modify, List.getElem?_modify]
      by_cases hij : j = i
      · subst hij
        rw [h3]; simp [h4]
      · simp [hij]
    have hrun : (execOp a.eval ⟨dst, .mapUpdate t x y z, ty, pos, af, g⟩).run P w = .ok .skip (ChangeMaps.setBlock w b (.map (arr.modify j (fun x => { x with val := vnc v })) clock)) := by
      simp [execOp, hx, hy, hz, Instr.mapUpdate, run_underlying ht, MapKept.run_getObj_map hb, K.keyed.check w false hlp, h1, hj, h4, K.keyed.stays w hlp, hsame, MapKept.run_setObj_map _ hb, Result.andThen, ChangeMaps.setBlock]
    unfold does
    rw [hrun]
    refine ⟨rfl, hK _, _, _, ChangeMaps.heap_setBlock_same hb _, stamped_set hs, ?_, hok2⟩
    rw [set_map_keys he h3 h4, putM_get hn h2]
end
section
variable {κ ν : Type} {P : Program} {k : TypeId} {enc : κ → Value} {vnc : ν → Value} {ok : κ → Prop} {w u : World} {b r : Nat} {l rest : List (κ × ν)} {p : κ} {v : ν}
/-- a walk over a map under way: what is still to come; the one that came up last -/
def MapIt {κ ν : Type} (enc : κ → Value) (vnc : ν → Value) (ok : κ → Prop) (w : World) (b r : Nat) (l rest : List (κ × ν)) (last : Option (κ × ν)) : Prop :=
  ∃ (arr : Array MapEntry) (clock since : Nat) (seen : Array Nat) (c0 : Nat), w.heap[b]? = some (.map arr clock) ∧ MapKept.Stamped arr clock ∧ arr.toList.map (fun x => (x.key, x.val)) = l.map (fun p => (enc p.1, vnc p.2)) ∧ (∀ p ∈ l, ok p.1) ∧
    w.heap[r]? = some (.mapIter (some b) since seen c0) ∧ (∀ x ∈ arr.toList, x.born < since) ∧ since ≤ c0 ∧ since ≤ clock ∧ ((arr.toList.filter fun x => !seen.contains x.born).map fun x => (x.key, x.val)) = rest.map (fun p => (enc p.1, vnc p.2)) ∧ (∀ q ∈ rest, q ∈ l) ∧
    ∀ q, last = some q → ∃ seen0 e, seen = Array.push seen0 (MapEntry.born e) ∧ c0 = clock ∧ e ∈ arr.toList ∧ e.key = enc q.1 ∧ e.val = vnc q.2
variable {last : Option (κ × ν)}
theorem MapIt.owns (h : MapIt enc vnc ok w b r l rest last) : MapL enc vnc ok w b l := by
  obtain ⟨arr, clock, since, seen, c0, hb, hs, he, hok, _⟩ := h; exact ⟨arr, clock, hb, hs, he, hok⟩
theorem MapIt.ne (h : MapIt enc vnc ok w b r l rest last) : r ≠ b := by
  obtain ⟨arr, clock, since, seen, c0, hb, _, _, _, hr, _⟩ := h
  intro e; rw [e, hb] at hr; cases hr
theorem MapIt.lt (h : MapIt enc vnc ok w b r l rest last) : r < w.heap.size := by
  obtain ⟨arr, clock, since, seen, c0, hb, _, _, _, hr, _⟩ := h; exact (Array.getElem?_eq_some_iff.1 hr).1
theorem MapIt.kl {L : List Nat} (h : MapIt enc vnc ok w b r l rest last) (x : KpL L w u) (hb' : b ∉ L) (hr' : r ∉ L) : MapIt enc vnc ok u b r l rest last := by
  have h1 := h.owns.lt
  have h2 := h.lt
  obtain ⟨arr, clock, since, seen, c0, hb, hs, he, hok, hr, rt⟩ := h
  exact ⟨arr, clock, since, seen, c0, (x.other b h1 hb').trans hb, hs, he, hok, (x.other r h2 hr').trans hr, rt⟩
theorem MapIt.ext (h : MapIt enc vnc ok w b r l rest last) (x : Ext w u) : MapIt enc vnc ok u b r l rest last := h.kl (L := []) (KpL.of_ext x) (by simp) (by simp)
theorem MapIt.okr {q : κ × ν} (h : MapIt enc vnc ok w b r l rest last) (hq : q ∈ rest) : ok q.1 ∧ q ∈ l := by
  obtain ⟨arr, clock, since, seen, c0, hb, hs, he, hok, hr, h1, h2, h3, h4, h5, _⟩ := h
  exact ⟨hok q (h5 q hq), h5 q hq⟩
theorem MapIt.any (h : MapIt enc vnc ok w b r l rest last) : MapIt enc vnc ok w b r l rest none := by
  obtain ⟨arr, clock, since, seen, c0, hb, hs, he, hok, hr, h1, h2, h3, h4, h5, _⟩ := h
  exact ⟨arr, clock, since, seen, c0, hb, hs, he, hok, hr, h1, h2, h3, h4, h5, fun q hq => (by cases hq)⟩
variable {a : Act} {dst : Option Tmp} {ty : TypeId} {pos : String} {af : Array Edge} {g : Option (Nat × Bool)}
theorem does_lenMap {t e : TypeId} {x : Operand} (ht : P.underlying t = some (.map k e)) (hx : a.eval x = .map (some b)) (h : MapL enc vnc ok w b l) :
    does P ⟨dst, .call ⟨.builtin .len, #[x], #[t]⟩, ty, pos, af, g⟩ a w (Is (.int .i64 (l.length : Nat)) w) := by
  obtain ⟨arr, clock, hb, hs, he, hok⟩ := h
  have hl : arr.size = l.length := by have := congrArg List.length he; simpa using this
  refine does_run ?_
  simp [execOp, resolve, hx, invoke, builtin, Builtin.len_, run_underlying ht, MapKept.run_getObj_map hb, hl, goInt]
theorem does_range {t e : TypeId} {x : Operand} (ht : P.underlying t = some (.map k e)) (hx : a.eval x = .map (some b)) (h : MapL enc vnc ok w b l) :
    does P ⟨dst, .range t x, ty, pos, af, g⟩ a w (fun v w' => ∃ r, v = .pointer (some ⟨r, 0, none⟩) ∧ w.heap.size ≤ r ∧ MapIt enc vnc ok w' b r l l none ∧ Ext w w') := by
  obtain ⟨arr, clock, hb, hs, he, hok⟩ := h
  have hr := run_range_map (P := P) w t k e b arr clock ht hb
  have hlt := (Array.getElem?_eq_some_iff.1 hb).1
  refine (does_run (u := .pointer (some ⟨w.heap.size, 0, none⟩)) (w' := w.alloc (.mapIter (some b) clock #[] clock)) ?_).mono fun v w' ⟨h1, h2⟩ => ?_
  · simp [execOp, hx, hr]
  · subst h1 h2
    refine ⟨_, rfl, Nat.le_refl _, ⟨arr, clock, clock, #[], clock, (heap_alloc_old w _ hlt).trans hb, hs, he, hok, heap_alloc_new w _, hs.1, Nat.le_refl _, Nat.le_refl _, ?_, fun q hq => hq, fun q hq => (by cases hq)⟩, Ext.alloc w _⟩
    rw [show (arr.toList.filter fun x => !(#[] : Array Nat).contains x.born) = arr.toList from List.filter_eq_self.2 fun x _ => by simp]
    exact he
theorem filter_push {A : List MapEntry} {e : MapEntry} {seen : Array Nat} (hn : (A.map (·.born)).Nodup) (he : e ∈ A) (hs : seen.contains e.born = false) : ∃ A0 B0, (A.filter fun x => !seen.contains x.born) = A0 ++ e :: B0 ∧ (A.filter fun x => !(seen.push e.born).contains x.born) = A0 ++ B0 := by
  induction A with
  | nil => cases he
  | cons x A ih =>
    have hn' := List.nodup_cons.1 (by simpa using hn : (x.born :: A.map (·.born)).Nodup)
    rcases List.mem_cons.1 he with rfl | hm
    · refine ⟨[], A.filter fun x => !seen.contains x.born, ?_, ?_⟩
      · rw [List.filter_cons, hs]; simp
      · rw [List.filter_cons]
        rw [show (!(seen.push e.born).contains e.born) = false by simp]
        simp only [Bool.false_eq_true, if_false, List.nil_append]
        apply List.filter_congr
        intro y hy
        have : y.born ≠ e.born := fun h => hn'.1 (List.mem_map.2 ⟨y, hy, h⟩)
        simp [this]
    · obtain ⟨A0, B0, h1, h2⟩ := ih hn'.2 hm
      have hne : x.born ≠ e.born := fun h => hn'.1 (List.mem_map.2 ⟨e, hm, h.symm⟩)
      have hc : (seen.push e.born).contains x.born = seen.contains x.born := by simp [hne]
      rw [List.filter_cons, List.filter_cons, hc]
      cases hx : seen.contains x.born with
      | true => simp only [Bool.not_true, Bool.false_eq_true, if_false]; exact ⟨A0, B0, h1, h2⟩
      | false => simp only [Bool.not_false, if_true]; exact ⟨x :: A0, B0, by rw [h1]; rfl, by rw [h2]; rfl⟩
theorem does_next {x : Operand} (hx : a.eval x = .pointer (some ⟨r, 0, none⟩)) (h : MapIt enc vnc ok w b r l rest last) :
    does P ⟨dst, .next x false, ty, pos, af, g⟩ a w (fun u w' => (rest = [] ∧ u = .tuple #[.bool false] ∧ w' = w) ∨
      ∃ q A B, rest = A ++ q :: B ∧ u = .tuple #[.bool true, enc q.1, vnc q.2] ∧ KpL [r] w w' ∧ MapIt enc vnc ok w' b r l (A ++ B) (some q)) := by
  have hne := h.ne
  obtain ⟨arr, clock, since, seen, c0, hb, hs, he, hok, hr, hold, hsc, hsk, hrest, hsub, _⟩ := h
  have hlo : (leftOf arr seen).toList = arr.toList.filter fun x => !seen.contains x.born := by simp [leftOf]
  rcases run_next_at (P := P) w ty r b since c0 seen arr clock hr hb hold hsc with ⟨h0, hrun⟩ | ⟨e, hem, w1, hal, hrun⟩
  · refine (does_run (u := .tuple #[.bool false]) (w' := w) (by simp [execOp, hx, hrun])).mono fun v' w' ⟨h1, h2⟩ => .inl ⟨?_, h1, h2⟩
    have : (leftOf arr seen).toList = [] := List.eq_nil_of_length_eq_zero (by simpa using h0)
    rw [← hlo, this] at hrest
    have := congrArg List.length hrest
    exact List.eq_nil_of_length_eq_zero (by simpa using this.symm)
  · obtain ⟨hea, hes⟩ := mem_left hem
    obtain ⟨A0, B0, hf1, hf2⟩ := filter_push hs.2.1 hea hes
    -- which one it is
    rw [hf1] at hrest
    have hlen := congrArg List.length hrest
    simp only [List.map_append, List.map_cons, List.length_append, List.length_map, List.length_cons] at hlen
    obtain ⟨q, hq⟩ : ∃ q, rest[A0.length]? = some q := ⟨_, List.getElem?_eq_getElem (by omega)⟩
    have hsplit : rest = rest.take A0.length ++ q :: rest.drop (A0.length + 1) := by
      have hlt := (List.getElem?_eq_some_iff.1 hq).1
      have := List.take_append_drop A0.length rest
      rw [List.drop_eq_getElem_cons hlt, (List.getElem?_eq_some_iff.1 hq).2] at this
      exact this.symm
    have hqe : (e.key, e.val) = (enc q.1, vnc q.2) := by
      have := congrArg (·[A0.length]?) hrest
      simp only [List.map_append, List.map_cons, List.getElem?_map, hq] at this
      rw [List.getElem?_append_right (by simp)] at this
      simpa using this
    have hr1 : w1.heap[r]? = some (.mapIter (some b) since seen c0) := by rcases hal with rfl | rfl <;> exact hr
    have hb1 : w1.heap[b]? = some (.map arr clock) := by rcases hal with rfl | rfl <;> exact hb
    have hset := MapKept.heap_set (o' := .mapIter (some b) since (seen.push e.born) clock) hr1
    have hrun' : (execOp a.eval ⟨dst, .next x false, ty, pos, af, g⟩).run P w = .ok (.value (.tuple #[.bool true, e.key, e.val])) (ChangeMaps.setBlock w1 r (.mapIter (some b) since (seen.push e.born) clock)) := by simp [execOp, hx, hrun]
    refine (does_run hrun').mono fun v' w' ⟨h1, h2⟩ => .inr ⟨q, rest.take A0.length, rest.drop (A0.length + 1), hsplit, ?_, ?_, ?_⟩
    · rw [h1, show e.key = enc q.1 from congrArg Prod.fst hqe, show e.val = vnc q.2 from congrArg Prod.snd hqe]
    · subst h2
      rcases hal with rfl | rfl <;> exact ⟨rfl, rfl, rfl, by simp [ChangeMaps.setBlock], fun i _ hi => hset.2 i (fun e1 => hi (by simp [e1]))⟩
    · subst h2
      refine ⟨arr, clock, since, seen.push e.born, clock, (hset.2 b (fun e1 => hne e1.symm)).trans hb1, hs, he, hok, hset.1, hold, hsk, hsk, ?_, fun z hz => hsub z ?_, fun z hz => ?_⟩
      · rw [hf2]
        have h3 : (A0 ++ B0).map (fun x => (x.key, x.val)) = ((A0 ++ e :: B0).map (fun x => (x.key, x.val))).take A0.length ++ ((A0 ++ e :: B0).map (fun x => (x.key, x.val))).drop (A0.length + 1) := by
          rw [List.map_append, List.map_append, List.map_cons]
          have e1 : (A0.map (fun x : MapEntry => (x.key, x.val))).length = A0.length := by simp
          rw [List.take_append_of_le_length (by omega), List.take_of_length_le (by omega), List.drop_append, List.drop_of_length_le (by omega), e1]
          simp
        rw [h3, hrest, List.map_append, List.map_take, List.map_drop]
      · rw [hsplit]
        rcases List.mem_append.1 hz with h | h
        · exact List.mem_append_left _ h
        · exact List.mem_append_right _ (List.mem_cons_of_mem _ h)
      · cases hz
        exact ⟨seen, e, rfl, rfl, hea, congrArg Prod.fst hqe, congrArg Prod.snd hqe⟩
theorem does_entry {x : Operand} {q : κ × ν} (hx : a.eval x = .pointer (some ⟨r, 0, none⟩)) (h : MapIt enc vnc ok w b r l rest (some q)) :
    does P ⟨dst, .entry x, ty, pos, af, g⟩ a w (Is (.tuple #[enc q.1, vnc q.2]) w) := by
  obtain ⟨arr, clock, since, seen, c0, hb, hs, he, hok, hr, hold, hsc, hsk, hrest, hsub, hl⟩ := h
  obtain ⟨seen0, e, rfl, rfl, hea, h1, h2⟩ := hl q rfl
  have hrun := run_entry_at (P := P) w r b since seen0 arr c0 e hr hb hea hs.2.1
  rw [h1, h2] at hrun
  exact does_run (by simp [execOp, hx, hrun])
end
end Go.Proofs.Ytoblnfkpjgghiaa
