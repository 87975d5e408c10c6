/- cells of grids: their corners; keys in a table -/
import Derived.Test.YtjopopmipdakkaaSep
import Derived.Test.YtjopopmipdakkaaMap
namespace Go.Proofs.Ytjopopmipdakkaa
open Go Go.RowKit Go.Maps
def idx0 (g : GridT) (x y z : Int) : Int := x + g.x * (y + g.y * z)
theorem c2 {c : Int} (h : 0 ≤ c ∧ c ≤ 7) : (c % 2 = 0 ∨ c % 2 = 1) ∧ (c / 2 % 2 = 0 ∨ c / 2 % 2 = 1) ∧ (c / 4 = 0 ∨ c / 4 = 1) := by omega
theorem isCel_iff {g : GridT} {x y z : Int} : isCel g x y z = true ↔ x + 1 < g.x ∧ y + 1 < g.y ∧ z + 1 < g.z := by simp [isCel, and_assoc]
theorem cel_all {g : GridT} {x y z : Int} (h : isGrid g = true) (hc : isCel g x y z = true) (h0 : 0 ≤ x ∧ 0 ≤ y ∧ 0 ≤ z) (c : Int) (hq : 0 ≤ c ∧ c ≤ 7) : 0 ≤ crnI g x y z c ∧ crnI g x y z c < g.vals.length ∧ crnI g x y z c = idx0 g x y z + offC g c := by
  obtain ⟨hx, hy, hz, _, _⟩ := isGrid_cnt h
  obtain ⟨a1, a2, a3⟩ := isCel_iff.1 hc
  obtain ⟨b1, b2, b3⟩ := c2 hq
  have hh : hasG g (x + c % 2) (y + c / 2 % 2) (z + c / 4) = true := by
    simp only [hasG, Bool.and_eq_true, inI_iff]
    rw [wrap_in (n := g.x - 1) (by omega) (by omega), wrap_in (n := g.y - 1) (by omega) (by omega), wrap_in (n := g.z - 1) (by omega) (by omega)]
    omega
  obtain ⟨h1, h2, h3⟩ := idxG_ok h hh
  refine ⟨h1, h2, ?_⟩
  show idxG g _ _ _ = _
  rw [h3]
  unfold idx0 offC
  have e1 : g.y * (z + c / 4) = g.y * z + g.y * (c / 4) := Int.mul_add _ _ _
  have e2 : g.x * (y + c / 2 % 2 + g.y * (z + c / 4)) = g.x * y + g.x * (c / 2 % 2) + g.x * (g.y * z) + g.x * (g.y * (c / 4)) := by rw [e1, Int.mul_add, Int.mul_add, Int.mul_add]; omega
  have e3 : g.x * (y + g.y * z) = g.x * y + g.x * (g.y * z) := Int.mul_add _ _ _
  rw [e2, e3, Int.mul_assoc]; omega
theorem idx_back {g : GridT} {x y z : Int} (hx : 0 ≤ x ∧ x < g.x) (hy : 0 ≤ y ∧ y < g.y) : xI g (x + g.x * (y + g.y * z)) = x ∧ yI g (x + g.x * (y + g.y * z)) = y ∧ zI g (x + g.x * (y + g.y * z)) = z := by
  have e1 : (x + g.x * (y + g.y * z)) / g.x = y + g.y * z := by rw [Int.add_mul_ediv_left _ _ (by omega), Int.ediv_eq_zero_of_lt hx.1 hx.2, Int.zero_add]
  refine ⟨?_, ?_, ?_⟩
  · unfold xI; rw [Int.add_mul_emod_self_left, Int.emod_eq_of_lt hx.1 hx.2]
  · unfold yI; rw [e1, Int.add_mul_emod_self_left, Int.emod_eq_of_lt hy.1 hy.2]
  · unfold zI; rw [e1, Int.add_mul_ediv_left _ _ (by omega), Int.ediv_eq_zero_of_lt hy.1 hy.2, Int.zero_add]
theorem crn_has {g : GridT} {x y z : Int} (h : isGrid g = true) (hc : isCel g x y z = true) (h0 : 0 ≤ x ∧ 0 ≤ y ∧ 0 ≤ z) (c : Int) (hq : 0 ≤ c ∧ c ≤ 7) : hasG g (x + c % 2) (y + c / 2 % 2) (z + c / 4) = true := by
  obtain ⟨hx, hy, hz, _, _⟩ := isGrid_cnt h
  obtain ⟨a1, a2, a3⟩ := isCel_iff.1 hc
  obtain ⟨b1, b2, b3⟩ := c2 hq
  simp only [hasG, Bool.and_eq_true, inI_iff]
  rw [wrap_in (n := g.x - 1) (by omega) (by omega), wrap_in (n := g.y - 1) (by omega) (by omega), wrap_in (n := g.z - 1) (by omega) (by omega)]
  omega
theorem pt_crn {g : GridT} {x y z : Int} (h : isGrid g = true) (hc : isCel g x y z = true) (h0 : 0 ≤ x ∧ 0 ≤ y ∧ 0 ≤ z) (c : Int) (hq : 0 ≤ c ∧ c ≤ 7) : ptG g.low g.step (x + c % 2) (y + c / 2 % 2) (z + c / 4) = atG g (crnI g x y z c) := by
  obtain ⟨a1, a2, a3⟩ := isCel_iff.1 hc
  obtain ⟨b1, b2, b3⟩ := c2 hq
  have h3 := (idxG_ok h (crn_has h hc h0 c hq)).2.2
  have hb := idx_back (g := g) (x := x + c % 2) (y := y + c / 2 % 2) (z := z + c / 4) ⟨by omega, by omega⟩ ⟨by omega, by omega⟩
  unfold atG crnI
  rw [h3, hb.1, hb.2.1, hb.2.2]
section
variable {κ ν : Type} [DecidableEq κ] {P : Program} {k : TypeId} {enc : κ → Value} {vnc : ν → Value} {ok : κ → Prop} {w u : World} {b : Nat} {l : List (κ × ν)} {p : κ} {z : ν} {st : Nat}
variable {a : Act} {dst : Option Tmp} {ty : TypeId} {pos : String} {af : Array Edge} {g : Option (Nat × Bool)}
theorem run_lookupL2 {t e : TypeId} (K : KeyE P k κ enc ok) (ht : P.underlying t = some (.map k e)) (hz : ∀ w, (zeroValue e).run P w = .ok (vnc z) w) {arr : Array MapEntry} {clock : Nat} (hb : w.heap[b]? = some (.map arr clock)) (he : arr.toList.map (fun x => (x.key, x.val)) = l.map (fun p => (enc p.1, vnc p.2))) (hok : ∀ p ∈ l, ok p.1) (hn : (l.map Prod.fst).Nodup) (hp : ok p) :
    (Instr.lookup t (.map (some b)) (enc p) true).run P w = .ok (.tuple #[vnc ((atM l p).getD z), .bool (atM l p).isSome]) w := by
  obtain ⟨lp, hlp⟩ := K.at_ p hp
  rcases find_key K he hok hp w with ⟨h1, h2, _⟩ | ⟨j, e0, v, h1, h2, _⟩
  · simp [Instr.lookup, run_underlying ht, MapKept.run_getObj_map hb, K.keyed.check w _ hlp, h1, hz, Result.andThen, atM_none h2]
  · simp [Instr.lookup, run_underlying ht, MapKept.run_getObj_map hb, K.keyed.check w _ hlp, h1, Result.andThen, atM_get hn h2]
theorem does_lookup2 {t e : TypeId} {x y : Operand} (K : KeyE P k κ enc ok) (ht : P.underlying t = some (.map k e)) (hz : ∀ w, (zeroValue e).run P w = .ok (vnc z) w) (hx : a.eval x = .map (some b)) (hy : a.eval y = enc p) (h : MapL enc vnc ok w b l) (hp : ok p) :
    does P ⟨dst, .lookup t x y true, ty, pos, af, g⟩ a w (Is (.tuple #[vnc ((atM l p).getD z), .bool (atM l p).isSome]) w) := by
  have hn := h.nodup
  obtain ⟨arr, clock, hb, hs, he, hok⟩ := h
  have hr := run_lookupL2 K ht hz hb he hok hn hp
  exact does_run (by simp [execOp, hx, hy, hr])
theorem does_mapUpdate {t e : TypeId} {x y z : Operand} {v : ν} (K : KeyE P k κ enc ok) (ht : P.underlying t = some (.map k e)) (hx : a.eval x = .map (some b)) (hy : a.eval y = enc p) (hz : a.eval z = vnc v) (h : MapL enc vnc ok w b l) (hp : ok p) :
    does P ⟨dst, .mapUpdate t x y z, ty, pos, af, g⟩ a w (fun u w' => u = undef ∧ KpL [b] w w' ∧ MapL enc vnc ok w' b (putM l p v)) := by
  have hn := h.nodup
  obtain ⟨arr, clock, hb, hs, he, hok⟩ := h
  obtain ⟨lp, hlp⟩ := K.at_ p hp
  have hK : ∀ o, KpL [b] w (ChangeMaps.setBlock w b o) := fun o => ⟨rfl, rfl, rfl, by simp [ChangeMaps.setBlock], fun i _ hi => ChangeMaps.heap_setBlock_other hb o (fun e => hi (by simp [e]))⟩
  have hok2 : ∀ q ∈ putM l p v, ok q.1 := fun q hq => ((putM_keys l p _ q.1).1 (List.mem_map.2 ⟨q, hq, rfl⟩)).elim (fun e => e ▸ hp) fun h => by obtain ⟨r, hr, hre⟩ := List.mem_map.1 h; rw [← hre]; exact hok r hr
  rcases find_key K he hok hp w with ⟨h1, h2, h2'⟩ | ⟨j, e0, v0, h1, h2, h3, h4, h5⟩
  · have hrun : (execOp a.eval ⟨dst, .mapUpdate t x y z, ty, pos, af, g⟩).run P w = .ok .skip (ChangeMaps.setBlock w b (.map (arr.push ⟨enc p, vnc v, clock⟩) (clock + 1))) := by
      simp [execOp, hx, hy, hz, Instr.mapUpdate, run_underlying ht, MapKept.run_getObj_map hb, K.keyed.check w false hlp, h1, MapKept.run_setObj_map _ hb, Result.andThen, ChangeMaps.setBlock]
    unfold does
    rw [hrun]
    refine ⟨rfl, hK _, _, _, ChangeMaps.heap_setBlock_same hb _, MapKept.stamped_push hs h2', ?_, hok2⟩
    rw [putM_none h2]; simp [he]
  · have hj : arr[j]? = some e0 := by simpa using h3
    have hsame : arr.modify j (fun x => { x with key := enc p, val := vnc v }) = arr.modify j (fun x => { x with val := vnc v }) := by
      apply Array.ext'
      rw [Array.toList_modify, Array.toList_modify]
      apply List.ext_getElem?
      intro i
      rw [List.getElem?_modify, List.getElem?_modify]
      by_cases hij : j = i
      · subst hij
        rw [h3]; simp [h4]
      · simp [hij]
    have hrun : (execOp a.eval ⟨dst, .mapUpdate t x y z, ty, pos, af, g⟩).run P w = .ok .skip (ChangeMaps.setBlock w b (.map (arr.modify j (fun x => { x with val := vnc v })) clock)) := by
      simp [execOp, hx, hy, hz, Instr.mapUpdate, run_underlying ht, MapKept.run_getObj_map hb, K.keyed.check w false hlp, h1, hj, h4, K.keyed.stays w hlp, hsame, MapKept.run_setObj_map _ hb, Result.andThen, ChangeMaps.setBlock]
    unfold does
    rw [hrun]
    refine ⟨rfl, hK _, _, _, ChangeMaps.heap_setBlock_same hb _, stamped_set hs, ?_, hok2⟩
    rw [set_map_keys he h3 h4, putM_get hn h2]
end
def psM (g : GridT) (MM : List ((Int × Int) × Int)) (PS : List V3) (p : Int × Int) (k : Int) : List V3 := if (atM MM p).isNone then PS ++ [plK g k] else PS
def mmM (MM : List ((Int × Int) × Int)) (n : Nat) (p : Int × Int) : List ((Int × Int) × Int) := if (atM MM p).isNone then putM MM p (n : Int) else MM
section
variable {g : GridT} {MM : List ((Int × Int) × Int)} {PS : List V3} {p : Int × Int} {k f t : Int} {n a b : Nat} {A B : V3}
theorem psM_t (h : (atM MM p).isSome = false) (hA : A = atG g f) (hB : B = atG g t) (hk : k / 8 = f) (ht : f + offC g (k % 8) = t) (ha : vlG g f = a) (hb : vlG g t = b) : PS ++ [btwV A B (fop .quo .f32 a (fop .sub .f32 a b))] = psM g MM PS p k := by
  subst hA hB hk ht ha hb
  unfold psM; rw [if_pos (by cases hm : atM MM p <;> simp_all)]; rfl
theorem psM_f (h : (atM MM p).isSome = true) : PS = psM g MM PS p k := by unfold psM; rw [if_neg (by cases hm : atM MM p <;> simp_all)]
theorem mmM_t (h : (atM MM p).isSome = false) : putM MM p (n : Int) = mmM MM n p := by unfold mmM; rw [if_pos (by cases hm : atM MM p <;> simp_all)]
theorem mmM_f (h : (atM MM p).isSome = true) : MM = mmM MM n p := by unfold mmM; rw [if_neg (by cases hm : atM MM p <;> simp_all)]
theorem mmA_t (h : (atM MM p).isSome = false) : (atM (mmM MM n p) p).getD 0 = n := by rw [← mmM_t h, atM_put, if_pos rfl]; rfl
theorem mmA_f (h : (atM MM p).isSome = true) : (atM (mmM MM n p) p).getD 0 = (atM MM p).getD 0 := by rw [← mmM_f h]
end
def psP (g : GridT) (KN : List Int) (PS : List V3) (k : Int) : List V3 := if iAt KN k.toNat < 0 then PS ++ [plK g k] else PS
def knP (KN : List Int) (n : Nat) (k : Int) : List Int := if iAt KN k.toNat < 0 then KN.set k.toNat (n : Int) else KN
section
variable {g : GridT} {KN : List Int} {PS : List V3} {k e f t : Int} {n a b : Nat}
theorem psP_t (h : KN[k.toNat]? = some e) (he : e < 0) (hk : k / 8 = f) (ht : f + offC g (k % 8) = t) (ha : vlG g f = a) (hb : vlG g t = b) : PS ++ [btwV (atG g f) (atG g t) (fop .quo .f32 a (fop .sub .f32 a b))] = psP g KN PS k := by
  subst hk ht ha hb
  unfold psP; rw [if_pos (by rw [iAt_some h]; exact he)]; rfl
theorem psP_f (h : KN[k.toNat]? = some e) (he : ¬ e < 0) : PS = psP g KN PS k := by unfold psP; rw [if_neg (by rw [iAt_some h]; exact he)]
theorem knP_t (h : KN[k.toNat]? = some e) (he : e < 0) : KN.set k.toNat (n : Int) = knP KN n k := by unfold knP; rw [if_pos (by rw [iAt_some h]; exact he)]
theorem knP_f (h : KN[k.toNat]? = some e) (he : ¬ e < 0) : KN = knP KN n k := by unfold knP; rw [if_neg (by rw [iAt_some h]; exact he)]
theorem knA_t {e4 : Int} (h : KN[k.toNat]? = some e) (he : e < 0) (h4 : (KN.set k.toNat (n : Int))[k.toNat]? = some e4) : iAt (knP KN n k) k.toNat = e4 := by rw [← knP_t h he, iAt_some h4]
theorem knA_f (h : KN[k.toNat]? = some e) (he : ¬ e < 0) : iAt (knP KN n k) k.toNat = e := by rw [← knP_f h he, iAt_some h]
theorem vlG_at {i : Int} (h : g.vals[i.toNat]? = some a) : vlG g i = a := by simp [vlG, h]
theorem key_div {f p q : Int} (h : 0 ≤ p ∧ p < q ∧ q ≤ 7) : (8 * f + q - p) / 8 = f ∧ (8 * f + q - p) % 8 = q - p := by omega
end
end Go.Proofs.Ytjopopmipdakkaa
