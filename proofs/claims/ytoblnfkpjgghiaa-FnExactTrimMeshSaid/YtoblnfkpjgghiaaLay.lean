/- what the shelf asks of two functions of the library, laid at this program -/
import Derived.Test.YtoblnfkpjgghiaaChecked
import Derived.Test.YtoblnfkpjgghiaaUsd
import Derived.Shelf.SlicesG.CompactI
import Derived.Shelf.SortG.Plain
import Derived.Shelf.SortG.SortNone
namespace Go.Proofs.Ytoblnfkpjgghiaa
open Go Go.Shelf Go.RowKit
set_option maxRecDepth 100000
def CmpA_ren : Ren := ⟨fun | 43 => 51 | n => n, fun | 22 => 27 | 23 => 2 | 3 => 3 | 4 => 4 | 0 => 0 | n => n, fun | n => n⟩
theorem CmpA : SlLaysN.n43 Try.prog CmpA_ren := {
  mixed := by kernel_rfl,
  f43 := ⟨Try.f51.name, by decide, Try.func51.trans (congrArg some (by kernel_rfl))⟩,
  t0 := Try.underlying0,
  a0 := Try.isAgg0,
  z0 := Try.sizeOf0,
  v0 := Try.zeroValue0,
  t3 := Try.underlying3,
  a3 := Try.isAgg3,
  z3 := Try.sizeOf3,
  v3 := Try.zeroValue3,
  t4 := Try.underlying4,
  a4 := Try.isAgg4,
  z4 := Try.sizeOf4,
  v4 := Try.zeroValue4,
  t22 := Try.underlying27,
  a22 := Try.isAgg27,
  z22 := Try.sizeOf27,
  v22 := Try.zeroValue27,
  t23 := Try.underlying2,
  a23 := Try.isAgg2,
  z23 := Try.sizeOf2,
  v23 := Try.zeroValue2,
  i23 := by kernel_rfl }
def SrtA_ren : Ren := ⟨fun | 53 => 50 | 64 => 60 | 63 => 59 | 78 => 72 | 79 => 73 | 70 => 63 | 71 => 64 | 72 => 65 | 73 => 66 | 74 => 67 | 75 => 68 | 59 => 69 | 76 => 70 | 77 => 71 | 88 => 74 | 89 => 75 | 90 => 76 | 91 => 77 | 92 => 78 | 68 => 79 | 96 => 80 | n => n, fun | 22 => 27 | 23 => 2 | 3 => 3 | 51 => 83 | 0 => 0 | 67 => 97 | 69 => 99 | 4 => 4 | 61 => 89 | 60 => 88 | 44 => 94 | 5 => 5 | 9 => 9 | 75 => 100 | 79 => 104 | 83 => 106 | 84 => 107 | n => n, fun | n => n⟩
theorem SrtA : SlLaysN.n53 Try.prog SrtA_ren := {
  mixed := by kernel_rfl,
  f53 := ⟨Try.f50.name, by decide, Try.func50.trans (congrArg some (by kernel_rfl))⟩,
  f59 := ⟨Try.f69.name, by decide, Try.func69.trans (congrArg some (by kernel_rfl))⟩,
  f63 := ⟨Try.f59.name, by decide, Try.func59.trans (congrArg some (by kernel_rfl))⟩,
  f64 := Try.func60.trans (congrArg some (by kernel_rfl)),
  f68 := ⟨Try.f79.name, by decide, Try.func79.trans (congrArg some (by kernel_rfl))⟩,
  f70 := ⟨Try.f63.name, by decide, Try.func63.trans (congrArg some (by kernel_rfl))⟩,
  f71 := ⟨Try.f64.name, by decide, Try.func64.trans (congrArg some (by kernel_rfl))⟩,
  f72 := ⟨Try.f65.name, by decide, Try.func65.trans (congrArg some (by kernel_rfl))⟩,
  f73 := ⟨Try.f66.name, by decide, Try.func66.trans (congrArg some (by kernel_rfl))⟩,
  f74 := ⟨Try.f67.name, by decide, Try.func67.trans (congrArg some (by kernel_rfl))⟩,
  f75 := ⟨Try.f68.name, by decide, Try.func68.trans (congrArg some (by kernel_rfl))⟩,
  f76 := ⟨Try.f70.name, by decide, Try.func70.trans (congrArg some (by kernel_rfl))⟩,
  f77 := ⟨Try.f71.name, by decide, Try.func71.trans (congrArg some (by kernel_rfl))⟩,
  f78 := Try.func72.trans (congrArg some (by kernel_rfl)),
  f79 := Try.func73.trans (congrArg some (by kernel_rfl)),
  f88 := ⟨Try.f74.name, by decide, Try.func74.trans (congrArg some (by kernel_rfl))⟩,
  f89 := Try.func75.trans (congrArg some (by kernel_rfl)),
  f90 := Try.func76.trans (congrArg some (by kernel_rfl)),
  f91 := ⟨Try.f77.name, by decide, Try.func77.trans (congrArg some (by kernel_rfl))⟩,
  f92 := ⟨Try.f78.name, by decide, Try.func78.trans (congrArg some (by kernel_rfl))⟩,
  f96 := ⟨Try.f80.name, by decide, Try.func80.trans (congrArg some (by kernel_rfl))⟩,
  t0 := Try.underlying0,
  a0 := Try.isAgg0,
  z0 := Try.sizeOf0,
  v0 := Try.zeroValue0,
  t3 := Try.underlying3,
  a3 := Try.isAgg3,
  z3 := Try.sizeOf3,
  v3 := Try.zeroValue3,
  t4 := Try.underlying4,
  a4 := Try.isAgg4,
  z4 := Try.sizeOf4,
  v4 := Try.zeroValue4,
  t5 := Try.underlying5,
  a5 := Try.isAgg5,
  z5 := Try.sizeOf5,
  v5 := Try.zeroValue5,
  t9 := Try.underlying9,
  a9 := Try.isAgg9,
  z9 := Try.sizeOf9,
  v9 := Try.zeroValue9,
  t22 := Try.underlying27,
  a22 := Try.isAgg27,
  z22 := Try.sizeOf27,
  v22 := Try.zeroValue27,
  t23 := Try.underlying2,
  a23 := Try.isAgg2,
  z23 := Try.sizeOf2,
  v23 := Try.zeroValue2,
  t44 := Try.underlying94,
  a44 := Try.isAgg94,
  z44 := Try.sizeOf94,
  v44 := Try.zeroValue94,
  t51 := Try.underlying83,
  a51 := Try.isAgg83,
  z51 := Try.sizeOf83,
  v51 := Try.zeroValue83,
  t60 := Try.underlying88,
  a60 := Try.isAgg88,
  z60 := Try.sizeOf88,
  v60 := Try.zeroValue88,
  t61 := Try.underlying89,
  a61 := Try.isAgg89,
  z61 := Try.sizeOf89,
  v61 := Try.zeroValue89,
  t67 := Try.underlying97,
  a67 := Try.isAgg97,
  z67 := Try.sizeOf97,
  v67 := Try.zeroValue97,
  t69 := Try.underlying99,
  a69 := Try.isAgg99,
  z69 := Try.sizeOf99,
  v69 := Try.zeroValue99,
  t75 := Try.underlying100,
  a75 := Try.isAgg100,
  z75 := Try.sizeOf100,
  v75 := Try.zeroValue100,
  t79 := Try.underlying104,
  a79 := Try.isAgg104,
  z79 := Try.sizeOf104,
  v79 := Try.zeroValue104,
  t83 := Try.underlying106,
  a83 := Try.isAgg106,
  z83 := Try.sizeOf106,
  v83 := Try.zeroValue106,
  t84 := Try.underlying107,
  a84 := Try.isAgg107,
  z84 := Try.sizeOf107,
  v84 := Try.zeroValue107 }

theorem Blk.holds {w : World} {g : Nat} {cs : List Value} {xs : List Int} (hb : Blk w g cs) (h : ∀ (i : Nat) (x : Int), xs[i]? = some x → cs[i]? = some (.int .i64 x)) : Sort.Holds (Value.int .i64) w g 0 xs.toArray := by
  obtain ⟨T, hT⟩ := hb
  intro j hj
  have hj' : j < xs.length := by simpa using hj
  have hx : xs[j]? = some (xs[j]'hj') := List.getElem?_eq_getElem hj'
  refine ⟨?_, by simp [World.frozen?, hT]⟩
  have h1 := h j _ hx
  rw [getElem!_pos xs.toArray j hj, List.getElem_toArray]
  simp only [World.cell?, hT, Nat.zero_add]
  simpa using h1
theorem RowG.cellsI {w : World} {g : Nat} {xs : List Int} (h : RowG RI 1 w g xs) : ∃ cs, Blk w g cs ∧ xs.length ≤ cs.length ∧ ∀ (i : Nat) (x : Int), xs[i]? = some x → cs[i]? = some (.int .i64 x) := by
  obtain ⟨cs, hb, hl, h⟩ := h
  refine ⟨cs, hb, by omega, fun i x hi => ?_⟩
  have h1 : (cs.drop (i * 1)).take 1 = [.int .i64 x] := h i x hi
  have h2 : ((cs.drop (i * 1)).take 1)[0]? = some (.int .i64 x) := by rw [h1]; rfl
  rw [List.getElem?_take, if_pos (by decide), List.getElem?_drop, Nat.mul_one, Nat.add_zero] at h2
  exact h2
/-- the row, its cells put anew -/
theorem putRow_row {w : World} {g n : Nat} {os : Array Obj} {cs : List Value} {ys : List Int} (hb : Blk w g cs) (hl : ys.length ≤ cs.length) :
    KpL [g] w (Sort.grow (Sort.putRow (Value.int .i64) (Sort.ahead w n) g 0 ys.toArray) os) ∧ RowG RI 1 (Sort.grow (Sort.putRow (Value.int .i64) (Sort.ahead w n) g 0 ys.toArray) os) g ys := by
  obtain ⟨T, hT⟩ := hb
  have hg : g < w.heap.size := (Array.getElem?_eq_some_iff.1 hT).1
  have hsz : (Sort.putRow (Value.int .i64) (Sort.ahead w n) g 0 ys.toArray).heap.size = w.heap.size := by simp [Sort.putRow, Sort.mapBlock, Sort.ahead]
  have hat : (Sort.grow (Sort.putRow (Value.int .i64) (Sort.ahead w n) g 0 ys.toArray) os).heap[g]? = some (.cells (Sort.putCells (Value.int .i64) 0 ys.toArray cs.toArray) T (0, 0)) := by
    rw [Sort.heap_grow_old _ _ (by rw [hsz]; exact hg)]
    simp [Sort.putRow, Sort.mapBlock, Sort.ahead, Array.getElem?_modify, hT, Sort.onCells]
  refine ⟨⟨rfl, rfl, rfl, by simp [Sort.grow, hsz], fun i hi hn => ?_⟩, (Sort.putCells (Value.int .i64) 0 ys.toArray cs.toArray).toList, ⟨T, by simpa using hat⟩, by simp [Sort.putCells]; omega, fun i x hi => ?_⟩
  · have hne : g ≠ i := fun e => hn (by simp [e])
    rw [Sort.heap_grow_old _ _ (by rw [hsz]; exact hi)]
    simp [Sort.putRow, Sort.mapBlock, Sort.ahead, Array.getElem?_modify, hne]
  · have hlt := (List.getElem?_eq_some_iff.1 hi).1
    have hx : ys[i]'hlt = x := (List.getElem?_eq_some_iff.1 hi).2
    have h1 : (Sort.putCells (Value.int .i64) 0 ys.toArray cs.toArray).toList[i]? = some (.int .i64 x) := by
      rw [Array.getElem?_toList]
      have hc : i < cs.length := by omega
      simp [Sort.putCells, hlt, hc, hx]
    have h2 : ((Sort.putCells (Value.int .i64) 0 ys.toArray cs.toArray).toList.drop (i * 1)).take 1 = [.int .i64 x] := by
      apply List.ext_getElem?
      intro j
      rw [List.getElem?_take]
      match j with
      | 0 => rw [if_pos (by decide), List.getElem?_drop, Nat.mul_one, Nat.add_zero, h1]; rfl
      | j + 1 => rw [if_neg (by omega)]; rfl
    exact h2
theorem c_slices_Sort_int64 (a : Value) (xs : List Int) (L : List Nat) (B : Nat) (w : World) (ha : WL 1 B w L a xs.length) (hs : Sl RI 1 w a xs) (hn : xs.length < 4611686018427387904) :
    GivesK L Try.prog 50 #[a] w (fun v w' => v = .tuple #[] ∧ WL 1 B w' L a xs.length ∧ Hang B w' (fun u => Sl RI 1 u a (sortI xs))) := by
  rcases Nat.eq_zero_or_pos xs.length with h0 | h0
  · have : xs = [] := List.eq_nil_of_length_eq_zero h0
    subst this
    obtain ⟨p, q, rfl⟩ : ∃ p q, a = .slice p 0 q := hs.shape
    have h := AnyG.slices_Sort_int_none SrtA p q w
    change Calls Try.prog 50 _ _ _ at h
    refine Calls.mono h fun e w' ⟨he, hw⟩ => ?_
    subst hw
    exact ⟨_, he, KpL.refl _ _, rfl, ha, fun u _ => by rw [show sortI [] = [] by simp [sortI]]; exact ⟨by simp, p, q, rfl, fun i x hi => by simp at hi⟩⟩
  · obtain ⟨p, q, rfl⟩ : ∃ p q, a = .slice p xs.length q := hs.shape
    obtain ⟨g, rfl, rfl, hr, hq, hB⟩ := WL.rowg ha hs h0
    obtain ⟨cs, hb, hl, hc⟩ := hr.cellsI
    have h := AnyG.slices_Sort_int SrtA g 0 q xs w (hb.holds hc) hb.lt hn
    change Calls Try.prog 50 _ _ _ at h
    refine Calls.mono h fun e w' ⟨he, n, os, hw⟩ => ?_
    have hp := putRow_row (n := n) (os := os) (ys := sortI xs) hb (by rw [sortI_len]; exact hl)
    have hw' : w' = Sort.grow (Sort.putRow (Value.int .i64) (Sort.ahead w n) g 0 (sortI xs).toArray) os := hw
    rw [← hw'] at hp
    exact ⟨_, he, hp.1, rfl, hp.2.wl (sortI_len xs) hB hq, hp.2.hang RI.flat (sortI_len xs) hB hq (by omega) (by decide)⟩
theorem c_slices_Compact_int64 (a : Value) (xs : List Int) (L : List Nat) (B : Nat) (w : World) (ha : WL 1 B w L a xs.length) (hs : Sl RI 1 w a xs) (hn : xs.length < 4611686018427387904) :
    GivesK L Try.prog 51 #[a] w (fun v w' => WL 1 B w' L v (compI xs).length ∧ Hang B w' (fun u => Sl RI 1 u v (compI xs))) := by
  rcases Nat.eq_zero_or_pos xs.length with h0 | h0
  · have : xs = [] := List.eq_nil_of_length_eq_zero h0
    subst this
    obtain ⟨p, q, rfl⟩ : ∃ p q, a = .slice p 0 q := hs.shape
    have h := AnyG.slices_Compact_int_empty CmpA p q w
    change Calls Try.prog 51 _ _ _ at h
    refine Calls.mono h fun e w' ⟨he, hw⟩ => ?_
    subst hw
    exact ⟨_, he, KpL.refl _ _, ha, fun u _ => ⟨by simp [compI, Lib.compactUpTo], p, q, rfl, fun i x hi => by simp [compI, Lib.compactUpTo] at hi⟩⟩
  · obtain ⟨p, q, rfl⟩ : ∃ p q, a = .slice p xs.length q := hs.shape
    obtain ⟨g, rfl, rfl, hr, hq, hB⟩ := WL.rowg ha hs h0
    obtain ⟨cs, hb, hl, hc⟩ := hr.cellsI
    have h := AnyG.slices_Compact_int CmpA g 0 q xs w (hb.holds hc) (by omega) hq
    change Calls Try.prog 51 _ _ _ at h
    refine Calls.mono h fun e w' ⟨he, n, hw⟩ => ?_
    have hle := compI_le xs
    have hle2 : (Lib.compact xs).length ≤ xs.length := hle
    have hp := putRow_row (n := n) (os := #[]) (ys := compI xs ++ List.replicate (xs.length - (compI xs).length) 0) hb (by simp; omega)
    have hw' : w' = Sort.putRow (Value.int .i64) (Sort.ahead w n) g 0 (compI xs ++ List.replicate (xs.length - (compI xs).length) 0).toArray := hw
    rw [Sort.grow_empty, ← hw'] at hp
    have hr2 : RowG RI 1 w' g (compI xs) := by
      obtain ⟨cs', hb', hl', hc'⟩ := hp.2
      refine ⟨cs', hb', by simp at hl'; omega, fun i x hi => hc' i x ?_⟩
      rw [List.getElem?_append_left (List.getElem?_eq_some_iff.1 hi).1]; exact hi
    exact ⟨_, he, hp.1, hr2.wl rfl hB (by omega), hr2.hang RI.flat rfl hB (by omega) (by omega) (by decide)⟩
end Go.Proofs.Ytoblnfkpjgghiaa
