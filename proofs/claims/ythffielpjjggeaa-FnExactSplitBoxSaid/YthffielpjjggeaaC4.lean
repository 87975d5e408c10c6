/- contracts of functions, each walked once -/
import Derived.Test.YthffielpjjggeaaC3
namespace Go.Proofs.Ythffielpjjggeaa
open Go Go.RowKit
set_option maxRecDepth 100000
set_option maxHeartbeats 3200000
set_option linter.unusedVariables false
set_option linter.unusedSimpArgs false

set_option maxHeartbeats 20000000 in
/- impl.SplitBox -/
theorem c_impl_SplitBox (b : List Value) (A_b : Bx) (w : World) (hv_b : RBx w A_b b) : Gives Try.prog 6 #[(.agg b.toArray)] w (fun v w' => ∃ cs_1 : List Value, ∃ cs_2 : List Value, v = (.tuple #[(.agg cs_1.toArray), (.agg cs_2.toArray), (Bo (splitOk A_b))]) ∧ RBx w (gvB (splitOk A_b) (oneB A_b)) cs_1 ∧ RBx w (gvB (splitOk A_b) (twoB A_b)) cs_2) := by
 obtain ⟨r1, r3, r5, r7, r9, r11, rfl, h2, h4, h6, h8, h10, h12⟩ := hv_b
 refine enter [(.agg #[(Fl r1), (Fl r3), (Fl r5), (Fl r7), (Fl r9), (Fl r11)]), Ud, Ud, Ud, Ud, Ud, Ud, Ud, Ud, Ud, Ud, Ud, Ud, Ud, Ud, Ud, Ud, Ud, Ud, Ud, Ud, Ud, Ud, Ud, Ud, Ud, Ud, Ud, Ud, Ud, Ud, Ud, Ud, Ud, Ud, Ud, Ud, Ud, Ud, Ud, Ud, Ud, Ud, Ud, Ud, Ud, Ud, Ud, Ud, Ud, Ud, Ud, Ud, Ud, Ud, Ud, Ud, Ud, Ud, Ud, Ud, Ud, Ud, Ud, Ud, Ud, Ud, Ud, Ud, Ud, Ud, Ud, Ud, Ud, Ud, Ud, Ud, Ud, Ud, Ud, Ud, Ud, Ud] Try.func6 rfl Try.ntmps6 rfl ?_
 refine wp_seq_k fun K13 hK13 => ?_
 refine wp_region_lit ?_
 refine seqd rfl rfl (does_box (u := (.agg #[(Fl r1), (Fl r3), (Fl r5), (Fl r7), (Fl r9), (Fl r11)])) (ev rfl)) ?_; rintro _ w18 ⟨b14, rfl, hb15, hB16, E17⟩
 have g19 : w.heap.size ≤ b14 := Nat.le_trans (Below.size (Ext.refl w)) hb15
 change Blk _ _ [(Fl r1), (Fl r3), (Fl r5), (Fl r7), (Fl r9), (Fl r11)] at hB16
 have X20 := Ext.gr (Ext.refl w) E17
 show wpList _ _ _ _ (fr [_, _, _, _, _, _, _, _, _, _, _, _, _, _, _, _, _, _, _, _, _, _, _, _, _, _, _, _, _, _, _, _, _, _, _, _, _, _, _, _, _, _, _, _, _, _, _, _, _, _, _, _, _, _, _, _, _, _, _, _, _, _, _, _, _, _, _, _, _, _, _, _, _, _, _, _, _, _, _, _, _, _, _]) _
 refine seqd rfl rfl (does_alloc z29) ?_; rintro _ w25 ⟨b21, rfl, hb22, hB23, E24⟩
 have n26 : b14 < b21 := Nat.lt_of_lt_of_le (Blk.lt hB16) hb22
 have g27 : w.heap.size ≤ b21 := Nat.le_trans (Below.size X20) hb22
 change Blk _ _ [(Fl 0), (Fl 0), (Fl 0), (Fl 0), (Fl 0), (Fl 0)] at hB23
 have X28 := Ext.gr X20 E24
 show wpList _ _ _ _ (fr [_, _, _, _, _, _, _, _, _, _, _, _, _, _, _, _, _, _, _, _, _, _, _, _, _, _, _, _, _, _, _, _, _, _, _, _, _, _, _, _, _, _, _, _, _, _, _, _, _, _, _, _, _, _, _, _, _, _, _, _, _, _, _, _, _, _, _, _, _, _, _, _, _, _, _, _, _, _, _, _, _, _, _]) _
 refine seqd rfl rfl (does_alloc z29) ?_; rintro _ w33 ⟨b29, rfl, hb30, hB31, E32⟩
 have n34 : b14 < b29 := Nat.lt_of_lt_of_le (Blk.lt (hB16.ext E24)) hb30
 have n35 : b21 < b29 := Nat.lt_of_lt_of_le (Blk.lt hB23) hb30
 have g36 : w.heap.size ≤ b29 := Nat.le_trans (Below.size X28) hb30
 change Blk _ _ [(Fl 0), (Fl 0), (Fl 0), (Fl 0), (Fl 0), (Fl 0)] at hB31
 have X37 := Ext.gr X28 E32
 show wpList _ _ _ _ (fr [_, _, _, _, _, _, _, _, _, _, _, _, _, _, _, _, _, _, _, _, _, _, _, _, _, _, _, _, _, _, _, _, _, _, _, _, _, _, _, _, _, _, _, _, _, _, _, _, _, _, _, _, _, _, _, _, _, _, _, _, _, _, _, _, _, _, _, _, _, _, _, _, _, _, _, _, _, _, _, _, _, _, _]) _
 refine q_is rfl rfl (does_assign (u := (Bo false)) (ev rfl)) (by dsimp only [List.set]; try rfl) ?_
 refine wpList_nil (hK13 _ _ ?_)
 refine wp_seq_k fun K38 hK38 => ?_
 refine wp_seq_k fun K39 hK39 => ?_
 refine wp_region_lit ?_
 refine q_is rfl rfl (does_loadAgg (cs := [(Fl r1), (Fl r3), (Fl r5), (Fl r7), (Fl r9), (Fl r11)]) (ev rfl) Try.isAgg29 Try.sizeOf29 (Blk.cells ((hB16.ext E24).ext E32)) rfl) (by dsimp only [List.set]; try rfl) ?_
 refine seqd rfl rfl (does_call (args := #[(.agg #[(Fl r1), (Fl r3), (Fl r5), (Fl r7), (Fl r9), (Fl r11)])]) cal11 (evs rfl) (c_impl_ValidBox [(Fl r1), (Fl r3), (Fl r5), (Fl r7), (Fl r9), (Fl r11)] A_b _ ⟨r1, r3, r5, r7, r9, r11, rfl, h2, h4, h6, h8, h10, h12⟩)) ?_; rintro _ w41 ⟨E40, rfl⟩
 have X42 := Ext.gr X37 E40
 show wpList _ _ _ _ (fr [_, _, _, _, _, _, _, _, _, _, _, _, _, _, _, _, _, _, _, _, _, _, _, _, _, _, _, _, _, _, _, _, _, _, _, _, _, _, _, _, _, _, _, _, _, _, _, _, _, _, _, _, _, _, _, _, _, _, _, _, _, _, _, _, _, _, _, _, _, _, _, _, _, _, _, _, _, _, _, _, _, _, _]) _
 refine q_is rfl rfl (does_not (ev rfl)) (by dsimp only [List.set]; try rfl) ?_
 refine wpList_nil (hK39 _ _ ?_)
 refine wp_cond_split (t := !(isBox A_b)) (ev rfl) (fun c43 => ?_) (fun c43 => ?_)
 ·rw [Bool.not_eq_true'] at c43
  have c43' := c43
  have hsf := splitOk_0 c43
  refine wp_seq_k fun K44 hK44 => ?_
  refine wp_region_lit ?_
  refine q_is rfl rfl (does_build (parts' := []) (cells := #[(Fl 0), (Fl 0), (Fl 0), (Fl 0), (Fl 0), (Fl 0)]) (evp rfl) (by kernel_rfl)) (by dsimp only [List.set]; try rfl) ?_
  refine q_is rfl rfl (does_build (parts' := []) (cells := #[(Fl 0), (Fl 0), (Fl 0), (Fl 0), (Fl 0), (Fl 0)]) (evp rfl) (by kernel_rfl)) (by dsimp only [List.set]; try rfl) ?_
  refine seqn rfl rfl (does_store (n := 6) (cs := [(Fl 0), (Fl 0), (Fl 0), (Fl 0), (Fl 0), (Fl 0)]) (u := (.agg #[(Fl 0), (Fl 0), (Fl 0), (Fl 0), (Fl 0), (Fl 0)])) (ev rfl) (ev rfl) Try.sizeOf29 rfl ((hB23.ext E32).ext E40) (Nat.le_of_ble_eq_true rfl) rfl) ?_; rintro _ w47 ⟨rfl, W45, hB46⟩
  change Blk _ _ [(Fl 0), (Fl 0), (Fl 0), (Fl 0), (Fl 0), (Fl 0)] at hB46
  have X48 := Below.wr X42 W45 g27
  refine seqn rfl rfl (does_store (n := 6) (cs := [(Fl 0), (Fl 0), (Fl 0), (Fl 0), (Fl 0), (Fl 0)]) (u := (.agg #[(Fl 0), (Fl 0), (Fl 0), (Fl 0), (Fl 0), (Fl 0)])) (ev rfl) (ev rfl) Try.sizeOf29 rfl ((hB31.ext E40).wr W45 (Nat.ne_of_gt n35)) (Nat.le_of_ble_eq_true rfl) rfl) ?_; rintro _ w51 ⟨rfl, W49, hB50⟩
  change Blk _ _ [(Fl 0), (Fl 0), (Fl 0), (Fl 0), (Fl 0), (Fl 0)] at hB50
  have X52 := Below.wr X48 W49 g36
  refine q_is rfl rfl (does_assign (u := (Bo false)) (ev rfl)) (by dsimp only [List.set]; try rfl) ?_
  refine wpList_nil (hK44 _ _ ?_)
  refine wp_ret ?_
  dsimp only [Exit.then, Exit.inBlock]
  refine ret_val (v := (.tuple #[(.agg #[(Fl 0), (Fl 0), (Fl 0), (Fl 0), (Fl 0), (Fl 0)]), (.agg #[(Fl 0), (Fl 0), (Fl 0), (Fl 0), (Fl 0), (Fl 0)]), (Bo false)])) (res_CCT rfl (slot rfl) (run_loadAgg (cs := [(Fl 0), (Fl 0), (Fl 0), (Fl 0), (Fl 0), (Fl 0)]) Try.isAgg29 Try.sizeOf29 (Blk.cells (hB46.wr W49 (Nat.ne_of_lt n35))) rfl) (slot rfl) (run_loadAgg (cs := [(Fl 0), (Fl 0), (Fl 0), (Fl 0), (Fl 0), (Fl 0)]) Try.isAgg29 Try.sizeOf29 (Blk.cells hB50) rfl) (slot rfl)) X52 ?_
  try simp only [h2, h4, h6, h8, h10, h12] at c43
  have x53 : (splitOk A_b) = false := by first | exact hsf | exact hst | (rw [hsf] <;> rfl) | (rw [hst, gvB_t]; first | rfl | assumption | (simp only [oneB, twoB, midB, dimB, hax, half_two, pickV_0, pickV_1, pickV_2, setV_0, setV_1, setV_2, h2, h4, h6, h8, h10, h12, c43]; done) | (simp only [oneB, twoB, midB, dimB, hax, half_two, pickV_0, pickV_1, pickV_2, setV_0, setV_1, setV_2, h2, h4, h6, h8, h10, h12, c43]; rfl))
  have x54 : cf .f32 0 = (gvB (splitOk A_b) (oneB A_b)).lo.x := by first | exact hsf | exact hst | (rw [hsf] <;> rfl) | (rw [hst, gvB_t]; first | rfl | assumption | (simp only [oneB, twoB, midB, dimB, hax, half_two, pickV_0, pickV_1, pickV_2, setV_0, setV_1, setV_2, h2, h4, h6, h8, h10, h12, c43]; done) | (simp only [oneB, twoB, midB, dimB, hax, half_two, pickV_0, pickV_1, pickV_2, setV_0, setV_1, setV_2, h2, h4, h6, h8, h10, h12, c43]; rfl))
  have x55 : cf .f32 0 = (gvB (splitOk A_b) (oneB A_b)).lo.y := by first | exact hsf | exact hst | (rw [hsf] <;> rfl) | (rw [hst, gvB_t]; first | rfl | assumption | (simp only [oneB, twoB, midB, dimB, hax, half_two, pickV_0, pickV_1, pickV_2, setV_0, setV_1, setV_2, h2, h4, h6, h8, h10, h12, c43]; done) | (simp only [oneB, twoB, midB, dimB, hax, half_two, pickV_0, pickV_1, pickV_2, setV_0, setV_1, setV_2, h2, h4, h6, h8, h10, h12, c43]; rfl))
  have x56 : cf .f32 0 = (gvB (splitOk A_b) (oneB A_b)).lo.z := by first | exact hsf | exact hst | (rw [hsf] <;> rfl) | (rw [hst, gvB_t]; first | rfl | assumption | (simp only [oneB, twoB, midB, dimB, hax, half_two, pickV_0, pickV_1, pickV_2, setV_0, setV_1, setV_2, h2, h4, h6, h8, h10, h12, c43]; done) | (simp only [oneB, twoB, midB, dimB, hax, half_two, pickV_0, pickV_1, pickV_2, setV_0, setV_1, setV_2, h2, h4, h6, h8, h10, h12, c43]; rfl))
  have x57 : cf .f32 0 = (gvB (splitOk A_b) (oneB A_b)).hi.x := by first | exact hsf | exact hst | (rw [hsf] <;> rfl) | (rw [hst, gvB_t]; first | rfl | assumption | (simp only [oneB, twoB, midB, dimB, hax, half_two, pickV_0, pickV_1, pickV_2, setV_0, setV_1, setV_2, h2, h4, h6, h8, h10, h12, c43]; done) | (simp only [oneB, twoB, midB, dimB, hax, half_two, pickV_0, pickV_1, pickV_2, setV_0, setV_1, setV_2, h2, h4, h6, h8, h10, h12, c43]; rfl))
  have x58 : cf .f32 0 = (gvB (splitOk A_b) (oneB A_b)).hi.y := by first | exact hsf | exact hst | (rw [hsf] <;> rfl) | (rw [hst, gvB_t]; first | rfl | assumption | (simp only [oneB, twoB, midB, dimB, hax, half_two, pickV_0, pickV_1, pickV_2, setV_0, setV_1, setV_2, h2, h4, h6, h8, h10, h12, c43]; done) | (simp only [oneB, twoB, midB, dimB, hax, half_two, pickV_0, pickV_1, pickV_2, setV_0, setV_1, setV_2, h2, h4, h6, h8, h10, h12, c43]; rfl))
  have x59 : cf .f32 0 = (gvB (splitOk A_b) (oneB A_b)).hi.z := by first | exact hsf | exact hst | (rw [hsf] <;> rfl) | (rw [hst, gvB_t]; first | rfl | assumption | (simp only [oneB, twoB, midB, dimB, hax, half_two, pickV_0, pickV_1, pickV_2, setV_0, setV_1, setV_2, h2, h4, h6, h8, h10, h12, c43]; done) | (simp only [oneB, twoB, midB, dimB, hax, half_two, pickV_0, pickV_1, pickV_2, setV_0, setV_1, setV_2, h2, h4, h6, h8, h10, h12, c43]; rfl))
  have x60 : cf .f32 0 = (gvB (splitOk A_b) (twoB A_b)).lo.x := by first | exact hsf | exact hst | (rw [hsf] <;> rfl) | (rw [hst, gvB_t]; first | rfl | assumption | (simp only [oneB, twoB, midB, dimB, hax, half_two, pickV_0, pickV_1, pickV_2, setV_0, setV_1, setV_2, h2, h4, h6, h8, h10, h12, c43]; done) | (simp only [oneB, twoB, midB, dimB, hax, half_two, pickV_0, pickV_1, pickV_2, setV_0, setV_1, setV_2, h2, h4, h6, h8, h10, h12, c43]; rfl))
  have x61 : cf .f32 0 = (gvB (splitOk A_b) (twoB A_b)).lo.y := by first | exact hsf | exact hst | (rw [hsf] <;> rfl) | (rw [hst, gvB_t]; first | rfl | assumption | (simp only [oneB, twoB, midB, dimB, hax, half_two, pickV_0, pickV_1, pickV_2, setV_0, setV_1, setV_2, h2, h4, h6, h8, h10, h12, c43]; done) | (simp only [oneB, twoB, midB, dimB, hax, half_two, pickV_0, pickV_1, pickV_2, setV_0, setV_1, setV_2, h2, h4, h6, h8, h10, h12, c43]; rfl))
  have x62 : cf .f32 0 = (gvB (splitOk A_b) (twoB A_b)).lo.z := by first | exact hsf | exact hst | (rw [hsf] <;> rfl) | (rw [hst, gvB_t]; first | rfl | assumption | (simp only [oneB, twoB, midB, dimB, hax, half_two, pickV_0, pickV_1, pickV_2, setV_0, setV_1, setV_2, h2, h4, h6, h8, h10, h12, c43]; done) | (simp only [oneB, twoB, midB, dimB, hax, half_two, pickV_0, pickV_1, pickV_2, setV_0, setV_1, setV_2, h2, h4, h6, h8, h10, h12, c43]; rfl))
  have x63 : cf .f32 0 = (gvB (splitOk A_b) (twoB A_b)).hi.x := by first | exact hsf | exact hst | (rw [hsf] <;> rfl) | (rw [hst, gvB_t]; first | rfl | assumption | (simp only [oneB, twoB, midB, dimB, hax, half_two, pickV_0, pickV_1, pickV_2, setV_0, setV_1, setV_2, h2, h4, h6, h8, h10, h12, c43]; done) | (simp only [oneB, twoB, midB, dimB, hax, half_two, pickV_0, pickV_1, pickV_2, setV_0, setV_1, setV_2, h2, h4, h6, h8, h10, h12, c43]; rfl))
  have x64 : cf .f32 0 = (gvB (splitOk A_b) (twoB A_b)).hi.y := by first | exact hsf | exact hst | (rw [hsf] <;> rfl) | (rw [hst, gvB_t]; first | rfl | assumption | (simp only [oneB, twoB, midB, dimB, hax, half_two, pickV_0, pickV_1, pickV_2, setV_0, setV_1, setV_2, h2, h4, h6, h8, h10, h12, c43]; done) | (simp only [oneB, twoB, midB, dimB, hax, half_two, pickV_0, pickV_1, pickV_2, setV_0, setV_1, setV_2, h2, h4, h6, h8, h10, h12, c43]; rfl))
  have x65 : cf .f32 0 = (gvB (splitOk A_b) (twoB A_b)).hi.z := by first | exact hsf | exact hst | (rw [hsf] <;> rfl) | (rw [hst, gvB_t]; first | rfl | assumption | (simp only [oneB, twoB, midB, dimB, hax, half_two, pickV_0, pickV_1, pickV_2, setV_0, setV_1, setV_2, h2, h4, h6, h8, h10, h12, c43]; done) | (simp only [oneB, twoB, midB, dimB, hax, half_two, pickV_0, pickV_1, pickV_2, setV_0, setV_1, setV_2, h2, h4, h6, h8, h10, h12, c43]; rfl))
  exact ⟨[(Fl 0), (Fl 0), (Fl 0), (Fl 0), (Fl 0), (Fl 0)], [(Fl 0), (Fl 0), (Fl 0), (Fl 0), (Fl 0), (Fl 0)], (by first | with_reducible rfl | rw [x53] | rfl), ⟨0, 0, 0, 0, 0, 0, rfl, x54, x55, x56, x57, x58, x59⟩, ⟨0, 0, 0, 0, 0, 0, rfl, x60, x61, x62, x63, x64, x65⟩⟩
 rw [Bool.not_eq_false'] at c43
 have c43' := c43
 have hs0 : isBox A_b = true := c43
 refine wp_skip (hK38 _ _ ?_)
 refine wp_seq_k fun K66 hK66 => ?_
 refine region_any3 [] [6, 7] [0, 1, 3, 0, 8, 31, 0, 0, 255, 511, 1023] [] (
  [FactW.pure [] [] [] true (fun v => v = (Pt b14 0)),
   FactW.pure [0] [] [] true (fun v => v = (.agg #[(Fl r1), (Fl r3), (Fl r5)])),
   FactW.pure [1] [] [] true (fun v => ∃ r_1 : Nat, ∃ r_2 : Nat, ∃ r_3 : Nat, v = (.agg #[(Fl r_1), (Fl r_2), (Fl r_3)]) ∧ cf .f32 r_1 = A_b.lo.x ∧ cf .f32 r_2 = A_b.lo.y ∧ cf .f32 r_3 = A_b.lo.z),
   FactW.pure [] [] [] true (fun v => v = (Pt b14 3)),
   FactW.pure [3] [] [] true (fun v => v = (.agg #[(Fl r7), (Fl r9), (Fl r11)])),
   FactW.pure [4] [] [] true (fun v => ∃ r_1 : Nat, ∃ r_2 : Nat, ∃ r_3 : Nat, v = (.agg #[(Fl r_1), (Fl r_2), (Fl r_3)]) ∧ cf .f32 r_1 = A_b.hi.x ∧ cf .f32 r_2 = A_b.hi.y ∧ cf .f32 r_3 = A_b.hi.z),
   FactW.mem [] [] [] [] true (fun v w' => ∃ b : Nat, v = .pointer (some ⟨b, 0, none⟩) ∧ w41.heap.size ≤ b ∧ Blk w' b [(Fl 0), (Fl 0), (Fl 0)]) (by rintro v w1 w2 hx' ⟨b, rfl, hb, hB⟩; have hx := KpL.toExt hx'; exact ⟨b, rfl, hb, (hB.ext hx)⟩),
   FactW.mem [] [] [] [] true (fun v w' => ∃ b : Nat, v = .pointer (some ⟨b, 0, none⟩) ∧ w41.heap.size ≤ b ∧ Blk w' b [(Fl 0), (Fl 0), (Fl 0)]) (by rintro v w1 w2 hx' ⟨b, rfl, hb, hB⟩; have hx := KpL.toExt hx'; exact ⟨b, rfl, hb, (hB.ext hx)⟩)]) mixed (by kernel_rfl) ?_
 obtain ⟨w67, hw69⟩ : ∃ w', w' = World.drew w41 := ⟨_, rfl⟩; rw [← hw69]; have E68 : Ext w41 w67 := by rw [hw69]; exact Ext.draw _
 clear hw69
 have X70 := Ext.gr X42 E68
 refine RW3_d _ rfl rfl (fun v => by dsimp only [List.set]; try rfl) (fun u hu hF => ?_) (fun v71 => ?_)
 ·replace hu : KpL [] _ _ := hu
  clear hF
  refine doesG_un rfl ?_
  refine (does_fieldAddr (ev rfl) fa29_0).mono ?_; rintro _ _ ⟨rfl, rfl⟩
  exact ⟨rfl, KpL.refl _ _⟩
 refine RW3_d _ rfl rfl (fun v => by dsimp only [List.set]; try rfl) (fun u hu hF => ?_) (fun v72 => ?_)
 ·replace hu : KpL [] _ _ := hu
  have h17_ : v71 = (Pt b14 0) := hF.1
  clear hF
  refine doesG_un rfl ?_
  obtain rfl := h17_
  refine (does_loadAgg (cs := [(Fl r1), (Fl r3), (Fl r5)]) (ev rfl) Try.isAgg27 Try.sizeOf27 (Cells.sub (Blk.cells (((((hB16.ext E24).ext E32).ext E40).ext E68).ext (KpL.toExt hu))) 0 3) rfl).mono ?_; rintro _ _ ⟨rfl, rfl⟩
  exact ⟨rfl, KpL.refl _ _⟩
 refine RW3_d _ rfl rfl (fun v => by dsimp only [List.set]; try rfl) (fun u hu hF => ?_) (fun v73 => ?_)
 ·replace hu : KpL [] _ _ := hu
  have h18_ : v72 = (.agg #[(Fl r1), (Fl r3), (Fl r5)]) := hF.1
  clear hF
  refine doesG_un rfl ?_
  obtain rfl := h18_
  refine (does_call (args := #[(.agg #[(Fl r1), (Fl r3), (Fl r5)])]) cal12 (evs rfl) (c_impl_coordinates [(Fl r1), (Fl r3), (Fl r5)] A_b.lo _ ⟨r1, r3, r5, rfl, h2, h4, h6⟩)).mono ?_; rintro v u' ⟨hx, ⟨rn1, rn2, rn3, hv, k0, k1, k2⟩⟩
  exact ⟨⟨rn1, rn2, rn3, hv, (by simp only [k0]), (by simp only [k1]), (by simp only [k2])⟩, (KpL.of_ext hx)⟩
 refine RW3_d _ rfl rfl (fun v => by dsimp only [List.set]; try rfl) (fun u hu hF => ?_) (fun v74 => ?_)
 ·replace hu : KpL [] _ _ := hu
  clear hF
  refine doesG_un rfl ?_
  refine (does_fieldAddr (ev rfl) fa29_1).mono ?_; rintro _ _ ⟨rfl, rfl⟩
  exact ⟨rfl, KpL.refl _ _⟩
 refine RW3_d _ rfl rfl (fun v => by dsimp only [List.set]; try rfl) (fun u hu hF => ?_) (fun v75 => ?_)
 ·replace hu : KpL [] _ _ := hu
  have h20_ : v74 = (Pt b14 3) := hF.1
  clear hF
  refine doesG_un rfl ?_
  obtain rfl := h20_
  refine (does_loadAgg (cs := [(Fl r7), (Fl r9), (Fl r11)]) (ev rfl) Try.isAgg27 Try.sizeOf27 (Cells.sub (Blk.cells (((((hB16.ext E24).ext E32).ext E40).ext E68).ext (KpL.toExt hu))) 3 3) rfl).mono ?_; rintro _ _ ⟨rfl, rfl⟩
  exact ⟨rfl, KpL.refl _ _⟩
 refine RW3_d _ rfl rfl (fun v => by dsimp only [List.set]; try rfl) (fun u hu hF => ?_) (fun v76 => ?_)
 ·replace hu : KpL [] _ _ := hu
  have h21_ : v75 = (.agg #[(Fl r7), (Fl r9), (Fl r11)]) := hF.1
  clear hF
  refine doesG_un rfl ?_
  obtain rfl := h21_
  refine (does_call (args := #[(.agg #[(Fl r7), (Fl r9), (Fl r11)])]) cal12 (evs rfl) (c_impl_coordinates [(Fl r7), (Fl r9), (Fl r11)] A_b.hi _ ⟨r7, r9, r11, rfl, h8, h10, h12⟩)).mono ?_; rintro v u' ⟨hx, ⟨rn1, rn2, rn3, hv, k0, k1, k2⟩⟩
  exact ⟨⟨rn1, rn2, rn3, hv, (by simp only [k0]), (by simp only [k1]), (by simp only [k2])⟩, (KpL.of_ext hx)⟩
 refine RW3_b _ rfl rfl (fun v => by dsimp only [List.set]; try rfl) (fun u hu hF => ?_) (fun v77 => ?_)
 ·replace hu : KpL [] _ _ := hu
  clear hF
  refine doesG_un rfl ?_
  refine (does_alloc z41).mono ?_; rintro _ _ ⟨b, rfl, hb, hB, hx⟩
  exact ⟨⟨b, rfl, Nat.le_trans (Nat.le_trans (Below.size E68) (KpL.size hu)) hb, hB⟩, (KpL.of_ext hx), ⟨b, rfl, hb, hB.lt⟩⟩
 refine RW3_b _ rfl rfl (fun v => by dsimp only [List.set]; try rfl) (fun u hu hF => ?_) (fun v78 => ?_)
 ·replace hu : KpL [] _ _ := hu
  clear hF
  refine doesG_un rfl ?_
  refine (does_alloc z41).mono ?_; rintro _ _ ⟨b, rfl, hb, hB, hx⟩
  exact ⟨⟨b, rfl, Nat.le_trans (Nat.le_trans (Below.size E68) (KpL.size hu)) hb, hB⟩, (KpL.of_ext hx), ⟨b, rfl, hb, hB.lt⟩⟩
 refine RW3_fin ?_; intro w79 E80 hP81 hND; replace E80 : KpL [] _ _ := E80
 obtain ⟨⟨⟨⟨⟨⟨⟨⟨-, -⟩, -⟩, q82⟩, -⟩, -⟩, q83⟩, q84⟩, q85⟩ := hP81
 have X86 := Below.kl X70 E80 all0 (Nat.le_refl _)
 have q82 : ∃ r_1 : Nat, ∃ r_2 : Nat, ∃ r_3 : Nat, v73 = (.agg #[(Fl r_1), (Fl r_2), (Fl r_3)]) ∧ cf .f32 r_1 = A_b.lo.x ∧ cf .f32 r_2 = A_b.lo.y ∧ cf .f32 r_3 = A_b.lo.z := q82 rfl
 obtain ⟨r87, r89, r91, rfl, h88, h90, h92⟩ := q82
 have q83 : ∃ r_1 : Nat, ∃ r_2 : Nat, ∃ r_3 : Nat, v76 = (.agg #[(Fl r_1), (Fl r_2), (Fl r_3)]) ∧ cf .f32 r_1 = A_b.hi.x ∧ cf .f32 r_2 = A_b.hi.y ∧ cf .f32 r_3 = A_b.hi.z := q83 rfl
 obtain ⟨r93, r95, r97, rfl, h94, h96, h98⟩ := q83
 have q84 : ∃ b : Nat, v77 = .pointer (some ⟨b, 0, none⟩) ∧ w41.heap.size ≤ b ∧ Blk w79 b [(Fl 0), (Fl 0), (Fl 0)] := q84 rfl
 obtain ⟨b99, rfl, hb100, hB101⟩ := q84
 have n102 : b14 < b99 := Nat.lt_of_lt_of_le (Blk.lt (((hB16.ext E24).ext E32).ext E40)) hb100
 have n103 : b21 < b99 := Nat.lt_of_lt_of_le (Blk.lt ((hB23.ext E32).ext E40)) hb100
 have n104 : b29 < b99 := Nat.lt_of_lt_of_le (Blk.lt (hB31.ext E40)) hb100
 have g105 : w.heap.size ≤ b99 := Nat.le_trans (Below.size X42) hb100
 have q85 : ∃ b : Nat, v78 = .pointer (some ⟨b, 0, none⟩) ∧ w41.heap.size ≤ b ∧ Blk w79 b [(Fl 0), (Fl 0), (Fl 0)] := q85 rfl
 obtain ⟨b106, rfl, hb107, hB108⟩ := q85
 have n109 : b14 < b106 := Nat.lt_of_lt_of_le (Blk.lt (((hB16.ext E24).ext E32).ext E40)) hb107
 have n110 : b21 < b106 := Nat.lt_of_lt_of_le (Blk.lt ((hB23.ext E32).ext E40)) hb107
 have n111 : b29 < b106 := Nat.lt_of_lt_of_le (Blk.lt (hB31.ext E40)) hb107
 have g112 : w.heap.size ≤ b106 := Nat.le_trans (Below.size X42) hb107
 have n113 : b106 ≠ b99 := by intro h; subst h; simp at hND
 clear hND
 show wpList _ _ _ _ (fr [_, _, _, _, _, _, _, _, _, _, _, _, _, _, _, _, _, _, _, _, _, _, _, _, _, _, _, _, _, _, _, _, _, _, _, _, _, _, _, _, _, _, _, _, _, _, _, _, _, _, _, _, _, _, _, _, _, _, _, _, _, _, _, _, _, _, _, _, _, _, _, _, _, _, _, _, _, _, _, _, _, _, _]) _
 refine seqn rfl rfl (does_store (n := 3) (cs := [(Fl 0), (Fl 0), (Fl 0)]) (u := (.agg #[(Fl r87), (Fl r89), (Fl r91)])) (ev rfl) (ev rfl) Try.sizeOf41 rfl hB101 (Nat.le_of_ble_eq_true rfl) rfl) ?_; rintro _ w116 ⟨rfl, W114, hB115⟩
 change Blk _ _ [(Fl r87), (Fl r89), (Fl r91)] at hB115
 have X117 := Below.wr X86 W114 g105
 refine seqn rfl rfl (does_store (n := 3) (cs := [(Fl 0), (Fl 0), (Fl 0)]) (u := (.agg #[(Fl r93), (Fl r95), (Fl r97)])) (ev rfl) (ev rfl) Try.sizeOf41 rfl (hB108.wr W114 n113) (Nat.le_of_ble_eq_true rfl) rfl) ?_; rintro _ w120 ⟨rfl, W118, hB119⟩
 change Blk _ _ [(Fl r93), (Fl r95), (Fl r97)] at hB119
 have X121 := Below.wr X117 W118 g112
 refine q_is rfl rfl (does_assign (u := (Iv 0)) (ev rfl)) (by dsimp only [List.set]; try rfl) ?_
 refine wpList_nil (hK66 _ _ ?_)
 refine wp_seq_k fun K122 hK122 => ?_
 refine wp_seq_k fun K123 hK123 => ?_
 refine wp_region_lit ?_
 refine q_is rfl rfl (does_move (u := (Iv 0)) (ev rfl)) (by dsimp only [List.set]; try rfl) ?_
 refine wpList_nil (hK123 _ _ ?_)
 refine wp_block ?_
 refine loop_unroll 4 ?_
 refine un_step ?_
 refine wp_seq_k fun K124 hK124 => ?_
 refine wp_region_lit ?_
 refine q_is rfl rfl (does_icmp (p := 0) (q := 3) (.inr (.inr (.inl rfl))) (ev rfl) (ev rfl)) (by dsimp only [List.set]; try rfl) ?_
 refine wpList_nil (hK124 _ _ ?_)
 refine wp_seq_k fun K125 hK125 => ?_
 refine wp_cond_true (ev rfl) ?_
 refine wp_skip (hK125 _ _ ?_)
 refine wp_seq_k fun K126 hK126 => ?_
 refine wp_block ?_
 refine wp_seq_k fun K127 hK127 => ?_
 refine wp_region_lit ?_
 refine q_is rfl rfl (does_move (u := (Iv 0)) (ev rfl)) (by dsimp only [List.set]; try rfl) ?_
 refine q_is rfl rfl (does_assign (u := (Iv 0)) (ev rfl)) (by dsimp only [List.set]; try rfl) ?_
 refine wpList_nil (hK127 _ _ ?_)
 refine wp_seq_k fun K128 hK128 => ?_
 obtain ⟨β1, hβ1⟩ : ∃ b : Bool, b = (fcmp .gtr (ford .f32 (fop .sub .f32 (cf .f32 r93) (cf .f32 r87)) (fop .sub .f32 (cf .f32 r93) (cf .f32 r87)))) := ⟨_, rfl⟩
 refine region_draw (
  [Fact.pure [] (fun v => v = (Iv 0)),
  Fact.pure [26] (fun v => v = (Pt b106 0)),
  Fact.pure [27] (fun v => v = (Fl r93)),
  Fact.pure [] (fun v => v = (Iv 0)),
  Fact.pure [29] (fun v => v = (Pt b99 0)),
  Fact.pure [30] (fun v => v = (Fl r87)),
  Fact.pure [28, 31] (fun v => ∃ r_1 : Nat, v = (Fl r_1) ∧ cf .f32 r_1 = fop .sub .f32 (cf .f32 r93) (cf .f32 r87)),
  Fact.pure [] (fun v => v = (Iv 0)),
  Fact.pure [33] (fun v => v = (Pt b106 0)),
  Fact.pure [34] (fun v => v = (Fl r93)),
  Fact.pure [] (fun v => v = (Iv 0)),
  Fact.pure [36] (fun v => v = (Pt b99 0)),
  Fact.pure [37] (fun v => v = (Fl r87)),
  Fact.pure [35, 38] (fun v => ∃ r_1 : Nat, v = (Fl r_1) ∧ cf .f32 r_1 = fop .sub .f32 (cf .f32 r93) (cf .f32 r87)),
  Fact.pure [32, 39] (fun v => v = (Bo β1))]) mixed (by kernel_rfl) (by intro _ _ d _ _ h; cases d <;> exact h) ?_
 obtain ⟨w129, hw131⟩ : ∃ w', w' = World.drew w120 := ⟨_, rfl⟩; rw [← hw131]; have E130 : Ext w120 w129 := by rw [hw131]; exact Ext.draw _
 clear hw131
 have X132 := Ext.gr X121 E130
 refine RW_d _ rfl (fun v => by dsimp only [List.set]; try rfl) (fun u hu hF => ?_) (fun v133 => ?_)
 ·clear hF
  refine doesG_un rfl ?_
  refine (does_move (u := (Iv 0)) (ev rfl)).mono ?_; rintro _ _ ⟨rfl, rfl⟩
  exact ⟨rfl, Ext.refl _⟩
 refine RW_d _ rfl (fun v => by dsimp only [List.set]; try rfl) (fun u hu hF => ?_) (fun v134 => ?_)
 ·have h26_ : v133 = (Iv 0) := hF.1
  clear hF
  refine doesG_un rfl ?_
  obtain rfl := h26_
  refine (does_indexAt_run (r := (Pt b106 0)) (ev rfl) (ev rfl) (fun w => ia41_0 _ _ w)).mono ?_; rintro _ _ ⟨rfl, rfl⟩
  exact ⟨rfl, Ext.refl _⟩
 refine RW_d _ rfl (fun v => by dsimp only [List.set]; try rfl) (fun u hu hF => ?_) (fun v135 => ?_)
 ·have h27_ : v134 = (Pt b106 0) := hF.1
  clear hF
  refine doesG_un rfl ?_
  obtain rfl := h27_
  refine (does_load (u := (Fl r93)) (ev rfl) Try.isAgg22 (Cells.at (Blk.cells ((hB119.ext E130).ext hu)) 0 rfl)).mono ?_; rintro _ _ ⟨rfl, rfl⟩
  exact ⟨rfl, Ext.refl _⟩
 refine RW_d _ rfl (fun v => by dsimp only [List.set]; try rfl) (fun u hu hF => ?_) (fun v136 => ?_)
 ·clear hF
  refine doesG_un rfl ?_
  refine (does_move (u := (Iv 0)) (ev rfl)).mono ?_; rintro _ _ ⟨rfl, rfl⟩
  exact ⟨rfl, Ext.refl _⟩
 refine RW_d _ rfl (fun v => by dsimp only [List.set]; try rfl) (fun u hu hF => ?_) (fun v137 => ?_)
 ·have h29_ : v136 = (Iv 0) := hF.1
  clear hF
  refine doesG_un rfl ?_
  obtain rfl := h29_
  refine (does_indexAt_run (r := (Pt b99 0)) (ev rfl) (ev rfl) (fun w => ia41_0 _ _ w)).mono ?_; rintro _ _ ⟨rfl, rfl⟩
  exact ⟨rfl, Ext.refl _⟩
 refine RW_d _ rfl (fun v => by dsimp only [List.set]; try rfl) (fun u hu hF => ?_) (fun v138 => ?_)
 ·have h30_ : v137 = (Pt b99 0) := hF.1
  clear hF
  refine doesG_un rfl ?_
  obtain rfl := h30_
  refine (does_load (u := (Fl r87)) (ev rfl) Try.isAgg22 (Cells.at (Blk.cells (((hB115.wr W118 (Ne.symm n113)).ext E130).ext hu)) 0 rfl)).mono ?_; rintro _ _ ⟨rfl, rfl⟩
  exact ⟨rfl, Ext.refl _⟩
 refine RW_d _ rfl (fun v => by dsimp only [List.set]; try rfl) (fun u hu hF => ?_) (fun v139 => ?_)
 ·have h28_ : v135 = (Fl r93) := hF.1
  have h31_ : v138 = (Fl r87) := hF.2.1
  clear hF
  refine doesG_un rfl ?_
  obtain rfl := h28_
  obtain rfl := h31_
  refine (does_float (.inr (.inl rfl)) (ev rfl) (ev rfl)).mono ?_; rintro _ _ ⟨r, rfl, hr, hx⟩
  exact ⟨⟨r, rfl, (by simp only [hr])⟩, hx⟩
 refine RW_d _ rfl (fun v => by dsimp only [List.set]; try rfl) (fun u hu hF => ?_) (fun v140 => ?_)
 ·clear hF
  refine doesG_un rfl ?_
  refine (does_move (u := (Iv 0)) (ev rfl)).mono ?_; rintro _ _ ⟨rfl, rfl⟩
  exact ⟨rfl, Ext.refl _⟩
 refine RW_d _ rfl (fun v => by dsimp only [List.set]; try rfl) (fun u hu hF => ?_) (fun v141 => ?_)
 ·have h33_ : v140 = (Iv 0) := hF.1
  clear hF
  refine doesG_un rfl ?_
  obtain rfl := h33_
  refine (does_indexAt_run (r := (Pt b106 0)) (ev rfl) (ev rfl) (fun w => ia41_0 _ _ w)).mono ?_; rintro _ _ ⟨rfl, rfl⟩
  exact ⟨rfl, Ext.refl _⟩
 refine RW_d _ rfl (fun v => by dsimp only [List.set]; try rfl) (fun u hu hF => ?_) (fun v142 => ?_)
 ·have h34_ : v141 = (Pt b106 0) := hF.1
  clear hF
  refine doesG_un rfl ?_
  obtain rfl := h34_
  refine (does_load (u := (Fl r93)) (ev rfl) Try.isAgg22 (Cells.at (Blk.cells ((hB119.ext E130).ext hu)) 0 rfl)).mono ?_; rintro _ _ ⟨rfl, rfl⟩
  exact ⟨rfl, Ext.refl _⟩
 refine RW_d _ rfl (fun v => by dsimp only [List.set]; try rfl) (fun u hu hF => ?_) (fun v143 => ?_)
 ·clear hF
  refine doesG_un rfl ?_
  refine (does_move (u := (Iv 0)) (ev rfl)).mono ?_; rintro _ _ ⟨rfl, rfl⟩
  exact ⟨rfl, Ext.refl _⟩
 refine RW_d _ rfl (fun v => by dsimp only [List.set]; try rfl) (fun u hu hF => ?_) (fun v144 => ?_)
 ·have h36_ : v143 = (Iv 0) := hF.1
  clear hF
  refine doesG_un rfl ?_
  obtain rfl := h36_
  refine (does_indexAt_run (r := (Pt b99 0)) (ev rfl) (ev rfl) (fun w => ia41_0 _ _ w)).mono ?_; rintro _ _ ⟨rfl, rfl⟩
  exact ⟨rfl, Ext.refl _⟩
 refine RW_d _ rfl (fun v => by dsimp only [List.set]; try rfl) (fun u hu hF => ?_) (fun v145 => ?_)
 ·have h37_ : v144 = (Pt b99 0) := hF.1
  clear hF
  refine doesG_un rfl ?_
  obtain rfl := h37_
  refine (does_load (u := (Fl r87)) (ev rfl) Try.isAgg22 (Cells.at (Blk.cells (((hB115.wr W118 (Ne.symm n113)).ext E130).ext hu)) 0 rfl)).mono ?_; rintro _ _ ⟨rfl, rfl⟩
  exact ⟨rfl, Ext.refl _⟩
 refine RW_d _ rfl (fun v => by dsimp only [List.set]; try rfl) (fun u hu hF => ?_) (fun v146 => ?_)
 ·have h35_ : v142 = (Fl r93) := hF.1
  have h38_ : v145 = (Fl r87) := hF.2.1
  clear hF
  refine doesG_un rfl ?_
  obtain rfl := h35_
  obtain rfl := h38_
  refine (does_float (.inr (.inl rfl)) (ev rfl) (ev rfl)).mono ?_; rintro _ _ ⟨r, rfl, hr, hx⟩
  exact ⟨⟨r, rfl, (by simp only [hr])⟩, hx⟩
 refine RW_d _ rfl (fun v => by dsimp only [List.set]; try rfl) (fun u hu hF => ?_) (fun v147 => ?_)
 ·have h32_ : ∃ r_1 : Nat, v139 = (Fl r_1) ∧ cf .f32 r_1 = fop .sub .f32 (cf .f32 r93) (cf .f32 r87) := hF.1
  have h39_ : ∃ r_1 : Nat, v146 = (Fl r_1) ∧ cf .f32 r_1 = fop .sub .f32 (cf .f32 r93) (cf .f32 r87) := hF.2.1
  clear hF
  refine doesG_un rfl ?_
  obtain ⟨r32_1, rfl, h32_2⟩ := h32_
  obtain ⟨r39_1, rfl, h39_2⟩ := h39_
  refine (does_fcmp (.inr (.inr (.inr (.inr (.inl rfl))))) (ev rfl) (ev rfl)).mono ?_; rintro _ _ ⟨rfl, rfl⟩
  exact ⟨(by first | rfl | (show _ = _; simp only [hβ1, h32_2, h39_2]; done) | (show _ = _; simp only [hβ1, h32_2, h39_2]; rfl)), Ext.refl _⟩
 refine RW_fin ?_; intro w148 E149 hP150
 obtain ⟨⟨⟨⟨⟨⟨⟨⟨⟨⟨⟨⟨⟨⟨⟨-, -⟩, -⟩, -⟩, -⟩, -⟩, -⟩, -⟩, -⟩, -⟩, -⟩, -⟩, -⟩, -⟩, -⟩, q151⟩ := hP150
 have X152 := Ext.gr X132 E149
 have q151 : v147 = (Bo β1) := q151
 obtain rfl := q151
 show wpList _ _ _ _ (fr [_, _, _, _, _, _, _, _, _, _, _, _, _, _, _, _, _, _, _, _, _, _, _, _, _, _, _, _, _, _, _, _, _, _, _, _, _, _, _, _, _, _, _, _, _, _, _, _, _, _, _, _, _, _, _, _, _, _, _, _, _, _, _, _, _, _, _, _, _, _, _, _, _, _, _, _, _, _, _, _, _, _, _]) _
 refine wpList_nil (hK128 _ _ ?_)
 refine wp_cond_split (t := β1) (ev rfl) (fun c153 => ?_) (fun c153 => ?_)
 ·have c153' := c153
  (try simp only [hβ1] at c153')
  (try simp only [icmp, Bool.and_eq_true, Bool.or_eq_true, Bool.and_eq_false_iff, Bool.or_eq_false_iff, Bool.not_eq_true', Bool.not_eq_false', decide_eq_true_eq, decide_eq_false_iff_not, beq_iff_eq, bne_iff_ne, beq_eq_false_iff_ne, bne_eq_false_iff_eq] at c153')
  simp only [h2, h4, h6, h8, h10, h12, h88, h90, h92, h94, h96, h98, hβ1] at c153; rw [gtr_self] at c153; cases c153
 have c153' := c153
 (try simp only [hβ1] at c153')
 (try simp only [icmp, Bool.and_eq_true, Bool.or_eq_true, Bool.and_eq_false_iff, Bool.or_eq_false_iff, Bool.not_eq_true', Bool.not_eq_false', decide_eq_true_eq, decide_eq_false_iff_not, beq_iff_eq, bne_iff_ne, beq_eq_false_iff_ne, bne_eq_false_iff_eq] at c153')
 refine wp_skip (hK126 _ _ ?_)
 refine wp_region_lit ?_
 refine q_is rfl rfl (does_iarith (p := 0) (q := 1) (r := (1)) (ev rfl) (ev rfl) (.inl ⟨rfl, rfl⟩)) (by dsimp only [List.set]; try rfl) ?_
 refine q_is rfl rfl (does_move (u := (Iv 1)) (ev rfl)) (by dsimp only [List.set]; try rfl) ?_
 refine wpList_nil ?_
 refine un_step ?_
 refine wp_seq_k fun K154 hK154 => ?_
 refine wp_region_lit ?_
 refine q_is rfl rfl (does_icmp (p := 1) (q := 3) (.inr (.inr (.inl rfl))) (ev rfl) (ev rfl)) (by dsimp only [List.set]; try rfl) ?_
 refine wpList_nil (hK154 _ _ ?_)
 refine wp_seq_k fun K155 hK155 => ?_
 refine wp_cond_true (ev rfl) ?_
 refine wp_skip (hK155 _ _ ?_)
 refine wp_seq_k fun K156 hK156 => ?_
 refine wp_block ?_
 refine wp_seq_k fun K157 hK157 => ?_
 refine wp_region_lit ?_
 refine q_is rfl rfl (does_move (u := (Iv 1)) (ev rfl)) (by dsimp only [List.set]; try rfl) ?_
 refine q_is rfl rfl (does_assign (u := (Iv 1)) (ev rfl)) (by dsimp only [List.set]; try rfl) ?_
 refine wpList_nil (hK157 _ _ ?_)
 refine wp_seq_k fun K158 hK158 => ?_
 obtain ⟨β2, hβ2⟩ : ∃ b : Bool, b = (fcmp .gtr (ford .f32 (fop .sub .f32 (cf .f32 r95) (cf .f32 r89)) (fop .sub .f32 (cf .f32 r93) (cf .f32 r87)))) := ⟨_, rfl⟩
 refine region_draw (
  [Fact.pure [] (fun v => v = (Iv 1)),
  Fact.pure [26] (fun v => v = (Pt b106 1)),
  Fact.pure [27] (fun v => v = (Fl r95)),
  Fact.pure [] (fun v => v = (Iv 1)),
  Fact.pure [29] (fun v => v = (Pt b99 1)),
  Fact.pure [30] (fun v => v = (Fl r89)),
  Fact.pure [28, 31] (fun v => ∃ r_1 : Nat, v = (Fl r_1) ∧ cf .f32 r_1 = fop .sub .f32 (cf .f32 r95) (cf .f32 r89)),
  Fact.pure [] (fun v => v = (Iv 0)),
  Fact.pure [33] (fun v => v = (Pt b106 0)),
  Fact.pure [34] (fun v => v = (Fl r93)),
  Fact.pure [] (fun v => v = (Iv 0)),
  Fact.pure [36] (fun v => v = (Pt b99 0)),
  Fact.pure [37] (fun v => v = (Fl r87)),
  Fact.pure [35, 38] (fun v => ∃ r_1 : Nat, v = (Fl r_1) ∧ cf .f32 r_1 = fop .sub .f32 (cf .f32 r93) (cf .f32 r87)),
  Fact.pure [32, 39] (fun v => v = (Bo β2))]) mixed (by kernel_rfl) (by intro _ _ d _ _ h; cases d <;> exact h) ?_
 obtain ⟨w159, hw161⟩ : ∃ w', w' = World.drew w148 := ⟨_, rfl⟩; rw [← hw161]; have E160 : Ext w148 w159 := by rw [hw161]; exact Ext.draw _
 clear hw161
 have X162 := Ext.gr X152 E160
 refine RW_d _ rfl (fun v => by dsimp only [List.set]; try rfl) (fun u hu hF => ?_) (fun v163 => ?_)
 ·clear hF
  refine doesG_un rfl ?_
  refine (does_move (u := (Iv 1)) (ev rfl)).mono ?_; rintro _ _ ⟨rfl, rfl⟩
  exact ⟨rfl, Ext.refl _⟩
 refine RW_d _ rfl (fun v => by dsimp only [List.set]; try rfl) (fun u hu hF => ?_) (fun v164 => ?_)
 ·have h26_ : v163 = (Iv 1) := hF.1
  clear hF
  refine doesG_un rfl ?_
  obtain rfl := h26_
  refine (does_indexAt_run (r := (Pt b106 1)) (ev rfl) (ev rfl) (fun w => ia41_1 _ _ w)).mono ?_; rintro _ _ ⟨rfl, rfl⟩
  exact ⟨rfl, Ext.refl _⟩
 refine RW_d _ rfl (fun v => by dsimp only [List.set]; try rfl) (fun u hu hF => ?_) (fun v165 => ?_)
 ·have h27_ : v164 = (Pt b106 1) := hF.1
  clear hF
  refine doesG_un rfl ?_
  obtain rfl := h27_
  refine (does_load (u := (Fl r95)) (ev rfl) Try.isAgg22 (Cells.at (Blk.cells ((((hB119.ext E130).ext E149).ext E160).ext hu)) 1 rfl)).mono ?_; rintro _ _ ⟨rfl, rfl⟩
  exact ⟨rfl, Ext.refl _⟩
 refine RW_d _ rfl (fun v => by dsimp only [List.set]; try rfl) (fun u hu hF => ?_) (fun v166 => ?_)
 ·clear hF
  refine doesG_un rfl ?_
  refine (does_move (u := (Iv 1)) (ev rfl)).mono ?_; rintro _ _ ⟨rfl, rfl⟩
  exact ⟨rfl, Ext.refl _⟩
 refine RW_d _ rfl (fun v => by dsimp only [List.set]; try rfl) (fun u hu hF => ?_) (fun v167 => ?_)
 ·have h29_ : v166 = (Iv 1) := hF.1
  clear hF
  refine doesG_un rfl ?_
  obtain rfl := h29_
  refine (does_indexAt_run (r := (Pt b99 1)) (ev rfl) (ev rfl) (fun w => ia41_1 _ _ w)).mono ?_; rintro _ _ ⟨rfl, rfl⟩
  exact ⟨rfl, Ext.refl _⟩
 refine RW_d _ rfl (fun v => by dsimp only [List.set]; try rfl) (fun u hu hF => ?_) (fun v168 => ?_)
 ·have h30_ : v167 = (Pt b99 1) := hF.1
  clear hF
  refine doesG_un rfl ?_
  obtain rfl := h30_
  refine (does_load (u := (Fl r89)) (ev rfl) Try.isAgg22 (Cells.at (Blk.cells (((((hB115.wr W118 (Ne.symm n113)).ext E130).ext E149).ext E160).ext hu)) 1 rfl)).mono ?_; rintro _ _ ⟨rfl, rfl⟩
  exact ⟨rfl, Ext.refl _⟩
 refine RW_d _ rfl (fun v => by dsimp only [List.set]; try rfl) (fun u hu hF => ?_) (fun v169 => ?_)
 ·have h28_ : v165 = (Fl r95) := hF.1
  have h31_ : v168 = (Fl r89) := hF.2.1
  clear hF
  refine doesG_un rfl ?_
  obtain rfl := h28_
  obtain rfl := h31_
  refine (does_float (.inr (.inl rfl)) (ev rfl) (ev rfl)).mono ?_; rintro _ _ ⟨r, rfl, hr, hx⟩
  exact ⟨⟨r, rfl, (by simp only [hr])⟩, hx⟩
 refine RW_d _ rfl (fun v => by dsimp only [List.set]; try rfl) (fun u hu hF => ?_) (fun v170 => ?_)
 ·clear hF
  refine doesG_un rfl ?_
  refine (does_move (u := (Iv 0)) (ev rfl)).mono ?_; rintro _ _ ⟨rfl, rfl⟩
  exact ⟨rfl, Ext.refl _⟩
 refine RW_d _ rfl (fun v => by dsimp only [List.set]; try rfl) (fun u hu hF => ?_) (fun v171 => ?_)
 ·have h33_ : v170 = (Iv 0) := hF.1
  clear hF
  refine doesG_un rfl ?_
  obtain rfl := h33_
  refine (does_indexAt_run (r := (Pt b106 0)) (ev rfl) (ev rfl) (fun w => ia41_0 _ _ w)).mono ?_; rintro _ _ ⟨rfl, rfl⟩
  exact ⟨rfl, Ext.refl _⟩
 refine RW_d _ rfl (fun v => by dsimp only [List.set]; try rfl) (fun u hu hF => ?_) (fun v172 => ?_)
 ·have h34_ : v171 = (Pt b106 0) := hF.1
  clear hF
  refine doesG_un rfl ?_
  obtain rfl := h34_
  refine (does_load (u := (Fl r93)) (ev rfl) Try.isAgg22 (Cells.at (Blk.cells ((((hB119.ext E130).ext E149).ext E160).ext hu)) 0 rfl)).mono ?_; rintro _ _ ⟨rfl, rfl⟩
  exact ⟨rfl, Ext.refl _⟩
 refine RW_d _ rfl (fun v => by dsimp only [List.set]; try rfl) (fun u hu hF => ?_) (fun v173 => ?_)
 ·clear hF
  refine doesG_un rfl ?_
  refine (does_move (u := (Iv 0)) (ev rfl)).mono ?_; rintro _ _ ⟨rfl, rfl⟩
  exact ⟨rfl, Ext.refl _⟩
 refine RW_d _ rfl (fun v => by dsimp only [List.set]; try rfl) (fun u hu hF => ?_) (fun v174 => ?_)
 ·have h36_ : v173 = (Iv 0) := hF.1
  clear hF
  refine doesG_un rfl ?_
  obtain rfl := h36_
  refine (does_indexAt_run (r := (Pt b99 0)) (ev rfl) (ev rfl) (fun w => ia41_0 _ _ w)).mono ?_; rintro _ _ ⟨rfl, rfl⟩
  exact ⟨rfl, Ext.refl _⟩
 refine RW_d _ rfl (fun v => by dsimp only [List.set]; try rfl) (fun u hu hF => ?_) (fun v175 => ?_)
 ·have h37_ : v174 = (Pt b99 0) := hF.1
  clear hF
  refine doesG_un rfl ?_
  obtain rfl := h37_
  refine (does_load (u := (Fl r87)) (ev rfl) Try.isAgg22 (Cells.at (Blk.cells (((((hB115.wr W118 (Ne.symm n113)).ext E130).ext E149).ext E160).ext hu)) 0 rfl)).mono ?_; rintro _ _ ⟨rfl, rfl⟩
  exact ⟨rfl, Ext.refl _⟩
 refine RW_d _ rfl (fun v => by dsimp only [List.set]; try rfl) (fun u hu hF => ?_) (fun v176 => ?_)
 ·have h35_ : v172 = (Fl r93) := hF.1
  have h38_ : v175 = (Fl r87) := hF.2.1
  clear hF
  refine doesG_un rfl ?_
  obtain rfl := h35_
  obtain rfl := h38_
  refine (does_float (.inr (.inl rfl)) (ev rfl) (ev rfl)).mono ?_; rintro _ _ ⟨r, rfl, hr, hx⟩
  exact ⟨⟨r, rfl, (by simp only [hr])⟩, hx⟩
 refine RW_d _ rfl (fun v => by dsimp only [List.set]; try rfl) (fun u hu hF => ?_) (fun v177 => ?_)
 ·have h32_ : ∃ r_1 : Nat, v169 = (Fl r_1) ∧ cf .f32 r_1 = fop .sub .f32 (cf .f32 r95) (cf .f32 r89) := hF.1
  have h39_ : ∃ r_1 : Nat, v176 = (Fl r_1) ∧ cf .f32 r_1 = fop .sub .f32 (cf .f32 r93) (cf .f32 r87) := hF.2.1
  clear hF
  refine doesG_un rfl ?_
  obtain ⟨r32_1, rfl, h32_2⟩ := h32_
  obtain ⟨r39_1, rfl, h39_2⟩ := h39_
  refine (does_fcmp (.inr (.inr (.inr (.inr (.inl rfl))))) (ev rfl) (ev rfl)).mono ?_; rintro _ _ ⟨rfl, rfl⟩
  exact ⟨(by first | rfl | (show _ = _; simp only [hβ2, h32_2, h39_2]; done) | (show _ = _; simp only [hβ2, h32_2, h39_2]; rfl)), Ext.refl _⟩
 refine RW_fin ?_; intro w178 E179 hP180
 obtain ⟨⟨⟨⟨⟨⟨⟨⟨⟨⟨⟨⟨⟨⟨⟨-, -⟩, -⟩, -⟩, -⟩, -⟩, -⟩, -⟩, -⟩, -⟩, -⟩, -⟩, -⟩, -⟩, -⟩, q181⟩ := hP180
 have X182 := Ext.gr X162 E179
 have q181 : v177 = (Bo β2) := q181
 obtain rfl := q181
 show wpList _ _ _ _ (fr [_, _, _, _, _, _, _, _, _, _, _, _, _, _, _, _, _, _, _, _, _, _, _, _, _, _, _, _, _, _, _, _, _, _, _, _, _, _, _, _, _, _, _, _, _, _, _, _, _, _, _, _, _, _, _, _, _, _, _, _, _, _, _, _, _, _, _, _, _, _, _, _, _, _, _, _, _, _, _, _, _, _, _]) _
 refine wpList_nil (hK158 _ _ ?_)
 refine wp_cond_split (t := β2) (ev rfl) (fun c183 => ?_) (fun c183 => ?_)
 ·have c183' := c183
  (try simp only [hβ1, hβ2] at c183')
  (try simp only [icmp, Bool.and_eq_true, Bool.or_eq_true, Bool.and_eq_false_iff, Bool.or_eq_false_iff, Bool.not_eq_true', Bool.not_eq_false', decide_eq_true_eq, decide_eq_false_iff_not, beq_iff_eq, bne_iff_ne, beq_eq_false_iff_ne, bne_eq_false_iff_eq] at c183')
  simp only [h2, h4, h6, h8, h10, h12, h88, h90, h92, h94, h96, h98, hβ1, hβ2] at c183
  refine wp_region_lit ?_
  refine q_is rfl rfl (does_move (u := (Iv 1)) (ev rfl)) (by dsimp only [List.set]; try rfl) ?_
  refine q_is rfl rfl (does_assign (u := (Iv 1)) (ev rfl)) (by dsimp only [List.set]; try rfl) ?_
  refine wpList_nil (hK156 _ _ ?_)
  refine wp_region_lit ?_
  refine q_is rfl rfl (does_iarith (p := 1) (q := 1) (r := (2)) (ev rfl) (ev rfl) (.inl ⟨rfl, rfl⟩)) (by dsimp only [List.set]; try rfl) ?_
  refine q_is rfl rfl (does_move (u := (Iv 2)) (ev rfl)) (by dsimp only [List.set]; try rfl) ?_
  refine wpList_nil ?_
  refine un_step ?_
  refine wp_seq_k fun K184 hK184 => ?_
  refine wp_region_lit ?_
  refine q_is rfl rfl (does_icmp (p := 2) (q := 3) (.inr (.inr (.inl rfl))) (ev rfl) (ev rfl)) (by dsimp only [List.set]; try rfl) ?_
  refine wpList_nil (hK184 _ _ ?_)
  refine wp_seq_k fun K185 hK185 => ?_
  refine wp_cond_true (ev rfl) ?_
  refine wp_skip (hK185 _ _ ?_)
  refine wp_seq_k fun K186 hK186 => ?_
  refine wp_block ?_
  refine wp_seq_k fun K187 hK187 => ?_
  refine wp_region_lit ?_
  refine q_is rfl rfl (does_move (u := (Iv 2)) (ev rfl)) (by dsimp only [List.set]; try rfl) ?_
  refine q_is rfl rfl (does_assign (u := (Iv 2)) (ev rfl)) (by dsimp only [List.set]; try rfl) ?_
  refine wpList_nil (hK187 _ _ ?_)
  refine wp_seq_k fun K188 hK188 => ?_
  obtain ⟨β3, hβ3⟩ : ∃ b : Bool, b = (fcmp .gtr (ford .f32 (fop .sub .f32 (cf .f32 r97) (cf .f32 r91)) (fop .sub .f32 (cf .f32 r95) (cf .f32 r89)))) := ⟨_, rfl⟩
  refine region_draw (
   [Fact.pure [] (fun v => v = (Iv 2)),
  Fact.pure [26] (fun v => v = (Pt b106 2)),
  Fact.pure [27] (fun v => v = (Fl r97)),
  Fact.pure [] (fun v => v = (Iv 2)),
  Fact.pure [29] (fun v => v = (Pt b99 2)),
  Fact.pure [30] (fun v => v = (Fl r91)),
  Fact.pure [28, 31] (fun v => ∃ r_1 : Nat, v = (Fl r_1) ∧ cf .f32 r_1 = fop .sub .f32 (cf .f32 r97) (cf .f32 r91)),
  Fact.pure [] (fun v => v = (Iv 1)),
  Fact.pure [33] (fun v => v = (Pt b106 1)),
  Fact.pure [34] (fun v => v = (Fl r95)),
  Fact.pure [] (fun v => v = (Iv 1)),
  Fact.pure [36] (fun v => v = (Pt b99 1)),
  Fact.pure [37] (fun v => v = (Fl r89)),
  Fact.pure [35, 38] (fun v => ∃ r_1 : Nat, v = (Fl r_1) ∧ cf .f32 r_1 = fop .sub .f32 (cf .f32 r95) (cf .f32 r89)),
  Fact.pure [32, 39] (fun v => v = (Bo β3))]) mixed (by kernel_rfl) (by intro _ _ d _ _ h; cases d <;> exact h) ?_
  obtain ⟨w189, hw191⟩ : ∃ w', w' = World.drew w178 := ⟨_, rfl⟩; rw [← hw191]; have E190 : Ext w178 w189 := by rw [hw191]; exact Ext.draw _
  clear hw191
  have X192 := Ext.gr X182 E190
  refine RW_d _ rfl (fun v => by dsimp only [List.set]; try rfl) (fun u hu hF => ?_) (fun v193 => ?_)
  ·clear hF
   refine doesG_un rfl ?_
   refine (does_move (u := (Iv 2)) (ev rfl)).mono ?_; rintro _ _ ⟨rfl, rfl⟩
   exact ⟨rfl, Ext.refl _⟩
  refine RW_d _ rfl (fun v => by dsimp only [List.set]; try rfl) (fun u hu hF => ?_) (fun v194 => ?_)
  ·have h26_ : v193 = (Iv 2) := hF.1
   clear hF
   refine doesG_un rfl ?_
   obtain rfl := h26_
   refine (does_indexAt_run (r := (Pt b106 2)) (ev rfl) (ev rfl) (fun w => ia41_2 _ _ w)).mono ?_; rintro _ _ ⟨rfl, rfl⟩
   exact ⟨rfl, Ext.refl _⟩
  refine RW_d _ rfl (fun v => by dsimp only [List.set]; try rfl) (fun u hu hF => ?_) (fun v195 => ?_)
  ·have h27_ : v194 = (Pt b106 2) := hF.1
   clear hF
   refine doesG_un rfl ?_
   obtain rfl := h27_
   refine (does_load (u := (Fl r97)) (ev rfl) Try.isAgg22 (Cells.at (Blk.cells ((((((hB119.ext E130).ext E149).ext E160).ext E179).ext E190).ext hu)) 2 rfl)).mono ?_; rintro _ _ ⟨rfl, rfl⟩
   exact ⟨rfl, Ext.refl _⟩
  refine RW_d _ rfl (fun v => by dsimp only [List.set]; try rfl) (fun u hu hF => ?_) (fun v196 => ?_)
  ·clear hF
   refine doesG_un rfl ?_
   refine (does_move (u := (Iv 2)) (ev rfl)).mono ?_; rintro _ _ ⟨rfl, rfl⟩
   exact ⟨rfl, Ext.refl _⟩
  refine RW_d _ rfl (fun v => by dsimp only [List.set]; try rfl) (fun u hu hF => ?_) (fun v197 => ?_)
  ·have h29_ : v196 = (Iv 2) := hF.1
   clear hF
   refine doesG_un rfl ?_
   obtain rfl := h29_
   refine (does_indexAt_run (r := (Pt b99 2)) (ev rfl) (ev rfl) (fun w => ia41_2 _ _ w)).mono ?_; rintro _ _ ⟨rfl, rfl⟩
   exact ⟨rfl, Ext.refl _⟩
  refine RW_d _ rfl (fun v => by dsimp only [List.set]; try rfl) (fun u hu hF => ?_) (fun v198 => ?_)
  ·have h30_ : v197 = (Pt b99 2) := hF.1
   clear hF
   refine doesG_un rfl ?_
   obtain rfl := h30_
   refine (does_load (u := (Fl r91)) (ev rfl) Try.isAgg22 (Cells.at (Blk.cells (((((((hB115.wr W118 (Ne.symm n113)).ext E130).ext E149).ext E160).ext E179).ext E190).ext hu)) 2 rfl)).mono ?_; rintro _ _ ⟨rfl, rfl⟩
   exact ⟨rfl, Ext.refl _⟩
  refine RW_d _ rfl (fun v => by dsimp only [List.set]; try rfl) (fun u hu hF => ?_) (fun v199 => ?_)
  ·have h28_ : v195 = (Fl r97) := hF.1
   have h31_ : v198 = (Fl r91) := hF.2.1
   clear hF
   refine doesG_un rfl ?_
   obtain rfl := h28_
   obtain rfl := h31_
   refine (does_float (.inr (.inl rfl)) (ev rfl) (ev rfl)).mono ?_; rintro _ _ ⟨r, rfl, hr, hx⟩
   exact ⟨⟨r, rfl, (by simp only [hr])⟩, hx⟩
  refine RW_d _ rfl (fun v => by dsimp only [List.set]; try rfl) (fun u hu hF => ?_) (fun v200 => ?_)
  ·clear hF
   refine doesG_un rfl ?_
   refine (does_move (u := (Iv 1)) (ev rfl)).mono ?_; rintro _ _ ⟨rfl, rfl⟩
   exact ⟨rfl, Ext.refl _⟩
  refine RW_d _ rfl (fun v => by dsimp only [List.set]; try rfl) (fun u hu hF => ?_) (fun v201 => ?_)
  ·have h33_ : v200 = (Iv 1) := hF.1
   clear hF
   refine doesG_un rfl ?_
   obtain rfl := h33_
   refine (does_indexAt_run (r := (Pt b106 1)) (ev rfl) (ev rfl) (fun w => ia41_1 _ _ w)).mono ?_; rintro _ _ ⟨rfl, rfl⟩
   exact ⟨rfl, Ext.refl _⟩
  refine RW_d _ rfl (fun v => by dsimp only [List.set]; try rfl) (fun u hu hF => ?_) (fun v202 => ?_)
  ·have h34_ : v201 = (Pt b106 1) := hF.1
   clear hF
   refine doesG_un rfl ?_
   obtain rfl := h34_
   refine (does_load (u := (Fl r95)) (ev rfl) Try.isAgg22 (Cells.at (Blk.cells ((((((hB119.ext E130).ext E149).ext E160).ext E179).ext E190).ext hu)) 1 rfl)).mono ?_; rintro _ _ ⟨rfl, rfl⟩
   exact ⟨rfl, Ext.refl _⟩
  refine RW_d _ rfl (fun v => by dsimp only [List.set]; try rfl) (fun u hu hF => ?_) (fun v203 => ?_)
  ·clear hF
   refine doesG_un rfl ?_
   refine (does_move (u := (Iv 1)) (ev rfl)).mono ?_; rintro _ _ ⟨rfl, rfl⟩
   exact ⟨rfl, Ext.refl _⟩
  refine RW_d _ rfl (fun v => by dsimp only [List.set]; try rfl) (fun u hu hF => ?_) (fun v204 => ?_)
  ·have h36_ : v203 = (Iv 1) := hF.1
   clear hF
   refine doesG_un rfl ?_
   obtain rfl := h36_
   refine (does_indexAt_run (r := (Pt b99 1)) (ev rfl) (ev rfl) (fun w => ia41_1 _ _ w)).mono ?_; rintro _ _ ⟨rfl, rfl⟩
   exact ⟨rfl, Ext.refl _⟩
  refine RW_d _ rfl (fun v => by dsimp only [List.set]; try rfl) (fun u hu hF => ?_) (fun v205 => ?_)
  ·have h37_ : v204 = (Pt b99 1) := hF.1
   clear hF
   refine doesG_un rfl ?_
   obtain rfl := h37_
   refine (does_load (u := (Fl r89)) (ev rfl) Try.isAgg22 (Cells.at (Blk.cells (((((((hB115.wr W118 (Ne.symm n113)).ext E130).ext E149).ext E160).ext E179).ext E190).ext hu)) 1 rfl)).mono ?_; rintro _ _ ⟨rfl, rfl⟩
   exact ⟨rfl, Ext.refl _⟩
  refine RW_d _ rfl (fun v => by dsimp only [List.set]; try rfl) (fun u hu hF => ?_) (fun v206 => ?_)
  ·have h35_ : v202 = (Fl r95) := hF.1
   have h38_ : v205 = (Fl r89) := hF.2.1
   clear hF
   refine doesG_un rfl ?_
   obtain rfl := h35_
   obtain rfl := h38_
   refine (does_float (.inr (.inl rfl)) (ev rfl) (ev rfl)).mono ?_; rintro _ _ ⟨r, rfl, hr, hx⟩
   exact ⟨⟨r, rfl, (by simp only [hr])⟩, hx⟩
  refine RW_d _ rfl (fun v => by dsimp only [List.set]; try rfl) (fun u hu hF => ?_) (fun v207 => ?_)
  ·have h32_ : ∃ r_1 : Nat, v199 = (Fl r_1) ∧ cf .f32 r_1 = fop .sub .f32 (cf .f32 r97) (cf .f32 r91) := hF.1
   have h39_ : ∃ r_1 : Nat, v206 = (Fl r_1) ∧ cf .f32 r_1 = fop .sub .f32 (cf .f32 r95) (cf .f32 r89) := hF.2.1
   clear hF
   refine doesG_un rfl ?_
   obtain ⟨r32_1, rfl, h32_2⟩ := h32_
   obtain ⟨r39_1, rfl, h39_2⟩ := h39_
   refine (does_fcmp (.inr (.inr (.inr (.inr (.inl rfl))))) (ev rfl) (ev rfl)).mono ?_; rintro _ _ ⟨rfl, rfl⟩
   exact ⟨(by first | rfl | (show _ = _; simp only [hβ3, h32_2, h39_2]; done) | (show _ = _; simp only [hβ3, h32_2, h39_2]; rfl)), Ext.refl _⟩
  refine RW_fin ?_; intro w208 E209 hP210
  obtain ⟨⟨⟨⟨⟨⟨⟨⟨⟨⟨⟨⟨⟨⟨⟨-, -⟩, -⟩, -⟩, -⟩, -⟩, -⟩, -⟩, -⟩, -⟩, -⟩, -⟩, -⟩, -⟩, -⟩, q211⟩ := hP210
  have X212 := Ext.gr X192 E209
  have q211 : v207 = (Bo β3) := q211
  obtain rfl := q211
  show wpList _ _ _ _ (fr [_, _, _, _, _, _, _, _, _, _, _, _, _, _, _, _, _, _, _, _, _, _, _, _, _, _, _, _, _, _, _, _, _, _, _, _, _, _, _, _, _, _, _, _, _, _, _, _, _, _, _, _, _, _, _, _, _, _, _, _, _, _, _, _, _, _, _, _, _, _, _, _, _, _, _, _, _, _, _, _, _, _, _]) _
  refine wpList_nil (hK188 _ _ ?_)
  refine wp_cond_split (t := β3) (ev rfl) (fun c213 => ?_) (fun c213 => ?_)
  ·have c213' := c213
   (try simp only [hβ1, hβ2, hβ3] at c213')
   (try simp only [icmp, Bool.and_eq_true, Bool.or_eq_true, Bool.and_eq_false_iff, Bool.or_eq_false_iff, Bool.not_eq_true', Bool.not_eq_false', decide_eq_true_eq, decide_eq_false_iff_not, beq_iff_eq, bne_iff_ne, beq_eq_false_iff_ne, bne_eq_false_iff_eq] at c213')
   simp only [h2, h4, h6, h8, h10, h12, h88, h90, h92, h94, h96, h98, hβ1, hβ2, hβ3] at c213
   refine wp_region_lit ?_
   refine q_is rfl rfl (does_move (u := (Iv 2)) (ev rfl)) (by dsimp only [List.set]; try rfl) ?_
   refine q_is rfl rfl (does_assign (u := (Iv 2)) (ev rfl)) (by dsimp only [List.set]; try rfl) ?_
   refine wpList_nil (hK186 _ _ ?_)
   refine wp_region_lit ?_
   refine q_is rfl rfl (does_iarith (p := 2) (q := 1) (r := (3)) (ev rfl) (ev rfl) (.inl ⟨rfl, rfl⟩)) (by dsimp only [List.set]; try rfl) ?_
   refine q_is rfl rfl (does_move (u := (Iv 3)) (ev rfl)) (by dsimp only [List.set]; try rfl) ?_
   refine wpList_nil ?_
   refine un_step ?_
   refine wp_seq_k fun K214 hK214 => ?_
   refine wp_region_lit ?_
   refine q_is rfl rfl (does_icmp (p := 3) (q := 3) (.inr (.inr (.inl rfl))) (ev rfl) (ev rfl)) (by dsimp only [List.set]; try rfl) ?_
   refine wpList_nil (hK214 _ _ ?_)
   refine wp_seq_k fun K215 hK215 => ?_
   refine wp_cond_false (ev rfl) ?_
   refine wp_exit ?_
   refine hK122 _ _ ?_
   refine wp_seq_k fun K216 hK216 => ?_
   refine region_draw (
    [Fact.pure [] (fun v => v = (Iv 2)),
  Fact.pure [43] (fun v => v = (Pt b99 2)),
  Fact.pure [44] (fun v => v = (Fl r91)),
  Fact.pure [] (fun v => v = (Iv 2)),
  Fact.pure [46] (fun v => v = (Pt b106 2)),
  Fact.pure [47] (fun v => v = (Fl r97)),
  Fact.pure [] (fun v => v = (Iv 2)),
  Fact.pure [49] (fun v => v = (Pt b99 2)),
  Fact.pure [50] (fun v => v = (Fl r91)),
  Fact.pure [48, 51] (fun v => ∃ r_1 : Nat, v = (Fl r_1) ∧ cf .f32 r_1 = fop .sub .f32 (cf .f32 r97) (cf .f32 r91)),
  Fact.pure [52] (fun v => ∃ r_1 : Nat, v = (Fl r_1) ∧ cf .f32 r_1 = fop .quo .f32 (fop .sub .f32 (cf .f32 r97) (cf .f32 r91)) (cf .f32 1073741824)),
  Fact.pure [45, 53] (fun v => ∃ r_1 : Nat, v = (Fl r_1) ∧ cf .f32 r_1 = fop .add .f32 (cf .f32 r91) (fop .quo .f32 (fop .sub .f32 (cf .f32 r97) (cf .f32 r91)) (cf .f32 1073741824)))]) mixed (by kernel_rfl) (by intro _ _ d _ _ h; cases d <;> exact h) ?_
   obtain ⟨w217, hw219⟩ : ∃ w', w' = World.drew w208 := ⟨_, rfl⟩; rw [← hw219]; have E218 : Ext w208 w217 := by rw [hw219]; exact Ext.draw _
   clear hw219
   have X220 := Ext.gr X212 E218
   refine RW_d _ rfl (fun v => by dsimp only [List.set]; try rfl) (fun u hu hF => ?_) (fun v221 => ?_)
   ·clear hF
    refine doesG_un rfl ?_
    refine (does_move (u := (Iv 2)) (ev rfl)).mono ?_; rintro _ _ ⟨rfl, rfl⟩
    exact ⟨rfl, Ext.refl _⟩
   refine RW_d _ rfl (fun v => by dsimp only [List.set]; try rfl) (fun u hu hF => ?_) (fun v222 => ?_)
   ·have h43_ : v221 = (Iv 2) := hF.1
    clear hF
    refine doesG_un rfl ?_
    obtain rfl := h43_
    refine (does_indexAt_run (r := (Pt b99 2)) (ev rfl) (ev rfl) (fun w => ia41_2 _ _ w)).mono ?_; rintro _ _ ⟨rfl, rfl⟩
    exact ⟨rfl, Ext.refl _⟩
   refine RW_d _ rfl (fun v => by dsimp only [List.set]; try rfl) (fun u hu hF => ?_) (fun v223 => ?_)
   ·have h44_ : v222 = (Pt b99 2) := hF.1
    clear hF
    refine doesG_un rfl ?_
    obtain rfl := h44_
    refine (does_load (u := (Fl r91)) (ev rfl) Try.isAgg22 (Cells.at (Blk.cells (((((((((hB115.wr W118 (Ne.symm n113)).ext E130).ext E149).ext E160).ext E179).ext E190).ext E209).ext E218).ext hu)) 2 rfl)).mono ?_; rintro _ _ ⟨rfl, rfl⟩
    exact ⟨rfl, Ext.refl _⟩
   refine RW_d _ rfl (fun v => by dsimp only [List.set]; try rfl) (fun u hu hF => ?_) (fun v224 => ?_)
   ·clear hF
    refine doesG_un rfl ?_
    refine (does_move (u := (Iv 2)) (ev rfl)).mono ?_; rintro _ _ ⟨rfl, rfl⟩
    exact ⟨rfl, Ext.refl _⟩
   refine RW_d _ rfl (fun v => by dsimp only [List.set]; try rfl) (fun u hu hF => ?_) (fun v225 => ?_)
   ·have h46_ : v224 = (Iv 2) := hF.1
    clear hF
    refine doesG_un rfl ?_
    obtain rfl := h46_
    refine (does_indexAt_run (r := (Pt b106 2)) (ev rfl) (ev rfl) (fun w => ia41_2 _ _ w)).mono ?_; rintro _ _ ⟨rfl, rfl⟩
    exact ⟨rfl, Ext.refl _⟩
   refine RW_d _ rfl (fun v => by dsimp only [List.set]; try rfl) (fun u hu hF => ?_) (fun v226 => ?_)
   ·have h47_ : v225 = (Pt b106 2) := hF.1
    clear hF
    refine doesG_un rfl ?_
    obtain rfl := h47_
    refine (does_load (u := (Fl r97)) (ev rfl) Try.isAgg22 (Cells.at (Blk.cells ((((((((hB119.ext E130).ext E149).ext E160).ext E179).ext E190).ext E209).ext E218).ext hu)) 2 rfl)).mono ?_; rintro _ _ ⟨rfl, rfl⟩
    exact ⟨rfl, Ext.refl _⟩
   refine RW_d _ rfl (fun v => by dsimp only [List.set]; try rfl) (fun u hu hF => ?_) (fun v227 => ?_)
   ·clear hF
    refine doesG_un rfl ?_
    refine (does_move (u := (Iv 2)) (ev rfl)).mono ?_; rintro _ _ ⟨rfl, rfl⟩
    exact ⟨rfl, Ext.refl _⟩
   refine RW_d _ rfl (fun v => by dsimp only [List.set]; try rfl) (fun u hu hF => ?_) (fun v228 => ?_)
   ·have h49_ : v227 = (Iv 2) := hF.1
    clear hF
    refine doesG_un rfl ?_
    obtain rfl := h49_
    refine (does_indexAt_run (r := (Pt b99 2)) (ev rfl) (ev rfl) (fun w => ia41_2 _ _ w)).mono ?_; rintro _ _ ⟨rfl, rfl⟩
    exact ⟨rfl, Ext.refl _⟩
   refine RW_d _ rfl (fun v => by dsimp only [List.set]; try rfl) (fun u hu hF => ?_) (fun v229 => ?_)
   ·have h50_ : v228 = (Pt b99 2) := hF.1
    clear hF
    refine doesG_un rfl ?_
    obtain rfl := h50_
    refine (does_load (u := (Fl r91)) (ev rfl) Try.isAgg22 (Cells.at (Blk.cells (((((((((hB115.wr W118 (Ne.symm n113)).ext E130).ext E149).ext E160).ext E179).ext E190).ext E209).ext E218).ext hu)) 2 rfl)).mono ?_; rintro _ _ ⟨rfl, rfl⟩
    exact ⟨rfl, Ext.refl _⟩
   refine RW_d _ rfl (fun v => by dsimp only [List.set]; try rfl) (fun u hu hF => ?_) (fun v230 => ?_)
   ·have h48_ : v226 = (Fl r97) := hF.1
    have h51_ : v229 = (Fl r91) := hF.2.1
    clear hF
    refine doesG_un rfl ?_
    obtain rfl := h48_
    obtain rfl := h51_
    refine (does_float (.inr (.inl rfl)) (ev rfl) (ev rfl)).mono ?_; rintro _ _ ⟨r, rfl, hr, hx⟩
    exact ⟨⟨r, rfl, (by simp only [hr])⟩, hx⟩
   refine RW_d _ rfl (fun v => by dsimp only [List.set]; try rfl) (fun u hu hF => ?_) (fun v231 => ?_)
   ·have h52_ : ∃ r_1 : Nat, v230 = (Fl r_1) ∧ cf .f32 r_1 = fop .sub .f32 (cf .f32 r97) (cf .f32 r91) := hF.1
    clear hF
    refine doesG_un rfl ?_
    obtain ⟨r52_1, rfl, h52_2⟩ := h52_
    refine (does_float (.inr (.inr (.inr rfl))) (ev rfl) (ev rfl)).mono ?_; rintro _ _ ⟨r, rfl, hr, hx⟩
    exact ⟨⟨r, rfl, (by simp only [hr, h52_2])⟩, hx⟩
   refine RW_d _ rfl (fun v => by dsimp only [List.set]; try rfl) (fun u hu hF => ?_) (fun v232 => ?_)
   ·have h45_ : v223 = (Fl r91) := hF.1
    have h53_ : ∃ r_1 : Nat, v231 = (Fl r_1) ∧ cf .f32 r_1 = fop .quo .f32 (fop .sub .f32 (cf .f32 r97) (cf .f32 r91)) (cf .f32 1073741824) := hF.2.1
    clear hF
    refine doesG_un rfl ?_
    obtain rfl := h45_
    obtain ⟨r53_1, rfl, h53_2⟩ := h53_
    refine (does_float (.inl rfl) (ev rfl) (ev rfl)).mono ?_; rintro _ _ ⟨r, rfl, hr, hx⟩
    exact ⟨⟨r, rfl, (by simp only [hr, h53_2])⟩, hx⟩
   refine RW_fin ?_; intro w233 E234 hP235
   obtain ⟨⟨⟨⟨⟨⟨⟨⟨⟨⟨⟨⟨-, -⟩, -⟩, -⟩, -⟩, -⟩, -⟩, -⟩, -⟩, -⟩, -⟩, -⟩, q236⟩ := hP235
   have X237 := Ext.gr X220 E234
   have q236 : ∃ r_1 : Nat, v232 = (Fl r_1) ∧ cf .f32 r_1 = fop .add .f32 (cf .f32 r91) (fop .quo .f32 (fop .sub .f32 (cf .f32 r97) (cf .f32 r91)) (cf .f32 1073741824)) := q236
   obtain ⟨r238, rfl, h239⟩ := q236
   show wpList _ _ _ _ (fr [_, _, _, _, _, _, _, _, _, _, _, _, _, _, _, _, _, _, _, _, _, _, _, _, _, _, _, _, _, _, _, _, _, _, _, _, _, _, _, _, _, _, _, _, _, _, _, _, _, _, _, _, _, _, _, _, _, _, _, _, _, _, _, _, _, _, _, _, _, _, _, _, _, _, _, _, _, _, _, _, _, _, _]) _
   refine q_is rfl rfl (does_assign (u := (Fl r238)) (ev rfl)) (by dsimp only [List.set]; try rfl) ?_
   refine wpList_nil (hK216 _ _ ?_)
   refine wp_seq_k fun K240 hK240 => ?_
   refine wp_region_lit ?_
   refine q_is rfl rfl (does_move (u := (Iv 2)) (ev rfl)) (by dsimp only [List.set]; try rfl) ?_
   refine q_is rfl rfl (does_move (u := (Iv 2)) (ev rfl)) (by dsimp only [List.set]; try rfl) ?_
   refine q_is rfl rfl (does_move (u := (Fl r238)) (ev rfl)) (by dsimp only [List.set]; try rfl) ?_
   refine q_is rfl rfl (does_move (u := (Fl r238)) (ev rfl)) (by dsimp only [List.set]; try rfl) ?_
   refine q_is rfl rfl (does_indexAt_run (r := (Pt b99 2)) (ev rfl) (ev rfl) (fun w => ia41_2 _ _ w)) (by dsimp only [List.set]; try rfl) ?_
   refine seqn rfl rfl (does_store (n := 1) (cs := [(Fl r87), (Fl r89), (Fl r91)]) (u := (Fl r238)) (ev rfl) (ev rfl) Try.sizeOf22 rfl (((((((((hB115.wr W118 (Ne.symm n113)).ext E130).ext E149).ext E160).ext E179).ext E190).ext E209).ext E218).ext E234) (Nat.le_of_ble_eq_true rfl) rfl) ?_; rintro _ w243 ⟨rfl, W241, hB242⟩
   change Blk _ _ [(Fl r87), (Fl r89), (Fl r238)] at hB242
   have X244 := Below.wr X237 W241 g105
   refine q_is rfl rfl (does_indexAt_run (r := (Pt b106 2)) (ev rfl) (ev rfl) (fun w => ia41_2 _ _ w)) (by dsimp only [List.set]; try rfl) ?_
   refine seqn rfl rfl (does_store (n := 1) (cs := [(Fl r93), (Fl r95), (Fl r97)]) (u := (Fl r238)) (ev rfl) (ev rfl) Try.sizeOf22 rfl (((((((((hB119.ext E130).ext E149).ext E160).ext E179).ext E190).ext E209).ext E218).ext E234).wr W241 n113) (Nat.le_of_ble_eq_true rfl) rfl) ?_; rintro _ w247 ⟨rfl, W245, hB246⟩
   change Blk _ _ [(Fl r93), (Fl r95), (Fl r238)] at hB246
   have X248 := Below.wr X244 W245 g112
   refine wpList_nil (hK240 _ _ ?_)
   refine wp_seq_k fun K249 hK249 => ?_
   refine region_any4 [] [10, 11] [0, 1, 0, 4, 15, 0, 44, 0, 128, 492, 0, 0, 3199, 8191] [] (
    [FactV.pure [] [] [] true (fun v => v = (Pt b14 0)),
     FactV.pure [0] [] [] true (fun v => v = (.agg #[(Fl r1), (Fl r3), (Fl r5)])),
     FactV.pure [] [] [] true (fun v => v = (.agg #[(Fl r93), (Fl r95), (Fl r238)])),
     FactV.pure [2] [] [] true (fun v => ∃ cs_1 : List Value, v = (.agg cs_1.toArray) ∧ RV3 w (V3.mk (cf .f32 r93) (cf .f32 r95) (cf .f32 r238)) cs_1),
     FactV.pure [1, 3] [] [] true (fun v => ∃ r_1 : Nat, ∃ r_2 : Nat, ∃ r_3 : Nat, v = (.agg #[(Fl r1), (Fl r3), (Fl r5), (Fl r_1), (Fl r_2), (Fl r_3)]) ∧ cf .f32 r_1 = (V3.mk (cf .f32 r93) (cf .f32 r95) (cf .f32 r238)).x ∧ cf .f32 r_2 = (V3.mk (cf .f32 r93) (cf .f32 r95) (cf .f32 r238)).y ∧ cf .f32 r_3 = (V3.mk (cf .f32 r93) (cf .f32 r95) (cf .f32 r238)).z),
     FactV.pure [] [] [] true (fun v => v = (.agg #[(Fl r87), (Fl r89), (Fl r238)])),
     FactV.pure [5] [] [] true (fun v => ∃ cs_1 : List Value, v = (.agg cs_1.toArray) ∧ RV3 w (V3.mk (cf .f32 r87) (cf .f32 r89) (cf .f32 r238)) cs_1),
     FactV.pure [] [] [] true (fun v => v = (Pt b14 3)),
     FactV.pure [7] [] [] true (fun v => v = (.agg #[(Fl r7), (Fl r9), (Fl r11)])),
     FactV.pure [6, 8] [] [] true (fun v => ∃ r_1 : Nat, ∃ r_2 : Nat, ∃ r_3 : Nat, v = (.agg #[(Fl r_1), (Fl r_2), (Fl r_3), (Fl r7), (Fl r9), (Fl r11)]) ∧ cf .f32 r_1 = (V3.mk (cf .f32 r87) (cf .f32 r89) (cf .f32 r238)).x ∧ cf .f32 r_2 = (V3.mk (cf .f32 r87) (cf .f32 r89) (cf .f32 r238)).y ∧ cf .f32 r_3 = (V3.mk (cf .f32 r87) (cf .f32 r89) (cf .f32 r238)).z),
     FactV.new [] [] [] false (fun v w' => ∃ b : Nat, v = .pointer (some ⟨b, 0, none⟩) ∧ w247.heap.size ≤ b ∧ Blk w' b [(Fl 0), (Fl 0), (Fl 0), (Fl 0), (Fl 0), (Fl 0)]) (by rintro v w1 w2 L hx hL ⟨b, rfl, hb, hB⟩; exact ⟨b, rfl, hb, (hB.kl hx (fun hm => (hL b hm).elim (fun h => absurd h (by show b ∉ ([] : List Nat); exact nin0)) (fun h => h.2 rfl)))⟩),
     FactV.new [] [] [] true (fun v w' => ∃ b : Nat, v = .pointer (some ⟨b, 0, none⟩) ∧ w247.heap.size ≤ b ∧ Blk w' b [(Fl 0), (Fl 0), (Fl 0), (Fl 0), (Fl 0), (Fl 0)]) (by rintro v w1 w2 L hx hL ⟨b, rfl, hb, hB⟩; exact ⟨b, rfl, hb, (hB.kl hx (fun hm => (hL b hm).elim (fun h => absurd h (by show b ∉ ([] : List Nat); exact nin0)) (fun h => h.2 rfl)))⟩),
     FactV.into [10, 4] [] [] 10 true (fun o v w' => v = undef ∧ ∃ b : Nat, ∃ r_1 : Nat, ∃ r_2 : Nat, ∃ r_3 : Nat, o = .pointer (some ⟨b, 0, none⟩) ∧ w247.heap.size ≤ b ∧ Blk w' b [(Fl r1), (Fl r3), (Fl r5), (Fl r_1), (Fl r_2), (Fl r_3)] ∧ cf .f32 r_1 = (V3.mk (cf .f32 r93) (cf .f32 r95) (cf .f32 r238)).x ∧ cf .f32 r_2 = (V3.mk (cf .f32 r93) (cf .f32 r95) (cf .f32 r238)).y ∧ cf .f32 r_3 = (V3.mk (cf .f32 r93) (cf .f32 r95) (cf .f32 r238)).z) (by rintro o v w1 w2 L hx hL ⟨rfl, b, z0, z1, z2, rfl, hb, hB, k0, k1, k2⟩; exact ⟨rfl, b, z0, z1, z2, rfl, hb, hB.kl hx (fun hm => (hL b hm).elim (fun h => absurd h (by show b ∉ ([] : List Nat); exact nin0)) (fun h => h.2 rfl)), k0, k1, k2⟩)]) mixed (by kernel_rfl) ?_
   obtain ⟨w250, hw252⟩ : ∃ w', w' = World.drew w247 := ⟨_, rfl⟩; rw [← hw252]; have E251 : Ext w247 w250 := by rw [hw252]; exact Ext.draw _
   clear hw252
   have X253 := Ext.gr X248 E251
   refine RW4_d _ rfl rfl (fun v => by dsimp only [List.set]; try rfl) (fun u hu hF => ?_) (fun v254 => ?_)
   ·replace hu : KpL [] _ _ := hu
    clear hF
    refine doesG_un rfl ?_
    refine (does_fieldAddr (ev rfl) fa29_0).mono ?_; rintro _ _ ⟨rfl, rfl⟩
    exact ⟨rfl, KpL.refl _ _⟩
   refine RW4_d _ rfl rfl (fun v => by dsimp only [List.set]; try rfl) (fun u hu hF => ?_) (fun v255 => ?_)
   ·replace hu : KpL [] _ _ := hu
    have h61_ : v254 = (Pt b14 0) := hF.1
    clear hF
    refine doesG_un rfl ?_
    obtain rfl := h61_
    refine (does_loadAgg (cs := [(Fl r1), (Fl r3), (Fl r5)]) (ev rfl) Try.isAgg27 Try.sizeOf27 (Cells.sub (Blk.cells (((((((((((((((((((hB16.ext E24).ext E32).ext E40).ext E68).kl E80 nin0).wr W114 (Nat.ne_of_lt n102)).wr W118 (Nat.ne_of_lt n109)).ext E130).ext E149).ext E160).ext E179).ext E190).ext E209).ext E218).ext E234).wr W241 (Nat.ne_of_lt n102)).wr W245 (Nat.ne_of_lt n109)).ext E251).ext (KpL.toExt hu))) 0 3) rfl).mono ?_; rintro _ _ ⟨rfl, rfl⟩
    exact ⟨rfl, KpL.refl _ _⟩
   refine RW4_d _ rfl rfl (fun v => by dsimp only [List.set]; try rfl) (fun u hu hF => ?_) (fun v256 => ?_)
   ·replace hu : KpL [] _ _ := hu
    clear hF
    refine doesG_un rfl ?_
    refine (does_loadAgg (cs := [(Fl r93), (Fl r95), (Fl r238)]) (ev rfl) Try.isAgg41 Try.sizeOf41 (Blk.cells ((hB246.ext E251).ext (KpL.toExt hu))) rfl).mono ?_; rintro _ _ ⟨rfl, rfl⟩
    exact ⟨rfl, KpL.refl _ _⟩
   refine RW4_d _ rfl rfl (fun v => by dsimp only [List.set]; try rfl) (fun u hu hF => ?_) (fun v257 => ?_)
   ·replace hu : KpL [] _ _ := hu
    have h63_ : v256 = (.agg #[(Fl r93), (Fl r95), (Fl r238)]) := hF.1
    clear hF
    refine doesG_un rfl ?_
    obtain rfl := h63_
    refine (does_call (args := #[(.agg #[(Fl r93), (Fl r95), (Fl r238)])]) cal13 (evs rfl) (c_impl_vectorOf r93 r95 r238 _)).mono ?_; rintro v u' ⟨hx, ⟨csn1, hv, k0⟩⟩
    exact ⟨⟨csn1, hv, k0⟩, (KpL.of_ext hx)⟩
   refine RW4_d _ rfl rfl (fun v => by dsimp only [List.set]; try rfl) (fun u hu hF => ?_) (fun v258 => ?_)
   ·replace hu : KpL [] _ _ := hu
    have h62_ : v255 = (.agg #[(Fl r1), (Fl r3), (Fl r5)]) := hF.1
    have h64_ : ∃ cs_1 : List Value, v257 = (.agg cs_1.toArray) ∧ RV3 w (V3.mk (cf .f32 r93) (cf .f32 r95) (cf .f32 r238)) cs_1 := hF.2.1
    clear hF
    refine doesG_un rfl ?_
    obtain rfl := h62_
    obtain ⟨_, rfl, ⟨r64_1, r64_3, r64_5, rfl, h64_2, h64_4, h64_6⟩⟩ := h64_
    refine (does_build (parts' := [(0, (.agg #[(Fl r1), (Fl r3), (Fl r5)])), (1, (.agg #[(Fl r64_1), (Fl r64_3), (Fl r64_5)]))]) (cells := #[(Fl r1), (Fl r3), (Fl r5), (Fl r64_1), (Fl r64_3), (Fl r64_5)]) (evp rfl) (by kernel_rfl)).mono ?_; rintro _ _ ⟨rfl, rfl⟩
    exact ⟨⟨r64_1, r64_3, r64_5, rfl, (by simp only [h64_2, h64_4, h64_6]), (by simp only [h64_2, h64_4, h64_6]), (by simp only [h64_2, h64_4, h64_6])⟩, KpL.refl _ _⟩
   refine RW4_d _ rfl rfl (fun v => by dsimp only [List.set]; try rfl) (fun u hu hF => ?_) (fun v259 => ?_)
   ·replace hu : KpL [] _ _ := hu
    clear hF
    refine doesG_un rfl ?_
    refine (does_loadAgg (cs := [(Fl r87), (Fl r89), (Fl r238)]) (ev rfl) Try.isAgg41 Try.sizeOf41 (Blk.cells (((hB242.wr W245 (Ne.symm n113)).ext E251).ext (KpL.toExt hu))) rfl).mono ?_; rintro _ _ ⟨rfl, rfl⟩
    exact ⟨rfl, KpL.refl _ _⟩
   refine RW4_d _ rfl rfl (fun v => by dsimp only [List.set]; try rfl) (fun u hu hF => ?_) (fun v260 => ?_)
   ·replace hu : KpL [] _ _ := hu
    have h66_ : v259 = (.agg #[(Fl r87), (Fl r89), (Fl r238)]) := hF.1
    clear hF
    refine doesG_un rfl ?_
    obtain rfl := h66_
    refine (does_call (args := #[(.agg #[(Fl r87), (Fl r89), (Fl r238)])]) cal13 (evs rfl) (c_impl_vectorOf r87 r89 r238 _)).mono ?_; rintro v u' ⟨hx, ⟨csn1, hv, k0⟩⟩
    exact ⟨⟨csn1, hv, k0⟩, (KpL.of_ext hx)⟩
   refine RW4_d _ rfl rfl (fun v => by dsimp only [List.set]; try rfl) (fun u hu hF => ?_) (fun v261 => ?_)
   ·replace hu : KpL [] _ _ := hu
    clear hF
    refine doesG_un rfl ?_
    refine (does_fieldAddr (ev rfl) fa29_1).mono ?_; rintro _ _ ⟨rfl, rfl⟩
    exact ⟨rfl, KpL.refl _ _⟩
   refine RW4_d _ rfl rfl (fun v => by dsimp only [List.set]; try rfl) (fun u hu hF => ?_) (fun v262 => ?_)
   ·replace hu : KpL [] _ _ := hu
    have h68_ : v261 = (Pt b14 3) := hF.1
    clear hF
    refine doesG_un rfl ?_
    obtain rfl := h68_
    refine (does_loadAgg (cs := [(Fl r7), (Fl r9), (Fl r11)]) (ev rfl) Try.isAgg27 Try.sizeOf27 (Cells.sub (Blk.cells (((((((((((((((((((hB16.ext E24).ext E32).ext E40).ext E68).kl E80 nin0).wr W114 (Nat.ne_of_lt n102)).wr W118 (Nat.ne_of_lt n109)).ext E130).ext E149).ext E160).ext E179).ext E190).ext E209).ext E218).ext E234).wr W241 (Nat.ne_of_lt n102)).wr W245 (Nat.ne_of_lt n109)).ext E251).ext (KpL.toExt hu))) 3 3) rfl).mono ?_; rintro _ _ ⟨rfl, rfl⟩
    exact ⟨rfl, KpL.refl _ _⟩
   refine RW4_d _ rfl rfl (fun v => by dsimp only [List.set]; try rfl) (fun u hu hF => ?_) (fun v263 => ?_)
   ·replace hu : KpL [] _ _ := hu
    have h67_ : ∃ cs_1 : List Value, v260 = (.agg cs_1.toArray) ∧ RV3 w (V3.mk (cf .f32 r87) (cf .f32 r89) (cf .f32 r238)) cs_1 := hF.1
    have h69_ : v262 = (.agg #[(Fl r7), (Fl r9), (Fl r11)]) := hF.2.1
    clear hF
    refine doesG_un rfl ?_
    obtain ⟨_, rfl, ⟨r67_1, r67_3, r67_5, rfl, h67_2, h67_4, h67_6⟩⟩ := h67_
    obtain rfl := h69_
    refine (does_build (parts' := [(0, (.agg #[(Fl r67_1), (Fl r67_3), (Fl r67_5)])), (1, (.agg #[(Fl r7), (Fl r9), (Fl r11)]))]) (cells := #[(Fl r67_1), (Fl r67_3), (Fl r67_5), (Fl r7), (Fl r9), (Fl r11)]) (evp rfl) (by kernel_rfl)).mono ?_; rintro _ _ ⟨rfl, rfl⟩
    exact ⟨⟨r67_1, r67_3, r67_5, rfl, (by simp only [h67_2, h67_4, h67_6]), (by simp only [h67_2, h67_4, h67_6]), (by simp only [h67_2, h67_4, h67_6])⟩, KpL.refl _ _⟩
   refine RW4_b _ rfl rfl (fun v => by dsimp only [List.set]; try rfl) (fun u hu hF => ?_) (fun v264 => ?_)
   ·replace hu : KpL [] _ _ := hu
    clear hF
    refine doesG_un rfl ?_
    refine (does_alloc z29).mono ?_; rintro _ _ ⟨b, rfl, hb, hB, hx⟩
    exact ⟨⟨b, rfl, Nat.le_trans (Nat.le_trans (Below.size E251) (KpL.size hu)) hb, hB⟩, (KpL.of_ext hx), ⟨b, rfl, hb, hB.lt⟩⟩
   refine RW4_b _ rfl rfl (fun v => by dsimp only [List.set]; try rfl) (fun u hu hF => ?_) (fun v265 => ?_)
   ·replace hu : KpL [] _ _ := hu
    clear hF
    refine doesG_un rfl ?_
    refine (does_alloc z29).mono ?_; rintro _ _ ⟨b, rfl, hb, hB, hx⟩
    exact ⟨⟨b, rfl, Nat.le_trans (Nat.le_trans (Below.size E251) (KpL.size hu)) hb, hB⟩, (KpL.of_ext hx), ⟨b, rfl, hb, hB.lt⟩⟩
   refine RW4_i v264 rfl rfl rfl rfl (fun u hu hF => ?_) (fun v266 => ?_)
   ·replace hu : KpL [] _ _ := hu
    have h10_ : ∃ b : Nat, v264 = .pointer (some ⟨b, 0, none⟩) ∧ w247.heap.size ≤ b ∧ Blk u b [(Fl 0), (Fl 0), (Fl 0), (Fl 0), (Fl 0), (Fl 0)] := hF.1
    have h65_ : ∃ r_1 : Nat, ∃ r_2 : Nat, ∃ r_3 : Nat, v258 = (.agg #[(Fl r1), (Fl r3), (Fl r5), (Fl r_1), (Fl r_2), (Fl r_3)]) ∧ cf .f32 r_1 = (V3.mk (cf .f32 r93) (cf .f32 r95) (cf .f32 r238)).x ∧ cf .f32 r_2 = (V3.mk (cf .f32 r93) (cf .f32 r95) (cf .f32 r238)).y ∧ cf .f32 r_3 = (V3.mk (cf .f32 r93) (cf .f32 r95) (cf .f32 r238)).z := hF.2.1
    clear hF
    refine doesG_un rfl ?_
    obtain ⟨b10_, rfl, hb10_, hB10_⟩ := h10_
    obtain ⟨r65_1, r65_3, r65_5, rfl, h65_2, h65_4, h65_6⟩ := h65_
    refine (does_store (n := 6) (cs := [(Fl 0), (Fl 0), (Fl 0), (Fl 0), (Fl 0), (Fl 0)]) (u := (.agg #[(Fl r1), (Fl r3), (Fl r5), (Fl r65_1), (Fl r65_3), (Fl r65_5)])) (ev rfl) (ev rfl) Try.sizeOf29 rfl hB10_ (Nat.le_of_ble_eq_true rfl) rfl).mono ?_; rintro _ _ ⟨rfl, hW, hB⟩
    exact ⟨⟨rfl, _, r65_1, r65_3, r65_5, rfl, hb10_, hB, (by simp only [h65_2, h65_4, h65_6]), (by simp only [h65_2, h65_4, h65_6]), (by simp only [h65_2, h65_4, h65_6])⟩, _, rfl, hb10_, KpL.of_wr hW⟩
   refine RW4_fin ?_; intro w267 E268 hP269 hND; replace E268 : KpL [] _ _ := E268
   obtain ⟨⟨⟨⟨⟨⟨⟨⟨⟨⟨⟨⟨⟨-, -⟩, -⟩, -⟩, -⟩, -⟩, -⟩, -⟩, -⟩, -⟩, q270⟩, -⟩, q271⟩, q272⟩ := hP269
   have X273 := Below.kl X253 E268 all0 (Nat.le_refl _)
   obtain ⟨_, b274, r278, r279, r280, hv275, hb276, hB277, h281, h282, h283⟩ := q272 rfl; subst hv275
   have n284 : b14 < b274 := Nat.lt_of_lt_of_le (Blk.lt (((((((((((((((((hB16.ext E24).ext E32).ext E40).ext E68).kl E80 nin0).wr W114 (Nat.ne_of_lt n102)).wr W118 (Nat.ne_of_lt n109)).ext E130).ext E149).ext E160).ext E179).ext E190).ext E209).ext E218).ext E234).wr W241 (Nat.ne_of_lt n102)).wr W245 (Nat.ne_of_lt n109))) hb276
   have n285 : b21 < b274 := Nat.lt_of_lt_of_le (Blk.lt ((((((((((((((((hB23.ext E32).ext E40).ext E68).kl E80 nin0).wr W114 (Nat.ne_of_lt n103)).wr W118 (Nat.ne_of_lt n110)).ext E130).ext E149).ext E160).ext E179).ext E190).ext E209).ext E218).ext E234).wr W241 (Nat.ne_of_lt n103)).wr W245 (Nat.ne_of_lt n110))) hb276
   have n286 : b29 < b274 := Nat.lt_of_lt_of_le (Blk.lt (((((((((((((((hB31.ext E40).ext E68).kl E80 nin0).wr W114 (Nat.ne_of_lt n104)).wr W118 (Nat.ne_of_lt n111)).ext E130).ext E149).ext E160).ext E179).ext E190).ext E209).ext E218).ext E234).wr W241 (Nat.ne_of_lt n104)).wr W245 (Nat.ne_of_lt n111))) hb276
   have n287 : b99 < b274 := Nat.lt_of_lt_of_le (Blk.lt (hB242.wr W245 (Ne.symm n113))) hb276
   have n288 : b106 < b274 := Nat.lt_of_lt_of_le (Blk.lt hB246) hb276
   have g289 : w.heap.size ≤ b274 := Nat.le_trans (Below.size X248) hb276
   have q270 : ∃ r_1 : Nat, ∃ r_2 : Nat, ∃ r_3 : Nat, v263 = (.agg #[(Fl r_1), (Fl r_2), (Fl r_3), (Fl r7), (Fl r9), (Fl r11)]) ∧ cf .f32 r_1 = (V3.mk (cf .f32 r87) (cf .f32 r89) (cf .f32 r238)).x ∧ cf .f32 r_2 = (V3.mk (cf .f32 r87) (cf .f32 r89) (cf .f32 r238)).y ∧ cf .f32 r_3 = (V3.mk (cf .f32 r87) (cf .f32 r89) (cf .f32 r238)).z := q270 rfl
   obtain ⟨r290, r292, r294, rfl, h291, h293, h295⟩ := q270
   have q271 : ∃ b : Nat, v265 = .pointer (some ⟨b, 0, none⟩) ∧ w247.heap.size ≤ b ∧ Blk w267 b [(Fl 0), (Fl 0), (Fl 0), (Fl 0), (Fl 0), (Fl 0)] := q271 rfl
   obtain ⟨b296, rfl, hb297, hB298⟩ := q271
   have n299 : b14 < b296 := Nat.lt_of_lt_of_le (Blk.lt (((((((((((((((((hB16.ext E24).ext E32).ext E40).ext E68).kl E80 nin0).wr W114 (Nat.ne_of_lt n102)).wr W118 (Nat.ne_of_lt n109)).ext E130).ext E149).ext E160).ext E179).ext E190).ext E209).ext E218).ext E234).wr W241 (Nat.ne_of_lt n102)).wr W245 (Nat.ne_of_lt n109))) hb297
   have n300 : b21 < b296 := Nat.lt_of_lt_of_le (Blk.lt ((((((((((((((((hB23.ext E32).ext E40).ext E68).kl E80 nin0).wr W114 (Nat.ne_of_lt n103)).wr W118 (Nat.ne_of_lt n110)).ext E130).ext E149).ext E160).ext E179).ext E190).ext E209).ext E218).ext E234).wr W241 (Nat.ne_of_lt n103)).wr W245 (Nat.ne_of_lt n110))) hb297
   have n301 : b29 < b296 := Nat.lt_of_lt_of_le (Blk.lt (((((((((((((((hB31.ext E40).ext E68).kl E80 nin0).wr W114 (Nat.ne_of_lt n104)).wr W118 (Nat.ne_of_lt n111)).ext E130).ext E149).ext E160).ext E179).ext E190).ext E209).ext E218).ext E234).wr W241 (Nat.ne_of_lt n104)).wr W245 (Nat.ne_of_lt n111))) hb297
   have n302 : b99 < b296 := Nat.lt_of_lt_of_le (Blk.lt (hB242.wr W245 (Ne.symm n113))) hb297
   have n303 : b106 < b296 := Nat.lt_of_lt_of_le (Blk.lt hB246) hb297
   have g304 : w.heap.size ≤ b296 := Nat.le_trans (Below.size X248) hb297
   have n305 : b296 ≠ b274 := by intro h; subst h; simp at hND
   clear hND
   show wpList _ _ _ _ (fr [_, _, _, _, _, _, _, _, _, _, _, _, _, _, _, _, _, _, _, _, _, _, _, _, _, _, _, _, _, _, _, _, _, _, _, _, _, _, _, _, _, _, _, _, _, _, _, _, _, _, _, _, _, _, _, _, _, _, _, _, _, _, _, _, _, _, _, _, _, _, _, _, _, _, _, _, _, _, _, _, _, _, _]) _
   refine seqn rfl rfl (does_store (n := 6) (cs := [(Fl 0), (Fl 0), (Fl 0), (Fl 0), (Fl 0), (Fl 0)]) (u := (.agg #[(Fl r290), (Fl r292), (Fl r294), (Fl r7), (Fl r9), (Fl r11)])) (ev rfl) (ev rfl) Try.sizeOf29 rfl hB298 (Nat.le_of_ble_eq_true rfl) rfl) ?_; rintro _ w308 ⟨rfl, W306, hB307⟩
   change Blk _ _ [(Fl r290), (Fl r292), (Fl r294), (Fl r7), (Fl r9), (Fl r11)] at hB307
   have X309 := Below.wr X273 W306 g304
   refine wpList_nil (hK249 _ _ ?_)
   refine wp_seq_k fun K310 hK310 => ?_
   refine wp_seq_k fun K311 hK311 => ?_
   obtain ⟨β4, hβ4⟩ : ∃ b : Bool, b = (isBox (Bx.mk A_b.lo (V3.mk (cf .f32 r93) (cf .f32 r95) (cf .f32 r238)))) := ⟨_, rfl⟩
   obtain ⟨β5, hβ5⟩ : ∃ b : Bool, b = (isBox (Bx.mk (V3.mk (cf .f32 r290) (cf .f32 r292) (cf .f32 r294)) A_b.hi)) := ⟨_, rfl⟩
   refine region_text (
    [Fact.pure [] (fun v => v = (.agg #[(Fl r1), (Fl r3), (Fl r5), (Fl r278), (Fl r279), (Fl r280)])),
  Fact.pure [71] (fun v => v = (Bo β4)),
  Fact.pure [72] (fun v => v = (Bo (!β4))),
  Fact.pure [73] (fun v => v = (Bo (!β4))),
  Fact.pure [74] (fun v => (!β4) = false → v = (.agg #[(Fl r290), (Fl r292), (Fl r294), (Fl r7), (Fl r9), (Fl r11)])),
  Fact.pure [75, 74] (fun v => (!β4) = false → v = (Bo β5)),
  Fact.pure [76, 74] (fun v => (!β4) = false → v = (Bo (!β5))),
  Fact.pure [74, 77] (fun v => v = (Bo ((!β4) || (!β5))))]) (by simp [Fact.pure, Fact.mem]) ?_
   refine RW_d _ rfl (fun v => by dsimp only [List.set]; try rfl) (fun u hu hF => ?_) (fun v312 => ?_)
   ·clear hF
    refine doesG_un rfl ?_
    refine (does_loadAgg (cs := [(Fl r1), (Fl r3), (Fl r5), (Fl r278), (Fl r279), (Fl r280)]) (ev rfl) Try.isAgg29 Try.sizeOf29 (Blk.cells ((hB277.wr W306 (Ne.symm n305)).ext hu)) rfl).mono ?_; rintro _ _ ⟨rfl, rfl⟩
    exact ⟨rfl, Ext.refl _⟩
   refine RW_d _ rfl (fun v => by dsimp only [List.set]; try rfl) (fun u hu hF => ?_) (fun v313 => ?_)
   ·have h71_ : v312 = (.agg #[(Fl r1), (Fl r3), (Fl r5), (Fl r278), (Fl r279), (Fl r280)]) := hF.1
    clear hF
    refine doesG_un rfl ?_
    obtain rfl := h71_
    refine (does_call (args := #[(.agg #[(Fl r1), (Fl r3), (Fl r5), (Fl r278), (Fl r279), (Fl r280)])]) cal11 (evs rfl) (c_impl_ValidBox [(Fl r1), (Fl r3), (Fl r5), (Fl r278), (Fl r279), (Fl r280)] (Bx.mk A_b.lo (V3.mk (cf .f32 r93) (cf .f32 r95) (cf .f32 r238))) _ ⟨r1, r3, r5, r278, r279, r280, rfl, h2, h4, h6, h281, h282, h283⟩)).mono ?_; rintro v u' ⟨hx, hv⟩
    exact ⟨hv.trans (by simp only [hβ4]), hx⟩
   refine RW_d _ rfl (fun v => by dsimp only [List.set]; try rfl) (fun u hu hF => ?_) (fun v314 => ?_)
   ·have h72_ : v313 = (Bo β4) := hF.1
    clear hF
    refine doesG_un rfl ?_
    obtain rfl := h72_
    refine (does_not (ev rfl)).mono ?_; rintro _ _ ⟨rfl, rfl⟩
    exact ⟨rfl, Ext.refl _⟩
   refine RW_d _ rfl (fun v => by dsimp only [List.set]; try rfl) (fun u hu hF => ?_) (fun v315 => ?_)
   ·have h73_ : v314 = (Bo (!β4)) := hF.1
    clear hF
    refine doesG_un rfl ?_
    obtain rfl := h73_
    refine (does_move (u := (Bo (!β4))) (ev rfl)).mono ?_; rintro _ _ ⟨rfl, rfl⟩
    exact ⟨rfl, Ext.refl _⟩
   refine RW_d _ rfl (fun v => by dsimp only [List.set]; try rfl) (fun u hu hF => ?_) (fun v316 => ?_)
   ·have h74_ : v315 = (Bo (!β4)) := hF.1
    clear hF
    obtain rfl := h74_
    refine doesG_g (b := (!β4)) rfl (yld rfl rfl) (fun hg1 => ?_) (fun hc => ⟨fun hg1 => absurd hg1 hc, Ext.refl _⟩)
    refine (does_loadAgg (cs := [(Fl r290), (Fl r292), (Fl r294), (Fl r7), (Fl r9), (Fl r11)]) (ev rfl) Try.isAgg29 Try.sizeOf29 (Blk.cells (hB307.ext hu)) rfl).mono ?_; rintro _ _ ⟨rfl, rfl⟩
    exact ⟨fun _ => rfl, Ext.refl _⟩
   refine RW_d _ rfl (fun v => by dsimp only [List.set]; try rfl) (fun u hu hF => ?_) (fun v317 => ?_)
   ·have h75_ : (!β4) = false → v316 = (.agg #[(Fl r290), (Fl r292), (Fl r294), (Fl r7), (Fl r9), (Fl r11)]) := hF.1
    have h74_ : v315 = (Bo (!β4)) := hF.2.1
    clear hF
    obtain rfl := h74_
    refine doesG_g (b := (!β4)) rfl (yld rfl rfl) (fun hg1 => ?_) (fun hc => ⟨fun hg1 => absurd hg1 hc, Ext.refl _⟩)
    obtain rfl := h75_ hg1
    refine (does_call (args := #[(.agg #[(Fl r290), (Fl r292), (Fl r294), (Fl r7), (Fl r9), (Fl r11)])]) cal11 (evs rfl) (c_impl_ValidBox [(Fl r290), (Fl r292), (Fl r294), (Fl r7), (Fl r9), (Fl r11)] (Bx.mk (V3.mk (cf .f32 r290) (cf .f32 r292) (cf .f32 r294)) A_b.hi) _ ⟨r290, r292, r294, r7, r9, r11, rfl, rfl, rfl, rfl, h8, h10, h12⟩)).mono ?_; rintro v u' ⟨hx, hv⟩
    exact ⟨fun _ => hv.trans (by simp only [hβ5]), hx⟩
   refine RW_d _ rfl (fun v => by dsimp only [List.set]; try rfl) (fun u hu hF => ?_) (fun v318 => ?_)
   ·have h76_ : (!β4) = false → v317 = (Bo β5) := hF.1
    have h74_ : v315 = (Bo (!β4)) := hF.2.1
    clear hF
    obtain rfl := h74_
    refine doesG_g (b := (!β4)) rfl (yld rfl rfl) (fun hg1 => ?_) (fun hc => ⟨fun hg1 => absurd hg1 hc, Ext.refl _⟩)
    obtain rfl := h76_ hg1
    refine (does_not (ev rfl)).mono ?_; rintro _ _ ⟨rfl, rfl⟩
    exact ⟨fun _ => rfl, Ext.refl _⟩
   refine RW_d _ rfl (fun v => by dsimp only [List.set]; try rfl) (fun u hu hF => ?_) (fun v319 => ?_)
   ·have h74_ : v315 = (Bo (!β4)) := hF.1
    have h77_ : (!β4) = false → v318 = (Bo (!β5)) := hF.2.1
    clear hF
    refine doesG_un rfl ?_
    skip
    obtain rfl := h74_
    refine (does_pick (b := (!β4)) (u := (Bo true)) (v := v318) (ev rfl) (ev rfl) (ev rfl)).mono ?_; rintro _ _ ⟨rfl, rfl⟩; refine ⟨?_, Ext.refl _⟩; skip
    cases hbb : (!β4)
    all_goals first | (show _ = _; simp only [↓reduceIte, Bool.true_and, Bool.false_and, Bool.true_or, Bool.false_or, Bool.false_eq_true]; done) | (have e_ := h77_ hbb; subst e_; show _ = _; simp only [↓reduceIte, Bool.true_and, Bool.false_and, Bool.true_or, Bool.false_or, Bool.false_eq_true]; done) | rfl | (have e_ := h77_ hbb; subst e_; rfl) | (simp [hbb] at h77_ ⊢; first | done | rfl | (subst h77_; rfl) | simp_all) | (simp [hbb] at h77_ ⊢; done)
   refine RW_fin ?_; intro w320 E321 hP322
   obtain ⟨⟨⟨⟨⟨⟨⟨⟨-, -⟩, -⟩, -⟩, -⟩, -⟩, -⟩, -⟩, q323⟩ := hP322
   have X324 := Ext.gr X309 E321
   have q323 : v319 = (Bo ((!β4) || (!β5))) := q323
   obtain rfl := q323
   show wpList _ _ _ _ (fr [_, _, _, _, _, _, _, _, _, _, _, _, _, _, _, _, _, _, _, _, _, _, _, _, _, _, _, _, _, _, _, _, _, _, _, _, _, _, _, _, _, _, _, _, _, _, _, _, _, _, _, _, _, _, _, _, _, _, _, _, _, _, _, _, _, _, _, _, _, _, _, _, _, _, _, _, _, _, _, _, _, _, _]) _
   refine wpList_nil (hK311 _ _ ?_)
   refine wp_cond_split (t := (!β4) || (!β5)) (ev rfl) (fun c325 => ?_) (fun c325 => ?_)
   ·have c325' := c325
    (try simp only [hβ1, hβ2, hβ3, hβ4, hβ5] at c325')
    (try simp only [icmp, Bool.and_eq_true, Bool.or_eq_true, Bool.and_eq_false_iff, Bool.or_eq_false_iff, Bool.not_eq_true', Bool.not_eq_false', decide_eq_true_eq, decide_eq_false_iff_not, beq_iff_eq, bne_iff_ne, beq_eq_false_iff_ne, bne_eq_false_iff_eq] at c325')
    first | have hax : axB A_b = 0 := by (simp only [axB, gtF, dimB, pickV_0, pickV_1, pickV_2, c43, c153, c183, c213, c325, if_true, if_false, Bool.false_eq_true, ↓reduceIte]; done) | have hax : axB A_b = 1 := by (simp only [axB, gtF, dimB, pickV_0, pickV_1, pickV_2, c43, c153, c183, c213, c325, if_true, if_false, Bool.false_eq_true, ↓reduceIte]; done) | have hax : axB A_b = 2 := by (simp only [axB, gtF, dimB, pickV_0, pickV_1, pickV_2, c43, c153, c183, c213, c325, if_true, if_false, Bool.false_eq_true, ↓reduceIte]; done)
    have hsf : splitOk A_b = false := splitOk_1 (by simp only [h2, h4, h6, h8, h10, h12, h88, h90, h92, h94, h96, h98, hβ1, hβ2, hβ3, h239, h281, h282, h283, h291, h293, h295, hβ4, hβ5, half_two] at c325'; simp only [oneB, twoB, midB, dimB, hax, half_two, pickV_0, pickV_1, pickV_2, setV_0, setV_1, setV_2]; exact c325')
    refine wp_seq_k fun K326 hK326 => ?_
    refine wp_region_lit ?_
    refine q_is rfl rfl (does_build (parts' := []) (cells := #[(Fl 0), (Fl 0), (Fl 0), (Fl 0), (Fl 0), (Fl 0)]) (evp rfl) (by kernel_rfl)) (by dsimp only [List.set]; try rfl) ?_
    refine q_is rfl rfl (does_build (parts' := []) (cells := #[(Fl 0), (Fl 0), (Fl 0), (Fl 0), (Fl 0), (Fl 0)]) (evp rfl) (by kernel_rfl)) (by dsimp only [List.set]; try rfl) ?_
    refine seqn rfl rfl (does_store (n := 6) (cs := [(Fl 0), (Fl 0), (Fl 0), (Fl 0), (Fl 0), (Fl 0)]) (u := (.agg #[(Fl 0), (Fl 0), (Fl 0), (Fl 0), (Fl 0), (Fl 0)])) (ev rfl) (ev rfl) Try.sizeOf29 rfl ((((((((((((((((((((hB23.ext E32).ext E40).ext E68).kl E80 nin0).wr W114 (Nat.ne_of_lt n103)).wr W118 (Nat.ne_of_lt n110)).ext E130).ext E149).ext E160).ext E179).ext E190).ext E209).ext E218).ext E234).wr W241 (Nat.ne_of_lt n103)).wr W245 (Nat.ne_of_lt n110)).ext E251).kl E268 nin0).wr W306 (Nat.ne_of_lt n300)).ext E321) (Nat.le_of_ble_eq_true rfl) rfl) ?_; rintro _ w329 ⟨rfl, W327, hB328⟩
    change Blk _ _ [(Fl 0), (Fl 0), (Fl 0), (Fl 0), (Fl 0), (Fl 0)] at hB328
    have X330 := Below.wr X324 W327 g27
    refine seqn rfl rfl (does_store (n := 6) (cs := [(Fl 0), (Fl 0), (Fl 0), (Fl 0), (Fl 0), (Fl 0)]) (u := (.agg #[(Fl 0), (Fl 0), (Fl 0), (Fl 0), (Fl 0), (Fl 0)])) (ev rfl) (ev rfl) Try.sizeOf29 rfl ((((((((((((((((((((hB31.ext E40).ext E68).kl E80 nin0).wr W114 (Nat.ne_of_lt n104)).wr W118 (Nat.ne_of_lt n111)).ext E130).ext E149).ext E160).ext E179).ext E190).ext E209).ext E218).ext E234).wr W241 (Nat.ne_of_lt n104)).wr W245 (Nat.ne_of_lt n111)).ext E251).kl E268 nin0).wr W306 (Nat.ne_of_lt n301)).ext E321).wr W327 (Nat.ne_of_gt n35)) (Nat.le_of_ble_eq_true rfl) rfl) ?_; rintro _ w333 ⟨rfl, W331, hB332⟩
    change Blk _ _ [(Fl 0), (Fl 0), (Fl 0), (Fl 0), (Fl 0), (Fl 0)] at hB332
    have X334 := Below.wr X330 W331 g36
    refine q_is rfl rfl (does_assign (u := (Bo false)) (ev rfl)) (by dsimp only [List.set]; try rfl) ?_
    refine wpList_nil (hK326 _ _ ?_)
    refine wp_ret ?_
    dsimp only [Exit.then, Exit.inBlock]
    refine ret_val (v := (.tuple #[(.agg #[(Fl 0), (Fl 0), (Fl 0), (Fl 0), (Fl 0), (Fl 0)]), (.agg #[(Fl 0), (Fl 0), (Fl 0), (Fl 0), (Fl 0), (Fl 0)]), (Bo false)])) (res_CCT rfl (slot rfl) (run_loadAgg (cs := [(Fl 0), (Fl 0), (Fl 0), (Fl 0), (Fl 0), (Fl 0)]) Try.isAgg29 Try.sizeOf29 (Blk.cells (hB328.wr W331 (Nat.ne_of_lt n35))) rfl) (slot rfl) (run_loadAgg (cs := [(Fl 0), (Fl 0), (Fl 0), (Fl 0), (Fl 0), (Fl 0)]) Try.isAgg29 Try.sizeOf29 (Blk.cells hB332) rfl) (slot rfl)) X334 ?_
    try simp only [h2, h4, h6, h8, h10, h12, h88, h90, h92, h94, h96, h98, hβ1, hβ2, hβ3, h239, h281, h282, h283, h291, h293, h295, hβ4, hβ5] at c43 c153 c183 c213 c325
    have x335 : (splitOk A_b) = false := by first | exact hsf | exact hst | (rw [hsf] <;> rfl) | (rw [hst, gvB_t]; first | rfl | assumption | (simp only [oneB, twoB, midB, dimB, hax, half_two, pickV_0, pickV_1, pickV_2, setV_0, setV_1, setV_2, h2, h4, h6, h8, h10, h12, h88, h90, h92, h94, h96, h98, hβ1, hβ2, hβ3, h239, h281, h282, h283, h291, h293, h295, hβ4, hβ5, c43, c153, c183, c213, c325]; done) | (simp only [oneB, twoB, midB, dimB, hax, half_two, pickV_0, pickV_1, pickV_2, setV_0, setV_1, setV_2, h2, h4, h6, h8, h10, h12, h88, h90, h92, h94, h96, h98, hβ1, hβ2, hβ3, h239, h281, h282, h283, h291, h293, h295, hβ4, hβ5, c43, c153, c183, c213, c325]; rfl))
    have x336 : cf .f32 0 = (gvB (splitOk A_b) (oneB A_b)).lo.x := by first | exact hsf | exact hst | (rw [hsf] <;> rfl) | (rw [hst, gvB_t]; first | rfl | assumption | (simp only [oneB, twoB, midB, dimB, hax, half_two, pickV_0, pickV_1, pickV_2, setV_0, setV_1, setV_2, h2, h4, h6, h8, h10, h12, h88, h90, h92, h94, h96, h98, hβ1, hβ2, hβ3, h239, h281, h282, h283, h291, h293, h295, hβ4, hβ5, c43, c153, c183, c213, c325]; done) | (simp only [oneB, twoB, midB, dimB, hax, half_two, pickV_0, pickV_1, pickV_2, setV_0, setV_1, setV_2, h2, h4, h6, h8, h10, h12, h88, h90, h92, h94, h96, h98, hβ1, hβ2, hβ3, h239, h281, h282, h283, h291, h293, h295, hβ4, hβ5, c43, c153, c183, c213, c325]; rfl))
    have x337 : cf .f32 0 = (gvB (splitOk A_b) (oneB A_b)).lo.y := by first | exact hsf | exact hst | (rw [hsf] <;> rfl) | (rw [hst, gvB_t]; first | rfl | assumption | (simp only [oneB, twoB, midB, dimB, hax, half_two, pickV_0, pickV_1, pickV_2, setV_0, setV_1, setV_2, h2, h4, h6, h8, h10, h12, h88, h90, h92, h94, h96, h98, hβ1, hβ2, hβ3, h239, h281, h282, h283, h291, h293, h295, hβ4, hβ5, c43, c153, c183, c213, c325]; done) | (simp only [oneB, twoB, midB, dimB, hax, half_two, pickV_0, pickV_1, pickV_2, setV_0, setV_1, setV_2, h2, h4, h6, h8, h10, h12, h88, h90, h92, h94, h96, h98, hβ1, hβ2, hβ3, h239, h281, h282, h283, h291, h293, h295, hβ4, hβ5, c43, c153, c183, c213, c325]; rfl))
    have x338 : cf .f32 0 = (gvB (splitOk A_b) (oneB A_b)).lo.z := by first | exact hsf | exact hst | (rw [hsf] <;> rfl) | (rw [hst, gvB_t]; first | rfl | assumption | (simp only [oneB, twoB, midB, dimB, hax, half_two, pickV_0, pickV_1, pickV_2, setV_0, setV_1, setV_2, h2, h4, h6, h8, h10, h12, h88, h90, h92, h94, h96, h98, hβ1, hβ2, hβ3, h239, h281, h282, h283, h291, h293, h295, hβ4, hβ5, c43, c153, c183, c213, c325]; done) | (simp only [oneB, twoB, midB, dimB, hax, half_two, pickV_0, pickV_1, pickV_2, setV_0, setV_1, setV_2, h2, h4, h6, h8, h10, h12, h88, h90, h92, h94, h96, h98, hβ1, hβ2, hβ3, h239, h281, h282, h283, h291, h293, h295, hβ4, hβ5, c43, c153, c183, c213, c325]; rfl))
    have x339 : cf .f32 0 = (gvB (splitOk A_b) (oneB A_b)).hi.x := by first | exact hsf | exact hst | (rw [hsf] <;> rfl) | (rw [hst, gvB_t]; first | rfl | assumption | (simp only [oneB, twoB, midB, dimB, hax, half_two, pickV_0, pickV_1, pickV_2, setV_0, setV_1, setV_2, h2, h4, h6, h8, h10, h12, h88, h90, h92, h94, h96, h98, hβ1, hβ2, hβ3, h239, h281, h282, h283, h291, h293, h295, hβ4, hβ5, c43, c153, c183, c213, c325]; done) | (simp only [oneB, twoB, midB, dimB, hax, half_two, pickV_0, pickV_1, pickV_2, setV_0, setV_1, setV_2, h2, h4, h6, h8, h10, h12, h88, h90, h92, h94, h96, h98, hβ1, hβ2, hβ3, h239, h281, h282, h283, h291, h293, h295, hβ4, hβ5, c43, c153, c183, c213, c325]; rfl))
    have x340 : cf .f32 0 = (gvB (splitOk A_b) (oneB A_b)).hi.y := by first | exact hsf | exact hst | (rw [hsf] <;> rfl) | (rw [hst, gvB_t]; first | rfl | assumption | (simp only [oneB, twoB, midB, dimB, hax, half_two, pickV_0, pickV_1, pickV_2, setV_0, setV_1, setV_2, h2, h4, h6, h8, h10, h12, h88, h90, h92, h94, h96, h98, hβ1, hβ2, hβ3, h239, h281, h282, h283, h291, h293, h295, hβ4, hβ5, c43, c153, c183, c213, c325]; done) | (simp only [oneB, twoB, midB, dimB, hax, half_two, pickV_0, pickV_1, pickV_2, setV_0, setV_1, setV_2, h2, h4, h6, h8, h10, h12, h88, h90, h92, h94, h96, h98, hβ1, hβ2, hβ3, h239, h281, h282, h283, h291, h293, h295, hβ4, hβ5, c43, c153, c183, c213, c325]; rfl))
    have x341 : cf .f32 0 = (gvB (splitOk A_b) (oneB A_b)).hi.z := by first | exact hsf | exact hst | (rw [hsf] <;> rfl) | (rw [hst, gvB_t]; first | rfl | assumption | (simp only [oneB, twoB, midB, dimB, hax, half_two, pickV_0, pickV_1, pickV_2, setV_0, setV_1, setV_2, h2, h4, h6, h8, h10, h12, h88, h90, h92, h94, h96, h98, hβ1, hβ2, hβ3, h239, h281, h282, h283, h291, h293, h295, hβ4, hβ5, c43, c153, c183, c213, c325]; done) | (simp only [oneB, twoB, midB, dimB, hax, half_two, pickV_0, pickV_1, pickV_2, setV_0, setV_1, setV_2, h2, h4, h6, h8, h10, h12, h88, h90, h92, h94, h96, h98, hβ1, hβ2, hβ3, h239, h281, h282, h283, h291, h293, h295, hβ4, hβ5, c43, c153, c183, c213, c325]; rfl))
    have x342 : cf .f32 0 = (gvB (splitOk A_b) (twoB A_b)).lo.x := by first | exact hsf | exact hst | (rw [hsf] <;> rfl) | (rw [hst, gvB_t]; first | rfl | assumption | (simp only [oneB, twoB, midB, dimB, hax, half_two, pickV_0, pickV_1, pickV_2, setV_0, setV_1, setV_2, h2, h4, h6, h8, h10, h12, h88, h90, h92, h94, h96, h98, hβ1, hβ2, hβ3, h239, h281, h282, h283, h291, h293, h295, hβ4, hβ5, c43, c153, c183, c213, c325]; done) | (simp only [oneB, twoB, midB, dimB, hax, half_two, pickV_0, pickV_1, pickV_2, setV_0, setV_1, setV_2, h2, h4, h6, h8, h10, h12, h88, h90, h92, h94, h96, h98, hβ1, hβ2, hβ3, h239, h281, h282, h283, h291, h293, h295, hβ4, hβ5, c43, c153, c183, c213, c325]; rfl))
    have x343 : cf .f32 0 = (gvB (splitOk A_b) (twoB A_b)).lo.y := by first | exact hsf | exact hst | (rw [hsf] <;> rfl) | (rw [hst, gvB_t]; first | rfl | assumption | (simp only [oneB, twoB, midB, dimB, hax, half_two, pickV_0, pickV_1, pickV_2, setV_0, setV_1, setV_2, h2, h4, h6, h8, h10, h12, h88, h90, h92, h94, h96, h98, hβ1, hβ2, hβ3, h239, h281, h282, h283, h291, h293, h295, hβ4, hβ5, c43, c153, c183, c213, c325]; done) | (simp only [oneB, twoB, midB, dimB, hax, half_two, pickV_0, pickV_1, pickV_2, setV_0, setV_1, setV_2, h2, h4, h6, h8, h10, h12, h88, h90, h92, h94, h96, h98, hβ1, hβ2, hβ3, h239, h281, h282, h283, h291, h293, h295, hβ4, hβ5, c43, c153, c183, c213, c325]; rfl))
    have x344 : cf .f32 0 = (gvB (splitOk A_b) (twoB A_b)).lo.z := by first | exact hsf | exact hst | (rw [hsf] <;> rfl) | (rw [hst, gvB_t]; first | rfl | assumption | (simp only [oneB, twoB, midB, dimB, hax, half_two, pickV_0, pickV_1, pickV_2, setV_0, setV_1, setV_2, h2, h4, h6, h8, h10, h12, h88, h90, h92, h94, h96, h98, hβ1, hβ2, hβ3, h239, h281, h282, h283, h291, h293, h295, hβ4, hβ5, c43, c153, c183, c213, c325]; done) | (simp only [oneB, twoB, midB, dimB, hax, half_two, pickV_0, pickV_1, pickV_2, setV_0, setV_1, setV_2, h2, h4, h6, h8, h10, h12, h88, h90, h92, h94, h96, h98, hβ1, hβ2, hβ3, h239, h281, h282, h283, h291, h293, h295, hβ4, hβ5, c43, c153, c183, c213, c325]; rfl))
    have x345 : cf .f32 0 = (gvB (splitOk A_b) (twoB A_b)).hi.x := by first | exact hsf | exact hst | (rw [hsf] <;> rfl) | (rw [hst, gvB_t]; first | rfl | assumption | (simp only [oneB, twoB, midB, dimB, hax, half_two, pickV_0, pickV_1, pickV_2, setV_0, setV_1, setV_2, h2, h4, h6, h8, h10, h12, h88, h90, h92, h94, h96, h98, hβ1, hβ2, hβ3, h239, h281, h282, h283, h291, h293, h295, hβ4, hβ5, c43, c153, c183, c213, c325]; done) | (simp only [oneB, twoB, midB, dimB, hax, half_two, pickV_0, pickV_1, pickV_2, setV_0, setV_1, setV_2, h2, h4, h6, h8, h10, h12, h88, h90, h92, h94, h96, h98, hβ1, hβ2, hβ3, h239, h281, h282, h283, h291, h293, h295, hβ4, hβ5, c43, c153, c183, c213, c325]; rfl))
    have x346 : cf .f32 0 = (gvB (splitOk A_b) (twoB A_b)).hi.y := by first | exact hsf | exact hst | (rw [hsf] <;> rfl) | (rw [hst, gvB_t]; first | rfl | assumption | (simp only [oneB, twoB, midB, dimB, hax, half_two, pickV_0, pickV_1, pickV_2, setV_0, setV_1, setV_2, h2, h4, h6, h8, h10, h12, h88, h90, h92, h94, h96, h98, hβ1, hβ2, hβ3, h239, h281, h282, h283, h291, h293, h295, hβ4, hβ5, c43, c153, c183, c213, c325]; done) | (simp only [oneB, twoB, midB, dimB, hax, half_two, pickV_0, pickV_1, pickV_2, setV_0, setV_1, setV_2, h2, h4, h6, h8, h10, h12, h88, h90, h92, h94, h96, h98, hβ1, hβ2, hβ3, h239, h281, h282, h283, h291, h293, h295, hβ4, hβ5, c43, c153, c183, c213, c325]; rfl))
    have x347 : cf .f32 0 = (gvB (splitOk A_b) (twoB A_b)).hi.z := by first | exact hsf | exact hst | (rw [hsf] <;> rfl) | (rw [hst, gvB_t]; first | rfl | assumption | (simp only [oneB, twoB, midB, dimB, hax, half_two, pickV_0, pickV_1, pickV_2, setV_0, setV_1, setV_2, h2, h4, h6, h8, h10, h12, h88, h90, h92, h94, h96, h98, hβ1, hβ2, hβ3, h239, h281, h282, h283, h291, h293, h295, hβ4, hβ5, c43, c153, c183, c213, c325]; done) | (simp only [oneB, twoB, midB, dimB, hax, half_two, pickV_0, pickV_1, pickV_2, setV_0, setV_1, setV_2, h2, h4, h6, h8, h10, h12, h88, h90, h92, h94, h96, h98, hβ1, hβ2, hβ3, h239, h281, h282, h283, h291, h293, h295, hβ4, hβ5, c43, c153, c183, c213, c325]; rfl))
    exact ⟨[(Fl 0), (Fl 0), (Fl 0), (Fl 0), (Fl 0), (Fl 0)], [(Fl 0), (Fl 0), (Fl 0), (Fl 0), (Fl 0), (Fl 0)], (by first | with_reducible rfl | rw [x335] | rfl), ⟨0, 0, 0, 0, 0, 0, rfl, x336, x337, x338, x339, x340, x341⟩, ⟨0, 0, 0, 0, 0, 0, rfl, x342, x343, x344, x345, x346, x347⟩⟩
   have c325' := c325
   (try simp only [hβ1, hβ2, hβ3, hβ4, hβ5] at c325')
   (try simp only [icmp, Bool.and_eq_true, Bool.or_eq_true, Bool.and_eq_false_iff, Bool.or_eq_false_iff, Bool.not_eq_true', Bool.not_eq_false', decide_eq_true_eq, decide_eq_false_iff_not, beq_iff_eq, bne_iff_ne, beq_eq_false_iff_ne, bne_eq_false_iff_eq] at c325')
   first | have hax : axB A_b = 0 := by (simp only [axB, gtF, dimB, pickV_0, pickV_1, pickV_2, c43, c153, c183, c213, c325, if_true, if_false, Bool.false_eq_true, ↓reduceIte]; done) | have hax : axB A_b = 1 := by (simp only [axB, gtF, dimB, pickV_0, pickV_1, pickV_2, c43, c153, c183, c213, c325, if_true, if_false, Bool.false_eq_true, ↓reduceIte]; done) | have hax : axB A_b = 2 := by (simp only [axB, gtF, dimB, pickV_0, pickV_1, pickV_2, c43, c153, c183, c213, c325, if_true, if_false, Bool.false_eq_true, ↓reduceIte]; done)
   have hst : splitOk A_b = true := splitOk_t hs0 (by simp only [h2, h4, h6, h8, h10, h12, h88, h90, h92, h94, h96, h98, hβ1, hβ2, hβ3, h239, h281, h282, h283, h291, h293, h295, hβ4, hβ5, half_two] at c325'; simp only [oneB, twoB, midB, dimB, hax, half_two, pickV_0, pickV_1, pickV_2, setV_0, setV_1, setV_2]; exact c325')
   refine wp_skip (hK310 _ _ ?_)
   refine wp_seq_k fun K348 hK348 => ?_
   have n352 : b21 < w320.heap.size := Blk.lt ((((((((((((((((((((hB23.ext E32).ext E40).ext E68).kl E80 nin0).wr W114 (Nat.ne_of_lt n103)).wr W118 (Nat.ne_of_lt n110)).ext E130).ext E149).ext E160).ext E179).ext E190).ext E209).ext E218).ext E234).wr W241 (Nat.ne_of_lt n103)).wr W245 (Nat.ne_of_lt n110)).ext E251).kl E268 nin0).wr W306 (Nat.ne_of_lt n300)).ext E321)
   refine region_any2 [b21] [0, 0, 1, 7, 15] [0] (
    [FactW.pure [] [] [0] true (fun v => v = (.agg #[(Fl r1), (Fl r3), (Fl r5), (Fl r278), (Fl r279), (Fl r280)])),
     FactW.pure [] [0] [0] true (fun v => v = (.agg #[(Fl r290), (Fl r292), (Fl r294), (Fl r7), (Fl r9), (Fl r11)])),
     FactW.mem [0] [] [0] [] true (fun v w' => v = undef ∧ Blk w' b21 [(Fl r1), (Fl r3), (Fl r5), (Fl r278), (Fl r279), (Fl r280)]) (by rintro v w1 w2 hx ⟨rfl, h⟩; exact ⟨rfl, h.ext (KpL.toExt hx)⟩)]) mixed (by kernel_rfl) ?_
   obtain ⟨w349, hw351⟩ : ∃ w', w' = World.drew w320 := ⟨_, rfl⟩; rw [← hw351]; have E350 : Ext w320 w349 := by rw [hw351]; exact Ext.draw _
   clear hw351
   have X353 := Ext.gr X324 E350
   refine RW2_d _ rfl (fun v => by dsimp only [List.set]; try rfl) (fun u hu hF => ?_) (fun v354 => ?_)
   ·replace hu : KpL [] _ _ := hu
    clear hF
    refine doesG_un rfl ?_
    refine (does_loadAgg (cs := [(Fl r1), (Fl r3), (Fl r5), (Fl r278), (Fl r279), (Fl r280)]) (ev rfl) Try.isAgg29 Try.sizeOf29 (Blk.cells ((((hB277.wr W306 (Ne.symm n305)).ext E321).ext E350).ext (KpL.toExt hu))) rfl).mono ?_; rintro _ _ ⟨rfl, rfl⟩
    exact ⟨rfl, KpL.refl _ _⟩
   refine RW2_d _ rfl (fun v => by dsimp only [List.set]; try rfl) (fun u hu hF => ?_) (fun v355 => ?_)
   ·replace hu : KpL [b21] _ _ := hu
    clear hF
    refine doesG_un rfl ?_
    refine (does_loadAgg (cs := [(Fl r290), (Fl r292), (Fl r294), (Fl r7), (Fl r9), (Fl r11)]) (ev rfl) Try.isAgg29 Try.sizeOf29 (Blk.cells (((hB307.ext E321).ext E350).kl hu (ninS (Nat.ne_of_gt n300) nin0))) rfl).mono ?_; rintro _ _ ⟨rfl, rfl⟩
    exact ⟨rfl, KpL.refl _ _⟩
   refine RW2_n rfl (fun u hu hF => ?_) (fun v356 => ?_)
   ·replace hu : KpL [] _ _ := hu
    have h81_ : v354 = (.agg #[(Fl r1), (Fl r3), (Fl r5), (Fl r278), (Fl r279), (Fl r280)]) := hF.1
    clear hF
    refine doesG_un rfl ?_
    obtain rfl := h81_
    refine (does_store (n := 6) (cs := [(Fl 0), (Fl 0), (Fl 0), (Fl 0), (Fl 0), (Fl 0)]) (u := (.agg #[(Fl r1), (Fl r3), (Fl r5), (Fl r278), (Fl r279), (Fl r280)])) (ev rfl) (ev rfl) Try.sizeOf29 rfl ((((((((((((((((((((((hB23.ext E32).ext E40).ext E68).kl E80 nin0).wr W114 (Nat.ne_of_lt n103)).wr W118 (Nat.ne_of_lt n110)).ext E130).ext E149).ext E160).ext E179).ext E190).ext E209).ext E218).ext E234).wr W241 (Nat.ne_of_lt n103)).wr W245 (Nat.ne_of_lt n110)).ext E251).kl E268 nin0).wr W306 (Nat.ne_of_lt n300)).ext E321).ext E350).ext (KpL.toExt hu)) (Nat.le_of_ble_eq_true rfl) rfl).mono ?_; rintro _ _ ⟨rfl, hW, hB⟩
    exact ⟨⟨rfl, hB⟩, KpL.of_wr hW⟩
   refine RW2_fin ?_; intro w357 E358 hP359; replace E358 : KpL [b21] _ _ := E358
   obtain ⟨⟨⟨-, -⟩, q360⟩, q361⟩ := hP359
   have X362 := Below.kl X353 E358 (allS g27 all0) (Nat.le_refl _)
   obtain ⟨_, hB363⟩ := q361 rfl
   change Blk _ _ [(Fl r1), (Fl r3), (Fl r5), (Fl r278), (Fl r279), (Fl r280)] at hB363
   have q360 : v355 = (.agg #[(Fl r290), (Fl r292), (Fl r294), (Fl r7), (Fl r9), (Fl r11)]) := q360 rfl
   obtain rfl := q360
   show wpList _ _ _ _ (fr [_, _, _, _, _, _, _, _, _, _, _, _, _, _, _, _, _, _, _, _, _, _, _, _, _, _, _, _, _, _, _, _, _, _, _, _, _, _, _, _, _, _, _, _, _, _, _, _, _, _, _, _, _, _, _, _, _, _, _, _, _, _, _, _, _, _, _, _, _, _, _, _, _, _, _, _, _, _, _, _, _, _, _]) _
   refine seqn rfl rfl (does_store (n := 6) (cs := [(Fl 0), (Fl 0), (Fl 0), (Fl 0), (Fl 0), (Fl 0)]) (u := (.agg #[(Fl r290), (Fl r292), (Fl r294), (Fl r7), (Fl r9), (Fl r11)])) (ev rfl) (ev rfl) Try.sizeOf29 rfl (((((((((((((((((((((hB31.ext E40).ext E68).kl E80 nin0).wr W114 (Nat.ne_of_lt n104)).wr W118 (Nat.ne_of_lt n111)).ext E130).ext E149).ext E160).ext E179).ext E190).ext E209).ext E218).ext E234).wr W241 (Nat.ne_of_lt n104)).wr W245 (Nat.ne_of_lt n111)).ext E251).kl E268 nin0).wr W306 (Nat.ne_of_lt n301)).ext E321).ext E350).kl E358 (ninS (Nat.ne_of_gt n35) nin0)) (Nat.le_of_ble_eq_true rfl) rfl) ?_; rintro _ w366 ⟨rfl, W364, hB365⟩
   change Blk _ _ [(Fl r290), (Fl r292), (Fl r294), (Fl r7), (Fl r9), (Fl r11)] at hB365
   have X367 := Below.wr X362 W364 g36
   refine q_is rfl rfl (does_assign (u := (Bo true)) (ev rfl)) (by dsimp only [List.set]; try rfl) ?_
   refine wpList_nil (hK348 _ _ ?_)
   refine wp_ret ?_
   refine ret_val (v := (.tuple #[(.agg #[(Fl r1), (Fl r3), (Fl r5), (Fl r278), (Fl r279), (Fl r280)]), (.agg #[(Fl r290), (Fl r292), (Fl r294), (Fl r7), (Fl r9), (Fl r11)]), (Bo true)])) (res_CCT rfl (slot rfl) (run_loadAgg (cs := [(Fl r1), (Fl r3), (Fl r5), (Fl r278), (Fl r279), (Fl r280)]) Try.isAgg29 Try.sizeOf29 (Blk.cells (hB363.wr W364 (Nat.ne_of_lt n35))) rfl) (slot rfl) (run_loadAgg (cs := [(Fl r290), (Fl r292), (Fl r294), (Fl r7), (Fl r9), (Fl r11)]) Try.isAgg29 Try.sizeOf29 (Blk.cells hB365) rfl) (slot rfl)) X367 ?_
   try simp only [h2, h4, h6, h8, h10, h12, h88, h90, h92, h94, h96, h98, hβ1, hβ2, hβ3, h239, h281, h282, h283, h291, h293, h295, hβ4, hβ5] at c43 c153 c183 c213 c325
   have x368 : (splitOk A_b) = true := by first | exact hsf | exact hst | (rw [hsf] <;> rfl) | (rw [hst, gvB_t]; first | rfl | assumption | (simp only [oneB, twoB, midB, dimB, hax, half_two, pickV_0, pickV_1, pickV_2, setV_0, setV_1, setV_2, h2, h4, h6, h8, h10, h12, h88, h90, h92, h94, h96, h98, hβ1, hβ2, hβ3, h239, h281, h282, h283, h291, h293, h295, hβ4, hβ5, c43, c153, c183, c213, c325]; done) | (simp only [oneB, twoB, midB, dimB, hax, half_two, pickV_0, pickV_1, pickV_2, setV_0, setV_1, setV_2, h2, h4, h6, h8, h10, h12, h88, h90, h92, h94, h96, h98, hβ1, hβ2, hβ3, h239, h281, h282, h283, h291, h293, h295, hβ4, hβ5, c43, c153, c183, c213, c325]; rfl))
   have x369 : cf .f32 r1 = (gvB (splitOk A_b) (oneB A_b)).lo.x := by first | exact hsf | exact hst | (rw [hsf] <;> rfl) | (rw [hst, gvB_t]; first | rfl | assumption | (simp only [oneB, twoB, midB, dimB, hax, half_two, pickV_0, pickV_1, pickV_2, setV_0, setV_1, setV_2, h2, h4, h6, h8, h10, h12, h88, h90, h92, h94, h96, h98, hβ1, hβ2, hβ3, h239, h281, h282, h283, h291, h293, h295, hβ4, hβ5, c43, c153, c183, c213, c325]; done) | (simp only [oneB, twoB, midB, dimB, hax, half_two, pickV_0, pickV_1, pickV_2, setV_0, setV_1, setV_2, h2, h4, h6, h8, h10, h12, h88, h90, h92, h94, h96, h98, hβ1, hβ2, hβ3, h239, h281, h282, h283, h291, h293, h295, hβ4, hβ5, c43, c153, c183, c213, c325]; rfl))
   have x370 : cf .f32 r3 = (gvB (splitOk A_b) (oneB A_b)).lo.y := by first | exact hsf | exact hst | (rw [hsf] <;> rfl) | (rw [hst, gvB_t]; first | rfl | assumption | (simp only [oneB, twoB, midB, dimB, hax, half_two, pickV_0, pickV_1, pickV_2, setV_0, setV_1, setV_2, h2, h4, h6, h8, h10, h12, h88, h90, h92, h94, h96, h98, hβ1, hβ2, hβ3, h239, h281, h282, h283, h291, h293, h295, hβ4, hβ5, c43, c153, c183, c213, c325]; done) | (simp only [oneB, twoB, midB, dimB, hax, half_two, pickV_0, pickV_1, pickV_2, setV_0, setV_1, setV_2, h2, h4, h6, h8, h10, h12, h88, h90, h92, h94, h96, h98, hβ1, hβ2, hβ3, h239, h281, h282, h283, h291, h293, h295, hβ4, hβ5, c43, c153, c183, c213, c325]; rfl))
   have x371 : cf .f32 r5 = (gvB (splitOk A_b) (oneB A_b)).lo.z := by first | exact hsf | exact hst | (rw [hsf] <;> rfl) | (rw [hst, gvB_t]; first | rfl | assumption | (simp only [oneB, twoB, midB, dimB, hax, half_two, pickV_0, pickV_1, pickV_2, setV_0, setV_1, setV_2, h2, h4, h6, h8, h10, h12, h88, h90, h92, h94, h96, h98, hβ1, hβ2, hβ3, h239, h281, h282, h283, h291, h293, h295, hβ4, hβ5, c43, c153, c183, c213, c325]; done) | (simp only [oneB, twoB, midB, dimB, hax, half_two, pickV_0, pickV_1, pickV_2, setV_0, setV_1, setV_2, h2, h4, h6, h8, h10, h12, h88, h90, h92, h94, h96, h98, hβ1, hβ2, hβ3, h239, h281, h282, h283, h291, h293, h295, hβ4, hβ5, c43, c153, c183, c213, c325]; rfl))
   have x372 : cf .f32 r278 = (gvB (splitOk A_b) (oneB A_b)).hi.x := by first | exact hsf | exact hst | (rw [hsf] <;> rfl) | (rw [hst, gvB_t]; first | rfl | assumption | (simp only [oneB, twoB, midB, dimB, hax, half_two, pickV_0, pickV_1, pickV_2, setV_0, setV_1, setV_2, h2, h4, h6, h8, h10, h12, h88, h90, h92, h94, h96, h98, hβ1, hβ2, hβ3, h239, h281, h282, h283, h291, h293, h295, hβ4, hβ5, c43, c153, c183, c213, c325]; done) | (simp only [oneB, twoB, midB, dimB, hax, half_two, pickV_0, pickV_1, pickV_2, setV_0, setV_1, setV_2, h2, h4, h6, h8, h10, h12, h88, h90, h92, h94, h96, h98, hβ1, hβ2, hβ3, h239, h281, h282, h283, h291, h293, h295, hβ4, hβ5, c43, c153, c183, c213, c325]; rfl))
   have x373 : cf .f32 r279 = (gvB (splitOk A_b) (oneB A_b)).hi.y := by first | exact hsf | exact hst | (rw [hsf] <;> rfl) | (rw [hst, gvB_t]; first | rfl | assumption | (simp only [oneB, twoB, midB, dimB, hax, half_two, pickV_0, pickV_1, pickV_2, setV_0, setV_1, setV_2, h2, h4, h6, h8, h10, h12, h88, h90, h92, h94, h96, h98, hβ1, hβ2, hβ3, h239, h281, h282, h283, h291, h293, h295, hβ4, hβ5, c43, c153, c183, c213, c325]; done) | (simp only [oneB, twoB, midB, dimB, hax, half_two, pickV_0, pickV_1, pickV_2, setV_0, setV_1, setV_2, h2, h4, h6, h8, h10, h12, h88, h90, h92, h94, h96, h98, hβ1, hβ2, hβ3, h239, h281, h282, h283, h291, h293, h295, hβ4, hβ5, c43, c153, c183, c213, c325]; rfl))
   have x374 : cf .f32 r280 = (gvB (splitOk A_b) (oneB A_b)).hi.z := by first | exact hsf | exact hst | (rw [hsf] <;> rfl) | (rw [hst, gvB_t]; first | rfl | assumption | (simp only [oneB, twoB, midB, dimB, hax, half_two, pickV_0, pickV_1, pickV_2, setV_0, setV_1, setV_2, h2, h4, h6, h8, h10, h12, h88, h90, h92, h94, h96, h98, hβ1, hβ2, hβ3, h239, h281, h282, h283, h291, h293, h295, hβ4, hβ5, c43, c153, c183, c213, c325]; done) | (simp only [oneB, twoB, midB, dimB, hax, half_two, pickV_0, pickV_1, pickV_2, setV_0, setV_1, setV_2, h2, h4, h6, h8, h10, h12, h88, h90, h92, h94, h96, h98, hβ1, hβ2, hβ3, h239, h281, h282, h283, h291, h293, h295, hβ4, hβ5, c43, c153, c183, c213, c325]; rfl))
   have x375 : cf .f32 r290 = (gvB (splitOk A_b) (twoB A_b)).lo.x := by first | exact hsf | exact hst | (rw [hsf] <;> rfl) | (rw [hst, gvB_t]; first | rfl | assumption | (simp only [oneB, twoB, midB, dimB, hax, half_two, pickV_0, pickV_1, pickV_2, setV_0, setV_1, setV_2, h2, h4, h6, h8, h10, h12, h88, h90, h92, h94, h96, h98, hβ1, hβ2, hβ3, h239, h281, h282, h283, h291, h293, h295, hβ4, hβ5, c43, c153, c183, c213, c325]; done) | (simp only [oneB, twoB, midB, dimB, hax, half_two, pickV_0, pickV_1, pickV_2, setV_0, setV_1, setV_2, h2, h4, h6, h8, h10, h12, h88, h90, h92, h94, h96, h98, hβ1, hβ2, hβ3, h239, h281, h282, h283, h291, h293, h295, hβ4, hβ5, c43, c153, c183, c213, c325]; rfl))
   have x376 : cf .f32 r292 = (gvB (splitOk A_b) (twoB A_b)).lo.y := by first | exact hsf | exact hst | (rw [hsf] <;> rfl) | (rw [hst, gvB_t]; first | rfl | assumption | (simp only [oneB, twoB, midB, dimB, hax, half_two, pickV_0, pickV_1, pickV_2, setV_0, setV_1, setV_2, h2, h4, h6, h8, h10, h12, h88, h90, h92, h94, h96, h98, hβ1, hβ2, hβ3, h239, h281, h282, h283, h291, h293, h295, hβ4, hβ5, c43, c153, c183, c213, c325]; done) | (simp only [oneB, twoB, midB, dimB, hax, half_two, pickV_0, pickV_1, pickV_2, setV_0, setV_1, setV_2, h2, h4, h6, h8, h10, h12, h88, h90, h92, h94, h96, h98, hβ1, hβ2, hβ3, h239, h281, h282, h283, h291, h293, h295, hβ4, hβ5, c43, c153, c183, c213, c325]; rfl))
   have x377 : cf .f32 r294 = (gvB (splitOk A_b) (twoB A_b)).lo.z := by first | exact hsf | exact hst | (rw [hsf] <;> rfl) | (rw [hst, gvB_t]; first | rfl | assumption | (simp only [oneB, twoB, midB, dimB, hax, half_two, pickV_0, pickV_1, pickV_2, setV_0, setV_1, setV_2, h2, h4, h6, h8, h10, h12, h88, h90, h92, h94, h96, h98, hβ1, hβ2, hβ3, h239, h281, h282, h283, h291, h293, h295, hβ4, hβ5, c43, c153, c183, c213, c325]; done) | (simp only [oneB, twoB, midB, dimB, hax, half_two, pickV_0, pickV_1, pickV_2, setV_0, setV_1, setV_2, h2, h4, h6, h8, h10, h12, h88, h90, h92, h94, h96, h98, hβ1, hβ2, hβ3, h239, h281, h282, h283, h291, h293, h295, hβ4, hβ5, c43, c153, c183, c213, c325]; rfl))
   have x378 : cf .f32 r7 = (gvB (splitOk A_b) (twoB A_b)).hi.x := by first | exact hsf | exact hst | (rw [hsf] <;> rfl) | (rw [hst, gvB_t]; first | rfl | assumption | (simp only [oneB, twoB, midB, dimB, hax, half_two, pickV_0, pickV_1, pickV_2, setV_0, setV_1, setV_2, h2, h4, h6, h8, h10, h12, h88, h90, h92, h94, h96, h98, hβ1, hβ2, hβ3, h239, h281, h282, h283, h291, h293, h295, hβ4, hβ5, c43, c153, c183, c213, c325]; done) | (simp only [oneB, twoB, midB, dimB, hax, half_two, pickV_0, pickV_1, pickV_2, setV_0, setV_1, setV_2, h2, h4, h6, h8, h10, h12, h88, h90, h92, h94, h96, h98, hβ1, hβ2, hβ3, h239, h281, h282, h283, h291, h293, h295, hβ4, hβ5, c43, c153, c183, c213, c325]; rfl))
   have x379 : cf .f32 r9 = (gvB (splitOk A_b) (twoB A_b)).hi.y := by first | exact hsf | exact hst | (rw [hsf] <;> rfl) | (rw [hst, gvB_t]; first | rfl | assumption | (simp only [oneB, twoB, midB, dimB, hax, half_two, pickV_0, pickV_1, pickV_2, setV_0, setV_1, setV_2, h2, h4, h6, h8, h10, h12, h88, h90, h92, h94, h96, h98, hβ1, hβ2, hβ3, h239, h281, h282, h283, h291, h293, h295, hβ4, hβ5, c43, c153, c183, c213, c325]; done) | (simp only [oneB, twoB, midB, dimB, hax, half_two, pickV_0, pickV_1, pickV_2, setV_0, setV_1, setV_2, h2, h4, h6, h8, h10, h12, h88, h90, h92, h94, h96, h98, hβ1, hβ2, hβ3, h239, h281, h282, h283, h291, h293, h295, hβ4, hβ5, c43, c153, c183, c213, c325]; rfl))
   have x380 : cf .f32 r11 = (gvB (splitOk A_b) (twoB A_b)).hi.z := by first | exact hsf | exact hst | (rw [hsf] <;> rfl) | (rw [hst, gvB_t]; first | rfl | assumption | (simp only [oneB, twoB, midB, dimB, hax, half_two, pickV_0, pickV_1, pickV_2, setV_0, setV_1, setV_2, h2, h4, h6, h8, h10, h12, h88, h90, h92, h94, h96, h98, hβ1, hβ2, hβ3, h239, h281, h282, h283, h291, h293, h295, hβ4, hβ5, c43, c153, c183, c213, c325]; done) | (simp only [oneB, twoB, midB, dimB, hax, half_two, pickV_0, pickV_1, pickV_2, setV_0, setV_1, setV_2, h2, h4, h6, h8, h10, h12, h88, h90, h92, h94, h96, h98, hβ1, hβ2, hβ3, h239, h281, h282, h283, h291, h293, h295, hβ4, hβ5, c43, c153, c183, c213, c325]; rfl))
   exact ⟨[(Fl r1), (Fl r3), (Fl r5), (Fl r278), (Fl r279), (Fl r280)], [(Fl r290), (Fl r292), (Fl r294), (Fl r7), (Fl r9), (Fl r11)], (by first | with_reducible rfl | rw [x368] | rfl), ⟨r1, r3, r5, r278, r279, r280, rfl, x369, x370, x371, x372, x373, x374⟩, ⟨r290, r292, r294, r7, r9, r11, rfl, x375, x376, x377, x378, x379, x380⟩⟩
  have c213' := c213
  (try simp only [hβ1, hβ2, hβ3] at c213')
  (try simp only [icmp, Bool.and_eq_true, Bool.or_eq_true, Bool.and_eq_false_iff, Bool.or_eq_false_iff, Bool.not_eq_true', Bool.not_eq_false', decide_eq_true_eq, decide_eq_false_iff_not, beq_iff_eq, bne_iff_ne, beq_eq_false_iff_ne, bne_eq_false_iff_eq] at c213')
  simp only [h2, h4, h6, h8, h10, h12, h88, h90, h92, h94, h96, h98, hβ1, hβ2, hβ3] at c213
  refine wp_skip (hK186 _ _ ?_)
  refine wp_region_lit ?_
  refine q_is rfl rfl (does_iarith (p := 2) (q := 1) (r := (3)) (ev rfl) (ev rfl) (.inl ⟨rfl, rfl⟩)) (by dsimp only [List.set]; try rfl) ?_
  refine q_is rfl rfl (does_move (u := (Iv 3)) (ev rfl)) (by dsimp only [List.set]; try rfl) ?_
  refine wpList_nil ?_
  refine un_step ?_
  refine wp_seq_k fun K381 hK381 => ?_
  refine wp_region_lit ?_
  refine q_is rfl rfl (does_icmp (p := 3) (q := 3) (.inr (.inr (.inl rfl))) (ev rfl) (ev rfl)) (by dsimp only [List.set]; try rfl) ?_
  refine wpList_nil (hK381 _ _ ?_)
  refine wp_seq_k fun K382 hK382 => ?_
  refine wp_cond_false (ev rfl) ?_
  refine wp_exit ?_
  refine hK122 _ _ ?_
  refine wp_seq_k fun K383 hK383 => ?_
  refine region_draw (
   [Fact.pure [] (fun v => v = (Iv 1)),
  Fact.pure [43] (fun v => v = (Pt b99 1)),
  Fact.pure [44] (fun v => v = (Fl r89)),
  Fact.pure [] (fun v => v = (Iv 1)),
  Fact.pure [46] (fun v => v = (Pt b106 1)),
  Fact.pure [47] (fun v => v = (Fl r95)),
  Fact.pure [] (fun v => v = (Iv 1)),
  Fact.pure [49] (fun v => v = (Pt b99 1)),
  Fact.pure [50] (fun v => v = (Fl r89)),
  Fact.pure [48, 51] (fun v => ∃ r_1 : Nat, v = (Fl r_1) ∧ cf .f32 r_1 = fop .sub .f32 (cf .f32 r95) (cf .f32 r89)),
  Fact.pure [52] (fun v => ∃ r_1 : Nat, v = (Fl r_1) ∧ cf .f32 r_1 = fop .quo .f32 (fop .sub .f32 (cf .f32 r95) (cf .f32 r89)) (cf .f32 1073741824)),
  Fact.pure [45, 53] (fun v => ∃ r_1 : Nat, v = (Fl r_1) ∧ cf .f32 r_1 = fop .add .f32 (cf .f32 r89) (fop .quo .f32 (fop .sub .f32 (cf .f32 r95) (cf .f32 r89)) (cf .f32 1073741824)))]) mixed (by kernel_rfl) (by intro _ _ d _ _ h; cases d <;> exact h) ?_
  obtain ⟨w384, hw386⟩ : ∃ w', w' = World.drew w208 := ⟨_, rfl⟩; rw [← hw386]; have E385 : Ext w208 w384 := by rw [hw386]; exact Ext.draw _
  clear hw386
  have X387 := Ext.gr X212 E385
  refine RW_d _ rfl (fun v => by dsimp only [List.set]; try rfl) (fun u hu hF => ?_) (fun v388 => ?_)
  ·clear hF
   refine doesG_un rfl ?_
   refine (does_move (u := (Iv 1)) (ev rfl)).mono ?_; rintro _ _ ⟨rfl, rfl⟩
   exact ⟨rfl, Ext.refl _⟩
  refine RW_d _ rfl (fun v => by dsimp only [List.set]; try rfl) (fun u hu hF => ?_) (fun v389 => ?_)
  ·have h43_ : v388 = (Iv 1) := hF.1
   clear hF
   refine doesG_un rfl ?_
   obtain rfl := h43_
   refine (does_indexAt_run (r := (Pt b99 1)) (ev rfl) (ev rfl) (fun w => ia41_1 _ _ w)).mono ?_; rintro _ _ ⟨rfl, rfl⟩
   exact ⟨rfl, Ext.refl _⟩
  refine RW_d _ rfl (fun v => by dsimp only [List.set]; try rfl) (fun u hu hF => ?_) (fun v390 => ?_)
  ·have h44_ : v389 = (Pt b99 1) := hF.1
   clear hF
   refine doesG_un rfl ?_
   obtain rfl := h44_
   refine (does_load (u := (Fl r89)) (ev rfl) Try.isAgg22 (Cells.at (Blk.cells (((((((((hB115.wr W118 (Ne.symm n113)).ext E130).ext E149).ext E160).ext E179).ext E190).ext E209).ext E385).ext hu)) 1 rfl)).mono ?_; rintro _ _ ⟨rfl, rfl⟩
   exact ⟨rfl, Ext.refl _⟩
  refine RW_d _ rfl (fun v => by dsimp only [List.set]; try rfl) (fun u hu hF => ?_) (fun v391 => ?_)
  ·clear hF
   refine doesG_un rfl ?_
   refine (does_move (u := (Iv 1)) (ev rfl)).mono ?_; rintro _ _ ⟨rfl, rfl⟩
   exact ⟨rfl, Ext.refl _⟩
  refine RW_d _ rfl (fun v => by dsimp only [List.set]; try rfl) (fun u hu hF => ?_) (fun v392 => ?_)
  ·have h46_ : v391 = (Iv 1) := hF.1
   clear hF
   refine doesG_un rfl ?_
   obtain rfl := h46_
   refine (does_indexAt_run (r := (Pt b106 1)) (ev rfl) (ev rfl) (fun w => ia41_1 _ _ w)).mono ?_; rintro _ _ ⟨rfl, rfl⟩
   exact ⟨rfl, Ext.refl _⟩
  refine RW_d _ rfl (fun v => by dsimp only [List.set]; try rfl) (fun u hu hF => ?_) (fun v393 => ?_)
  ·have h47_ : v392 = (Pt b106 1) := hF.1
   clear hF
   refine doesG_un rfl ?_
   obtain rfl := h47_
   refine (does_load (u := (Fl r95)) (ev rfl) Try.isAgg22 (Cells.at (Blk.cells ((((((((hB119.ext E130).ext E149).ext E160).ext E179).ext E190).ext E209).ext E385).ext hu)) 1 rfl)).mono ?_; rintro _ _ ⟨rfl, rfl⟩
   exact ⟨rfl, Ext.refl _⟩
  refine RW_d _ rfl (fun v => by dsimp only [List.set]; try rfl) (fun u hu hF => ?_) (fun v394 => ?_)
  ·clear hF
   refine doesG_un rfl ?_
   refine (does_move (u := (Iv 1)) (ev rfl)).mono ?_; rintro _ _ ⟨rfl, rfl⟩
   exact ⟨rfl, Ext.refl _⟩
  refine RW_d _ rfl (fun v => by dsimp only [List.set]; try rfl) (fun u hu hF => ?_) (fun v395 => ?_)
  ·have h49_ : v394 = (Iv 1) := hF.1
   clear hF
   refine doesG_un rfl ?_
   obtain rfl := h49_
   refine (does_indexAt_run (r := (Pt b99 1)) (ev rfl) (ev rfl) (fun w => ia41_1 _ _ w)).mono ?_; rintro _ _ ⟨rfl, rfl⟩
   exact ⟨rfl, Ext.refl _⟩
  refine RW_d _ rfl (fun v => by dsimp only [List.set]; try rfl) (fun u hu hF => ?_) (fun v396 => ?_)
  ·have h50_ : v395 = (Pt b99 1) := hF.1
   clear hF
   refine doesG_un rfl ?_
   obtain rfl := h50_
   refine (does_load (u := (Fl r89)) (ev rfl) Try.isAgg22 (Cells.at (Blk.cells (((((((((hB115.wr W118 (Ne.symm n113)).ext E130).ext E149).ext E160).ext E179).ext E190).ext E209).ext E385).ext hu)) 1 rfl)).mono ?_; rintro _ _ ⟨rfl, rfl⟩
   exact ⟨rfl, Ext.refl _⟩
  refine RW_d _ rfl (fun v => by dsimp only [List.set]; try rfl) (fun u hu hF => ?_) (fun v397 => ?_)
  ·have h48_ : v393 = (Fl r95) := hF.1
   have h51_ : v396 = (Fl r89) := hF.2.1
   clear hF
   refine doesG_un rfl ?_
   obtain rfl := h48_
   obtain rfl := h51_
   refine (does_float (.inr (.inl rfl)) (ev rfl) (ev rfl)).mono ?_; rintro _ _ ⟨r, rfl, hr, hx⟩
   exact ⟨⟨r, rfl, (by simp only [hr])⟩, hx⟩
  refine RW_d _ rfl (fun v => by dsimp only [List.set]; try rfl) (fun u hu hF => ?_) (fun v398 => ?_)
  ·have h52_ : ∃ r_1 : Nat, v397 = (Fl r_1) ∧ cf .f32 r_1 = fop .sub .f32 (cf .f32 r95) (cf .f32 r89) := hF.1
   clear hF
   refine doesG_un rfl ?_
   obtain ⟨r52_1, rfl, h52_2⟩ := h52_
   refine (does_float (.inr (.inr (.inr rfl))) (ev rfl) (ev rfl)).mono ?_; rintro _ _ ⟨r, rfl, hr, hx⟩
   exact ⟨⟨r, rfl, (by simp only [hr, h52_2])⟩, hx⟩
  refine RW_d _ rfl (fun v => by dsimp only [List.set]; try rfl) (fun u hu hF => ?_) (fun v399 => ?_)
  ·have h45_ : v390 = (Fl r89) := hF.1
   have h53_ : ∃ r_1 : Nat, v398 = (Fl r_1) ∧ cf .f32 r_1 = fop .quo .f32 (fop .sub .f32 (cf .f32 r95) (cf .f32 r89)) (cf .f32 1073741824) := hF.2.1
   clear hF
   refine doesG_un rfl ?_
   obtain rfl := h45_
   obtain ⟨r53_1, rfl, h53_2⟩ := h53_
   refine (does_float (.inl rfl) (ev rfl) (ev rfl)).mono ?_; rintro _ _ ⟨r, rfl, hr, hx⟩
   exact ⟨⟨r, rfl, (by simp only [hr, h53_2])⟩, hx⟩
  refine RW_fin ?_; intro w400 E401 hP402
  obtain ⟨⟨⟨⟨⟨⟨⟨⟨⟨⟨⟨⟨-, -⟩, -⟩, -⟩, -⟩, -⟩, -⟩, -⟩, -⟩, -⟩, -⟩, -⟩, q403⟩ := hP402
  have X404 := Ext.gr X387 E401
  have q403 : ∃ r_1 : Nat, v399 = (Fl r_1) ∧ cf .f32 r_1 = fop .add .f32 (cf .f32 r89) (fop .quo .f32 (fop .sub .f32 (cf .f32 r95) (cf .f32 r89)) (cf .f32 1073741824)) := q403
  obtain ⟨r405, rfl, h406⟩ := q403
  show wpList _ _ _ _ (fr [_, _, _, _, _, _, _, _, _, _, _, _, _, _, _, _, _, _, _, _, _, _, _, _, _, _, _, _, _, _, _, _, _, _, _, _, _, _, _, _, _, _, _, _, _, _, _, _, _, _, _, _, _, _, _, _, _, _, _, _, _, _, _, _, _, _, _, _, _, _, _, _, _, _, _, _, _, _, _, _, _, _, _]) _
  refine q_is rfl rfl (does_assign (u := (Fl r405)) (ev rfl)) (by dsimp only [List.set]; try rfl) ?_
  refine wpList_nil (hK383 _ _ ?_)
  refine wp_seq_k fun K407 hK407 => ?_
  refine wp_region_lit ?_
  refine q_is rfl rfl (does_move (u := (Iv 1)) (ev rfl)) (by dsimp only [List.set]; try rfl) ?_
  refine q_is rfl rfl (does_move (u := (Iv 1)) (ev rfl)) (by dsimp only [List.set]; try rfl) ?_
  refine q_is rfl rfl (does_move (u := (Fl r405)) (ev rfl)) (by dsimp only [List.set]; try rfl) ?_
  refine q_is rfl rfl (does_move (u := (Fl r405)) (ev rfl)) (by dsimp only [List.set]; try rfl) ?_
  refine q_is rfl rfl (does_indexAt_run (r := (Pt b99 1)) (ev rfl) (ev rfl) (fun w => ia41_1 _ _ w)) (by dsimp only [List.set]; try rfl) ?_
  refine seqn rfl rfl (does_store (n := 1) (cs := [(Fl r87), (Fl r89), (Fl r91)]) (u := (Fl r405)) (ev rfl) (ev rfl) Try.sizeOf22 rfl (((((((((hB115.wr W118 (Ne.symm n113)).ext E130).ext E149).ext E160).ext E179).ext E190).ext E209).ext E385).ext E401) (Nat.le_of_ble_eq_true rfl) rfl) ?_; rintro _ w410 ⟨rfl, W408, hB409⟩
  change Blk _ _ [(Fl r87), (Fl r405), (Fl r91)] at hB409
  have X411 := Below.wr X404 W408 g105
  refine q_is rfl rfl (does_indexAt_run (r := (Pt b106 1)) (ev rfl) (ev rfl) (fun w => ia41_1 _ _ w)) (by dsimp only [List.set]; try rfl) ?_
  refine seqn rfl rfl (does_store (n := 1) (cs := [(Fl r93), (Fl r95), (Fl r97)]) (u := (Fl r405)) (ev rfl) (ev rfl) Try.sizeOf22 rfl (((((((((hB119.ext E130).ext E149).ext E160).ext E179).ext E190).ext E209).ext E385).ext E401).wr W408 n113) (Nat.le_of_ble_eq_true rfl) rfl) ?_; rintro _ w414 ⟨rfl, W412, hB413⟩
  change Blk _ _ [(Fl r93), (Fl r405), (Fl r97)] at hB413
  have X415 := Below.wr X411 W412 g112
  refine wpList_nil (hK407 _ _ ?_)
  refine wp_seq_k fun K416 hK416 => ?_
  refine region_any4 [] [10, 11] [0, 1, 0, 4, 15, 0, 44, 0, 128, 492, 0, 0, 3199, 8191] [] (
   [FactV.pure [] [] [] true (fun v => v = (Pt b14 0)),
    FactV.pure [0] [] [] true (fun v => v = (.agg #[(Fl r1), (Fl r3), (Fl r5)])),
    FactV.pure [] [] [] true (fun v => v = (.agg #[(Fl r93), (Fl r405), (Fl r97)])),
    FactV.pure [2] [] [] true (fun v => ∃ cs_1 : List Value, v = (.agg cs_1.toArray) ∧ RV3 w (V3.mk (cf .f32 r93) (cf .f32 r405) (cf .f32 r97)) cs_1),
    FactV.pure [1, 3] [] [] true (fun v => ∃ r_1 : Nat, ∃ r_2 : Nat, ∃ r_3 : Nat, v = (.agg #[(Fl r1), (Fl r3), (Fl r5), (Fl r_1), (Fl r_2), (Fl r_3)]) ∧ cf .f32 r_1 = (V3.mk (cf .f32 r93) (cf .f32 r405) (cf .f32 r97)).x ∧ cf .f32 r_2 = (V3.mk (cf .f32 r93) (cf .f32 r405) (cf .f32 r97)).y ∧ cf .f32 r_3 = (V3.mk (cf .f32 r93) (cf .f32 r405) (cf .f32 r97)).z),
    FactV.pure [] [] [] true (fun v => v = (.agg #[(Fl r87), (Fl r405), (Fl r91)])),
    FactV.pure [5] [] [] true (fun v => ∃ cs_1 : List Value, v = (.agg cs_1.toArray) ∧ RV3 w (V3.mk (cf .f32 r87) (cf .f32 r405) (cf .f32 r91)) cs_1),
    FactV.pure [] [] [] true (fun v => v = (Pt b14 3)),
    FactV.pure [7] [] [] true (fun v => v = (.agg #[(Fl r7), (Fl r9), (Fl r11)])),
    FactV.pure [6, 8] [] [] true (fun v => ∃ r_1 : Nat, ∃ r_2 : Nat, ∃ r_3 : Nat, v = (.agg #[(Fl r_1), (Fl r_2), (Fl r_3), (Fl r7), (Fl r9), (Fl r11)]) ∧ cf .f32 r_1 = (V3.mk (cf .f32 r87) (cf .f32 r405) (cf .f32 r91)).x ∧ cf .f32 r_2 = (V3.mk (cf .f32 r87) (cf .f32 r405) (cf .f32 r91)).y ∧ cf .f32 r_3 = (V3.mk (cf .f32 r87) (cf .f32 r405) (cf .f32 r91)).z),
    FactV.new [] [] [] false (fun v w' => ∃ b : Nat, v = .pointer (some ⟨b, 0, none⟩) ∧ w414.heap.size ≤ b ∧ Blk w' b [(Fl 0), (Fl 0), (Fl 0), (Fl 0), (Fl 0), (Fl 0)]) (by rintro v w1 w2 L hx hL ⟨b, rfl, hb, hB⟩; exact ⟨b, rfl, hb, (hB.kl hx (fun hm => (hL b hm).elim (fun h => absurd h (by show b ∉ ([] : List Nat); exact nin0)) (fun h => h.2 rfl)))⟩),
    FactV.new [] [] [] true (fun v w' => ∃ b : Nat, v = .pointer (some ⟨b, 0, none⟩) ∧ w414.heap.size ≤ b ∧ Blk w' b [(Fl 0), (Fl 0), (Fl 0), (Fl 0), (Fl 0), (Fl 0)]) (by rintro v w1 w2 L hx hL ⟨b, rfl, hb, hB⟩; exact ⟨b, rfl, hb, (hB.kl hx (fun hm => (hL b hm).elim (fun h => absurd h (by show b ∉ ([] : List Nat); exact nin0)) (fun h => h.2 rfl)))⟩),
    FactV.into [10, 4] [] [] 10 true (fun o v w' => v = undef ∧ ∃ b : Nat, ∃ r_1 : Nat, ∃ r_2 : Nat, ∃ r_3 : Nat, o = .pointer (some ⟨b, 0, none⟩) ∧ w414.heap.size ≤ b ∧ Blk w' b [(Fl r1), (Fl r3), (Fl r5), (Fl r_1), (Fl r_2), (Fl r_3)] ∧ cf .f32 r_1 = (V3.mk (cf .f32 r93) (cf .f32 r405) (cf .f32 r97)).x ∧ cf .f32 r_2 = (V3.mk (cf .f32 r93) (cf .f32 r405) (cf .f32 r97)).y ∧ cf .f32 r_3 = (V3.mk (cf .f32 r93) (cf .f32 r405) (cf .f32 r97)).z) (by rintro o v w1 w2 L hx hL ⟨rfl, b, z0, z1, z2, rfl, hb, hB, k0, k1, k2⟩; exact ⟨rfl, b, z0, z1, z2, rfl, hb, hB.kl hx (fun hm => (hL b hm).elim (fun h => absurd h (by show b ∉ ([] : List Nat); exact nin0)) (fun h => h.2 rfl)), k0, k1, k2⟩)]) mixed (by kernel_rfl) ?_
  obtain ⟨w417, hw419⟩ : ∃ w', w' = World.drew w414 := ⟨_, rfl⟩; rw [← hw419]; have E418 : Ext w414 w417 := by rw [hw419]; exact Ext.draw _
  clear hw419
  have X420 := Ext.gr X415 E418
  refine RW4_d _ rfl rfl (fun v => by dsimp only [List.set]; try rfl) (fun u hu hF => ?_) (fun v421 => ?_)
  ·replace hu : KpL [] _ _ := hu
   clear hF
   refine doesG_un rfl ?_
   refine (does_fieldAddr (ev rfl) fa29_0).mono ?_; rintro _ _ ⟨rfl, rfl⟩
   exact ⟨rfl, KpL.refl _ _⟩
  refine RW4_d _ rfl rfl (fun v => by dsimp only [List.set]; try rfl) (fun u hu hF => ?_) (fun v422 => ?_)
  ·replace hu : KpL [] _ _ := hu
   have h61_ : v421 = (Pt b14 0) := hF.1
   clear hF
   refine doesG_un rfl ?_
   obtain rfl := h61_
   refine (does_loadAgg (cs := [(Fl r1), (Fl r3), (Fl r5)]) (ev rfl) Try.isAgg27 Try.sizeOf27 (Cells.sub (Blk.cells (((((((((((((((((((hB16.ext E24).ext E32).ext E40).ext E68).kl E80 nin0).wr W114 (Nat.ne_of_lt n102)).wr W118 (Nat.ne_of_lt n109)).ext E130).ext E149).ext E160).ext E179).ext E190).ext E209).ext E385).ext E401).wr W408 (Nat.ne_of_lt n102)).wr W412 (Nat.ne_of_lt n109)).ext E418).ext (KpL.toExt hu))) 0 3) rfl).mono ?_; rintro _ _ ⟨rfl, rfl⟩
   exact ⟨rfl, KpL.refl _ _⟩
  refine RW4_d _ rfl rfl (fun v => by dsimp only [List.set]; try rfl) (fun u hu hF => ?_) (fun v423 => ?_)
  ·replace hu : KpL [] _ _ := hu
   clear hF
   refine doesG_un rfl ?_
   refine (does_loadAgg (cs := [(Fl r93), (Fl r405), (Fl r97)]) (ev rfl) Try.isAgg41 Try.sizeOf41 (Blk.cells ((hB413.ext E418).ext (KpL.toExt hu))) rfl).mono ?_; rintro _ _ ⟨rfl, rfl⟩
   exact ⟨rfl, KpL.refl _ _⟩
  refine RW4_d _ rfl rfl (fun v => by dsimp only [List.set]; try rfl) (fun u hu hF => ?_) (fun v424 => ?_)
  ·replace hu : KpL [] _ _ := hu
   have h63_ : v423 = (.agg #[(Fl r93), (Fl r405), (Fl r97)]) := hF.1
   clear hF
   refine doesG_un rfl ?_
   obtain rfl := h63_
   refine (does_call (args := #[(.agg #[(Fl r93), (Fl r405), (Fl r97)])]) cal13 (evs rfl) (c_impl_vectorOf r93 r405 r97 _)).mono ?_; rintro v u' ⟨hx, ⟨csn1, hv, k0⟩⟩
   exact ⟨⟨csn1, hv, k0⟩, (KpL.of_ext hx)⟩
  refine RW4_d _ rfl rfl (fun v => by dsimp only [List.set]; try rfl) (fun u hu hF => ?_) (fun v425 => ?_)
  ·replace hu : KpL [] _ _ := hu
   have h62_ : v422 = (.agg #[(Fl r1), (Fl r3), (Fl r5)]) := hF.1
   have h64_ : ∃ cs_1 : List Value, v424 = (.agg cs_1.toArray) ∧ RV3 w (V3.mk (cf .f32 r93) (cf .f32 r405) (cf .f32 r97)) cs_1 := hF.2.1
   clear hF
   refine doesG_un rfl ?_
   obtain rfl := h62_
   obtain ⟨_, rfl, ⟨r64_1, r64_3, r64_5, rfl, h64_2, h64_4, h64_6⟩⟩ := h64_
   refine (does_build (parts' := [(0, (.agg #[(Fl r1), (Fl r3), (Fl r5)])), (1, (.agg #[(Fl r64_1), (Fl r64_3), (Fl r64_5)]))]) (cells := #[(Fl r1), (Fl r3), (Fl r5), (Fl r64_1), (Fl r64_3), (Fl r64_5)]) (evp rfl) (by kernel_rfl)).mono ?_; rintro _ _ ⟨rfl, rfl⟩
   exact ⟨⟨r64_1, r64_3, r64_5, rfl, (by simp only [h64_2, h64_4, h64_6]), (by simp only [h64_2, h64_4, h64_6]), (by simp only [h64_2, h64_4, h64_6])⟩, KpL.refl _ _⟩
  refine RW4_d _ rfl rfl (fun v => by dsimp only [List.set]; try rfl) (fun u hu hF => ?_) (fun v426 => ?_)
  ·replace hu : KpL [] _ _ := hu
   clear hF
   refine doesG_un rfl ?_
   refine (does_loadAgg (cs := [(Fl r87), (Fl r405), (Fl r91)]) (ev rfl) Try.isAgg41 Try.sizeOf41 (Blk.cells (((hB409.wr W412 (Ne.symm n113)).ext E418).ext (KpL.toExt hu))) rfl).mono ?_; rintro _ _ ⟨rfl, rfl⟩
   exact ⟨rfl, KpL.refl _ _⟩
  refine RW4_d _ rfl rfl (fun v => by dsimp only [List.set]; try rfl) (fun u hu hF => ?_) (fun v427 => ?_)
  ·replace hu : KpL [] _ _ := hu
   have h66_ : v426 = (.agg #[(Fl r87), (Fl r405), (Fl r91)]) := hF.1
   clear hF
   refine doesG_un rfl ?_
   obtain rfl := h66_
   refine (does_call (args := #[(.agg #[(Fl r87), (Fl r405), (Fl r91)])]) cal13 (evs rfl) (c_impl_vectorOf r87 r405 r91 _)).mono ?_; rintro v u' ⟨hx, ⟨csn1, hv, k0⟩⟩
   exact ⟨⟨csn1, hv, k0⟩, (KpL.of_ext hx)⟩
  refine RW4_d _ rfl rfl (fun v => by dsimp only [List.set]; try rfl) (fun u hu hF => ?_) (fun v428 => ?_)
  ·replace hu : KpL [] _ _ := hu
   clear hF
   refine doesG_un rfl ?_
   refine (does_fieldAddr (ev rfl) fa29_1).mono ?_; rintro _ _ ⟨rfl, rfl⟩
   exact ⟨rfl, KpL.refl _ _⟩
  refine RW4_d _ rfl rfl (fun v => by dsimp only [List.set]; try rfl) (fun u hu hF => ?_) (fun v429 => ?_)
  ·replace hu : KpL [] _ _ := hu
   have h68_ : v428 = (Pt b14 3) := hF.1
   clear hF
   refine doesG_un rfl ?_
   obtain rfl := h68_
   refine (does_loadAgg (cs := [(Fl r7), (Fl r9), (Fl r11)]) (ev rfl) Try.isAgg27 Try.sizeOf27 (Cells.sub (Blk.cells (((((((((((((((((((hB16.ext E24).ext E32).ext E40).ext E68).kl E80 nin0).wr W114 (Nat.ne_of_lt n102)).wr W118 (Nat.ne_of_lt n109)).ext E130).ext E149).ext E160).ext E179).ext E190).ext E209).ext E385).ext E401).wr W408 (Nat.ne_of_lt n102)).wr W412 (Nat.ne_of_lt n109)).ext E418).ext (KpL.toExt hu))) 3 3) rfl).mono ?_; rintro _ _ ⟨rfl, rfl⟩
   exact ⟨rfl, KpL.refl _ _⟩
  refine RW4_d _ rfl rfl (fun v => by dsimp only [List.set]; try rfl) (fun u hu hF => ?_) (fun v430 => ?_)
  ·replace hu : KpL [] _ _ := hu
   have h67_ : ∃ cs_1 : List Value, v427 = (.agg cs_1.toArray) ∧ RV3 w (V3.mk (cf .f32 r87) (cf .f32 r405) (cf .f32 r91)) cs_1 := hF.1
   have h69_ : v429 = (.agg #[(Fl r7), (Fl r9), (Fl r11)]) := hF.2.1
   clear hF
   refine doesG_un rfl ?_
   obtain ⟨_, rfl, ⟨r67_1, r67_3, r67_5, rfl, h67_2, h67_4, h67_6⟩⟩ := h67_
   obtain rfl := h69_
   refine (does_build (parts' := [(0, (.agg #[(Fl r67_1), (Fl r67_3), (Fl r67_5)])), (1, (.agg #[(Fl r7), (Fl r9), (Fl r11)]))]) (cells := #[(Fl r67_1), (Fl r67_3), (Fl r67_5), (Fl r7), (Fl r9), (Fl r11)]) (evp rfl) (by kernel_rfl)).mono ?_; rintro _ _ ⟨rfl, rfl⟩
   exact ⟨⟨r67_1, r67_3, r67_5, rfl, (by simp only [h67_2, h67_4, h67_6]), (by simp only [h67_2, h67_4, h67_6]), (by simp only [h67_2, h67_4, h67_6])⟩, KpL.refl _ _⟩
  refine RW4_b _ rfl rfl (fun v => by dsimp only [List.set]; try rfl) (fun u hu hF => ?_) (fun v431 => ?_)
  ·replace hu : KpL [] _ _ := hu
   clear hF
   refine doesG_un rfl ?_
   refine (does_alloc z29).mono ?_; rintro _ _ ⟨b, rfl, hb, hB, hx⟩
   exact ⟨⟨b, rfl, Nat.le_trans (Nat.le_trans (Below.size E418) (KpL.size hu)) hb, hB⟩, (KpL.of_ext hx), ⟨b, rfl, hb, hB.lt⟩⟩
  refine RW4_b _ rfl rfl (fun v => by dsimp only [List.set]; try rfl) (fun u hu hF => ?_) (fun v432 => ?_)
  ·replace hu : KpL [] _ _ := hu
   clear hF
   refine doesG_un rfl ?_
   refine (does_alloc z29).mono ?_; rintro _ _ ⟨b, rfl, hb, hB, hx⟩
   exact ⟨⟨b, rfl, Nat.le_trans (Nat.le_trans (Below.size E418) (KpL.size hu)) hb, hB⟩, (KpL.of_ext hx), ⟨b, rfl, hb, hB.lt⟩⟩
  refine RW4_i v431 rfl rfl rfl rfl (fun u hu hF => ?_) (fun v433 => ?_)
  ·replace hu : KpL [] _ _ := hu
   have h10_ : ∃ b : Nat, v431 = .pointer (some ⟨b, 0, none⟩) ∧ w414.heap.size ≤ b ∧ Blk u b [(Fl 0), (Fl 0), (Fl 0), (Fl 0), (Fl 0), (Fl 0)] := hF.1
   have h65_ : ∃ r_1 : Nat, ∃ r_2 : Nat, ∃ r_3 : Nat, v425 = (.agg #[(Fl r1), (Fl r3), (Fl r5), (Fl r_1), (Fl r_2), (Fl r_3)]) ∧ cf .f32 r_1 = (V3.mk (cf .f32 r93) (cf .f32 r405) (cf .f32 r97)).x ∧ cf .f32 r_2 = (V3.mk (cf .f32 r93) (cf .f32 r405) (cf .f32 r97)).y ∧ cf .f32 r_3 = (V3.mk (cf .f32 r93) (cf .f32 r405) (cf .f32 r97)).z := hF.2.1
   clear hF
   refine doesG_un rfl ?_
   obtain ⟨b10_, rfl, hb10_, hB10_⟩ := h10_
   obtain ⟨r65_1, r65_3, r65_5, rfl, h65_2, h65_4, h65_6⟩ := h65_
   refine (does_store (n := 6) (cs := [(Fl 0), (Fl 0), (Fl 0), (Fl 0), (Fl 0), (Fl 0)]) (u := (.agg #[(Fl r1), (Fl r3), (Fl r5), (Fl r65_1), (Fl r65_3), (Fl r65_5)])) (ev rfl) (ev rfl) Try.sizeOf29 rfl hB10_ (Nat.le_of_ble_eq_true rfl) rfl).mono ?_; rintro _ _ ⟨rfl, hW, hB⟩
   exact ⟨⟨rfl, _, r65_1, r65_3, r65_5, rfl, hb10_, hB, (by simp only [h65_2, h65_4, h65_6]), (by simp only [h65_2, h65_4, h65_6]), (by simp only [h65_2, h65_4, h65_6])⟩, _, rfl, hb10_, KpL.of_wr hW⟩
  refine RW4_fin ?_; intro w434 E435 hP436 hND; replace E435 : KpL [] _ _ := E435
  obtain ⟨⟨⟨⟨⟨⟨⟨⟨⟨⟨⟨⟨⟨-, -⟩, -⟩, -⟩, -⟩, -⟩, -⟩, -⟩, -⟩, -⟩, q437⟩, -⟩, q438⟩, q439⟩ := hP436
  have X440 := Below.kl X420 E435 all0 (Nat.le_refl _)
  obtain ⟨_, b441, r445, r446, r447, hv442, hb443, hB444, h448, h449, h450⟩ := q439 rfl; subst hv442
  have n451 : b14 < b441 := Nat.lt_of_lt_of_le (Blk.lt (((((((((((((((((hB16.ext E24).ext E32).ext E40).ext E68).kl E80 nin0).wr W114 (Nat.ne_of_lt n102)).wr W118 (Nat.ne_of_lt n109)).ext E130).ext E149).ext E160).ext E179).ext E190).ext E209).ext E385).ext E401).wr W408 (Nat.ne_of_lt n102)).wr W412 (Nat.ne_of_lt n109))) hb443
  have n452 : b21 < b441 := Nat.lt_of_lt_of_le (Blk.lt ((((((((((((((((hB23.ext E32).ext E40).ext E68).kl E80 nin0).wr W114 (Nat.ne_of_lt n103)).wr W118 (Nat.ne_of_lt n110)).ext E130).ext E149).ext E160).ext E179).ext E190).ext E209).ext E385).ext E401).wr W408 (Nat.ne_of_lt n103)).wr W412 (Nat.ne_of_lt n110))) hb443
  have n453 : b29 < b441 := Nat.lt_of_lt_of_le (Blk.lt (((((((((((((((hB31.ext E40).ext E68).kl E80 nin0).wr W114 (Nat.ne_of_lt n104)).wr W118 (Nat.ne_of_lt n111)).ext E130).ext E149).ext E160).ext E179).ext E190).ext E209).ext E385).ext E401).wr W408 (Nat.ne_of_lt n104)).wr W412 (Nat.ne_of_lt n111))) hb443
  have n454 : b99 < b441 := Nat.lt_of_lt_of_le (Blk.lt (hB409.wr W412 (Ne.symm n113))) hb443
  have n455 : b106 < b441 := Nat.lt_of_lt_of_le (Blk.lt hB413) hb443
  have g456 : w.heap.size ≤ b441 := Nat.le_trans (Below.size X415) hb443
  have q437 : ∃ r_1 : Nat, ∃ r_2 : Nat, ∃ r_3 : Nat, v430 = (.agg #[(Fl r_1), (Fl r_2), (Fl r_3), (Fl r7), (Fl r9), (Fl r11)]) ∧ cf .f32 r_1 = (V3.mk (cf .f32 r87) (cf .f32 r405) (cf .f32 r91)).x ∧ cf .f32 r_2 = (V3.mk (cf .f32 r87) (cf .f32 r405) (cf .f32 r91)).y ∧ cf .f32 r_3 = (V3.mk (cf .f32 r87) (cf .f32 r405) (cf .f32 r91)).z := q437 rfl
  obtain ⟨r457, r459, r461, rfl, h458, h460, h462⟩ := q437
  have q438 : ∃ b : Nat, v432 = .pointer (some ⟨b, 0, none⟩) ∧ w414.heap.size ≤ b ∧ Blk w434 b [(Fl 0), (Fl 0), (Fl 0), (Fl 0), (Fl 0), (Fl 0)] := q438 rfl
  obtain ⟨b463, rfl, hb464, hB465⟩ := q438
  have n466 : b14 < b463 := Nat.lt_of_lt_of_le (Blk.lt (((((((((((((((((hB16.ext E24).ext E32).ext E40).ext E68).kl E80 nin0).wr W114 (Nat.ne_of_lt n102)).wr W118 (Nat.ne_of_lt n109)).ext E130).ext E149).ext E160).ext E179).ext E190).ext E209).ext E385).ext E401).wr W408 (Nat.ne_of_lt n102)).wr W412 (Nat.ne_of_lt n109))) hb464
  have n467 : b21 < b463 := Nat.lt_of_lt_of_le (Blk.lt ((((((((((((((((hB23.ext E32).ext E40).ext E68).kl E80 nin0).wr W114 (Nat.ne_of_lt n103)).wr W118 (Nat.ne_of_lt n110)).ext E130).ext E149).ext E160).ext E179).ext E190).ext E209).ext E385).ext E401).wr W408 (Nat.ne_of_lt n103)).wr W412 (Nat.ne_of_lt n110))) hb464
  have n468 : b29 < b463 := Nat.lt_of_lt_of_le (Blk.lt (((((((((((((((hB31.ext E40).ext E68).kl E80 nin0).wr W114 (Nat.ne_of_lt n104)).wr W118 (Nat.ne_of_lt n111)).ext E130).ext E149).ext E160).ext E179).ext E190).ext E209).ext E385).ext E401).wr W408 (Nat.ne_of_lt n104)).wr W412 (Nat.ne_of_lt n111))) hb464
  have n469 : b99 < b463 := Nat.lt_of_lt_of_le (Blk.lt (hB409.wr W412 (Ne.symm n113))) hb464
  have n470 : b106 < b463 := Nat.lt_of_lt_of_le (Blk.lt hB413) hb464
  have g471 : w.heap.size ≤ b463 := Nat.le_trans (Below.size X415) hb464
  have n472 : b463 ≠ b441 := by intro h; subst h; simp at hND
  clear hND
  show wpList _ _ _ _ (fr [_, _, _, _, _, _, _, _, _, _, _, _, _, _, _, _, _, _, _, _, _, _, _, _, _, _, _, _, _, _, _, _, _, _, _, _, _, _, _, _, _, _, _, _, _, _, _, _, _, _, _, _, _, _, _, _, _, _, _, _, _, _, _, _, _, _, _, _, _, _, _, _, _, _, _, _, _, _, _, _, _, _, _]) _
  refine seqn rfl rfl (does_store (n := 6) (cs := [(Fl 0), (Fl 0), (Fl 0), (Fl 0), (Fl 0), (Fl 0)]) (u := (.agg #[(Fl r457), (Fl r459), (Fl r461), (Fl r7), (Fl r9), (Fl r11)])) (ev rfl) (ev rfl) Try.sizeOf29 rfl hB465 (Nat.le_of_ble_eq_true rfl) rfl) ?_; rintro _ w475 ⟨rfl, W473, hB474⟩
  change Blk _ _ [(Fl r457), (Fl r459), (Fl r461), (Fl r7), (Fl r9), (Fl r11)] at hB474
  have X476 := Below.wr X440 W473 g471
  refine wpList_nil (hK416 _ _ ?_)
  refine wp_seq_k fun K477 hK477 => ?_
  refine wp_seq_k fun K478 hK478 => ?_
  obtain ⟨β6, hβ6⟩ : ∃ b : Bool, b = (isBox (Bx.mk A_b.lo (V3.mk (cf .f32 r93) (cf .f32 r405) (cf .f32 r97)))) := ⟨_, rfl⟩
  obtain ⟨β7, hβ7⟩ : ∃ b : Bool, b = (isBox (Bx.mk (V3.mk (cf .f32 r457) (cf .f32 r459) (cf .f32 r461)) A_b.hi)) := ⟨_, rfl⟩
  refine region_text (
   [Fact.pure [] (fun v => v = (.agg #[(Fl r1), (Fl r3), (Fl r5), (Fl r445), (Fl r446), (Fl r447)])),
  Fact.pure [71] (fun v => v = (Bo β6)),
  Fact.pure [72] (fun v => v = (Bo (!β6))),
  Fact.pure [73] (fun v => v = (Bo (!β6))),
  Fact.pure [74] (fun v => (!β6) = false → v = (.agg #[(Fl r457), (Fl r459), (Fl r461), (Fl r7), (Fl r9), (Fl r11)])),
  Fact.pure [75, 74] (fun v => (!β6) = false → v = (Bo β7)),
  Fact.pure [76, 74] (fun v => (!β6) = false → v = (Bo (!β7))),
  Fact.pure [74, 77] (fun v => v = (Bo ((!β6) || (!β7))))]) (by simp [Fact.pure, Fact.mem]) ?_
  refine RW_d _ rfl (fun v => by dsimp only [List.set]; try rfl) (fun u hu hF => ?_) (fun v479 => ?_)
  ·clear hF
   refine doesG_un rfl ?_
   refine (does_loadAgg (cs := [(Fl r1), (Fl r3), (Fl r5), (Fl r445), (Fl r446), (Fl r447)]) (ev rfl) Try.isAgg29 Try.sizeOf29 (Blk.cells ((hB444.wr W473 (Ne.symm n472)).ext hu)) rfl).mono ?_; rintro _ _ ⟨rfl, rfl⟩
   exact ⟨rfl, Ext.refl _⟩
  refine RW_d _ rfl (fun v => by dsimp only [List.set]; try rfl) (fun u hu hF => ?_) (fun v480 => ?_)
  ·have h71_ : v479 = (.agg #[(Fl r1), (Fl r3), (Fl r5), (Fl r445), (Fl r446), (Fl r447)]) := hF.1
   clear hF
   refine doesG_un rfl ?_
   obtain rfl := h71_
   refine (does_call (args := #[(.agg #[(Fl r1), (Fl r3), (Fl r5), (Fl r445), (Fl r446), (Fl r447)])]) cal11 (evs rfl) (c_impl_ValidBox [(Fl r1), (Fl r3), (Fl r5), (Fl r445), (Fl r446), (Fl r447)] (Bx.mk A_b.lo (V3.mk (cf .f32 r93) (cf .f32 r405) (cf .f32 r97))) _ ⟨r1, r3, r5, r445, r446, r447, rfl, h2, h4, h6, h448, h449, h450⟩)).mono ?_; rintro v u' ⟨hx, hv⟩
   exact ⟨hv.trans (by simp only [hβ6]), hx⟩
  refine RW_d _ rfl (fun v => by dsimp only [List.set]; try rfl) (fun u hu hF => ?_) (fun v481 => ?_)
  ·have h72_ : v480 = (Bo β6) := hF.1
   clear hF
   refine doesG_un rfl ?_
   obtain rfl := h72_
   refine (does_not (ev rfl)).mono ?_; rintro _ _ ⟨rfl, rfl⟩
   exact ⟨rfl, Ext.refl _⟩
  refine RW_d _ rfl (fun v => by dsimp only [List.set]; try rfl) (fun u hu hF => ?_) (fun v482 => ?_)
  ·have h73_ : v481 = (Bo (!β6)) := hF.1
   clear hF
   refine doesG_un rfl ?_
   obtain rfl := h73_
   refine (does_move (u := (Bo (!β6))) (ev rfl)).mono ?_; rintro _ _ ⟨rfl, rfl⟩
   exact ⟨rfl, Ext.refl _⟩
  refine RW_d _ rfl (fun v => by dsimp only [List.set]; try rfl) (fun u hu hF => ?_) (fun v483 => ?_)
  ·have h74_ : v482 = (Bo (!β6)) := hF.1
   clear hF
   obtain rfl := h74_
   refine doesG_g (b := (!β6)) rfl (yld rfl rfl) (fun hg1 => ?_) (fun hc => ⟨fun hg1 => absurd hg1 hc, Ext.refl _⟩)
   refine (does_loadAgg (cs := [(Fl r457), (Fl r459), (Fl r461), (Fl r7), (Fl r9), (Fl r11)]) (ev rfl) Try.isAgg29 Try.sizeOf29 (Blk.cells (hB474.ext hu)) rfl).mono ?_; rintro _ _ ⟨rfl, rfl⟩
   exact ⟨fun _ => rfl, Ext.refl _⟩
  refine RW_d _ rfl (fun v => by dsimp only [List.set]; try rfl) (fun u hu hF => ?_) (fun v484 => ?_)
  ·have h75_ : (!β6) = false → v483 = (.agg #[(Fl r457), (Fl r459), (Fl r461), (Fl r7), (Fl r9), (Fl r11)]) := hF.1
   have h74_ : v482 = (Bo (!β6)) := hF.2.1
   clear hF
   obtain rfl := h74_
   refine doesG_g (b := (!β6)) rfl (yld rfl rfl) (fun hg1 => ?_) (fun hc => ⟨fun hg1 => absurd hg1 hc, Ext.refl _⟩)
   obtain rfl := h75_ hg1
   refine (does_call (args := #[(.agg #[(Fl r457), (Fl r459), (Fl r461), (Fl r7), (Fl r9), (Fl r11)])]) cal11 (evs rfl) (c_impl_ValidBox [(Fl r457), (Fl r459), (Fl r461), (Fl r7), (Fl r9), (Fl r11)] (Bx.mk (V3.mk (cf .f32 r457) (cf .f32 r459) (cf .f32 r461)) A_b.hi) _ ⟨r457, r459, r461, r7, r9, r11, rfl, rfl, rfl, rfl, h8, h10, h12⟩)).mono ?_; rintro v u' ⟨hx, hv⟩
   exact ⟨fun _ => hv.trans (by simp only [hβ7]), hx⟩
  refine RW_d _ rfl (fun v => by dsimp only [List.set]; try rfl) (fun u hu hF => ?_) (fun v485 => ?_)
  ·have h76_ : (!β6) = false → v484 = (Bo β7) := hF.1
   have h74_ : v482 = (Bo (!β6)) := hF.2.1
   clear hF
   obtain rfl := h74_
   refine doesG_g (b := (!β6)) rfl (yld rfl rfl) (fun hg1 => ?_) (fun hc => ⟨fun hg1 => absurd hg1 hc, Ext.refl _⟩)
   obtain rfl := h76_ hg1
   refine (does_not (ev rfl)).mono ?_; rintro _ _ ⟨rfl, rfl⟩
   exact ⟨fun _ => rfl, Ext.refl _⟩
  refine RW_d _ rfl (fun v => by dsimp only [List.set]; try rfl) (fun u hu hF => ?_) (fun v486 => ?_)
  ·have h74_ : v482 = (Bo (!β6)) := hF.1
   have h77_ : (!β6) = false → v485 = (Bo (!β7)) := hF.2.1
   clear hF
   refine doesG_un rfl ?_
   skip
   obtain rfl := h74_
   refine (does_pick (b := (!β6)) (u := (Bo true)) (v := v485) (ev rfl) (ev rfl) (ev rfl)).mono ?_; rintro _ _ ⟨rfl, rfl⟩; refine ⟨?_, Ext.refl _⟩; skip
   cases hbb : (!β6)
   all_goals first | (show _ = _; simp only [↓reduceIte, Bool.true_and, Bool.false_and, Bool.true_or, Bool.false_or, Bool.false_eq_true]; done) | (have e_ := h77_ hbb; subst e_; show _ = _; simp only [↓reduceIte, Bool.true_and, Bool.false_and, Bool.true_or, Bool.false_or, Bool.false_eq_true]; done) | rfl | (have e_ := h77_ hbb; subst e_; rfl) | (simp [hbb] at h77_ ⊢; first | done | rfl | (subst h77_; rfl) | simp_all) | (simp [hbb] at h77_ ⊢; done)
  refine RW_fin ?_; intro w487 E488 hP489
  obtain ⟨⟨⟨⟨⟨⟨⟨⟨-, -⟩, -⟩, -⟩, -⟩, -⟩, -⟩, -⟩, q490⟩ := hP489
  have X491 := Ext.gr X476 E488
  have q490 : v486 = (Bo ((!β6) || (!β7))) := q490
  obtain rfl := q490
  show wpList _ _ _ _ (fr [_, _, _, _, _, _, _, _, _, _, _, _, _, _, _, _, _, _, _, _, _, _, _, _, _, _, _, _, _, _, _, _, _, _, _, _, _, _, _, _, _, _, _, _, _, _, _, _, _, _, _, _, _, _, _, _, _, _, _, _, _, _, _, _, _, _, _, _, _, _, _, _, _, _, _, _, _, _, _, _, _, _, _]) _
  refine wpList_nil (hK478 _ _ ?_)
  refine wp_cond_split (t := (!β6) || (!β7)) (ev rfl) (fun c492 => ?_) (fun c492 => ?_)
  ·have c492' := c492
   (try simp only [hβ1, hβ2, hβ3, hβ6, hβ7] at c492')
   (try simp only [icmp, Bool.and_eq_true, Bool.or_eq_true, Bool.and_eq_false_iff, Bool.or_eq_false_iff, Bool.not_eq_true', Bool.not_eq_false', decide_eq_true_eq, decide_eq_false_iff_not, beq_iff_eq, bne_iff_ne, beq_eq_false_iff_ne, bne_eq_false_iff_eq] at c492')
   first | have hax : axB A_b = 0 := by (simp only [axB, gtF, dimB, pickV_0, pickV_1, pickV_2, c43, c153, c183, c213, c492, if_true, if_false, Bool.false_eq_true, ↓reduceIte]; done) | have hax : axB A_b = 1 := by (simp only [axB, gtF, dimB, pickV_0, pickV_1, pickV_2, c43, c153, c183, c213, c492, if_true, if_false, Bool.false_eq_true, ↓reduceIte]; done) | have hax : axB A_b = 2 := by (simp only [axB, gtF, dimB, pickV_0, pickV_1, pickV_2, c43, c153, c183, c213, c492, if_true, if_false, Bool.false_eq_true, ↓reduceIte]; done)
   have hsf : splitOk A_b = false := splitOk_1 (by simp only [h2, h4, h6, h8, h10, h12, h88, h90, h92, h94, h96, h98, hβ1, hβ2, hβ3, h406, h448, h449, h450, h458, h460, h462, hβ6, hβ7, half_two] at c492'; simp only [oneB, twoB, midB, dimB, hax, half_two, pickV_0, pickV_1, pickV_2, setV_0, setV_1, setV_2]; exact c492')
   refine wp_seq_k fun K493 hK493 => ?_
   refine wp_region_lit ?_
   refine q_is rfl rfl (does_build (parts' := []) (cells := #[(Fl 0), (Fl 0), (Fl 0), (Fl 0), (Fl 0), (Fl 0)]) (evp rfl) (by kernel_rfl)) (by dsimp only [List.set]; try rfl) ?_
   refine q_is rfl rfl (does_build (parts' := []) (cells := #[(Fl 0), (Fl 0), (Fl 0), (Fl 0), (Fl 0), (Fl 0)]) (evp rfl) (by kernel_rfl)) (by dsimp only [List.set]; try rfl) ?_
   refine seqn rfl rfl (does_store (n := 6) (cs := [(Fl 0), (Fl 0), (Fl 0), (Fl 0), (Fl 0), (Fl 0)]) (u := (.agg #[(Fl 0), (Fl 0), (Fl 0), (Fl 0), (Fl 0), (Fl 0)])) (ev rfl) (ev rfl) Try.sizeOf29 rfl ((((((((((((((((((((hB23.ext E32).ext E40).ext E68).kl E80 nin0).wr W114 (Nat.ne_of_lt n103)).wr W118 (Nat.ne_of_lt n110)).ext E130).ext E149).ext E160).ext E179).ext E190).ext E209).ext E385).ext E401).wr W408 (Nat.ne_of_lt n103)).wr W412 (Nat.ne_of_lt n110)).ext E418).kl E435 nin0).wr W473 (Nat.ne_of_lt n467)).ext E488) (Nat.le_of_ble_eq_true rfl) rfl) ?_; rintro _ w496 ⟨rfl, W494, hB495⟩
   change Blk _ _ [(Fl 0), (Fl 0), (Fl 0), (Fl 0), (Fl 0), (Fl 0)] at hB495
   have X497 := Below.wr X491 W494 g27
   refine seqn rfl rfl (does_store (n := 6) (cs := [(Fl 0), (Fl 0), (Fl 0), (Fl 0), (Fl 0), (Fl 0)]) (u := (.agg #[(Fl 0), (Fl 0), (Fl 0), (Fl 0), (Fl 0), (Fl 0)])) (ev rfl) (ev rfl) Try.sizeOf29 rfl ((((((((((((((((((((hB31.ext E40).ext E68).kl E80 nin0).wr W114 (Nat.ne_of_lt n104)).wr W118 (Nat.ne_of_lt n111)).ext E130).ext E149).ext E160).ext E179).ext E190).ext E209).ext E385).ext E401).wr W408 (Nat.ne_of_lt n104)).wr W412 (Nat.ne_of_lt n111)).ext E418).kl E435 nin0).wr W473 (Nat.ne_of_lt n468)).ext E488).wr W494 (Nat.ne_of_gt n35)) (Nat.le_of_ble_eq_true rfl) rfl) ?_; rintro _ w500 ⟨rfl, W498, hB499⟩
   change Blk _ _ [(Fl 0), (Fl 0), (Fl 0), (Fl 0), (Fl 0), (Fl 0)] at hB499
   have X501 := Below.wr X497 W498 g36
   refine q_is rfl rfl (does_assign (u := (Bo false)) (ev rfl)) (by dsimp only [List.set]; try rfl) ?_
   refine wpList_nil (hK493 _ _ ?_)
   refine wp_ret ?_
   dsimp only [Exit.then, Exit.inBlock]
   refine ret_val (v := (.tuple #[(.agg #[(Fl 0), (Fl 0), (Fl 0), (Fl 0), (Fl 0), (Fl 0)]), (.agg #[(Fl 0), (Fl 0), (Fl 0), (Fl 0), (Fl 0), (Fl 0)]), (Bo false)])) (res_CCT rfl (slot rfl) (run_loadAgg (cs := [(Fl 0), (Fl 0), (Fl 0), (Fl 0), (Fl 0), (Fl 0)]) Try.isAgg29 Try.sizeOf29 (Blk.cells (hB495.wr W498 (Nat.ne_of_lt n35))) rfl) (slot rfl) (run_loadAgg (cs := [(Fl 0), (Fl 0), (Fl 0), (Fl 0), (Fl 0), (Fl 0)]) Try.isAgg29 Try.sizeOf29 (Blk.cells hB499) rfl) (slot rfl)) X501 ?_
   try simp only [h2, h4, h6, h8, h10, h12, h88, h90, h92, h94, h96, h98, hβ1, hβ2, hβ3, h406, h448, h449, h450, h458, h460, h462, hβ6, hβ7] at c43 c153 c183 c213 c492
   have x502 : (splitOk A_b) = false := by first | exact hsf | exact hst | (rw [hsf] <;> rfl) | (rw [hst, gvB_t]; first | rfl | assumption | (simp only [oneB, twoB, midB, dimB, hax, half_two, pickV_0, pickV_1, pickV_2, setV_0, setV_1, setV_2, h2, h4, h6, h8, h10, h12, h88, h90, h92, h94, h96, h98, hβ1, hβ2, hβ3, h406, h448, h449, h450, h458, h460, h462, hβ6, hβ7, c43, c153, c183, c213, c492]; done) | (simp only [oneB, twoB, midB, dimB, hax, half_two, pickV_0, pickV_1, pickV_2, setV_0, setV_1, setV_2, h2, h4, h6, h8, h10, h12, h88, h90, h92, h94, h96, h98, hβ1, hβ2, hβ3, h406, h448, h449, h450, h458, h460, h462, hβ6, hβ7, c43, c153, c183, c213, c492]; rfl))
   have x503 : cf .f32 0 = (gvB (splitOk A_b) (oneB A_b)).lo.x := by first | exact hsf | exact hst | (rw [hsf] <;> rfl) | (rw [hst, gvB_t]; first | rfl | assumption | (simp only [oneB, twoB, midB, dimB, hax, half_two, pickV_0, pickV_1, pickV_2, setV_0, setV_1, setV_2, h2, h4, h6, h8, h10, h12, h88, h90, h92, h94, h96, h98, hβ1, hβ2, hβ3, h406, h448, h449, h450, h458, h460, h462, hβ6, hβ7, c43, c153, c183, c213, c492]; done) | (simp only [oneB, twoB, midB, dimB, hax, half_two, pickV_0, pickV_1, pickV_2, setV_0, setV_1, setV_2, h2, h4, h6, h8, h10, h12, h88, h90, h92, h94, h96, h98, hβ1, hβ2, hβ3, h406, h448, h449, h450, h458, h460, h462, hβ6, hβ7, c43, c153, c183, c213, c492]; rfl))
   have x504 : cf .f32 0 = (gvB (splitOk A_b) (oneB A_b)).lo.y := by first | exact hsf | exact hst | (rw [hsf] <;> rfl) | (rw [hst, gvB_t]; first | rfl | assumption | (simp only [oneB, twoB, midB, dimB, hax, half_two, pickV_0, pickV_1, pickV_2, setV_0, setV_1, setV_2, h2, h4, h6, h8, h10, h12, h88, h90, h92, h94, h96, h98, hβ1, hβ2, hβ3, h406, h448, h449, h450, h458, h460, h462, hβ6, hβ7, c43, c153, c183, c213, c492]; done) | (simp only [oneB, twoB, midB, dimB, hax, half_two, pickV_0, pickV_1, pickV_2, setV_0, setV_1, setV_2, h2, h4, h6, h8, h10, h12, h88, h90, h92, h94, h96, h98, hβ1, hβ2, hβ3, h406, h448, h449, h450, h458, h460, h462, hβ6, hβ7, c43, c153, c183, c213, c492]; rfl))
   have x505 : cf .f32 0 = (gvB (splitOk A_b) (oneB A_b)).lo.z := by first | exact hsf | exact hst | (rw [hsf] <;> rfl) | (rw [hst, gvB_t]; first | rfl | assumption | (simp only [oneB, twoB, midB, dimB, hax, half_two, pickV_0, pickV_1, pickV_2, setV_0, setV_1, setV_2, h2, h4, h6, h8, h10, h12, h88, h90, h92, h94, h96, h98, hβ1, hβ2, hβ3, h406, h448, h449, h450, h458, h460, h462, hβ6, hβ7, c43, c153, c183, c213, c492]; done) | (simp only [oneB, twoB, midB, dimB, hax, half_two, pickV_0, pickV_1, pickV_2, setV_0, setV_1, setV_2, h2, h4, h6, h8, h10, h12, h88, h90, h92, h94, h96, h98, hβ1, hβ2, hβ3, h406, h448, h449, h450, h458, h460, h462, hβ6, hβ7, c43, c153, c183, c213, c492]; rfl))
   have x506 : cf .f32 0 = (gvB (splitOk A_b) (oneB A_b)).hi.x := by first | exact hsf | exact hst | (rw [hsf] <;> rfl) | (rw [hst, gvB_t]; first | rfl | assumption | (simp only [oneB, twoB, midB, dimB, hax, half_two, pickV_0, pickV_1, pickV_2, setV_0, setV_1, setV_2, h2, h4, h6, h8, h10, h12, h88, h90, h92, h94, h96, h98, hβ1, hβ2, hβ3, h406, h448, h449, h450, h458, h460, h462, hβ6, hβ7, c43, c153, c183, c213, c492]; done) | (simp only [oneB, twoB, midB, dimB, hax, half_two, pickV_0, pickV_1, pickV_2, setV_0, setV_1, setV_2, h2, h4, h6, h8, h10, h12, h88, h90, h92, h94, h96, h98, hβ1, hβ2, hβ3, h406, h448, h449, h450, h458, h460, h462, hβ6, hβ7, c43, c153, c183, c213, c492]; rfl))
   have x507 : cf .f32 0 = (gvB (splitOk A_b) (oneB A_b)).hi.y := by first | exact hsf | exact hst | (rw [hsf] <;> rfl) | (rw [hst, gvB_t]; first | rfl | assumption | (simp only [oneB, twoB, midB, dimB, hax, half_two, pickV_0, pickV_1, pickV_2, setV_0, setV_1, setV_2, h2, h4, h6, h8, h10, h12, h88, h90, h92, h94, h96, h98, hβ1, hβ2, hβ3, h406, h448, h449, h450, h458, h460, h462, hβ6, hβ7, c43, c153, c183, c213, c492]; done) | (simp only [oneB, twoB, midB, dimB, hax, half_two, pickV_0, pickV_1, pickV_2, setV_0, setV_1, setV_2, h2, h4, h6, h8, h10, h12, h88, h90, h92, h94, h96, h98, hβ1, hβ2, hβ3, h406, h448, h449, h450, h458, h460, h462, hβ6, hβ7, c43, c153, c183, c213, c492]; rfl))
   have x508 : cf .f32 0 = (gvB (splitOk A_b) (oneB A_b)).hi.z := by first | exact hsf | exact hst | (rw [hsf] <;> rfl) | (rw [hst, gvB_t]; first | rfl | assumption | (simp only [oneB, twoB, midB, dimB, hax, half_two, pickV_0, pickV_1, pickV_2, setV_0, setV_1, setV_2, h2, h4, h6, h8, h10, h12, h88, h90, h92, h94, h96, h98, hβ1, hβ2, hβ3, h406, h448, h449, h450, h458, h460, h462, hβ6, hβ7, c43, c153, c183, c213, c492]; done) | (simp only [oneB, twoB, midB, dimB, hax, half_two, pickV_0, pickV_1, pickV_2, setV_0, setV_1, setV_2, h2, h4, h6, h8, h10, h12, h88, h90, h92, h94, h96, h98, hβ1, hβ2, hβ3, h406, h448, h449, h450, h458, h460, h462, hβ6, hβ7, c43, c153, c183, c213, c492]; rfl))
   have x509 : cf .f32 0 = (gvB (splitOk A_b) (twoB A_b)).lo.x := by first | exact hsf | exact hst | (rw [hsf] <;> rfl) | (rw [hst, gvB_t]; first | rfl | assumption | (simp only [oneB, twoB, midB, dimB, hax, half_two, pickV_0, pickV_1, pickV_2, setV_0, setV_1, setV_2, h2, h4, h6, h8, h10, h12, h88, h90, h92, h94, h96, h98, hβ1, hβ2, hβ3, h406, h448, h449, h450, h458, h460, h462, hβ6, hβ7, c43, c153, c183, c213, c492]; done) | (simp only [oneB, twoB, midB, dimB, hax, half_two, pickV_0, pickV_1, pickV_2, setV_0, setV_1, setV_2, h2, h4, h6, h8, h10, h12, h88, h90, h92, h94, h96, h98, hβ1, hβ2, hβ3, h406, h448, h449, h450, h458, h460, h462, hβ6, hβ7, c43, c153, c183, c213, c492]; rfl))
   have x510 : cf .f32 0 = (gvB (splitOk A_b) (twoB A_b)).lo.y := by first | exact hsf | exact hst | (rw [hsf] <;> rfl) | (rw [hst, gvB_t]; first | rfl | assumption | (simp only [oneB, twoB, midB, dimB, hax, half_two, pickV_0, pickV_1, pickV_2, setV_0, setV_1, setV_2, h2, h4, h6, h8, h10, h12, h88, h90, h92, h94, h96, h98, hβ1, hβ2, hβ3, h406, h448, h449, h450, h458, h460, h462, hβ6, hβ7, c43, c153, c183, c213, c492]; done) | (simp only [oneB, twoB, midB, dimB, hax, half_two, pickV_0, pickV_1, pickV_2, setV_0, setV_1, setV_2, h2, h4, h6, h8, h10, h12, h88, h90, h92, h94, h96, h98, hβ1, hβ2, hβ3, h406, h448, h449, h450, h458, h460, h462, hβ6, hβ7, c43, c153, c183, c213, c492]; rfl))
   have x511 : cf .f32 0 = (gvB (splitOk A_b) (twoB A_b)).lo.z := by first | exact hsf | exact hst | (rw [hsf] <;> rfl) | (rw [hst, gvB_t]; first | rfl | assumption | (simp only [oneB, twoB, midB, dimB, hax, half_two, pickV_0, pickV_1, pickV_2, setV_0, setV_1, setV_2, h2, h4, h6, h8, h10, h12, h88, h90, h92, h94, h96, h98, hβ1, hβ2, hβ3, h406, h448, h449, h450, h458, h460, h462, hβ6, hβ7, c43, c153, c183, c213, c492]; done) | (simp only [oneB, twoB, midB, dimB, hax, half_two, pickV_0, pickV_1, pickV_2, setV_0, setV_1, setV_2, h2, h4, h6, h8, h10, h12, h88, h90, h92, h94, h96, h98, hβ1, hβ2, hβ3, h406, h448, h449, h450, h458, h460, h462, hβ6, hβ7, c43, c153, c183, c213, c492]; rfl))
   have x512 : cf .f32 0 = (gvB (splitOk A_b) (twoB A_b)).hi.x := by first | exact hsf | exact hst | (rw [hsf] <;> rfl) | (rw [hst, gvB_t]; first | rfl | assumption | (simp only [oneB, twoB, midB, dimB, hax, half_two, pickV_0, pickV_1, pickV_2, setV_0, setV_1, setV_2, h2, h4, h6, h8, h10, h12, h88, h90, h92, h94, h96, h98, hβ1, hβ2, hβ3, h406, h448, h449, h450, h458, h460, h462, hβ6, hβ7, c43, c153, c183, c213, c492]; done) | (simp only [oneB, twoB, midB, dimB, hax, half_two, pickV_0, pickV_1, pickV_2, setV_0, setV_1, setV_2, h2, h4, h6, h8, h10, h12, h88, h90, h92, h94, h96, h98, hβ1, hβ2, hβ3, h406, h448, h449, h450, h458, h460, h462, hβ6, hβ7, c43, c153, c183, c213, c492]; rfl))
   have x513 : cf .f32 0 = (gvB (splitOk A_b) (twoB A_b)).hi.y := by first | exact hsf | exact hst | (rw [hsf] <;> rfl) | (rw [hst, gvB_t]; first | rfl | assumption | (simp only [oneB, twoB, midB, dimB, hax, half_two, pickV_0, pickV_1, pickV_2, setV_0, setV_1, setV_2, h2, h4, h6, h8, h10, h12, h88, h90, h92, h94, h96, h98, hβ1, hβ2, hβ3, h406, h448, h449, h450, h458, h460, h462, hβ6, hβ7, c43, c153, c183, c213, c492]; done) | (simp only [oneB, twoB, midB, dimB, hax, half_two, pickV_0, pickV_1, pickV_2, setV_0, setV_1, setV_2, h2, h4, h6, h8, h10, h12, h88, h90, h92, h94, h96, h98, hβ1, hβ2, hβ3, h406, h448, h449, h450, h458, h460, h462, hβ6, hβ7, c43, c153, c183, c213, c492]; rfl))
   have x514 : cf .f32 0 = (gvB (splitOk A_b) (twoB A_b)).hi.z := by first | exact hsf | exact hst | (rw [hsf] <;> rfl) | (rw [hst, gvB_t]; first | rfl | assumption | (simp only [oneB, twoB, midB, dimB, hax, half_two, pickV_0, pickV_1, pickV_2, setV_0, setV_1, setV_2, h2, h4, h6, h8, h10, h12, h88, h90, h92, h94, h96, h98, hβ1, hβ2, hβ3, h406, h448, h449, h450, h458, h460, h462, hβ6, hβ7, c43, c153, c183, c213, c492]; done) | (simp only [oneB, twoB, midB, dimB, hax, half_two, pickV_0, pickV_1, pickV_2, setV_0, setV_1, setV_2, h2, h4, h6, h8, h10, h12, h88, h90, h92, h94, h96, h98, hβ1, hβ2, hβ3, h406, h448, h449, h450, h458, h460, h462, hβ6, hβ7, c43, c153, c183, c213, c492]; rfl))
   exact ⟨[(Fl 0), (Fl 0), (Fl 0), (Fl 0), (Fl 0), (Fl 0)], [(Fl 0), (Fl 0), (Fl 0), (Fl 0), (Fl 0), (Fl 0)], (by first | with_reducible rfl | rw [x502] | rfl), ⟨0, 0, 0, 0, 0, 0, rfl, x503, x504, x505, x506, x507, x508⟩, ⟨0, 0, 0, 0, 0, 0, rfl, x509, x510, x511, x512, x513, x514⟩⟩
  have c492' := c492
  (try simp only [hβ1, hβ2, hβ3, hβ6, hβ7] at c492')
  (try simp only [icmp, Bool.and_eq_true, Bool.or_eq_true, Bool.and_eq_false_iff, Bool.or_eq_false_iff, Bool.not_eq_true', Bool.not_eq_false', decide_eq_true_eq, decide_eq_false_iff_not, beq_iff_eq, bne_iff_ne, beq_eq_false_iff_ne, bne_eq_false_iff_eq] at c492')
  first | have hax : axB A_b = 0 := by (simp only [axB, gtF, dimB, pickV_0, pickV_1, pickV_2, c43, c153, c183, c213, c492, if_true, if_false, Bool.false_eq_true, ↓reduceIte]; done) | have hax : axB A_b = 1 := by (simp only [axB, gtF, dimB, pickV_0, pickV_1, pickV_2, c43, c153, c183, c213, c492, if_true, if_false, Bool.false_eq_true, ↓reduceIte]; done) | have hax : axB A_b = 2 := by (simp only [axB, gtF, dimB, pickV_0, pickV_1, pickV_2, c43, c153, c183, c213, c492, if_true, if_false, Bool.false_eq_true, ↓reduceIte]; done)
  have hst : splitOk A_b = true := splitOk_t hs0 (by simp only [h2, h4, h6, h8, h10, h12, h88, h90, h92, h94, h96, h98, hβ1, hβ2, hβ3, h406, h448, h449, h450, h458, h460, h462, hβ6, hβ7, half_two] at c492'; simp only [oneB, twoB, midB, dimB, hax, half_two, pickV_0, pickV_1, pickV_2, setV_0, setV_1, setV_2]; exact c492')
  refine wp_skip (hK477 _ _ ?_)
  refine wp_seq_k fun K515 hK515 => ?_
  have n519 : b21 < w487.heap.size := Blk.lt ((((((((((((((((((((hB23.ext E32).ext E40).ext E68).kl E80 nin0).wr W114 (Nat.ne_of_lt n103)).wr W118 (Nat.ne_of_lt n110)).ext E130).ext E149).ext E160).ext E179).ext E190).ext E209).ext E385).ext E401).wr W408 (Nat.ne_of_lt n103)).wr W412 (Nat.ne_of_lt n110)).ext E418).kl E435 nin0).wr W473 (Nat.ne_of_lt n467)).ext E488)
  refine region_any2 [b21] [0, 0, 1, 7, 15] [0] (
   [FactW.pure [] [] [0] true (fun v => v = (.agg #[(Fl r1), (Fl r3), (Fl r5), (Fl r445), (Fl r446), (Fl r447)])),
    FactW.pure [] [0] [0] true (fun v => v = (.agg #[(Fl r457), (Fl r459), (Fl r461), (Fl r7), (Fl r9), (Fl r11)])),
    FactW.mem [0] [] [0] [] true (fun v w' => v = undef ∧ Blk w' b21 [(Fl r1), (Fl r3), (Fl r5), (Fl r445), (Fl r446), (Fl r447)]) (by rintro v w1 w2 hx ⟨rfl, h⟩; exact ⟨rfl, h.ext (KpL.toExt hx)⟩)]) mixed (by kernel_rfl) ?_
  obtain ⟨w516, hw518⟩ : ∃ w', w' = World.drew w487 := ⟨_, rfl⟩; rw [← hw518]; have E517 : Ext w487 w516 := by rw [hw518]; exact Ext.draw _
  clear hw518
  have X520 := Ext.gr X491 E517
  refine RW2_d _ rfl (fun v => by dsimp only [List.set]; try rfl) (fun u hu hF => ?_) (fun v521 => ?_)
  ·replace hu : KpL [] _ _ := hu
   clear hF
   refine doesG_un rfl ?_
   refine (does_loadAgg (cs := [(Fl r1), (Fl r3), (Fl r5), (Fl r445), (Fl r446), (Fl r447)]) (ev rfl) Try.isAgg29 Try.sizeOf29 (Blk.cells ((((hB444.wr W473 (Ne.symm n472)).ext E488).ext E517).ext (KpL.toExt hu))) rfl).mono ?_; rintro _ _ ⟨rfl, rfl⟩
   exact ⟨rfl, KpL.refl _ _⟩
  refine RW2_d _ rfl (fun v => by dsimp only [List.set]; try rfl) (fun u hu hF => ?_) (fun v522 => ?_)
  ·replace hu : KpL [b21] _ _ := hu
   clear hF
   refine doesG_un rfl ?_
   refine (does_loadAgg (cs := [(Fl r457), (Fl r459), (Fl r461), (Fl r7), (Fl r9), (Fl r11)]) (ev rfl) Try.isAgg29 Try.sizeOf29 (Blk.cells (((hB474.ext E488).ext E517).kl hu (ninS (Nat.ne_of_gt n467) nin0))) rfl).mono ?_; rintro _ _ ⟨rfl, rfl⟩
   exact ⟨rfl, KpL.refl _ _⟩
  refine RW2_n rfl (fun u hu hF => ?_) (fun v523 => ?_)
  ·replace hu : KpL [] _ _ := hu
   have h81_ : v521 = (.agg #[(Fl r1), (Fl r3), (Fl r5), (Fl r445), (Fl r446), (Fl r447)]) := hF.1
   clear hF
   refine doesG_un rfl ?_
   obtain rfl := h81_
   refine (does_store (n := 6) (cs := [(Fl 0), (Fl 0), (Fl 0), (Fl 0), (Fl 0), (Fl 0)]) (u := (.agg #[(Fl r1), (Fl r3), (Fl r5), (Fl r445), (Fl r446), (Fl r447)])) (ev rfl) (ev rfl) Try.sizeOf29 rfl ((((((((((((((((((((((hB23.ext E32).ext E40).ext E68).kl E80 nin0).wr W114 (Nat.ne_of_lt n103)).wr W118 (Nat.ne_of_lt n110)).ext E130).ext E149).ext E160).ext E179).ext E190).ext E209).ext E385).ext E401).wr W408 (Nat.ne_of_lt n103)).wr W412 (Nat.ne_of_lt n110)).ext E418).kl E435 nin0).wr W473 (Nat.ne_of_lt n467)).ext E488).ext E517).ext (KpL.toExt hu)) (Nat.le_of_ble_eq_true rfl) rfl).mono ?_; rintro _ _ ⟨rfl, hW, hB⟩
   exact ⟨⟨rfl, hB⟩, KpL.of_wr hW⟩
  refine RW2_fin ?_; intro w524 E525 hP526; replace E525 : KpL [b21] _ _ := E525
  obtain ⟨⟨⟨-, -⟩, q527⟩, q528⟩ := hP526
  have X529 := Below.kl X520 E525 (allS g27 all0) (Nat.le_refl _)
  obtain ⟨_, hB530⟩ := q528 rfl
  change Blk _ _ [(Fl r1), (Fl r3), (Fl r5), (Fl r445), (Fl r446), (Fl r447)] at hB530
  have q527 : v522 = (.agg #[(Fl r457), (Fl r459), (Fl r461), (Fl r7), (Fl r9), (Fl r11)]) := q527 rfl
  obtain rfl := q527
  show wpList _ _ _ _ (fr [_, _, _, _, _, _, _, _, _, _, _, _, _, _, _, _, _, _, _, _, _, _, _, _, _, _, _, _, _, _, _, _, _, _, _, _, _, _, _, _, _, _, _, _, _, _, _, _, _, _, _, _, _, _, _, _, _, _, _, _, _, _, _, _, _, _, _, _, _, _, _, _, _, _, _, _, _, _, _, _, _, _, _]) _
  refine seqn rfl rfl (does_store (n := 6) (cs := [(Fl 0), (Fl 0), (Fl 0), (Fl 0), (Fl 0), (Fl 0)]) (u := (.agg #[(Fl r457), (Fl r459), (Fl r461), (Fl r7), (Fl r9), (Fl r11)])) (ev rfl) (ev rfl) Try.sizeOf29 rfl (((((((((((((((((((((hB31.ext E40).ext E68).kl E80 nin0).wr W114 (Nat.ne_of_lt n104)).wr W118 (Nat.ne_of_lt n111)).ext E130).ext E149).ext E160).ext E179).ext E190).ext E209).ext E385).ext E401).wr W408 (Nat.ne_of_lt n104)).wr W412 (Nat.ne_of_lt n111)).ext E418).kl E435 nin0).wr W473 (Nat.ne_of_lt n468)).ext E488).ext E517).kl E525 (ninS (Nat.ne_of_gt n35) nin0)) (Nat.le_of_ble_eq_true rfl) rfl) ?_; rintro _ w533 ⟨rfl, W531, hB532⟩
  change Blk _ _ [(Fl r457), (Fl r459), (Fl r461), (Fl r7), (Fl r9), (Fl r11)] at hB532
  have X534 := Below.wr X529 W531 g36
  refine q_is rfl rfl (does_assign (u := (Bo true)) (ev rfl)) (by dsimp only [List.set]; try rfl) ?_
  refine wpList_nil (hK515 _ _ ?_)
  refine wp_ret ?_
  refine ret_val (v := (.tuple #[(.agg #[(Fl r1), (Fl r3), (Fl r5), (Fl r445), (Fl r446), (Fl r447)]), (.agg #[(Fl r457), (Fl r459), (Fl r461), (Fl r7), (Fl r9), (Fl r11)]), (Bo true)])) (res_CCT rfl (slot rfl) (run_loadAgg (cs := [(Fl r1), (Fl r3), (Fl r5), (Fl r445), (Fl r446), (Fl r447)]) Try.isAgg29 Try.sizeOf29 (Blk.cells (hB530.wr W531 (Nat.ne_of_lt n35))) rfl) (slot rfl) (run_loadAgg (cs := [(Fl r457), (Fl r459), (Fl r461), (Fl r7), (Fl r9), (Fl r11)]) Try.isAgg29 Try.sizeOf29 (Blk.cells hB532) rfl) (slot rfl)) X534 ?_
  try simp only [h2, h4, h6, h8, h10, h12, h88, h90, h92, h94, h96, h98, hβ1, hβ2, hβ3, h406, h448, h449, h450, h458, h460, h462, hβ6, hβ7] at c43 c153 c183 c213 c492
  have x535 : (splitOk A_b) = true := by first | exact hsf | exact hst | (rw [hsf] <;> rfl) | (rw [hst, gvB_t]; first | rfl | assumption | (simp only [oneB, twoB, midB, dimB, hax, half_two, pickV_0, pickV_1, pickV_2, setV_0, setV_1, setV_2, h2, h4, h6, h8, h10, h12, h88, h90, h92, h94, h96, h98, hβ1, hβ2, hβ3, h406, h448, h449, h450, h458, h460, h462, hβ6, hβ7, c43, c153, c183, c213, c492]; done) | (simp only [oneB, twoB, midB, dimB, hax, half_two, pickV_0, pickV_1, pickV_2, setV_0, setV_1, setV_2, h2, h4, h6, h8, h10, h12, h88, h90, h92, h94, h96, h98, hβ1, hβ2, hβ3, h406, h448, h449, h450, h458, h460, h462, hβ6, hβ7, c43, c153, c183, c213, c492]; rfl))
  have x536 : cf .f32 r1 = (gvB (splitOk A_b) (oneB A_b)).lo.x := by first | exact hsf | exact hst | (rw [hsf] <;> rfl) | (rw [hst, gvB_t]; first | rfl | assumption | (simp only [oneB, twoB, midB, dimB, hax, half_two, pickV_0, pickV_1, pickV_2, setV_0, setV_1, setV_2, h2, h4, h6, h8, h10, h12, h88, h90, h92, h94, h96, h98, hβ1, hβ2, hβ3, h406, h448, h449, h450, h458, h460, h462, hβ6, hβ7, c43, c153, c183, c213, c492]; done) | (simp only [oneB, twoB, midB, dimB, hax, half_two, pickV_0, pickV_1, pickV_2, setV_0, setV_1, setV_2, h2, h4, h6, h8, h10, h12, h88, h90, h92, h94, h96, h98, hβ1, hβ2, hβ3, h406, h448, h449, h450, h458, h460, h462, hβ6, hβ7, c43, c153, c183, c213, c492]; rfl))
  have x537 : cf .f32 r3 = (gvB (splitOk A_b) (oneB A_b)).lo.y := by first | exact hsf | exact hst | (rw [hsf] <;> rfl) | (rw [hst, gvB_t]; first | rfl | assumption | (simp only [oneB, twoB, midB, dimB, hax, half_two, pickV_0, pickV_1, pickV_2, setV_0, setV_1, setV_2, h2, h4, h6, h8, h10, h12, h88, h90, h92, h94, h96, h98, hβ1, hβ2, hβ3, h406, h448, h449, h450, h458, h460, h462, hβ6, hβ7, c43, c153, c183, c213, c492]; done) | (simp only [oneB, twoB, midB, dimB, hax, half_two, pickV_0, pickV_1, pickV_2, setV_0, setV_1, setV_2, h2, h4, h6, h8, h10, h12, h88, h90, h92, h94, h96, h98, hβ1, hβ2, hβ3, h406, h448, h449, h450, h458, h460, h462, hβ6, hβ7, c43, c153, c183, c213, c492]; rfl))
  have x538 : cf .f32 r5 = (gvB (splitOk A_b) (oneB A_b)).lo.z := by first | exact hsf | exact hst | (rw [hsf] <;> rfl) | (rw [hst, gvB_t]; first | rfl | assumption | (simp only [oneB, twoB, midB, dimB, hax, half_two, pickV_0, pickV_1, pickV_2, setV_0, setV_1, setV_2, h2, h4, h6, h8, h10, h12, h88, h90, h92, h94, h96, h98, hβ1, hβ2, hβ3, h406, h448, h449, h450, h458, h460, h462, hβ6, hβ7, c43, c153, c183, c213, c492]; done) | (simp only [oneB, twoB, midB, dimB, hax, half_two, pickV_0, pickV_1, pickV_2, setV_0, setV_1, setV_2, h2, h4, h6, h8, h10, h12, h88, h90, h92, h94, h96, h98, hβ1, hβ2, hβ3, h406, h448, h449, h450, h458, h460, h462, hβ6, hβ7, c43, c153, c183, c213, c492]; rfl))
  have x539 : cf .f32 r445 = (gvB (splitOk A_b) (oneB A_b)).hi.x := by first | exact hsf | exact hst | (rw [hsf] <;> rfl) | (rw [hst, gvB_t]; first | rfl | assumption | (simp only [oneB, twoB, midB, dimB, hax, half_two, pickV_0, pickV_1, pickV_2, setV_0, setV_1, setV_2, h2, h4, h6, h8, h10, h12, h88, h90, h92, h94, h96, h98, hβ1, hβ2, hβ3, h406, h448, h449, h450, h458, h460, h462, hβ6, hβ7, c43, c153, c183, c213, c492]; done) | (simp only [oneB, twoB, midB, dimB, hax, half_two, pickV_0, pickV_1, pickV_2, setV_0, setV_1, setV_2, h2, h4, h6, h8, h10, h12, h88, h90, h92, h94, h96, h98, hβ1, hβ2, hβ3, h406, h448, h449, h450, h458, h460, h462, hβ6, hβ7, c43, c153, c183, c213, c492]; rfl))
  have x540 : cf .f32 r446 = (gvB (splitOk A_b) (oneB A_b)).hi.y := by first | exact hsf | exact hst | (rw [hsf] <;> rfl) | (rw [hst, gvB_t]; first | rfl | assumption | (simp only [oneB, twoB, midB, dimB, hax, half_two, pickV_0, pickV_1, pickV_2, setV_0, setV_1, setV_2, h2, h4, h6, h8, h10, h12, h88, h90, h92, h94, h96, h98, hβ1, hβ2, hβ3, h406, h448, h449, h450, h458, h460, h462, hβ6, hβ7, c43, c153, c183, c213, c492]; done) | (simp only [oneB, twoB, midB, dimB, hax, half_two, pickV_0, pickV_1, pickV_2, setV_0, setV_1, setV_2, h2, h4, h6, h8, h10, h12, h88, h90, h92, h94, h96, h98, hβ1, hβ2, hβ3, h406, h448, h449, h450, h458, h460, h462, hβ6, hβ7, c43, c153, c183, c213, c492]; rfl))
  have x541 : cf .f32 r447 = (gvB (splitOk A_b) (oneB A_b)).hi.z := by first | exact hsf | exact hst | (rw [hsf] <;> rfl) | (rw [hst, gvB_t]; first | rfl | assumption | (simp only [oneB, twoB, midB, dimB, hax, half_two, pickV_0, pickV_1, pickV_2, setV_0, setV_1, setV_2, h2, h4, h6, h8, h10, h12, h88, h90, h92, h94, h96, h98, hβ1, hβ2, hβ3, h406, h448, h449, h450, h458, h460, h462, hβ6, hβ7, c43, c153, c183, c213, c492]; done) | (simp only [oneB, twoB, midB, dimB, hax, half_two, pickV_0, pickV_1, pickV_2, setV_0, setV_1, setV_2, h2, h4, h6, h8, h10, h12, h88, h90, h92, h94, h96, h98, hβ1, hβ2, hβ3, h406, h448, h449, h450, h458, h460, h462, hβ6, hβ7, c43, c153, c183, c213, c492]; rfl))
  have x542 : cf .f32 r457 = (gvB (splitOk A_b) (twoB A_b)).lo.x := by first | exact hsf | exact hst | (rw [hsf] <;> rfl) | (rw [hst, gvB_t]; first | rfl | assumption | (simp only [oneB, twoB, midB, dimB, hax, half_two, pickV_0, pickV_1, pickV_2, setV_0, setV_1, setV_2, h2, h4, h6, h8, h10, h12, h88, h90, h92, h94, h96, h98, hβ1, hβ2, hβ3, h406, h448, h449, h450, h458, h460, h462, hβ6, hβ7, c43, c153, c183, c213, c492]; done) | (simp only [oneB, twoB, midB, dimB, hax, half_two, pickV_0, pickV_1, pickV_2, setV_0, setV_1, setV_2, h2, h4, h6, h8, h10, h12, h88, h90, h92, h94, h96, h98, hβ1, hβ2, hβ3, h406, h448, h449, h450, h458, h460, h462, hβ6, hβ7, c43, c153, c183, c213, c492]; rfl))
  have x543 : cf .f32 r459 = (gvB (splitOk A_b) (twoB A_b)).lo.y := by first | exact hsf | exact hst | (rw [hsf] <;> rfl) | (rw [hst, gvB_t]; first | rfl | assumption | (simp only [oneB, twoB, midB, dimB, hax, half_two, pickV_0, pickV_1, pickV_2, setV_0, setV_1, setV_2, h2, h4, h6, h8, h10, h12, h88, h90, h92, h94, h96, h98, hβ1, hβ2, hβ3, h406, h448, h449, h450, h458, h460, h462, hβ6, hβ7, c43, c153, c183, c213, c492]; done) | (simp only [oneB, twoB, midB, dimB, hax, half_two, pickV_0, pickV_1, pickV_2, setV_0, setV_1, setV_2, h2, h4, h6, h8, h10, h12, h88, h90, h92, h94, h96, h98, hβ1, hβ2, hβ3, h406, h448, h449, h450, h458, h460, h462, hβ6, hβ7, c43, c153, c183, c213, c492]; rfl))
  have x544 : cf .f32 r461 = (gvB (splitOk A_b) (twoB A_b)).lo.z := by first | exact hsf | exact hst | (rw [hsf] <;> rfl) | (rw [hst, gvB_t]; first | rfl | assumption | (simp only [oneB, twoB, midB, dimB, hax, half_two, pickV_0, pickV_1, pickV_2, setV_0, setV_1, setV_2, h2, h4, h6, h8, h10, h12, h88, h90, h92, h94, h96, h98, hβ1, hβ2, hβ3, h406, h448, h449, h450, h458, h460, h462, hβ6, hβ7, c43, c153, c183, c213, c492]; done) | (simp only [oneB, twoB, midB, dimB, hax, half_two, pickV_0, pickV_1, pickV_2, setV_0, setV_1, setV_2, h2, h4, h6, h8, h10, h12, h88, h90, h92, h94, h96, h98, hβ1, hβ2, hβ3, h406, h448, h449, h450, h458, h460, h462, hβ6, hβ7, c43, c153, c183, c213, c492]; rfl))
  have x545 : cf .f32 r7 = (gvB (splitOk A_b) (twoB A_b)).hi.x := by first | exact hsf | exact hst | (rw [hsf] <;> rfl) | (rw [hst, gvB_t]; first | rfl | assumption | (simp only [oneB, twoB, midB, dimB, hax, half_two, pickV_0, pickV_1, pickV_2, setV_0, setV_1, setV_2, h2, h4, h6, h8, h10, h12, h88, h90, h92, h94, h96, h98, hβ1, hβ2, hβ3, h406, h448, h449, h450, h458, h460, h462, hβ6, hβ7, c43, c153, c183, c213, c492]; done) | (simp only [oneB, twoB, midB, dimB, hax, half_two, pickV_0, pickV_1, pickV_2, setV_0, setV_1, setV_2, h2, h4, h6, h8, h10, h12, h88, h90, h92, h94, h96, h98, hβ1, hβ2, hβ3, h406, h448, h449, h450, h458, h460, h462, hβ6, hβ7, c43, c153, c183, c213, c492]; rfl))
  have x546 : cf .f32 r9 = (gvB (splitOk A_b) (twoB A_b)).hi.y := by first | exact hsf | exact hst | (rw [hsf] <;> rfl) | (rw [hst, gvB_t]; first | rfl | assumption | (simp only [oneB, twoB, midB, dimB, hax, half_two, pickV_0, pickV_1, pickV_2, setV_0, setV_1, setV_2, h2, h4, h6, h8, h10, h12, h88, h90, h92, h94, h96, h98, hβ1, hβ2, hβ3, h406, h448, h449, h450, h458, h460, h462, hβ6, hβ7, c43, c153, c183, c213, c492]; done) | (simp only [oneB, twoB, midB, dimB, hax, half_two, pickV_0, pickV_1, pickV_2, setV_0, setV_1, setV_2, h2, h4, h6, h8, h10, h12, h88, h90, h92, h94, h96, h98, hβ1, hβ2, hβ3, h406, h448, h449, h450, h458, h460, h462, hβ6, hβ7, c43, c153, c183, c213, c492]; rfl))
  have x547 : cf .f32 r11 = (gvB (splitOk A_b) (twoB A_b)).hi.z := by first | exact hsf | exact hst | (rw [hsf] <;> rfl) | (rw [hst, gvB_t]; first | rfl | assumption | (simp only [oneB, twoB, midB, dimB, hax, half_two, pickV_0, pickV_1, pickV_2, setV_0, setV_1, setV_2, h2, h4, h6, h8, h10, h12, h88, h90, h92, h94, h96, h98, hβ1, hβ2, hβ3, h406, h448, h449, h450, h458, h460, h462, hβ6, hβ7, c43, c153, c183, c213, c492]; done) | (simp only [oneB, twoB, midB, dimB, hax, half_two, pickV_0, pickV_1, pickV_2, setV_0, setV_1, setV_2, h2, h4, h6, h8, h10, h12, h88, h90, h92, h94, h96, h98, hβ1, hβ2, hβ3, h406, h448, h449, h450, h458, h460, h462, hβ6, hβ7, c43, c153, c183, c213, c492]; rfl))
  exact ⟨[(Fl r1), (Fl r3), (Fl r5), (Fl r445), (Fl r446), (Fl r447)], [(Fl r457), (Fl r459), (Fl r461), (Fl r7), (Fl r9), (Fl r11)], (by first | with_reducible rfl | rw [x535] | rfl), ⟨r1, r3, r5, r445, r446, r447, rfl, x536, x537, x538, x539, x540, x541⟩, ⟨r457, r459, r461, r7, r9, r11, rfl, x542, x543, x544, x545, x546, x547⟩⟩
 have c183' := c183
 (try simp only [hβ1, hβ2] at c183')
 (try simp only [icmp, Bool.and_eq_true, Bool.or_eq_true, Bool.and_eq_false_iff, Bool.or_eq_false_iff, Bool.not_eq_true', Bool.not_eq_false', decide_eq_true_eq, decide_eq_false_iff_not, beq_iff_eq, bne_iff_ne, beq_eq_false_iff_ne, bne_eq_false_iff_eq] at c183')
 simp only [h2, h4, h6, h8, h10, h12, h88, h90, h92, h94, h96, h98, hβ1, hβ2] at c183
 refine wp_skip (hK156 _ _ ?_)
 refine wp_region_lit ?_
 refine q_is rfl rfl (does_iarith (p := 1) (q := 1) (r := (2)) (ev rfl) (ev rfl) (.inl ⟨rfl, rfl⟩)) (by dsimp only [List.set]; try rfl) ?_
 refine q_is rfl rfl (does_move (u := (Iv 2)) (ev rfl)) (by dsimp only [List.set]; try rfl) ?_
 refine wpList_nil ?_
 refine un_step ?_
 refine wp_seq_k fun K548 hK548 => ?_
 refine wp_region_lit ?_
 refine q_is rfl rfl (does_icmp (p := 2) (q := 3) (.inr (.inr (.inl rfl))) (ev rfl) (ev rfl)) (by dsimp only [List.set]; try rfl) ?_
 refine wpList_nil (hK548 _ _ ?_)
 refine wp_seq_k fun K549 hK549 => ?_
 refine wp_cond_true (ev rfl) ?_
 refine wp_skip (hK549 _ _ ?_)
 refine wp_seq_k fun K550 hK550 => ?_
 refine wp_block ?_
 refine wp_seq_k fun K551 hK551 => ?_
 refine wp_region_lit ?_
 refine q_is rfl rfl (does_move (u := (Iv 2)) (ev rfl)) (by dsimp only [List.set]; try rfl) ?_
 refine q_is rfl rfl (does_assign (u := (Iv 2)) (ev rfl)) (by dsimp only [List.set]; try rfl) ?_
 refine wpList_nil (hK551 _ _ ?_)
 refine wp_seq_k fun K552 hK552 => ?_
 obtain ⟨β8, hβ8⟩ : ∃ b : Bool, b = (fcmp .gtr (ford .f32 (fop .sub .f32 (cf .f32 r97) (cf .f32 r91)) (fop .sub .f32 (cf .f32 r93) (cf .f32 r87)))) := ⟨_, rfl⟩
 refine region_draw (
  [Fact.pure [] (fun v => v = (Iv 2)),
  Fact.pure [26] (fun v => v = (Pt b106 2)),
  Fact.pure [27] (fun v => v = (Fl r97)),
  Fact.pure [] (fun v => v = (Iv 2)),
  Fact.pure [29] (fun v => v = (Pt b99 2)),
  Fact.pure [30] (fun v => v = (Fl r91)),
  Fact.pure [28, 31] (fun v => ∃ r_1 : Nat, v = (Fl r_1) ∧ cf .f32 r_1 = fop .sub .f32 (cf .f32 r97) (cf .f32 r91)),
  Fact.pure [] (fun v => v = (Iv 0)),
  Fact.pure [33] (fun v => v = (Pt b106 0)),
  Fact.pure [34] (fun v => v = (Fl r93)),
  Fact.pure [] (fun v => v = (Iv 0)),
  Fact.pure [36] (fun v => v = (Pt b99 0)),
  Fact.pure [37] (fun v => v = (Fl r87)),
  Fact.pure [35, 38] (fun v => ∃ r_1 : Nat, v = (Fl r_1) ∧ cf .f32 r_1 = fop .sub .f32 (cf .f32 r93) (cf .f32 r87)),
  Fact.pure [32, 39] (fun v => v = (Bo β8))]) mixed (by kernel_rfl) (by intro _ _ d _ _ h; cases d <;> exact h) ?_
 obtain ⟨w553, hw555⟩ : ∃ w', w' = World.drew w178 := ⟨_, rfl⟩; rw [← hw555]; have E554 : Ext w178 w553 := by rw [hw555]; exact Ext.draw _
 clear hw555
 have X556 := Ext.gr X182 E554
 refine RW_d _ rfl (fun v => by dsimp only [List.set]; try rfl) (fun u hu hF => ?_) (fun v557 => ?_)
 ·clear hF
  refine doesG_un rfl ?_
  refine (does_move (u := (Iv 2)) (ev rfl)).mono ?_; rintro _ _ ⟨rfl, rfl⟩
  exact ⟨rfl, Ext.refl _⟩
 refine RW_d _ rfl (fun v => by dsimp only [List.set]; try rfl) (fun u hu hF => ?_) (fun v558 => ?_)
 ·have h26_ : v557 = (Iv 2) := hF.1
  clear hF
  refine doesG_un rfl ?_
  obtain rfl := h26_
  refine (does_indexAt_run (r := (Pt b106 2)) (ev rfl) (ev rfl) (fun w => ia41_2 _ _ w)).mono ?_; rintro _ _ ⟨rfl, rfl⟩
  exact ⟨rfl, Ext.refl _⟩
 refine RW_d _ rfl (fun v => by dsimp only [List.set]; try rfl) (fun u hu hF => ?_) (fun v559 => ?_)
 ·have h27_ : v558 = (Pt b106 2) := hF.1
  clear hF
  refine doesG_un rfl ?_
  obtain rfl := h27_
  refine (does_load (u := (Fl r97)) (ev rfl) Try.isAgg22 (Cells.at (Blk.cells ((((((hB119.ext E130).ext E149).ext E160).ext E179).ext E554).ext hu)) 2 rfl)).mono ?_; rintro _ _ ⟨rfl, rfl⟩
  exact ⟨rfl, Ext.refl _⟩
 refine RW_d _ rfl (fun v => by dsimp only [List.set]; try rfl) (fun u hu hF => ?_) (fun v560 => ?_)
 ·clear hF
  refine doesG_un rfl ?_
  refine (does_move (u := (Iv 2)) (ev rfl)).mono ?_; rintro _ _ ⟨rfl, rfl⟩
  exact ⟨rfl, Ext.refl _⟩
 refine RW_d _ rfl (fun v => by dsimp only [List.set]; try rfl) (fun u hu hF => ?_) (fun v561 => ?_)
 ·have h29_ : v560 = (Iv 2) := hF.1
  clear hF
  refine doesG_un rfl ?_
  obtain rfl := h29_
  refine (does_indexAt_run (r := (Pt b99 2)) (ev rfl) (ev rfl) (fun w => ia41_2 _ _ w)).mono ?_; rintro _ _ ⟨rfl, rfl⟩
  exact ⟨rfl, Ext.refl _⟩
 refine RW_d _ rfl (fun v => by dsimp only [List.set]; try rfl) (fun u hu hF => ?_) (fun v562 => ?_)
 ·have h30_ : v561 = (Pt b99 2) := hF.1
  clear hF
  refine doesG_un rfl ?_
  obtain rfl := h30_
  refine (does_load (u := (Fl r91)) (ev rfl) Try.isAgg22 (Cells.at (Blk.cells (((((((hB115.wr W118 (Ne.symm n113)).ext E130).ext E149).ext E160).ext E179).ext E554).ext hu)) 2 rfl)).mono ?_; rintro _ _ ⟨rfl, rfl⟩
  exact ⟨rfl, Ext.refl _⟩
 refine RW_d _ rfl (fun v => by dsimp only [List.set]; try rfl) (fun u hu hF => ?_) (fun v563 => ?_)
 ·have h28_ : v559 = (Fl r97) := hF.1
  have h31_ : v562 = (Fl r91) := hF.2.1
  clear hF
  refine doesG_un rfl ?_
  obtain rfl := h28_
  obtain rfl := h31_
  refine (does_float (.inr (.inl rfl)) (ev rfl) (ev rfl)).mono ?_; rintro _ _ ⟨r, rfl, hr, hx⟩
  exact ⟨⟨r, rfl, (by simp only [hr])⟩, hx⟩
 refine RW_d _ rfl (fun v => by dsimp only [List.set]; try rfl) (fun u hu hF => ?_) (fun v564 => ?_)
 ·clear hF
  refine doesG_un rfl ?_
  refine (does_move (u := (Iv 0)) (ev rfl)).mono ?_; rintro _ _ ⟨rfl, rfl⟩
  exact ⟨rfl, Ext.refl _⟩
 refine RW_d _ rfl (fun v => by dsimp only [List.set]; try rfl) (fun u hu hF => ?_) (fun v565 => ?_)
 ·have h33_ : v564 = (Iv 0) := hF.1
  clear hF
  refine doesG_un rfl ?_
  obtain rfl := h33_
  refine (does_indexAt_run (r := (Pt b106 0)) (ev rfl) (ev rfl) (fun w => ia41_0 _ _ w)).mono ?_; rintro _ _ ⟨rfl, rfl⟩
  exact ⟨rfl, Ext.refl _⟩
 refine RW_d _ rfl (fun v => by dsimp only [List.set]; try rfl) (fun u hu hF => ?_) (fun v566 => ?_)
 ·have h34_ : v565 = (Pt b106 0) := hF.1
  clear hF
  refine doesG_un rfl ?_
  obtain rfl := h34_
  refine (does_load (u := (Fl r93)) (ev rfl) Try.isAgg22 (Cells.at (Blk.cells ((((((hB119.ext E130).ext E149).ext E160).ext E179).ext E554).ext hu)) 0 rfl)).mono ?_; rintro _ _ ⟨rfl, rfl⟩
  exact ⟨rfl, Ext.refl _⟩
 refine RW_d _ rfl (fun v => by dsimp only [List.set]; try rfl) (fun u hu hF => ?_) (fun v567 => ?_)
 ·clear hF
  refine doesG_un rfl ?_
  refine (does_move (u := (Iv 0)) (ev rfl)).mono ?_; rintro _ _ ⟨rfl, rfl⟩
  exact ⟨rfl, Ext.refl _⟩
 refine RW_d _ rfl (fun v => by dsimp only [List.set]; try rfl) (fun u hu hF => ?_) (fun v568 => ?_)
 ·have h36_ : v567 = (Iv 0) := hF.1
  clear hF
  refine doesG_un rfl ?_
  obtain rfl := h36_
  refine (does_indexAt_run (r := (Pt b99 0)) (ev rfl) (ev rfl) (fun w => ia41_0 _ _ w)).mono ?_; rintro _ _ ⟨rfl, rfl⟩
  exact ⟨rfl, Ext.refl _⟩
 refine RW_d _ rfl (fun v => by dsimp only [List.set]; try rfl) (fun u hu hF => ?_) (fun v569 => ?_)
 ·have h37_ : v568 = (Pt b99 0) := hF.1
  clear hF
  refine doesG_un rfl ?_
  obtain rfl := h37_
  refine (does_load (u := (Fl r87)) (ev rfl) Try.isAgg22 (Cells.at (Blk.cells (((((((hB115.wr W118 (Ne.symm n113)).ext E130).ext E149).ext E160).ext E179).ext E554).ext hu)) 0 rfl)).mono ?_; rintro _ _ ⟨rfl, rfl⟩
  exact ⟨rfl, Ext.refl _⟩
 refine RW_d _ rfl (fun v => by dsimp only [List.set]; try rfl) (fun u hu hF => ?_) (fun v570 => ?_)
 ·have h35_ : v566 = (Fl r93) := hF.1
  have h38_ : v569 = (Fl r87) := hF.2.1
  clear hF
  refine doesG_un rfl ?_
  obtain rfl := h35_
  obtain rfl := h38_
  refine (does_float (.inr (.inl rfl)) (ev rfl) (ev rfl)).mono ?_; rintro _ _ ⟨r, rfl, hr, hx⟩
  exact ⟨⟨r, rfl, (by simp only [hr])⟩, hx⟩
 refine RW_d _ rfl (fun v => by dsimp only [List.set]; try rfl) (fun u hu hF => ?_) (fun v571 => ?_)
 ·have h32_ : ∃ r_1 : Nat, v563 = (Fl r_1) ∧ cf .f32 r_1 = fop .sub .f32 (cf .f32 r97) (cf .f32 r91) := hF.1
  have h39_ : ∃ r_1 : Nat, v570 = (Fl r_1) ∧ cf .f32 r_1 = fop .sub .f32 (cf .f32 r93) (cf .f32 r87) := hF.2.1
  clear hF
  refine doesG_un rfl ?_
  obtain ⟨r32_1, rfl, h32_2⟩ := h32_
  obtain ⟨r39_1, rfl, h39_2⟩ := h39_
  refine (does_fcmp (.inr (.inr (.inr (.inr (.inl rfl))))) (ev rfl) (ev rfl)).mono ?_; rintro _ _ ⟨rfl, rfl⟩
  exact ⟨(by first | rfl | (show _ = _; simp only [hβ8, h32_2, h39_2]; done) | (show _ = _; simp only [hβ8, h32_2, h39_2]; rfl)), Ext.refl _⟩
 refine RW_fin ?_; intro w572 E573 hP574
 obtain ⟨⟨⟨⟨⟨⟨⟨⟨⟨⟨⟨⟨⟨⟨⟨-, -⟩, -⟩, -⟩, -⟩, -⟩, -⟩, -⟩, -⟩, -⟩, -⟩, -⟩, -⟩, -⟩, -⟩, q575⟩ := hP574
 have X576 := Ext.gr X556 E573
 have q575 : v571 = (Bo β8) := q575
 obtain rfl := q575
 show wpList _ _ _ _ (fr [_, _, _, _, _, _, _, _, _, _, _, _, _, _, _, _, _, _, _, _, _, _, _, _, _, _, _, _, _, _, _, _, _, _, _, _, _, _, _, _, _, _, _, _, _, _, _, _, _, _, _, _, _, _, _, _, _, _, _, _, _, _, _, _, _, _, _, _, _, _, _, _, _, _, _, _, _, _, _, _, _, _, _]) _
 refine wpList_nil (hK552 _ _ ?_)
 refine wp_cond_split (t := β8) (ev rfl) (fun c577 => ?_) (fun c577 => ?_)
 ·have c577' := c577
  (try simp only [hβ1, hβ2, hβ8] at c577')
  (try simp only [icmp, Bool.and_eq_true, Bool.or_eq_true, Bool.and_eq_false_iff, Bool.or_eq_false_iff, Bool.not_eq_true', Bool.not_eq_false', decide_eq_true_eq, decide_eq_false_iff_not, beq_iff_eq, bne_iff_ne, beq_eq_false_iff_ne, bne_eq_false_iff_eq] at c577')
  simp only [h2, h4, h6, h8, h10, h12, h88, h90, h92, h94, h96, h98, hβ1, hβ2, hβ8] at c577
  refine wp_region_lit ?_
  refine q_is rfl rfl (does_move (u := (Iv 2)) (ev rfl)) (by dsimp only [List.set]; try rfl) ?_
  refine q_is rfl rfl (does_assign (u := (Iv 2)) (ev rfl)) (by dsimp only [List.set]; try rfl) ?_
  refine wpList_nil (hK550 _ _ ?_)
  refine wp_region_lit ?_
  refine q_is rfl rfl (does_iarith (p := 2) (q := 1) (r := (3)) (ev rfl) (ev rfl) (.inl ⟨rfl, rfl⟩)) (by dsimp only [List.set]; try rfl) ?_
  refine q_is rfl rfl (does_move (u := (Iv 3)) (ev rfl)) (by dsimp only [List.set]; try rfl) ?_
  refine wpList_nil ?_
  refine un_step ?_
  refine wp_seq_k fun K578 hK578 => ?_
  refine wp_region_lit ?_
  refine q_is rfl rfl (does_icmp (p := 3) (q := 3) (.inr (.inr (.inl rfl))) (ev rfl) (ev rfl)) (by dsimp only [List.set]; try rfl) ?_
  refine wpList_nil (hK578 _ _ ?_)
  refine wp_seq_k fun K579 hK579 => ?_
  refine wp_cond_false (ev rfl) ?_
  refine wp_exit ?_
  refine hK122 _ _ ?_
  refine wp_seq_k fun K580 hK580 => ?_
  refine region_draw (
   [Fact.pure [] (fun v => v = (Iv 2)),
  Fact.pure [43] (fun v => v = (Pt b99 2)),
  Fact.pure [44] (fun v => v = (Fl r91)),
  Fact.pure [] (fun v => v = (Iv 2)),
  Fact.pure [46] (fun v => v = (Pt b106 2)),
  Fact.pure [47] (fun v => v = (Fl r97)),
  Fact.pure [] (fun v => v = (Iv 2)),
  Fact.pure [49] (fun v => v = (Pt b99 2)),
  Fact.pure [50] (fun v => v = (Fl r91)),
  Fact.pure [48, 51] (fun v => ∃ r_1 : Nat, v = (Fl r_1) ∧ cf .f32 r_1 = fop .sub .f32 (cf .f32 r97) (cf .f32 r91)),
  Fact.pure [52] (fun v => ∃ r_1 : Nat, v = (Fl r_1) ∧ cf .f32 r_1 = fop .quo .f32 (fop .sub .f32 (cf .f32 r97) (cf .f32 r91)) (cf .f32 1073741824)),
  Fact.pure [45, 53] (fun v => ∃ r_1 : Nat, v = (Fl r_1) ∧ cf .f32 r_1 = fop .add .f32 (cf .f32 r91) (fop .quo .f32 (fop .sub .f32 (cf .f32 r97) (cf .f32 r91)) (cf .f32 1073741824)))]) mixed (by kernel_rfl) (by intro _ _ d _ _ h; cases d <;> exact h) ?_
  obtain ⟨w581, hw583⟩ : ∃ w', w' = World.drew w572 := ⟨_, rfl⟩; rw [← hw583]; have E582 : Ext w572 w581 := by rw [hw583]; exact Ext.draw _
  clear hw583
  have X584 := Ext.gr X576 E582
  refine RW_d _ rfl (fun v => by dsimp only [List.set]; try rfl) (fun u hu hF => ?_) (fun v585 => ?_)
  ·clear hF
   refine doesG_un rfl ?_
   refine (does_move (u := (Iv 2)) (ev rfl)).mono ?_; rintro _ _ ⟨rfl, rfl⟩
   exact ⟨rfl, Ext.refl _⟩
  refine RW_d _ rfl (fun v => by dsimp only [List.set]; try rfl) (fun u hu hF => ?_) (fun v586 => ?_)
  ·have h43_ : v585 = (Iv 2) := hF.1
   clear hF
   refine doesG_un rfl ?_
   obtain rfl := h43_
   refine (does_indexAt_run (r := (Pt b99 2)) (ev rfl) (ev rfl) (fun w => ia41_2 _ _ w)).mono ?_; rintro _ _ ⟨rfl, rfl⟩
   exact ⟨rfl, Ext.refl _⟩
  refine RW_d _ rfl (fun v => by dsimp only [List.set]; try rfl) (fun u hu hF => ?_) (fun v587 => ?_)
  ·have h44_ : v586 = (Pt b99 2) := hF.1
   clear hF
   refine doesG_un rfl ?_
   obtain rfl := h44_
   refine (does_load (u := (Fl r91)) (ev rfl) Try.isAgg22 (Cells.at (Blk.cells (((((((((hB115.wr W118 (Ne.symm n113)).ext E130).ext E149).ext E160).ext E179).ext E554).ext E573).ext E582).ext hu)) 2 rfl)).mono ?_; rintro _ _ ⟨rfl, rfl⟩
   exact ⟨rfl, Ext.refl _⟩
  refine RW_d _ rfl (fun v => by dsimp only [List.set]; try rfl) (fun u hu hF => ?_) (fun v588 => ?_)
  ·clear hF
   refine doesG_un rfl ?_
   refine (does_move (u := (Iv 2)) (ev rfl)).mono ?_; rintro _ _ ⟨rfl, rfl⟩
   exact ⟨rfl, Ext.refl _⟩
  refine RW_d _ rfl (fun v => by dsimp only [List.set]; try rfl) (fun u hu hF => ?_) (fun v589 => ?_)
  ·have h46_ : v588 = (Iv 2) := hF.1
   clear hF
   refine doesG_un rfl ?_
   obtain rfl := h46_
   refine (does_indexAt_run (r := (Pt b106 2)) (ev rfl) (ev rfl) (fun w => ia41_2 _ _ w)).mono ?_; rintro _ _ ⟨rfl, rfl⟩
   exact ⟨rfl, Ext.refl _⟩
  refine RW_d _ rfl (fun v => by dsimp only [List.set]; try rfl) (fun u hu hF => ?_) (fun v590 => ?_)
  ·have h47_ : v589 = (Pt b106 2) := hF.1
   clear hF
   refine doesG_un rfl ?_
   obtain rfl := h47_
   refine (does_load (u := (Fl r97)) (ev rfl) Try.isAgg22 (Cells.at (Blk.cells ((((((((hB119.ext E130).ext E149).ext E160).ext E179).ext E554).ext E573).ext E582).ext hu)) 2 rfl)).mono ?_; rintro _ _ ⟨rfl, rfl⟩
   exact ⟨rfl, Ext.refl _⟩
  refine RW_d _ rfl (fun v => by dsimp only [List.set]; try rfl) (fun u hu hF => ?_) (fun v591 => ?_)
  ·clear hF
   refine doesG_un rfl ?_
   refine (does_move (u := (Iv 2)) (ev rfl)).mono ?_; rintro _ _ ⟨rfl, rfl⟩
   exact ⟨rfl, Ext.refl _⟩
  refine RW_d _ rfl (fun v => by dsimp only [List.set]; try rfl) (fun u hu hF => ?_) (fun v592 => ?_)
  ·have h49_ : v591 = (Iv 2) := hF.1
   clear hF
   refine doesG_un rfl ?_
   obtain rfl := h49_
   refine (does_indexAt_run (r := (Pt b99 2)) (ev rfl) (ev rfl) (fun w => ia41_2 _ _ w)).mono ?_; rintro _ _ ⟨rfl, rfl⟩
   exact ⟨rfl, Ext.refl _⟩
  refine RW_d _ rfl (fun v => by dsimp only [List.set]; try rfl) (fun u hu hF => ?_) (fun v593 => ?_)
  ·have h50_ : v592 = (Pt b99 2) := hF.1
   clear hF
   refine doesG_un rfl ?_
   obtain rfl := h50_
   refine (does_load (u := (Fl r91)) (ev rfl) Try.isAgg22 (Cells.at (Blk.cells (((((((((hB115.wr W118 (Ne.symm n113)).ext E130).ext E149).ext E160).ext E179).ext E554).ext E573).ext E582).ext hu)) 2 rfl)).mono ?_; rintro _ _ ⟨rfl, rfl⟩
   exact ⟨rfl, Ext.refl _⟩
  refine RW_d _ rfl (fun v => by dsimp only [List.set]; try rfl) (fun u hu hF => ?_) (fun v594 => ?_)
  ·have h48_ : v590 = (Fl r97) := hF.1
   have h51_ : v593 = (Fl r91) := hF.2.1
   clear hF
   refine doesG_un rfl ?_
   obtain rfl := h48_
   obtain rfl := h51_
   refine (does_float (.inr (.inl rfl)) (ev rfl) (ev rfl)).mono ?_; rintro _ _ ⟨r, rfl, hr, hx⟩
   exact ⟨⟨r, rfl, (by simp only [hr])⟩, hx⟩
  refine RW_d _ rfl (fun v => by dsimp only [List.set]; try rfl) (fun u hu hF => ?_) (fun v595 => ?_)
  ·have h52_ : ∃ r_1 : Nat, v594 = (Fl r_1) ∧ cf .f32 r_1 = fop .sub .f32 (cf .f32 r97) (cf .f32 r91) := hF.1
   clear hF
   refine doesG_un rfl ?_
   obtain ⟨r52_1, rfl, h52_2⟩ := h52_
   refine (does_float (.inr (.inr (.inr rfl))) (ev rfl) (ev rfl)).mono ?_; rintro _ _ ⟨r, rfl, hr, hx⟩
   exact ⟨⟨r, rfl, (by simp only [hr, h52_2])⟩, hx⟩
  refine RW_d _ rfl (fun v => by dsimp only [List.set]; try rfl) (fun u hu hF => ?_) (fun v596 => ?_)
  ·have h45_ : v587 = (Fl r91) := hF.1
   have h53_ : ∃ r_1 : Nat, v595 = (Fl r_1) ∧ cf .f32 r_1 = fop .quo .f32 (fop .sub .f32 (cf .f32 r97) (cf .f32 r91)) (cf .f32 1073741824) := hF.2.1
   clear hF
   refine doesG_un rfl ?_
   obtain rfl := h45_
   obtain ⟨r53_1, rfl, h53_2⟩ := h53_
   refine (does_float (.inl rfl) (ev rfl) (ev rfl)).mono ?_; rintro _ _ ⟨r, rfl, hr, hx⟩
   exact ⟨⟨r, rfl, (by simp only [hr, h53_2])⟩, hx⟩
  refine RW_fin ?_; intro w597 E598 hP599
  obtain ⟨⟨⟨⟨⟨⟨⟨⟨⟨⟨⟨⟨-, -⟩, -⟩, -⟩, -⟩, -⟩, -⟩, -⟩, -⟩, -⟩, -⟩, -⟩, q600⟩ := hP599
  have X601 := Ext.gr X584 E598
  have q600 : ∃ r_1 : Nat, v596 = (Fl r_1) ∧ cf .f32 r_1 = fop .add .f32 (cf .f32 r91) (fop .quo .f32 (fop .sub .f32 (cf .f32 r97) (cf .f32 r91)) (cf .f32 1073741824)) := q600
  obtain ⟨r602, rfl, h603⟩ := q600
  show wpList _ _ _ _ (fr [_, _, _, _, _, _, _, _, _, _, _, _, _, _, _, _, _, _, _, _, _, _, _, _, _, _, _, _, _, _, _, _, _, _, _, _, _, _, _, _, _, _, _, _, _, _, _, _, _, _, _, _, _, _, _, _, _, _, _, _, _, _, _, _, _, _, _, _, _, _, _, _, _, _, _, _, _, _, _, _, _, _, _]) _
  refine q_is rfl rfl (does_assign (u := (Fl r602)) (ev rfl)) (by dsimp only [List.set]; try rfl) ?_
  refine wpList_nil (hK580 _ _ ?_)
  refine wp_seq_k fun K604 hK604 => ?_
  refine wp_region_lit ?_
  refine q_is rfl rfl (does_move (u := (Iv 2)) (ev rfl)) (by dsimp only [List.set]; try rfl) ?_
  refine q_is rfl rfl (does_move (u := (Iv 2)) (ev rfl)) (by dsimp only [List.set]; try rfl) ?_
  refine q_is rfl rfl (does_move (u := (Fl r602)) (ev rfl)) (by dsimp only [List.set]; try rfl) ?_
  refine q_is rfl rfl (does_move (u := (Fl r602)) (ev rfl)) (by dsimp only [List.set]; try rfl) ?_
  refine q_is rfl rfl (does_indexAt_run (r := (Pt b99 2)) (ev rfl) (ev rfl) (fun w => ia41_2 _ _ w)) (by dsimp only [List.set]; try rfl) ?_
  refine seqn rfl rfl (does_store (n := 1) (cs := [(Fl r87), (Fl r89), (Fl r91)]) (u := (Fl r602)) (ev rfl) (ev rfl) Try.sizeOf22 rfl (((((((((hB115.wr W118 (Ne.symm n113)).ext E130).ext E149).ext E160).ext E179).ext E554).ext E573).ext E582).ext E598) (Nat.le_of_ble_eq_true rfl) rfl) ?_; rintro _ w607 ⟨rfl, W605, hB606⟩
  change Blk _ _ [(Fl r87), (Fl r89), (Fl r602)] at hB606
  have X608 := Below.wr X601 W605 g105
  refine q_is rfl rfl (does_indexAt_run (r := (Pt b106 2)) (ev rfl) (ev rfl) (fun w => ia41_2 _ _ w)) (by dsimp only [List.set]; try rfl) ?_
  refine seqn rfl rfl (does_store (n := 1) (cs := [(Fl r93), (Fl r95), (Fl r97)]) (u := (Fl r602)) (ev rfl) (ev rfl) Try.sizeOf22 rfl (((((((((hB119.ext E130).ext E149).ext E160).ext E179).ext E554).ext E573).ext E582).ext E598).wr W605 n113) (Nat.le_of_ble_eq_true rfl) rfl) ?_; rintro _ w611 ⟨rfl, W609, hB610⟩
  change Blk _ _ [(Fl r93), (Fl r95), (Fl r602)] at hB610
  have X612 := Below.wr X608 W609 g112
  refine wpList_nil (hK604 _ _ ?_)
  refine wp_seq_k fun K613 hK613 => ?_
  refine region_any4 [] [10, 11] [0, 1, 0, 4, 15, 0, 44, 0, 128, 492, 0, 0, 3199, 8191] [] (
   [FactV.pure [] [] [] true (fun v => v = (Pt b14 0)),
    FactV.pure [0] [] [] true (fun v => v = (.agg #[(Fl r1), (Fl r3), (Fl r5)])),
    FactV.pure [] [] [] true (fun v => v = (.agg #[(Fl r93), (Fl r95), (Fl r602)])),
    FactV.pure [2] [] [] true (fun v => ∃ cs_1 : List Value, v = (.agg cs_1.toArray) ∧ RV3 w (V3.mk (cf .f32 r93) (cf .f32 r95) (cf .f32 r602)) cs_1),
    FactV.pure [1, 3] [] [] true (fun v => ∃ r_1 : Nat, ∃ r_2 : Nat, ∃ r_3 : Nat, v = (.agg #[(Fl r1), (Fl r3), (Fl r5), (Fl r_1), (Fl r_2), (Fl r_3)]) ∧ cf .f32 r_1 = (V3.mk (cf .f32 r93) (cf .f32 r95) (cf .f32 r602)).x ∧ cf .f32 r_2 = (V3.mk (cf .f32 r93) (cf .f32 r95) (cf .f32 r602)).y ∧ cf .f32 r_3 = (V3.mk (cf .f32 r93) (cf .f32 r95) (cf .f32 r602)).z),
    FactV.pure [] [] [] true (fun v => v = (.agg #[(Fl r87), (Fl r89), (Fl r602)])),
    FactV.pure [5] [] [] true (fun v => ∃ cs_1 : List Value, v = (.agg cs_1.toArray) ∧ RV3 w (V3.mk (cf .f32 r87) (cf .f32 r89) (cf .f32 r602)) cs_1),
    FactV.pure [] [] [] true (fun v => v = (Pt b14 3)),
    FactV.pure [7] [] [] true (fun v => v = (.agg #[(Fl r7), (Fl r9), (Fl r11)])),
    FactV.pure [6, 8] [] [] true (fun v => ∃ r_1 : Nat, ∃ r_2 : Nat, ∃ r_3 : Nat, v = (.agg #[(Fl r_1), (Fl r_2), (Fl r_3), (Fl r7), (Fl r9), (Fl r11)]) ∧ cf .f32 r_1 = (V3.mk (cf .f32 r87) (cf .f32 r89) (cf .f32 r602)).x ∧ cf .f32 r_2 = (V3.mk (cf .f32 r87) (cf .f32 r89) (cf .f32 r602)).y ∧ cf .f32 r_3 = (V3.mk (cf .f32 r87) (cf .f32 r89) (cf .f32 r602)).z),
    FactV.new [] [] [] false (fun v w' => ∃ b : Nat, v = .pointer (some ⟨b, 0, none⟩) ∧ w611.heap.size ≤ b ∧ Blk w' b [(Fl 0), (Fl 0), (Fl 0), (Fl 0), (Fl 0), (Fl 0)]) (by rintro v w1 w2 L hx hL ⟨b, rfl, hb, hB⟩; exact ⟨b, rfl, hb, (hB.kl hx (fun hm => (hL b hm).elim (fun h => absurd h (by show b ∉ ([] : List Nat); exact nin0)) (fun h => h.2 rfl)))⟩),
    FactV.new [] [] [] true (fun v w' => ∃ b : Nat, v = .pointer (some ⟨b, 0, none⟩) ∧ w611.heap.size ≤ b ∧ Blk w' b [(Fl 0), (Fl 0), (Fl 0), (Fl 0), (Fl 0), (Fl 0)]) (by rintro v w1 w2 L hx hL ⟨b, rfl, hb, hB⟩; exact ⟨b, rfl, hb, (hB.kl hx (fun hm => (hL b hm).elim (fun h => absurd h (by show b ∉ ([] : List Nat); exact nin0)) (fun h => h.2 rfl)))⟩),
    FactV.into [10, 4] [] [] 10 true (fun o v w' => v = undef ∧ ∃ b : Nat, ∃ r_1 : Nat, ∃ r_2 : Nat, ∃ r_3 : Nat, o = .pointer (some ⟨b, 0, none⟩) ∧ w611.heap.size ≤ b ∧ Blk w' b [(Fl r1), (Fl r3), (Fl r5), (Fl r_1), (Fl r_2), (Fl r_3)] ∧ cf .f32 r_1 = (V3.mk (cf .f32 r93) (cf .f32 r95) (cf .f32 r602)).x ∧ cf .f32 r_2 = (V3.mk (cf .f32 r93) (cf .f32 r95) (cf .f32 r602)).y ∧ cf .f32 r_3 = (V3.mk (cf .f32 r93) (cf .f32 r95) (cf .f32 r602)).z) (by rintro o v w1 w2 L hx hL ⟨rfl, b, z0, z1, z2, rfl, hb, hB, k0, k1, k2⟩; exact ⟨rfl, b, z0, z1, z2, rfl, hb, hB.kl hx (fun hm => (hL b hm).elim (fun h => absurd h (by show b ∉ ([] : List Nat); exact nin0)) (fun h => h.2 rfl)), k0, k1, k2⟩)]) mixed (by kernel_rfl) ?_
  obtain ⟨w614, hw616⟩ : ∃ w', w' = World.drew w611 := ⟨_, rfl⟩; rw [← hw616]; have E615 : Ext w611 w614 := by rw [hw616]; exact Ext.draw _
  clear hw616
  have X617 := Ext.gr X612 E615
  refine RW4_d _ rfl rfl (fun v => by dsimp only [List.set]; try rfl) (fun u hu hF => ?_) (fun v618 => ?_)
  ·replace hu : KpL [] _ _ := hu
   clear hF
   refine doesG_un rfl ?_
   refine (does_fieldAddr (ev rfl) fa29_0).mono ?_; rintro _ _ ⟨rfl, rfl⟩
   exact ⟨rfl, KpL.refl _ _⟩
  refine RW4_d _ rfl rfl (fun v => by dsimp only [List.set]; try rfl) (fun u hu hF => ?_) (fun v619 => ?_)
  ·replace hu : KpL [] _ _ := hu
   have h61_ : v618 = (Pt b14 0) := hF.1
   clear hF
   refine doesG_un rfl ?_
   obtain rfl := h61_
   refine (does_loadAgg (cs := [(Fl r1), (Fl r3), (Fl r5)]) (ev rfl) Try.isAgg27 Try.sizeOf27 (Cells.sub (Blk.cells (((((((((((((((((((hB16.ext E24).ext E32).ext E40).ext E68).kl E80 nin0).wr W114 (Nat.ne_of_lt n102)).wr W118 (Nat.ne_of_lt n109)).ext E130).ext E149).ext E160).ext E179).ext E554).ext E573).ext E582).ext E598).wr W605 (Nat.ne_of_lt n102)).wr W609 (Nat.ne_of_lt n109)).ext E615).ext (KpL.toExt hu))) 0 3) rfl).mono ?_; rintro _ _ ⟨rfl, rfl⟩
   exact ⟨rfl, KpL.refl _ _⟩
  refine RW4_d _ rfl rfl (fun v => by dsimp only [List.set]; try rfl) (fun u hu hF => ?_) (fun v620 => ?_)
  ·replace hu : KpL [] _ _ := hu
   clear hF
   refine doesG_un rfl ?_
   refine (does_loadAgg (cs := [(Fl r93), (Fl r95), (Fl r602)]) (ev rfl) Try.isAgg41 Try.sizeOf41 (Blk.cells ((hB610.ext E615).ext (KpL.toExt hu))) rfl).mono ?_; rintro _ _ ⟨rfl, rfl⟩
   exact ⟨rfl, KpL.refl _ _⟩
  refine RW4_d _ rfl rfl (fun v => by dsimp only [List.set]; try rfl) (fun u hu hF => ?_) (fun v621 => ?_)
  ·replace hu : KpL [] _ _ := hu
   have h63_ : v620 = (.agg #[(Fl r93), (Fl r95), (Fl r602)]) := hF.1
   clear hF
   refine doesG_un rfl ?_
   obtain rfl := h63_
   refine (does_call (args := #[(.agg #[(Fl r93), (Fl r95), (Fl r602)])]) cal13 (evs rfl) (c_impl_vectorOf r93 r95 r602 _)).mono ?_; rintro v u' ⟨hx, ⟨csn1, hv, k0⟩⟩
   exact ⟨⟨csn1, hv, k0⟩, (KpL.of_ext hx)⟩
  refine RW4_d _ rfl rfl (fun v => by dsimp only [List.set]; try rfl) (fun u hu hF => ?_) (fun v622 => ?_)
  ·replace hu : KpL [] _ _ := hu
   have h62_ : v619 = (.agg #[(Fl r1), (Fl r3), (Fl r5)]) := hF.1
   have h64_ : ∃ cs_1 : List Value, v621 = (.agg cs_1.toArray) ∧ RV3 w (V3.mk (cf .f32 r93) (cf .f32 r95) (cf .f32 r602)) cs_1 := hF.2.1
   clear hF
   refine doesG_un rfl ?_
   obtain rfl := h62_
   obtain ⟨_, rfl, ⟨r64_1, r64_3, r64_5, rfl, h64_2, h64_4, h64_6⟩⟩ := h64_
   refine (does_build (parts' := [(0, (.agg #[(Fl r1), (Fl r3), (Fl r5)])), (1, (.agg #[(Fl r64_1), (Fl r64_3), (Fl r64_5)]))]) (cells := #[(Fl r1), (Fl r3), (Fl r5), (Fl r64_1), (Fl r64_3), (Fl r64_5)]) (evp rfl) (by kernel_rfl)).mono ?_; rintro _ _ ⟨rfl, rfl⟩
   exact ⟨⟨r64_1, r64_3, r64_5, rfl, (by simp only [h64_2, h64_4, h64_6]), (by simp only [h64_2, h64_4, h64_6]), (by simp only [h64_2, h64_4, h64_6])⟩, KpL.refl _ _⟩
  refine RW4_d _ rfl rfl (fun v => by dsimp only [List.set]; try rfl) (fun u hu hF => ?_) (fun v623 => ?_)
  ·replace hu : KpL [] _ _ := hu
   clear hF
   refine doesG_un rfl ?_
   refine (does_loadAgg (cs := [(Fl r87), (Fl r89), (Fl r602)]) (ev rfl) Try.isAgg41 Try.sizeOf41 (Blk.cells (((hB606.wr W609 (Ne.symm n113)).ext E615).ext (KpL.toExt hu))) rfl).mono ?_; rintro _ _ ⟨rfl, rfl⟩
   exact ⟨rfl, KpL.refl _ _⟩
  refine RW4_d _ rfl rfl (fun v => by dsimp only [List.set]; try rfl) (fun u hu hF => ?_) (fun v624 => ?_)
  ·replace hu : KpL [] _ _ := hu
   have h66_ : v623 = (.agg #[(Fl r87), (Fl r89), (Fl r602)]) := hF.1
   clear hF
   refine doesG_un rfl ?_
   obtain rfl := h66_
   refine (does_call (args := #[(.agg #[(Fl r87), (Fl r89), (Fl r602)])]) cal13 (evs rfl) (c_impl_vectorOf r87 r89 r602 _)).mono ?_; rintro v u' ⟨hx, ⟨csn1, hv, k0⟩⟩
   exact ⟨⟨csn1, hv, k0⟩, (KpL.of_ext hx)⟩
  refine RW4_d _ rfl rfl (fun v => by dsimp only [List.set]; try rfl) (fun u hu hF => ?_) (fun v625 => ?_)
  ·replace hu : KpL [] _ _ := hu
   clear hF
   refine doesG_un rfl ?_
   refine (does_fieldAddr (ev rfl) fa29_1).mono ?_; rintro _ _ ⟨rfl, rfl⟩
   exact ⟨rfl, KpL.refl _ _⟩
  refine RW4_d _ rfl rfl (fun v => by dsimp only [List.set]; try rfl) (fun u hu hF => ?_) (fun v626 => ?_)
  ·replace hu : KpL [] _ _ := hu
   have h68_ : v625 = (Pt b14 3) := hF.1
   clear hF
   refine doesG_un rfl ?_
   obtain rfl := h68_
   refine (does_loadAgg (cs := [(Fl r7), (Fl r9), (Fl r11)]) (ev rfl) Try.isAgg27 Try.sizeOf27 (Cells.sub (Blk.cells (((((((((((((((((((hB16.ext E24).ext E32).ext E40).ext E68).kl E80 nin0).wr W114 (Nat.ne_of_lt n102)).wr W118 (Nat.ne_of_lt n109)).ext E130).ext E149).ext E160).ext E179).ext E554).ext E573).ext E582).ext E598).wr W605 (Nat.ne_of_lt n102)).wr W609 (Nat.ne_of_lt n109)).ext E615).ext (KpL.toExt hu))) 3 3) rfl).mono ?_; rintro _ _ ⟨rfl, rfl⟩
   exact ⟨rfl, KpL.refl _ _⟩
  refine RW4_d _ rfl rfl (fun v => by dsimp only [List.set]; try rfl) (fun u hu hF => ?_) (fun v627 => ?_)
  ·replace hu : KpL [] _ _ := hu
   have h67_ : ∃ cs_1 : List Value, v624 = (.agg cs_1.toArray) ∧ RV3 w (V3.mk (cf .f32 r87) (cf .f32 r89) (cf .f32 r602)) cs_1 := hF.1
   have h69_ : v626 = (.agg #[(Fl r7), (Fl r9), (Fl r11)]) := hF.2.1
   clear hF
   refine doesG_un rfl ?_
   obtain ⟨_, rfl, ⟨r67_1, r67_3, r67_5, rfl, h67_2, h67_4, h67_6⟩⟩ := h67_
   obtain rfl := h69_
   refine (does_build (parts' := [(0, (.agg #[(Fl r67_1), (Fl r67_3), (Fl r67_5)])), (1, (.agg #[(Fl r7), (Fl r9), (Fl r11)]))]) (cells := #[(Fl r67_1), (Fl r67_3), (Fl r67_5), (Fl r7), (Fl r9), (Fl r11)]) (evp rfl) (by kernel_rfl)).mono ?_; rintro _ _ ⟨rfl, rfl⟩
   exact ⟨⟨r67_1, r67_3, r67_5, rfl, (by simp only [h67_2, h67_4, h67_6]), (by simp only [h67_2, h67_4, h67_6]), (by simp only [h67_2, h67_4, h67_6])⟩, KpL.refl _ _⟩
  refine RW4_b _ rfl rfl (fun v => by dsimp only [List.set]; try rfl) (fun u hu hF => ?_) (fun v628 => ?_)
  ·replace hu : KpL [] _ _ := hu
   clear hF
   refine doesG_un rfl ?_
   refine (does_alloc z29).mono ?_; rintro _ _ ⟨b, rfl, hb, hB, hx⟩
   exact ⟨⟨b, rfl, Nat.le_trans (Nat.le_trans (Below.size E615) (KpL.size hu)) hb, hB⟩, (KpL.of_ext hx), ⟨b, rfl, hb, hB.lt⟩⟩
  refine RW4_b _ rfl rfl (fun v => by dsimp only [List.set]; try rfl) (fun u hu hF => ?_) (fun v629 => ?_)
  ·replace hu : KpL [] _ _ := hu
   clear hF
   refine doesG_un rfl ?_
   refine (does_alloc z29).mono ?_; rintro _ _ ⟨b, rfl, hb, hB, hx⟩
   exact ⟨⟨b, rfl, Nat.le_trans (Nat.le_trans (Below.size E615) (KpL.size hu)) hb, hB⟩, (KpL.of_ext hx), ⟨b, rfl, hb, hB.lt⟩⟩
  refine RW4_i v628 rfl rfl rfl rfl (fun u hu hF => ?_) (fun v630 => ?_)
  ·replace hu : KpL [] _ _ := hu
   have h10_ : ∃ b : Nat, v628 = .pointer (some ⟨b, 0, none⟩) ∧ w611.heap.size ≤ b ∧ Blk u b [(Fl 0), (Fl 0), (Fl 0), (Fl 0), (Fl 0), (Fl 0)] := hF.1
   have h65_ : ∃ r_1 : Nat, ∃ r_2 : Nat, ∃ r_3 : Nat, v622 = (.agg #[(Fl r1), (Fl r3), (Fl r5), (Fl r_1), (Fl r_2), (Fl r_3)]) ∧ cf .f32 r_1 = (V3.mk (cf .f32 r93) (cf .f32 r95) (cf .f32 r602)).x ∧ cf .f32 r_2 = (V3.mk (cf .f32 r93) (cf .f32 r95) (cf .f32 r602)).y ∧ cf .f32 r_3 = (V3.mk (cf .f32 r93) (cf .f32 r95) (cf .f32 r602)).z := hF.2.1
   clear hF
   refine doesG_un rfl ?_
   obtain ⟨b10_, rfl, hb10_, hB10_⟩ := h10_
   obtain ⟨r65_1, r65_3, r65_5, rfl, h65_2, h65_4, h65_6⟩ := h65_
   refine (does_store (n := 6) (cs := [(Fl 0), (Fl 0), (Fl 0), (Fl 0), (Fl 0), (Fl 0)]) (u := (.agg #[(Fl r1), (Fl r3), (Fl r5), (Fl r65_1), (Fl r65_3), (Fl r65_5)])) (ev rfl) (ev rfl) Try.sizeOf29 rfl hB10_ (Nat.le_of_ble_eq_true rfl) rfl).mono ?_; rintro _ _ ⟨rfl, hW, hB⟩
   exact ⟨⟨rfl, _, r65_1, r65_3, r65_5, rfl, hb10_, hB, (by simp only [h65_2, h65_4, h65_6]), (by simp only [h65_2, h65_4, h65_6]), (by simp only [h65_2, h65_4, h65_6])⟩, _, rfl, hb10_, KpL.of_wr hW⟩
  refine RW4_fin ?_; intro w631 E632 hP633 hND; replace E632 : KpL [] _ _ := E632
  obtain ⟨⟨⟨⟨⟨⟨⟨⟨⟨⟨⟨⟨⟨-, -⟩, -⟩, -⟩, -⟩, -⟩, -⟩, -⟩, -⟩, -⟩, q634⟩, -⟩, q635⟩, q636⟩ := hP633
  have X637 := Below.kl X617 E632 all0 (Nat.le_refl _)
  obtain ⟨_, b638, r642, r643, r644, hv639, hb640, hB641, h645, h646, h647⟩ := q636 rfl; subst hv639
  have n648 : b14 < b638 := Nat.lt_of_lt_of_le (Blk.lt (((((((((((((((((hB16.ext E24).ext E32).ext E40).ext E68).kl E80 nin0).wr W114 (Nat.ne_of_lt n102)).wr W118 (Nat.ne_of_lt n109)).ext E130).ext E149).ext E160).ext E179).ext E554).ext E573).ext E582).ext E598).wr W605 (Nat.ne_of_lt n102)).wr W609 (Nat.ne_of_lt n109))) hb640
  have n649 : b21 < b638 := Nat.lt_of_lt_of_le (Blk.lt ((((((((((((((((hB23.ext E32).ext E40).ext E68).kl E80 nin0).wr W114 (Nat.ne_of_lt n103)).wr W118 (Nat.ne_of_lt n110)).ext E130).ext E149).ext E160).ext E179).ext E554).ext E573).ext E582).ext E598).wr W605 (Nat.ne_of_lt n103)).wr W609 (Nat.ne_of_lt n110))) hb640
  have n650 : b29 < b638 := Nat.lt_of_lt_of_le (Blk.lt (((((((((((((((hB31.ext E40).ext E68).kl E80 nin0).wr W114 (Nat.ne_of_lt n104)).wr W118 (Nat.ne_of_lt n111)).ext E130).ext E149).ext E160).ext E179).ext E554).ext E573).ext E582).ext E598).wr W605 (Nat.ne_of_lt n104)).wr W609 (Nat.ne_of_lt n111))) hb640
  have n651 : b99 < b638 := Nat.lt_of_lt_of_le (Blk.lt (hB606.wr W609 (Ne.symm n113))) hb640
  have n652 : b106 < b638 := Nat.lt_of_lt_of_le (Blk.lt hB610) hb640
  have g653 : w.heap.size ≤ b638 := Nat.le_trans (Below.size X612) hb640
  have q634 : ∃ r_1 : Nat, ∃ r_2 : Nat, ∃ r_3 : Nat, v627 = (.agg #[(Fl r_1), (Fl r_2), (Fl r_3), (Fl r7), (Fl r9), (Fl r11)]) ∧ cf .f32 r_1 = (V3.mk (cf .f32 r87) (cf .f32 r89) (cf .f32 r602)).x ∧ cf .f32 r_2 = (V3.mk (cf .f32 r87) (cf .f32 r89) (cf .f32 r602)).y ∧ cf .f32 r_3 = (V3.mk (cf .f32 r87) (cf .f32 r89) (cf .f32 r602)).z := q634 rfl
  obtain ⟨r654, r656, r658, rfl, h655, h657, h659⟩ := q634
  have q635 : ∃ b : Nat, v629 = .pointer (some ⟨b, 0, none⟩) ∧ w611.heap.size ≤ b ∧ Blk w631 b [(Fl 0), (Fl 0), (Fl 0), (Fl 0), (Fl 0), (Fl 0)] := q635 rfl
  obtain ⟨b660, rfl, hb661, hB662⟩ := q635
  have n663 : b14 < b660 := Nat.lt_of_lt_of_le (Blk.lt (((((((((((((((((hB16.ext E24).ext E32).ext E40).ext E68).kl E80 nin0).wr W114 (Nat.ne_of_lt n102)).wr W118 (Nat.ne_of_lt n109)).ext E130).ext E149).ext E160).ext E179).ext E554).ext E573).ext E582).ext E598).wr W605 (Nat.ne_of_lt n102)).wr W609 (Nat.ne_of_lt n109))) hb661
  have n664 : b21 < b660 := Nat.lt_of_lt_of_le (Blk.lt ((((((((((((((((hB23.ext E32).ext E40).ext E68).kl E80 nin0).wr W114 (Nat.ne_of_lt n103)).wr W118 (Nat.ne_of_lt n110)).ext E130).ext E149).ext E160).ext E179).ext E554).ext E573).ext E582).ext E598).wr W605 (Nat.ne_of_lt n103)).wr W609 (Nat.ne_of_lt n110))) hb661
  have n665 : b29 < b660 := Nat.lt_of_lt_of_le (Blk.lt (((((((((((((((hB31.ext E40).ext E68).kl E80 nin0).wr W114 (Nat.ne_of_lt n104)).wr W118 (Nat.ne_of_lt n111)).ext E130).ext E149).ext E160).ext E179).ext E554).ext E573).ext E582).ext E598).wr W605 (Nat.ne_of_lt n104)).wr W609 (Nat.ne_of_lt n111))) hb661
  have n666 : b99 < b660 := Nat.lt_of_lt_of_le (Blk.lt (hB606.wr W609 (Ne.symm n113))) hb661
  have n667 : b106 < b660 := Nat.lt_of_lt_of_le (Blk.lt hB610) hb661
  have g668 : w.heap.size ≤ b660 := Nat.le_trans (Below.size X612) hb661
  have n669 : b660 ≠ b638 := by intro h; subst h; simp at hND
  clear hND
  show wpList _ _ _ _ (fr [_, _, _, _, _, _, _, _, _, _, _, _, _, _, _, _, _, _, _, _, _, _, _, _, _, _, _, _, _, _, _, _, _, _, _, _, _, _, _, _, _, _, _, _, _, _, _, _, _, _, _, _, _, _, _, _, _, _, _, _, _, _, _, _, _, _, _, _, _, _, _, _, _, _, _, _, _, _, _, _, _, _, _]) _
  refine seqn rfl rfl (does_store (n := 6) (cs := [(Fl 0), (Fl 0), (Fl 0), (Fl 0), (Fl 0), (Fl 0)]) (u := (.agg #[(Fl r654), (Fl r656), (Fl r658), (Fl r7), (Fl r9), (Fl r11)])) (ev rfl) (ev rfl) Try.sizeOf29 rfl hB662 (Nat.le_of_ble_eq_true rfl) rfl) ?_; rintro _ w672 ⟨rfl, W670, hB671⟩
  change Blk _ _ [(Fl r654), (Fl r656), (Fl r658), (Fl r7), (Fl r9), (Fl r11)] at hB671
  have X673 := Below.wr X637 W670 g668
  refine wpList_nil (hK613 _ _ ?_)
  refine wp_seq_k fun K674 hK674 => ?_
  refine wp_seq_k fun K675 hK675 => ?_
  obtain ⟨β9, hβ9⟩ : ∃ b : Bool, b = (isBox (Bx.mk A_b.lo (V3.mk (cf .f32 r93) (cf .f32 r95) (cf .f32 r602)))) := ⟨_, rfl⟩
  obtain ⟨β10, hβ10⟩ : ∃ b : Bool, b = (isBox (Bx.mk (V3.mk (cf .f32 r654) (cf .f32 r656) (cf .f32 r658)) A_b.hi)) := ⟨_, rfl⟩
  refine region_text (
   [Fact.pure [] (fun v => v = (.agg #[(Fl r1), (Fl r3), (Fl r5), (Fl r642), (Fl r643), (Fl r644)])),
  Fact.pure [71] (fun v => v = (Bo β9)),
  Fact.pure [72] (fun v => v = (Bo (!β9))),
  Fact.pure [73] (fun v => v = (Bo (!β9))),
  Fact.pure [74] (fun v => (!β9) = false → v = (.agg #[(Fl r654), (Fl r656), (Fl r658), (Fl r7), (Fl r9), (Fl r11)])),
  Fact.pure [75, 74] (fun v => (!β9) = false → v = (Bo β10)),
  Fact.pure [76, 74] (fun v => (!β9) = false → v = (Bo (!β10))),
  Fact.pure [74, 77] (fun v => v = (Bo ((!β9) || (!β10))))]) (by simp [Fact.pure, Fact.mem]) ?_
  refine RW_d _ rfl (fun v => by dsimp only [List.set]; try rfl) (fun u hu hF => ?_) (fun v676 => ?_)
  ·clear hF
   refine doesG_un rfl ?_
   refine (does_loadAgg (cs := [(Fl r1), (Fl r3), (Fl r5), (Fl r642), (Fl r643), (Fl r644)]) (ev rfl) Try.isAgg29 Try.sizeOf29 (Blk.cells ((hB641.wr W670 (Ne.symm n669)).ext hu)) rfl).mono ?_; rintro _ _ ⟨rfl, rfl⟩
   exact ⟨rfl, Ext.refl _⟩
  refine RW_d _ rfl (fun v => by dsimp only [List.set]; try rfl) (fun u hu hF => ?_) (fun v677 => ?_)
  ·have h71_ : v676 = (.agg #[(Fl r1), (Fl r3), (Fl r5), (Fl r642), (Fl r643), (Fl r644)]) := hF.1
   clear hF
   refine doesG_un rfl ?_
   obtain rfl := h71_
   refine (does_call (args := #[(.agg #[(Fl r1), (Fl r3), (Fl r5), (Fl r642), (Fl r643), (Fl r644)])]) cal11 (evs rfl) (c_impl_ValidBox [(Fl r1), (Fl r3), (Fl r5), (Fl r642), (Fl r643), (Fl r644)] (Bx.mk A_b.lo (V3.mk (cf .f32 r93) (cf .f32 r95) (cf .f32 r602))) _ ⟨r1, r3, r5, r642, r643, r644, rfl, h2, h4, h6, h645, h646, h647⟩)).mono ?_; rintro v u' ⟨hx, hv⟩
   exact ⟨hv.trans (by simp only [hβ9]), hx⟩
  refine RW_d _ rfl (fun v => by dsimp only [List.set]; try rfl) (fun u hu hF => ?_) (fun v678 => ?_)
  ·have h72_ : v677 = (Bo β9) := hF.1
   clear hF
   refine doesG_un rfl ?_
   obtain rfl := h72_
   refine (does_not (ev rfl)).mono ?_; rintro _ _ ⟨rfl, rfl⟩
   exact ⟨rfl, Ext.refl _⟩
  refine RW_d _ rfl (fun v => by dsimp only [List.set]; try rfl) (fun u hu hF => ?_) (fun v679 => ?_)
  ·have h73_ : v678 = (Bo (!β9)) := hF.1
   clear hF
   refine doesG_un rfl ?_
   obtain rfl := h73_
   refine (does_move (u := (Bo (!β9))) (ev rfl)).mono ?_; rintro _ _ ⟨rfl, rfl⟩
   exact ⟨rfl, Ext.refl _⟩
  refine RW_d _ rfl (fun v => by dsimp only [List.set]; try rfl) (fun u hu hF => ?_) (fun v680 => ?_)
  ·have h74_ : v679 = (Bo (!β9)) := hF.1
   clear hF
   obtain rfl := h74_
   refine doesG_g (b := (!β9)) rfl (yld rfl rfl) (fun hg1 => ?_) (fun hc => ⟨fun hg1 => absurd hg1 hc, Ext.refl _⟩)
   refine (does_loadAgg (cs := [(Fl r654), (Fl r656), (Fl r658), (Fl r7), (Fl r9), (Fl r11)]) (ev rfl) Try.isAgg29 Try.sizeOf29 (Blk.cells (hB671.ext hu)) rfl).mono ?_; rintro _ _ ⟨rfl, rfl⟩
   exact ⟨fun _ => rfl, Ext.refl _⟩
  refine RW_d _ rfl (fun v => by dsimp only [List.set]; try rfl) (fun u hu hF => ?_) (fun v681 => ?_)
  ·have h75_ : (!β9) = false → v680 = (.agg #[(Fl r654), (Fl r656), (Fl r658), (Fl r7), (Fl r9), (Fl r11)]) := hF.1
   have h74_ : v679 = (Bo (!β9)) := hF.2.1
   clear hF
   obtain rfl := h74_
   refine doesG_g (b := (!β9)) rfl (yld rfl rfl) (fun hg1 => ?_) (fun hc => ⟨fun hg1 => absurd hg1 hc, Ext.refl _⟩)
   obtain rfl := h75_ hg1
   refine (does_call (args := #[(.agg #[(Fl r654), (Fl r656), (Fl r658), (Fl r7), (Fl r9), (Fl r11)])]) cal11 (evs rfl) (c_impl_ValidBox [(Fl r654), (Fl r656), (Fl r658), (Fl r7), (Fl r9), (Fl r11)] (Bx.mk (V3.mk (cf .f32 r654) (cf .f32 r656) (cf .f32 r658)) A_b.hi) _ ⟨r654, r656, r658, r7, r9, r11, rfl, rfl, rfl, rfl, h8, h10, h12⟩)).mono ?_; rintro v u' ⟨hx, hv⟩
   exact ⟨fun _ => hv.trans (by simp only [hβ10]), hx⟩
  refine RW_d _ rfl (fun v => by dsimp only [List.set]; try rfl) (fun u hu hF => ?_) (fun v682 => ?_)
  ·have h76_ : (!β9) = false → v681 = (Bo β10) := hF.1
   have h74_ : v679 = (Bo (!β9)) := hF.2.1
   clear hF
   obtain rfl := h74_
   refine doesG_g (b := (!β9)) rfl (yld rfl rfl) (fun hg1 => ?_) (fun hc => ⟨fun hg1 => absurd hg1 hc, Ext.refl _⟩)
   obtain rfl := h76_ hg1
   refine (does_not (ev rfl)).mono ?_; rintro _ _ ⟨rfl, rfl⟩
   exact ⟨fun _ => rfl, Ext.refl _⟩
  refine RW_d _ rfl (fun v => by dsimp only [List.set]; try rfl) (fun u hu hF => ?_) (fun v683 => ?_)
  ·have h74_ : v679 = (Bo (!β9)) := hF.1
   have h77_ : (!β9) = false → v682 = (Bo (!β10)) := hF.2.1
   clear hF
   refine doesG_un rfl ?_
   skip
   obtain rfl := h74_
   refine (does_pick (b := (!β9)) (u := (Bo true)) (v := v682) (ev rfl) (ev rfl) (ev rfl)).mono ?_; rintro _ _ ⟨rfl, rfl⟩; refine ⟨?_, Ext.refl _⟩; skip
   cases hbb : (!β9)
   all_goals first | (show _ = _; simp only [↓reduceIte, Bool.true_and, Bool.false_and, Bool.true_or, Bool.false_or, Bool.false_eq_true]; done) | (have e_ := h77_ hbb; subst e_; show _ = _; simp only [↓reduceIte, Bool.true_and, Bool.false_and, Bool.true_or, Bool.false_or, Bool.false_eq_true]; done) | rfl | (have e_ := h77_ hbb; subst e_; rfl) | (simp [hbb] at h77_ ⊢; first | done | rfl | (subst h77_; rfl) | simp_all) | (simp [hbb] at h77_ ⊢; done)
  refine RW_fin ?_; intro w684 E685 hP686
  obtain ⟨⟨⟨⟨⟨⟨⟨⟨-, -⟩, -⟩, -⟩, -⟩, -⟩, -⟩, -⟩, q687⟩ := hP686
  have X688 := Ext.gr X673 E685
  have q687 : v683 = (Bo ((!β9) || (!β10))) := q687
  obtain rfl := q687
  show wpList _ _ _ _ (fr [_, _, _, _, _, _, _, _, _, _, _, _, _, _, _, _, _, _, _, _, _, _, _, _, _, _, _, _, _, _, _, _, _, _, _, _, _, _, _, _, _, _, _, _, _, _, _, _, _, _, _, _, _, _, _, _, _, _, _, _, _, _, _, _, _, _, _, _, _, _, _, _, _, _, _, _, _, _, _, _, _, _, _]) _
  refine wpList_nil (hK675 _ _ ?_)
  refine wp_cond_split (t := (!β9) || (!β10)) (ev rfl) (fun c689 => ?_) (fun c689 => ?_)
  ·have c689' := c689
   (try simp only [hβ1, hβ2, hβ8, hβ9, hβ10] at c689')
   (try simp only [icmp, Bool.and_eq_true, Bool.or_eq_true, Bool.and_eq_false_iff, Bool.or_eq_false_iff, Bool.not_eq_true', Bool.not_eq_false', decide_eq_true_eq, decide_eq_false_iff_not, beq_iff_eq, bne_iff_ne, beq_eq_false_iff_ne, bne_eq_false_iff_eq] at c689')
   first | have hax : axB A_b = 0 := by (simp only [axB, gtF, dimB, pickV_0, pickV_1, pickV_2, c43, c153, c183, c577, c689, if_true, if_false, Bool.false_eq_true, ↓reduceIte]; done) | have hax : axB A_b = 1 := by (simp only [axB, gtF, dimB, pickV_0, pickV_1, pickV_2, c43, c153, c183, c577, c689, if_true, if_false, Bool.false_eq_true, ↓reduceIte]; done) | have hax : axB A_b = 2 := by (simp only [axB, gtF, dimB, pickV_0, pickV_1, pickV_2, c43, c153, c183, c577, c689, if_true, if_false, Bool.false_eq_true, ↓reduceIte]; done)
   have hsf : splitOk A_b = false := splitOk_1 (by simp only [h2, h4, h6, h8, h10, h12, h88, h90, h92, h94, h96, h98, hβ1, hβ2, hβ8, h603, h645, h646, h647, h655, h657, h659, hβ9, hβ10, half_two] at c689'; simp only [oneB, twoB, midB, dimB, hax, half_two, pickV_0, pickV_1, pickV_2, setV_0, setV_1, setV_2]; exact c689')
   refine wp_seq_k fun K690 hK690 => ?_
   refine wp_region_lit ?_
   refine q_is rfl rfl (does_build (parts' := []) (cells := #[(Fl 0), (Fl 0), (Fl 0), (Fl 0), (Fl 0), (Fl 0)]) (evp rfl) (by kernel_rfl)) (by dsimp only [List.set]; try rfl) ?_
   refine q_is rfl rfl (does_build (parts' := []) (cells := #[(Fl 0), (Fl 0), (Fl 0), (Fl 0), (Fl 0), (Fl 0)]) (evp rfl) (by kernel_rfl)) (by dsimp only [List.set]; try rfl) ?_
   refine seqn rfl rfl (does_store (n := 6) (cs := [(Fl 0), (Fl 0), (Fl 0), (Fl 0), (Fl 0), (Fl 0)]) (u := (.agg #[(Fl 0), (Fl 0), (Fl 0), (Fl 0), (Fl 0), (Fl 0)])) (ev rfl) (ev rfl) Try.sizeOf29 rfl ((((((((((((((((((((hB23.ext E32).ext E40).ext E68).kl E80 nin0).wr W114 (Nat.ne_of_lt n103)).wr W118 (Nat.ne_of_lt n110)).ext E130).ext E149).ext E160).ext E179).ext E554).ext E573).ext E582).ext E598).wr W605 (Nat.ne_of_lt n103)).wr W609 (Nat.ne_of_lt n110)).ext E615).kl E632 nin0).wr W670 (Nat.ne_of_lt n664)).ext E685) (Nat.le_of_ble_eq_true rfl) rfl) ?_; rintro _ w693 ⟨rfl, W691, hB692⟩
   change Blk _ _ [(Fl 0), (Fl 0), (Fl 0), (Fl 0), (Fl 0), (Fl 0)] at hB692
   have X694 := Below.wr X688 W691 g27
   refine seqn rfl rfl (does_store (n := 6) (cs := [(Fl 0), (Fl 0), (Fl 0), (Fl 0), (Fl 0), (Fl 0)]) (u := (.agg #[(Fl 0), (Fl 0), (Fl 0), (Fl 0), (Fl 0), (Fl 0)])) (ev rfl) (ev rfl) Try.sizeOf29 rfl ((((((((((((((((((((hB31.ext E40).ext E68).kl E80 nin0).wr W114 (Nat.ne_of_lt n104)).wr W118 (Nat.ne_of_lt n111)).ext E130).ext E149).ext E160).ext E179).ext E554).ext E573).ext E582).ext E598).wr W605 (Nat.ne_of_lt n104)).wr W609 (Nat.ne_of_lt n111)).ext E615).kl E632 nin0).wr W670 (Nat.ne_of_lt n665)).ext E685).wr W691 (Nat.ne_of_gt n35)) (Nat.le_of_ble_eq_true rfl) rfl) ?_; rintro _ w697 ⟨rfl, W695, hB696⟩
   change Blk _ _ [(Fl 0), (Fl 0), (Fl 0), (Fl 0), (Fl 0), (Fl 0)] at hB696
   have X698 := Below.wr X694 W695 g36
   refine q_is rfl rfl (does_assign (u := (Bo false)) (ev rfl)) (by dsimp only [List.set]; try rfl) ?_
   refine wpList_nil (hK690 _ _ ?_)
   refine wp_ret ?_
   dsimp only [Exit.then, Exit.inBlock]
   refine ret_val (v := (.tuple #[(.agg #[(Fl 0), (Fl 0), (Fl 0), (Fl 0), (Fl 0), (Fl 0)]), (.agg #[(Fl 0), (Fl 0), (Fl 0), (Fl 0), (Fl 0), (Fl 0)]), (Bo false)])) (res_CCT rfl (slot rfl) (run_loadAgg (cs := [(Fl 0), (Fl 0), (Fl 0), (Fl 0), (Fl 0), (Fl 0)]) Try.isAgg29 Try.sizeOf29 (Blk.cells (hB692.wr W695 (Nat.ne_of_lt n35))) rfl) (slot rfl) (run_loadAgg (cs := [(Fl 0), (Fl 0), (Fl 0), (Fl 0), (Fl 0), (Fl 0)]) Try.isAgg29 Try.sizeOf29 (Blk.cells hB696) rfl) (slot rfl)) X698 ?_
   try simp only [h2, h4, h6, h8, h10, h12, h88, h90, h92, h94, h96, h98, hβ1, hβ2, hβ8, h603, h645, h646, h647, h655, h657, h659, hβ9, hβ10] at c43 c153 c183 c577 c689
   have x699 : (splitOk A_b) = false := by first | exact hsf | exact hst | (rw [hsf] <;> rfl) | (rw [hst, gvB_t]; first | rfl | assumption | (simp only [oneB, twoB, midB, dimB, hax, half_two, pickV_0, pickV_1, pickV_2, setV_0, setV_1, setV_2, h2, h4, h6, h8, h10, h12, h88, h90, h92, h94, h96, h98, hβ1, hβ2, hβ8, h603, h645, h646, h647, h655, h657, h659, hβ9, hβ10, c43, c153, c183, c577, c689]; done) | (simp only [oneB, twoB, midB, dimB, hax, half_two, pickV_0, pickV_1, pickV_2, setV_0, setV_1, setV_2, h2, h4, h6, h8, h10, h12, h88, h90, h92, h94, h96, h98, hβ1, hβ2, hβ8, h603, h645, h646, h647, h655, h657, h659, hβ9, hβ10, c43, c153, c183, c577, c689]; rfl))
   have x700 : cf .f32 0 = (gvB (splitOk A_b) (oneB A_b)).lo.x := by first | exact hsf | exact hst | (rw [hsf] <;> rfl) | (rw [hst, gvB_t]; first | rfl | assumption | (simp only [oneB, twoB, midB, dimB, hax, half_two, pickV_0, pickV_1, pickV_2, setV_0, setV_1, setV_2, h2, h4, h6, h8, h10, h12, h88, h90, h92, h94, h96, h98, hβ1, hβ2, hβ8, h603, h645, h646, h647, h655, h657, h659, hβ9, hβ10, c43, c153, c183, c577, c689]; done) | (simp only [oneB, twoB, midB, dimB, hax, half_two, pickV_0, pickV_1, pickV_2, setV_0, setV_1, setV_2, h2, h4, h6, h8, h10, h12, h88, h90, h92, h94, h96, h98, hβ1, hβ2, hβ8, h603, h645, h646, h647, h655, h657, h659, hβ9, hβ10, c43, c153, c183, c577, c689]; rfl))
   have x701 : cf .f32 0 = (gvB (splitOk A_b) (oneB A_b)).lo.y := by first | exact hsf | exact hst | (rw [hsf] <;> rfl) | (rw [hst, gvB_t]; first | rfl | assumption | (simp only [oneB, twoB, midB, dimB, hax, half_two, pickV_0, pickV_1, pickV_2, setV_0, setV_1, setV_2, h2, h4, h6, h8, h10, h12, h88, h90, h92, h94, h96, h98, hβ1, hβ2, hβ8, h603, h645, h646, h647, h655, h657, h659, hβ9, hβ10, c43, c153, c183, c577, c689]; done) | (simp only [oneB, twoB, midB, dimB, hax, half_two, pickV_0, pickV_1, pickV_2, setV_0, setV_1, setV_2, h2, h4, h6, h8, h10, h12, h88, h90, h92, h94, h96, h98, hβ1, hβ2, hβ8, h603, h645, h646, h647, h655, h657, h659, hβ9, hβ10, c43, c153, c183, c577, c689]; rfl))
   have x702 : cf .f32 0 = (gvB (splitOk A_b) (oneB A_b)).lo.z := by first | exact hsf | exact hst | (rw [hsf] <;> rfl) | (rw [hst, gvB_t]; first | rfl | assumption | (simp only [oneB, twoB, midB, dimB, hax, half_two, pickV_0, pickV_1, pickV_2, setV_0, setV_1, setV_2, h2, h4, h6, h8, h10, h12, h88, h90, h92, h94, h96, h98, hβ1, hβ2, hβ8, h603, h645, h646, h647, h655, h657, h659, hβ9, hβ10, c43, c153, c183, c577, c689]; done) | (simp only [oneB, twoB, midB, dimB, hax, half_two, pickV_0, pickV_1, pickV_2, setV_0, setV_1, setV_2, h2, h4, h6, h8, h10, h12, h88, h90, h92, h94, h96, h98, hβ1, hβ2, hβ8, h603, h645, h646, h647, h655, h657, h659, hβ9, hβ10, c43, c153, c183, c577, c689]; rfl))
   have x703 : cf .f32 0 = (gvB (splitOk A_b) (oneB A_b)).hi.x := by first | exact hsf | exact hst | (rw [hsf] <;> rfl) | (rw [hst, gvB_t]; first | rfl | assumption | (simp only [oneB, twoB, midB, dimB, hax, half_two, pickV_0, pickV_1, pickV_2, setV_0, setV_1, setV_2, h2, h4, h6, h8, h10, h12, h88, h90, h92, h94, h96, h98, hβ1, hβ2, hβ8, h603, h645, h646, h647, h655, h657, h659, hβ9, hβ10, c43, c153, c183, c577, c689]; done) | (simp only [oneB, twoB, midB, dimB, hax, half_two, pickV_0, pickV_1, pickV_2, setV_0, setV_1, setV_2, h2, h4, h6, h8, h10, h12, h88, h90, h92, h94, h96, h98, hβ1, hβ2, hβ8, h603, h645, h646, h647, h655, h657, h659, hβ9, hβ10, c43, c153, c183, c577, c689]; rfl))
   have x704 : cf .f32 0 = (gvB (splitOk A_b) (oneB A_b)).hi.y := by first | exact hsf | exact hst | (rw [hsf] <;> rfl) | (rw [hst, gvB_t]; first | rfl | assumption | (simp only [oneB, twoB, midB, dimB, hax, half_two, pickV_0, pickV_1, pickV_2, setV_0, setV_1, setV_2, h2, h4, h6, h8, h10, h12, h88, h90, h92, h94, h96, h98, hβ1, hβ2, hβ8, h603, h645, h646, h647, h655, h657, h659, hβ9, hβ10, c43, c153, c183, c577, c689]; done) | (simp only [oneB, twoB, midB, dimB, hax, half_two, pickV_0, pickV_1, pickV_2, setV_0, setV_1, setV_2, h2, h4, h6, h8, h10, h12, h88, h90, h92, h94, h96, h98, hβ1, hβ2, hβ8, h603, h645, h646, h647, h655, h657, h659, hβ9, hβ10, c43, c153, c183, c577, c689]; rfl))
   have x705 : cf .f32 0 = (gvB (splitOk A_b) (oneB A_b)).hi.z := by first | exact hsf | exact hst | (rw [hsf] <;> rfl) | (rw [hst, gvB_t]; first | rfl | assumption | (simp only [oneB, twoB, midB, dimB, hax, half_two, pickV_0, pickV_1, pickV_2, setV_0, setV_1, setV_2, h2, h4, h6, h8, h10, h12, h88, h90, h92, h94, h96, h98, hβ1, hβ2, hβ8, h603, h645, h646, h647, h655, h657, h659, hβ9, hβ10, c43, c153, c183, c577, c689]; done) | (simp only [oneB, twoB, midB, dimB, hax, half_two, pickV_0, pickV_1, pickV_2, setV_0, setV_1, setV_2, h2, h4, h6, h8, h10, h12, h88, h90, h92, h94, h96, h98, hβ1, hβ2, hβ8, h603, h645, h646, h647, h655, h657, h659, hβ9, hβ10, c43, c153, c183, c577, c689]; rfl))
   have x706 : cf .f32 0 = (gvB (splitOk A_b) (twoB A_b)).lo.x := by first | exact hsf | exact hst | (rw [hsf] <;> rfl) | (rw [hst, gvB_t]; first | rfl | assumption | (simp only [oneB, twoB, midB, dimB, hax, half_two, pickV_0, pickV_1, pickV_2, setV_0, setV_1, setV_2, h2, h4, h6, h8, h10, h12, h88, h90, h92, h94, h96, h98, hβ1, hβ2, hβ8, h603, h645, h646, h647, h655, h657, h659, hβ9, hβ10, c43, c153, c183, c577, c689]; done) | (simp only [oneB, twoB, midB, dimB, hax, half_two, pickV_0, pickV_1, pickV_2, setV_0, setV_1, setV_2, h2, h4, h6, h8, h10, h12, h88, h90, h92, h94, h96, h98, hβ1, hβ2, hβ8, h603, h645, h646, h647, h655, h657, h659, hβ9, hβ10, c43, c153, c183, c577, c689]; rfl))
   have x707 : cf .f32 0 = (gvB (splitOk A_b) (twoB A_b)).lo.y := by first | exact hsf | exact hst | (rw [hsf] <;> rfl) | (rw [hst, gvB_t]; first | rfl | assumption | (simp only [oneB, twoB, midB, dimB, hax, half_two, pickV_0, pickV_1, pickV_2, setV_0, setV_1, setV_2, h2, h4, h6, h8, h10, h12, h88, h90, h92, h94, h96, h98, hβ1, hβ2, hβ8, h603, h645, h646, h647, h655, h657, h659, hβ9, hβ10, c43, c153, c183, c577, c689]; done) | (simp only [oneB, twoB, midB, dimB, hax, half_two, pickV_0, pickV_1, pickV_2, setV_0, setV_1, setV_2, h2, h4, h6, h8, h10, h12, h88, h90, h92, h94, h96, h98, hβ1, hβ2, hβ8, h603, h645, h646, h647, h655, h657, h659, hβ9, hβ10, c43, c153, c183, c577, c689]; rfl))
   have x708 : cf .f32 0 = (gvB (splitOk A_b) (twoB A_b)).lo.z := by first | exact hsf | exact hst | (rw [hsf] <;> rfl) | (rw [hst, gvB_t]; first | rfl | assumption | (simp only [oneB, twoB, midB, dimB, hax, half_two, pickV_0, pickV_1, pickV_2, setV_0, setV_1, setV_2, h2, h4, h6, h8, h10, h12, h88, h90, h92, h94, h96, h98, hβ1, hβ2, hβ8, h603, h645, h646, h647, h655, h657, h659, hβ9, hβ10, c43, c153, c183, c577, c689]; done) | (simp only [oneB, twoB, midB, dimB, hax, half_two, pickV_0, pickV_1, pickV_2, setV_0, setV_1, setV_2, h2, h4, h6, h8, h10, h12, h88, h90, h92, h94, h96, h98, hβ1, hβ2, hβ8, h603, h645, h646, h647, h655, h657, h659, hβ9, hβ10, c43, c153, c183, c577, c689]; rfl))
   have x709 : cf .f32 0 = (gvB (splitOk A_b) (twoB A_b)).hi.x := by first | exact hsf | exact hst | (rw [hsf] <;> rfl) | (rw [hst, gvB_t]; first | rfl | assumption | (simp only [oneB, twoB, midB, dimB, hax, half_two, pickV_0, pickV_1, pickV_2, setV_0, setV_1, setV_2, h2, h4, h6, h8, h10, h12, h88, h90, h92, h94, h96, h98, hβ1, hβ2, hβ8, h603, h645, h646, h647, h655, h657, h659, hβ9, hβ10, c43, c153, c183, c577, c689]; done) | (simp only [oneB, twoB, midB, dimB, hax, half_two, pickV_0, pickV_1, pickV_2, setV_0, setV_1, setV_2, h2, h4, h6, h8, h10, h12, h88, h90, h92, h94, h96, h98, hβ1, hβ2, hβ8, h603, h645, h646, h647, h655, h657, h659, hβ9, hβ10, c43, c153, c183, c577, c689]; rfl))
   have x710 : cf .f32 0 = (gvB (splitOk A_b) (twoB A_b)).hi.y := by first | exact hsf | exact hst | (rw [hsf] <;> rfl) | (rw [hst, gvB_t]; first | rfl | assumption | (simp only [oneB, twoB, midB, dimB, hax, half_two, pickV_0, pickV_1, pickV_2, setV_0, setV_1, setV_2, h2, h4, h6, h8, h10, h12, h88, h90, h92, h94, h96, h98, hβ1, hβ2, hβ8, h603, h645, h646, h647, h655, h657, h659, hβ9, hβ10, c43, c153, c183, c577, c689]; done) | (simp only [oneB, twoB, midB, dimB, hax, half_two, pickV_0, pickV_1, pickV_2, setV_0, setV_1, setV_2, h2, h4, h6, h8, h10, h12, h88, h90, h92, h94, h96, h98, hβ1, hβ2, hβ8, h603, h645, h646, h647, h655, h657, h659, hβ9, hβ10, c43, c153, c183, c577, c689]; rfl))
   have x711 : cf .f32 0 = (gvB (splitOk A_b) (twoB A_b)).hi.z := by first | exact hsf | exact hst | (rw [hsf] <;> rfl) | (rw [hst, gvB_t]; first | rfl | assumption | (simp only [oneB, twoB, midB, dimB, hax, half_two, pickV_0, pickV_1, pickV_2, setV_0, setV_1, setV_2, h2, h4, h6, h8, h10, h12, h88, h90, h92, h94, h96, h98, hβ1, hβ2, hβ8, h603, h645, h646, h647, h655, h657, h659, hβ9, hβ10, c43, c153, c183, c577, c689]; done) | (simp only [oneB, twoB, midB, dimB, hax, half_two, pickV_0, pickV_1, pickV_2, setV_0, setV_1, setV_2, h2, h4, h6, h8, h10, h12, h88, h90, h92, h94, h96, h98, hβ1, hβ2, hβ8, h603, h645, h646, h647, h655, h657, h659, hβ9, hβ10, c43, c153, c183, c577, c689]; rfl))
   exact ⟨[(Fl 0), (Fl 0), (Fl 0), (Fl 0), (Fl 0), (Fl 0)], [(Fl 0), (Fl 0), (Fl 0), (Fl 0), (Fl 0), (Fl 0)], (by first | with_reducible rfl | rw [x699] | rfl), ⟨0, 0, 0, 0, 0, 0, rfl, x700, x701, x702, x703, x704, x705⟩, ⟨0, 0, 0, 0, 0, 0, rfl, x706, x707, x708, x709, x710, x711⟩⟩
  have c689' := c689
  (try simp only [hβ1, hβ2, hβ8, hβ9, hβ10] at c689')
  (try simp only [icmp, Bool.and_eq_true, Bool.or_eq_true, Bool.and_eq_false_iff, Bool.or_eq_false_iff, Bool.not_eq_true', Bool.not_eq_false', decide_eq_true_eq, decide_eq_false_iff_not, beq_iff_eq, bne_iff_ne, beq_eq_false_iff_ne, bne_eq_false_iff_eq] at c689')
  first | have hax : axB A_b = 0 := by (simp only [axB, gtF, dimB, pickV_0, pickV_1, pickV_2, c43, c153, c183, c577, c689, if_true, if_false, Bool.false_eq_true, ↓reduceIte]; done) | have hax : axB A_b = 1 := by (simp only [axB, gtF, dimB, pickV_0, pickV_1, pickV_2, c43, c153, c183, c577, c689, if_true, if_false, Bool.false_eq_true, ↓reduceIte]; done) | have hax : axB A_b = 2 := by (simp only [axB, gtF, dimB, pickV_0, pickV_1, pickV_2, c43, c153, c183, c577, c689, if_true, if_false, Bool.false_eq_true, ↓reduceIte]; done)
  have hst : splitOk A_b = true := splitOk_t hs0 (by simp only [h2, h4, h6, h8, h10, h12, h88, h90, h92, h94, h96, h98, hβ1, hβ2, hβ8, h603, h645, h646, h647, h655, h657, h659, hβ9, hβ10, half_two] at c689'; simp only [oneB, twoB, midB, dimB, hax, half_two, pickV_0, pickV_1, pickV_2, setV_0, setV_1, setV_2]; exact c689')
  refine wp_skip (hK674 _ _ ?_)
  refine wp_seq_k fun K712 hK712 => ?_
  have n716 : b21 < w684.heap.size := Blk.lt ((((((((((((((((((((hB23.ext E32).ext E40).ext E68).kl E80 nin0).wr W114 (Nat.ne_of_lt n103)).wr W118 (Nat.ne_of_lt n110)).ext E130).ext E149).ext E160).ext E179).ext E554).ext E573).ext E582).ext E598).wr W605 (Nat.ne_of_lt n103)).wr W609 (Nat.ne_of_lt n110)).ext E615).kl E632 nin0).wr W670 (Nat.ne_of_lt n664)).ext E685)
  refine region_any2 [b21] [0, 0, 1, 7, 15] [0] (
   [FactW.pure [] [] [0] true (fun v => v = (.agg #[(Fl r1), (Fl r3), (Fl r5), (Fl r642), (Fl r643), (Fl r644)])),
    FactW.pure [] [0] [0] true (fun v => v = (.agg #[(Fl r654), (Fl r656), (Fl r658), (Fl r7), (Fl r9), (Fl r11)])),
    FactW.mem [0] [] [0] [] true (fun v w' => v = undef ∧ Blk w' b21 [(Fl r1), (Fl r3), (Fl r5), (Fl r642), (Fl r643), (Fl r644)]) (by rintro v w1 w2 hx ⟨rfl, h⟩; exact ⟨rfl, h.ext (KpL.toExt hx)⟩)]) mixed (by kernel_rfl) ?_
  obtain ⟨w713, hw715⟩ : ∃ w', w' = World.drew w684 := ⟨_, rfl⟩; rw [← hw715]; have E714 : Ext w684 w713 := by rw [hw715]; exact Ext.draw _
  clear hw715
  have X717 := Ext.gr X688 E714
  refine RW2_d _ rfl (fun v => by dsimp only [List.set]; try rfl) (fun u hu hF => ?_) (fun v718 => ?_)
  ·replace hu : KpL [] _ _ := hu
   clear hF
   refine doesG_un rfl ?_
   refine (does_loadAgg (cs := [(Fl r1), (Fl r3), (Fl r5), (Fl r642), (Fl r643), (Fl r644)]) (ev rfl) Try.isAgg29 Try.sizeOf29 (Blk.cells ((((hB641.wr W670 (Ne.symm n669)).ext E685).ext E714).ext (KpL.toExt hu))) rfl).mono ?_; rintro _ _ ⟨rfl, rfl⟩
   exact ⟨rfl, KpL.refl _ _⟩
  refine RW2_d _ rfl (fun v => by dsimp only [List.set]; try rfl) (fun u hu hF => ?_) (fun v719 => ?_)
  ·replace hu : KpL [b21] _ _ := hu
   clear hF
   refine doesG_un rfl ?_
   refine (does_loadAgg (cs := [(Fl r654), (Fl r656), (Fl r658), (Fl r7), (Fl r9), (Fl r11)]) (ev rfl) Try.isAgg29 Try.sizeOf29 (Blk.cells (((hB671.ext E685).ext E714).kl hu (ninS (Nat.ne_of_gt n664) nin0))) rfl).mono ?_; rintro _ _ ⟨rfl, rfl⟩
   exact ⟨rfl, KpL.refl _ _⟩
  refine RW2_n rfl (fun u hu hF => ?_) (fun v720 => ?_)
  ·replace hu : KpL [] _ _ := hu
   have h81_ : v718 = (.agg #[(Fl r1), (Fl r3), (Fl r5), (Fl r642), (Fl r643), (Fl r644)]) := hF.1
   clear hF
   refine doesG_un rfl ?_
   obtain rfl := h81_
   refine (does_store (n := 6) (cs := [(Fl 0), (Fl 0), (Fl 0), (Fl 0), (Fl 0), (Fl 0)]) (u := (.agg #[(Fl r1), (Fl r3), (Fl r5), (Fl r642), (Fl r643), (Fl r644)])) (ev rfl) (ev rfl) Try.sizeOf29 rfl ((((((((((((((((((((((hB23.ext E32).ext E40).ext E68).kl E80 nin0).wr W114 (Nat.ne_of_lt n103)).wr W118 (Nat.ne_of_lt n110)).ext E130).ext E149).ext E160).ext E179).ext E554).ext E573).ext E582).ext E598).wr W605 (Nat.ne_of_lt n103)).wr W609 (Nat.ne_of_lt n110)).ext E615).kl E632 nin0).wr W670 (Nat.ne_of_lt n664)).ext E685).ext E714).ext (KpL.toExt hu)) (Nat.le_of_ble_eq_true rfl) rfl).mono ?_; rintro _ _ ⟨rfl, hW, hB⟩
   exact ⟨⟨rfl, hB⟩, KpL.of_wr hW⟩
  refine RW2_fin ?_; intro w721 E722 hP723; replace E722 : KpL [b21] _ _ := E722
  obtain ⟨⟨⟨-, -⟩, q724⟩, q725⟩ := hP723
  have X726 := Below.kl X717 E722 (allS g27 all0) (Nat.le_refl _)
  obtain ⟨_, hB727⟩ := q725 rfl
  change Blk _ _ [(Fl r1), (Fl r3), (Fl r5), (Fl r642), (Fl r643), (Fl r644)] at hB727
  have q724 : v719 = (.agg #[(Fl r654), (Fl r656), (Fl r658), (Fl r7), (Fl r9), (Fl r11)]) := q724 rfl
  obtain rfl := q724
  show wpList _ _ _ _ (fr [_, _, _, _, _, _, _, _, _, _, _, _, _, _, _, _, _, _, _, _, _, _, _, _, _, _, _, _, _, _, _, _, _, _, _, _, _, _, _, _, _, _, _, _, _, _, _, _, _, _, _, _, _, _, _, _, _, _, _, _, _, _, _, _, _, _, _, _, _, _, _, _, _, _, _, _, _, _, _, _, _, _, _]) _
  refine seqn rfl rfl (does_store (n := 6) (cs := [(Fl 0), (Fl 0), (Fl 0), (Fl 0), (Fl 0), (Fl 0)]) (u := (.agg #[(Fl r654), (Fl r656), (Fl r658), (Fl r7), (Fl r9), (Fl r11)])) (ev rfl) (ev rfl) Try.sizeOf29 rfl (((((((((((((((((((((hB31.ext E40).ext E68).kl E80 nin0).wr W114 (Nat.ne_of_lt n104)).wr W118 (Nat.ne_of_lt n111)).ext E130).ext E149).ext E160).ext E179).ext E554).ext E573).ext E582).ext E598).wr W605 (Nat.ne_of_lt n104)).wr W609 (Nat.ne_of_lt n111)).ext E615).kl E632 nin0).wr W670 (Nat.ne_of_lt n665)).ext E685).ext E714).kl E722 (ninS (Nat.ne_of_gt n35) nin0)) (Nat.le_of_ble_eq_true rfl) rfl) ?_; rintro _ w730 ⟨rfl, W728, hB729⟩
  change Blk _ _ [(Fl r654), (Fl r656), (Fl r658), (Fl r7), (Fl r9), (Fl r11)] at hB729
  have X731 := Below.wr X726 W728 g36
  refine q_is rfl rfl (does_assign (u := (Bo true)) (ev rfl)) (by dsimp only [List.set]; try rfl) ?_
  refine wpList_nil (hK712 _ _ ?_)
  refine wp_ret ?_
  refine ret_val (v := (.tuple #[(.agg #[(Fl r1), (Fl r3), (Fl r5), (Fl r642), (Fl r643), (Fl r644)]), (.agg #[(Fl r654), (Fl r656), (Fl r658), (Fl r7), (Fl r9), (Fl r11)]), (Bo true)])) (res_CCT rfl (slot rfl) (run_loadAgg (cs := [(Fl r1), (Fl r3), (Fl r5), (Fl r642), (Fl r643), (Fl r644)]) Try.isAgg29 Try.sizeOf29 (Blk.cells (hB727.wr W728 (Nat.ne_of_lt n35))) rfl) (slot rfl) (run_loadAgg (cs := [(Fl r654), (Fl r656), (Fl r658), (Fl r7), (Fl r9), (Fl r11)]) Try.isAgg29 Try.sizeOf29 (Blk.cells hB729) rfl) (slot rfl)) X731 ?_
  try simp only [h2, h4, h6, h8, h10, h12, h88, h90, h92, h94, h96, h98, hβ1, hβ2, hβ8, h603, h645, h646, h647, h655, h657, h659, hβ9, hβ10] at c43 c153 c183 c577 c689
  have x732 : (splitOk A_b) = true := by first | exact hsf | exact hst | (rw [hsf] <;> rfl) | (rw [hst, gvB_t]; first | rfl | assumption | (simp only [oneB, twoB, midB, dimB, hax, half_two, pickV_0, pickV_1, pickV_2, setV_0, setV_1, setV_2, h2, h4, h6, h8, h10, h12, h88, h90, h92, h94, h96, h98, hβ1, hβ2, hβ8, h603, h645, h646, h647, h655, h657, h659, hβ9, hβ10, c43, c153, c183, c577, c689]; done) | (simp only [oneB, twoB, midB, dimB, hax, half_two, pickV_0, pickV_1, pickV_2, setV_0, setV_1, setV_2, h2, h4, h6, h8, h10, h12, h88, h90, h92, h94, h96, h98, hβ1, hβ2, hβ8, h603, h645, h646, h647, h655, h657, h659, hβ9, hβ10, c43, c153, c183, c577, c689]; rfl))
  have x733 : cf .f32 r1 = (gvB (splitOk A_b) (oneB A_b)).lo.x := by first | exact hsf | exact hst | (rw [hsf] <;> rfl) | (rw [hst, gvB_t]; first | rfl | assumption | (simp only [oneB, twoB, midB, dimB, hax, half_two, pickV_0, pickV_1, pickV_2, setV_0, setV_1, setV_2, h2, h4, h6, h8, h10, h12, h88, h90, h92, h94, h96, h98, hβ1, hβ2, hβ8, h603, h645, h646, h647, h655, h657, h659, hβ9, hβ10, c43, c153, c183, c577, c689]; done) | (simp only [oneB, twoB, midB, dimB, hax, half_two, pickV_0, pickV_1, pickV_2, setV_0, setV_1, setV_2, h2, h4, h6, h8, h10, h12, h88, h90, h92, h94, h96, h98, hβ1, hβ2, hβ8, h603, h645, h646, h647, h655, h657, h659, hβ9, hβ10, c43, c153, c183, c577, c689]; rfl))
  have x734 : cf .f32 r3 = (gvB (splitOk A_b) (oneB A_b)).lo.y := by first | exact hsf | exact hst | (rw [hsf] <;> rfl) | (rw [hst, gvB_t]; first | rfl | assumption | (simp only [oneB, twoB, midB, dimB, hax, half_two, pickV_0, pickV_1, pickV_2, setV_0, setV_1, setV_2, h2, h4, h6, h8, h10, h12, h88, h90, h92, h94, h96, h98, hβ1, hβ2, hβ8, h603, h645, h646, h647, h655, h657, h659, hβ9, hβ10, c43, c153, c183, c577, c689]; done) | (simp only [oneB, twoB, midB, dimB, hax, half_two, pickV_0, pickV_1, pickV_2, setV_0, setV_1, setV_2, h2, h4, h6, h8, h10, h12, h88, h90, h92, h94, h96, h98, hβ1, hβ2, hβ8, h603, h645, h646, h647, h655, h657, h659, hβ9, hβ10, c43, c153, c183, c577, c689]; rfl))
  have x735 : cf .f32 r5 = (gvB (splitOk A_b) (oneB A_b)).lo.z := by first | exact hsf | exact hst | (rw [hsf] <;> rfl) | (rw [hst, gvB_t]; first | rfl | assumption | (simp only [oneB, twoB, midB, dimB, hax, half_two, pickV_0, pickV_1, pickV_2, setV_0, setV_1, setV_2, h2, h4, h6, h8, h10, h12, h88, h90, h92, h94, h96, h98, hβ1, hβ2, hβ8, h603, h645, h646, h647, h655, h657, h659, hβ9, hβ10, c43, c153, c183, c577, c689]; done) | (simp only [oneB, twoB, midB, dimB, hax, half_two, pickV_0, pickV_1, pickV_2, setV_0, setV_1, setV_2, h2, h4, h6, h8, h10, h12, h88, h90, h92, h94, h96, h98, hβ1, hβ2, hβ8, h603, h645, h646, h647, h655, h657, h659, hβ9, hβ10, c43, c153, c183, c577, c689]; rfl))
  have x736 : cf .f32 r642 = (gvB (splitOk A_b) (oneB A_b)).hi.x := by first | exact hsf | exact hst | (rw [hsf] <;> rfl) | (rw [hst, gvB_t]; first | rfl | assumption | (simp only [oneB, twoB, midB, dimB, hax, half_two, pickV_0, pickV_1, pickV_2, setV_0, setV_1, setV_2, h2, h4, h6, h8, h10, h12, h88, h90, h92, h94, h96, h98, hβ1, hβ2, hβ8, h603, h645, h646, h647, h655, h657, h659, hβ9, hβ10, c43, c153, c183, c577, c689]; done) | (simp only [oneB, twoB, midB, dimB, hax, half_two, pickV_0, pickV_1, pickV_2, setV_0, setV_1, setV_2, h2, h4, h6, h8, h10, h12, h88, h90, h92, h94, h96, h98, hβ1, hβ2, hβ8, h603, h645, h646, h647, h655, h657, h659, hβ9, hβ10, c43, c153, c183, c577, c689]; rfl))
  have x737 : cf .f32 r643 = (gvB (splitOk A_b) (oneB A_b)).hi.y := by first | exact hsf | exact hst | (rw [hsf] <;> rfl) | (rw [hst, gvB_t]; first | rfl | assumption | (simp only [oneB, twoB, midB, dimB, hax, half_two, pickV_0, pickV_1, pickV_2, setV_0, setV_1, setV_2, h2, h4, h6, h8, h10, h12, h88, h90, h92, h94, h96, h98, hβ1, hβ2, hβ8, h603, h645, h646, h647, h655, h657, h659, hβ9, hβ10, c43, c153, c183, c577, c689]; done) | (simp only [oneB, twoB, midB, dimB, hax, half_two, pickV_0, pickV_1, pickV_2, setV_0, setV_1, setV_2, h2, h4, h6, h8, h10, h12, h88, h90, h92, h94, h96, h98, hβ1, hβ2, hβ8, h603, h645, h646, h647, h655, h657, h659, hβ9, hβ10, c43, c153, c183, c577, c689]; rfl))
  have x738 : cf .f32 r644 = (gvB (splitOk A_b) (oneB A_b)).hi.z := by first | exact hsf | exact hst | (rw [hsf] <;> rfl) | (rw [hst, gvB_t]; first | rfl | assumption | (simp only [oneB, twoB, midB, dimB, hax, half_two, pickV_0, pickV_1, pickV_2, setV_0, setV_1, setV_2, h2, h4, h6, h8, h10, h12, h88, h90, h92, h94, h96, h98, hβ1, hβ2, hβ8, h603, h645, h646, h647, h655, h657, h659, hβ9, hβ10, c43, c153, c183, c577, c689]; done) | (simp only [oneB, twoB, midB, dimB, hax, half_two, pickV_0, pickV_1, pickV_2, setV_0, setV_1, setV_2, h2, h4, h6, h8, h10, h12, h88, h90, h92, h94, h96, h98, hβ1, hβ2, hβ8, h603, h645, h646, h647, h655, h657, h659, hβ9, hβ10, c43, c153, c183, c577, c689]; rfl))
  have x739 : cf .f32 r654 = (gvB (splitOk A_b) (twoB A_b)).lo.x := by first | exact hsf | exact hst | (rw [hsf] <;> rfl) | (rw [hst, gvB_t]; first | rfl | assumption | (simp only [oneB, twoB, midB, dimB, hax, half_two, pickV_0, pickV_1, pickV_2, setV_0, setV_1, setV_2, h2, h4, h6, h8, h10, h12, h88, h90, h92, h94, h96, h98, hβ1, hβ2, hβ8, h603, h645, h646, h647, h655, h657, h659, hβ9, hβ10, c43, c153, c183, c577, c689]; done) | (simp only [oneB, twoB, midB, dimB, hax, half_two, pickV_0, pickV_1, pickV_2, setV_0, setV_1, setV_2, h2, h4, h6, h8, h10, h12, h88, h90, h92, h94, h96, h98, hβ1, hβ2, hβ8, h603, h645, h646, h647, h655, h657, h659, hβ9, hβ10, c43, c153, c183, c577, c689]; rfl))
  have x740 : cf .f32 r656 = (gvB (splitOk A_b) (twoB A_b)).lo.y := by first | exact hsf | exact hst | (rw [hsf] <;> rfl) | (rw [hst, gvB_t]; first | rfl | assumption | (simp only [oneB, twoB, midB, dimB, hax, half_two, pickV_0, pickV_1, pickV_2, setV_0, setV_1, setV_2, h2, h4, h6, h8, h10, h12, h88, h90, h92, h94, h96, h98, hβ1, hβ2, hβ8, h603, h645, h646, h647, h655, h657, h659, hβ9, hβ10, c43, c153, c183, c577, c689]; done) | (simp only [oneB, twoB, midB, dimB, hax, half_two, pickV_0, pickV_1, pickV_2, setV_0, setV_1, setV_2, h2, h4, h6, h8, h10, h12, h88, h90, h92, h94, h96, h98, hβ1, hβ2, hβ8, h603, h645, h646, h647, h655, h657, h659, hβ9, hβ10, c43, c153, c183, c577, c689]; rfl))
  have x741 : cf .f32 r658 = (gvB (splitOk A_b) (twoB A_b)).lo.z := by first | exact hsf | exact hst | (rw [hsf] <;> rfl) | (rw [hst, gvB_t]; first | rfl | assumption | (simp only [oneB, twoB, midB, dimB, hax, half_two, pickV_0, pickV_1, pickV_2, setV_0, setV_1, setV_2, h2, h4, h6, h8, h10, h12, h88, h90, h92, h94, h96, h98, hβ1, hβ2, hβ8, h603, h645, h646, h647, h655, h657, h659, hβ9, hβ10, c43, c153, c183, c577, c689]; done) | (simp only [oneB, twoB, midB, dimB, hax, half_two, pickV_0, pickV_1, pickV_2, setV_0, setV_1, setV_2, h2, h4, h6, h8, h10, h12, h88, h90, h92, h94, h96, h98, hβ1, hβ2, hβ8, h603, h645, h646, h647, h655, h657, h659, hβ9, hβ10, c43, c153, c183, c577, c689]; rfl))
  have x742 : cf .f32 r7 = (gvB (splitOk A_b) (twoB A_b)).hi.x := by first | exact hsf | exact hst | (rw [hsf] <;> rfl) | (rw [hst, gvB_t]; first | rfl | assumption | (simp only [oneB, twoB, midB, dimB, hax, half_two, pickV_0, pickV_1, pickV_2, setV_0, setV_1, setV_2, h2, h4, h6, h8, h10, h12, h88, h90, h92, h94, h96, h98, hβ1, hβ2, hβ8, h603, h645, h646, h647, h655, h657, h659, hβ9, hβ10, c43, c153, c183, c577, c689]; done) | (simp only [oneB, twoB, midB, dimB, hax, half_two, pickV_0, pickV_1, pickV_2, setV_0, setV_1, setV_2, h2, h4, h6, h8, h10, h12, h88, h90, h92, h94, h96, h98, hβ1, hβ2, hβ8, h603, h645, h646, h647, h655, h657, h659, hβ9, hβ10, c43, c153, c183, c577, c689]; rfl))
  have x743 : cf .f32 r9 = (gvB (splitOk A_b) (twoB A_b)).hi.y := by first | exact hsf | exact hst | (rw [hsf] <;> rfl) | (rw [hst, gvB_t]; first | rfl | assumption | (simp only [oneB, twoB, midB, dimB, hax, half_two, pickV_0, pickV_1, pickV_2, setV_0, setV_1, setV_2, h2, h4, h6, h8, h10, h12, h88, h90, h92, h94, h96, h98, hβ1, hβ2, hβ8, h603, h645, h646, h647, h655, h657, h659, hβ9, hβ10, c43, c153, c183, c577, c689]; done) | (simp only [oneB, twoB, midB, dimB, hax, half_two, pickV_0, pickV_1, pickV_2, setV_0, setV_1, setV_2, h2, h4, h6, h8, h10, h12, h88, h90, h92, h94, h96, h98, hβ1, hβ2, hβ8, h603, h645, h646, h647, h655, h657, h659, hβ9, hβ10, c43, c153, c183, c577, c689]; rfl))
  have x744 : cf .f32 r11 = (gvB (splitOk A_b) (twoB A_b)).hi.z := by first | exact hsf | exact hst | (rw [hsf] <;> rfl) | (rw [hst, gvB_t]; first | rfl | assumption | (simp only [oneB, twoB, midB, dimB, hax, half_two, pickV_0, pickV_1, pickV_2, setV_0, setV_1, setV_2, h2, h4, h6, h8, h10, h12, h88, h90, h92, h94, h96, h98, hβ1, hβ2, hβ8, h603, h645, h646, h647, h655, h657, h659, hβ9, hβ10, c43, c153, c183, c577, c689]; done) | (simp only [oneB, twoB, midB, dimB, hax, half_two, pickV_0, pickV_1, pickV_2, setV_0, setV_1, setV_2, h2, h4, h6, h8, h10, h12, h88, h90, h92, h94, h96, h98, hβ1, hβ2, hβ8, h603, h645, h646, h647, h655, h657, h659, hβ9, hβ10, c43, c153, c183, c577, c689]; rfl))
  exact ⟨[(Fl r1), (Fl r3), (Fl r5), (Fl r642), (Fl r643), (Fl r644)], [(Fl r654), (Fl r656), (Fl r658), (Fl r7), (Fl r9), (Fl r11)], (by first | with_reducible rfl | rw [x732] | rfl), ⟨r1, r3, r5, r642, r643, r644, rfl, x733, x734, x735, x736, x737, x738⟩, ⟨r654, r656, r658, r7, r9, r11, rfl, x739, x740, x741, x742, x743, x744⟩⟩
 have c577' := c577
 (try simp only [hβ1, hβ2, hβ8] at c577')
 (try simp only [icmp, Bool.and_eq_true, Bool.or_eq_true, Bool.and_eq_false_iff, Bool.or_eq_false_iff, Bool.not_eq_true', Bool.not_eq_false', decide_eq_true_eq, decide_eq_false_iff_not, beq_iff_eq, bne_iff_ne, beq_eq_false_iff_ne, bne_eq_false_iff_eq] at c577')
 simp only [h2, h4, h6, h8, h10, h12, h88, h90, h92, h94, h96, h98, hβ1, hβ2, hβ8] at c577
 refine wp_skip (hK550 _ _ ?_)
 refine wp_region_lit ?_
 refine q_is rfl rfl (does_iarith (p := 2) (q := 1) (r := (3)) (ev rfl) (ev rfl) (.inl ⟨rfl, rfl⟩)) (by dsimp only [List.set]; try rfl) ?_
 refine q_is rfl rfl (does_move (u := (Iv 3)) (ev rfl)) (by dsimp only [List.set]; try rfl) ?_
 refine wpList_nil ?_
 refine un_step ?_
 refine wp_seq_k fun K745 hK745 => ?_
 refine wp_region_lit ?_
 refine q_is rfl rfl (does_icmp (p := 3) (q := 3) (.inr (.inr (.inl rfl))) (ev rfl) (ev rfl)) (by dsimp only [List.set]; try rfl) ?_
 refine wpList_nil (hK745 _ _ ?_)
 refine wp_seq_k fun K746 hK746 => ?_
 refine wp_cond_false (ev rfl) ?_
 refine wp_exit ?_
 refine hK122 _ _ ?_
 refine wp_seq_k fun K747 hK747 => ?_
 refine region_draw (
  [Fact.pure [] (fun v => v = (Iv 0)),
  Fact.pure [43] (fun v => v = (Pt b99 0)),
  Fact.pure [44] (fun v => v = (Fl r87)),
  Fact.pure [] (fun v => v = (Iv 0)),
  Fact.pure [46] (fun v => v = (Pt b106 0)),
  Fact.pure [47] (fun v => v = (Fl r93)),
  Fact.pure [] (fun v => v = (Iv 0)),
  Fact.pure [49] (fun v => v = (Pt b99 0)),
  Fact.pure [50] (fun v => v = (Fl r87)),
  Fact.pure [48, 51] (fun v => ∃ r_1 : Nat, v = (Fl r_1) ∧ cf .f32 r_1 = fop .sub .f32 (cf .f32 r93) (cf .f32 r87)),
  Fact.pure [52] (fun v => ∃ r_1 : Nat, v = (Fl r_1) ∧ cf .f32 r_1 = fop .quo .f32 (fop .sub .f32 (cf .f32 r93) (cf .f32 r87)) (cf .f32 1073741824)),
  Fact.pure [45, 53] (fun v => ∃ r_1 : Nat, v = (Fl r_1) ∧ cf .f32 r_1 = fop .add .f32 (cf .f32 r87) (fop .quo .f32 (fop .sub .f32 (cf .f32 r93) (cf .f32 r87)) (cf .f32 1073741824)))]) mixed (by kernel_rfl) (by intro _ _ d _ _ h; cases d <;> exact h) ?_
 obtain ⟨w748, hw750⟩ : ∃ w', w' = World.drew w572 := ⟨_, rfl⟩; rw [← hw750]; have E749 : Ext w572 w748 := by rw [hw750]; exact Ext.draw _
 clear hw750
 have X751 := Ext.gr X576 E749
 refine RW_d _ rfl (fun v => by dsimp only [List.set]; try rfl) (fun u hu hF => ?_) (fun v752 => ?_)
 ·clear hF
  refine doesG_un rfl ?_
  refine (does_move (u := (Iv 0)) (ev rfl)).mono ?_; rintro _ _ ⟨rfl, rfl⟩
  exact ⟨rfl, Ext.refl _⟩
 refine RW_d _ rfl (fun v => by dsimp only [List.set]; try rfl) (fun u hu hF => ?_) (fun v753 => ?_)
 ·have h43_ : v752 = (Iv 0) := hF.1
  clear hF
  refine doesG_un rfl ?_
  obtain rfl := h43_
  refine (does_indexAt_run (r := (Pt b99 0)) (ev rfl) (ev rfl) (fun w => ia41_0 _ _ w)).mono ?_; rintro _ _ ⟨rfl, rfl⟩
  exact ⟨rfl, Ext.refl _⟩
 refine RW_d _ rfl (fun v => by dsimp only [List.set]; try rfl) (fun u hu hF => ?_) (fun v754 => ?_)
 ·have h44_ : v753 = (Pt b99 0) := hF.1
  clear hF
  refine doesG_un rfl ?_
  obtain rfl := h44_
  refine (does_load (u := (Fl r87)) (ev rfl) Try.isAgg22 (Cells.at (Blk.cells (((((((((hB115.wr W118 (Ne.symm n113)).ext E130).ext E149).ext E160).ext E179).ext E554).ext E573).ext E749).ext hu)) 0 rfl)).mono ?_; rintro _ _ ⟨rfl, rfl⟩
  exact ⟨rfl, Ext.refl _⟩
 refine RW_d _ rfl (fun v => by dsimp only [List.set]; try rfl) (fun u hu hF => ?_) (fun v755 => ?_)
 ·clear hF
  refine doesG_un rfl ?_
  refine (does_move (u := (Iv 0)) (ev rfl)).mono ?_; rintro _ _ ⟨rfl, rfl⟩
  exact ⟨rfl, Ext.refl _⟩
 refine RW_d _ rfl (fun v => by dsimp only [List.set]; try rfl) (fun u hu hF => ?_) (fun v756 => ?_)
 ·have h46_ : v755 = (Iv 0) := hF.1
  clear hF
  refine doesG_un rfl ?_
  obtain rfl := h46_
  refine (does_indexAt_run (r := (Pt b106 0)) (ev rfl) (ev rfl) (fun w => ia41_0 _ _ w)).mono ?_; rintro _ _ ⟨rfl, rfl⟩
  exact ⟨rfl, Ext.refl _⟩
 refine RW_d _ rfl (fun v => by dsimp only [List.set]; try rfl) (fun u hu hF => ?_) (fun v757 => ?_)
 ·have h47_ : v756 = (Pt b106 0) := hF.1
  clear hF
  refine doesG_un rfl ?_
  obtain rfl := h47_
  refine (does_load (u := (Fl r93)) (ev rfl) Try.isAgg22 (Cells.at (Blk.cells ((((((((hB119.ext E130).ext E149).ext E160).ext E179).ext E554).ext E573).ext E749).ext hu)) 0 rfl)).mono ?_; rintro _ _ ⟨rfl, rfl⟩
  exact ⟨rfl, Ext.refl _⟩
 refine RW_d _ rfl (fun v => by dsimp only [List.set]; try rfl) (fun u hu hF => ?_) (fun v758 => ?_)
 ·clear hF
  refine doesG_un rfl ?_
  refine (does_move (u := (Iv 0)) (ev rfl)).mono ?_; rintro _ _ ⟨rfl, rfl⟩
  exact ⟨rfl, Ext.refl _⟩
 refine RW_d _ rfl (fun v => by dsimp only [List.set]; try rfl) (fun u hu hF => ?_) (fun v759 => ?_)
 ·have h49_ : v758 = (Iv 0) := hF.1
  clear hF
  refine doesG_un rfl ?_
  obtain rfl := h49_
  refine (does_indexAt_run (r := (Pt b99 0)) (ev rfl) (ev rfl) (fun w => ia41_0 _ _ w)).mono ?_; rintro _ _ ⟨rfl, rfl⟩
  exact ⟨rfl, Ext.refl _⟩
 refine RW_d _ rfl (fun v => by dsimp only [List.set]; try rfl) (fun u hu hF => ?_) (fun v760 => ?_)
 ·have h50_ : v759 = (Pt b99 0) := hF.1
  clear hF
  refine doesG_un rfl ?_
  obtain rfl := h50_
  refine (does_load (u := (Fl r87)) (ev rfl) Try.isAgg22 (Cells.at (Blk.cells (((((((((hB115.wr W118 (Ne.symm n113)).ext E130).ext E149).ext E160).ext E179).ext E554).ext E573).ext E749).ext hu)) 0 rfl)).mono ?_; rintro _ _ ⟨rfl, rfl⟩
  exact ⟨rfl, Ext.refl _⟩
 refine RW_d _ rfl (fun v => by dsimp only [List.set]; try rfl) (fun u hu hF => ?_) (fun v761 => ?_)
 ·have h48_ : v757 = (Fl r93) := hF.1
  have h51_ : v760 = (Fl r87) := hF.2.1
  clear hF
  refine doesG_un rfl ?_
  obtain rfl := h48_
  obtain rfl := h51_
  refine (does_float (.inr (.inl rfl)) (ev rfl) (ev rfl)).mono ?_; rintro _ _ ⟨r, rfl, hr, hx⟩
  exact ⟨⟨r, rfl, (by simp only [hr])⟩, hx⟩
 refine RW_d _ rfl (fun v => by dsimp only [List.set]; try rfl) (fun u hu hF => ?_) (fun v762 => ?_)
 ·have h52_ : ∃ r_1 : Nat, v761 = (Fl r_1) ∧ cf .f32 r_1 = fop .sub .f32 (cf .f32 r93) (cf .f32 r87) := hF.1
  clear hF
  refine doesG_un rfl ?_
  obtain ⟨r52_1, rfl, h52_2⟩ := h52_
  refine (does_float (.inr (.inr (.inr rfl))) (ev rfl) (ev rfl)).mono ?_; rintro _ _ ⟨r, rfl, hr, hx⟩
  exact ⟨⟨r, rfl, (by simp only [hr, h52_2])⟩, hx⟩
 refine RW_d _ rfl (fun v => by dsimp only [List.set]; try rfl) (fun u hu hF => ?_) (fun v763 => ?_)
 ·have h45_ : v754 = (Fl r87) := hF.1
  have h53_ : ∃ r_1 : Nat, v762 = (Fl r_1) ∧ cf .f32 r_1 = fop .quo .f32 (fop .sub .f32 (cf .f32 r93) (cf .f32 r87)) (cf .f32 1073741824) := hF.2.1
  clear hF
  refine doesG_un rfl ?_
  obtain rfl := h45_
  obtain ⟨r53_1, rfl, h53_2⟩ := h53_
  refine (does_float (.inl rfl) (ev rfl) (ev rfl)).mono ?_; rintro _ _ ⟨r, rfl, hr, hx⟩
  exact ⟨⟨r, rfl, (by simp only [hr, h53_2])⟩, hx⟩
 refine RW_fin ?_; intro w764 E765 hP766
 obtain ⟨⟨⟨⟨⟨⟨⟨⟨⟨⟨⟨⟨-, -⟩, -⟩, -⟩, -⟩, -⟩, -⟩, -⟩, -⟩, -⟩, -⟩, -⟩, q767⟩ := hP766
 have X768 := Ext.gr X751 E765
 have q767 : ∃ r_1 : Nat, v763 = (Fl r_1) ∧ cf .f32 r_1 = fop .add .f32 (cf .f32 r87) (fop .quo .f32 (fop .sub .f32 (cf .f32 r93) (cf .f32 r87)) (cf .f32 1073741824)) := q767
 obtain ⟨r769, rfl, h770⟩ := q767
 show wpList _ _ _ _ (fr [_, _, _, _, _, _, _, _, _, _, _, _, _, _, _, _, _, _, _, _, _, _, _, _, _, _, _, _, _, _, _, _, _, _, _, _, _, _, _, _, _, _, _, _, _, _, _, _, _, _, _, _, _, _, _, _, _, _, _, _, _, _, _, _, _, _, _, _, _, _, _, _, _, _, _, _, _, _, _, _, _, _, _]) _
 refine q_is rfl rfl (does_assign (u := (Fl r769)) (ev rfl)) (by dsimp only [List.set]; try rfl) ?_
 refine wpList_nil (hK747 _ _ ?_)
 refine wp_seq_k fun K771 hK771 => ?_
 refine wp_region_lit ?_
 refine q_is rfl rfl (does_move (u := (Iv 0)) (ev rfl)) (by dsimp only [List.set]; try rfl) ?_
 refine q_is rfl rfl (does_move (u := (Iv 0)) (ev rfl)) (by dsimp only [List.set]; try rfl) ?_
 refine q_is rfl rfl (does_move (u := (Fl r769)) (ev rfl)) (by dsimp only [List.set]; try rfl) ?_
 refine q_is rfl rfl (does_move (u := (Fl r769)) (ev rfl)) (by dsimp only [List.set]; try rfl) ?_
 refine q_is rfl rfl (does_indexAt_run (r := (Pt b99 0)) (ev rfl) (ev rfl) (fun w => ia41_0 _ _ w)) (by dsimp only [List.set]; try rfl) ?_
 refine seqn rfl rfl (does_store (n := 1) (cs := [(Fl r87), (Fl r89), (Fl r91)]) (u := (Fl r769)) (ev rfl) (ev rfl) Try.sizeOf22 rfl (((((((((hB115.wr W118 (Ne.symm n113)).ext E130).ext E149).ext E160).ext E179).ext E554).ext E573).ext E749).ext E765) (Nat.le_of_ble_eq_true rfl) rfl) ?_; rintro _ w774 ⟨rfl, W772, hB773⟩
 change Blk _ _ [(Fl r769), (Fl r89), (Fl r91)] at hB773
 have X775 := Below.wr X768 W772 g105
 refine q_is rfl rfl (does_indexAt_run (r := (Pt b106 0)) (ev rfl) (ev rfl) (fun w => ia41_0 _ _ w)) (by dsimp only [List.set]; try rfl) ?_
 refine seqn rfl rfl (does_store (n := 1) (cs := [(Fl r93), (Fl r95), (Fl r97)]) (u := (Fl r769)) (ev rfl) (ev rfl) Try.sizeOf22 rfl (((((((((hB119.ext E130).ext E149).ext E160).ext E179).ext E554).ext E573).ext E749).ext E765).wr W772 n113) (Nat.le_of_ble_eq_true rfl) rfl) ?_; rintro _ w778 ⟨rfl, W776, hB777⟩
 change Blk _ _ [(Fl r769), (Fl r95), (Fl r97)] at hB777
 have X779 := Below.wr X775 W776 g112
 refine wpList_nil (hK771 _ _ ?_)
 refine wp_seq_k fun K780 hK780 => ?_
 refine region_any4 [] [10, 11] [0, 1, 0, 4, 15, 0, 44, 0, 128, 492, 0, 0, 3199, 8191] [] (
  [FactV.pure [] [] [] true (fun v => v = (Pt b14 0)),
   FactV.pure [0] [] [] true (fun v => v = (.agg #[(Fl r1), (Fl r3), (Fl r5)])),
   FactV.pure [] [] [] true (fun v => v = (.agg #[(Fl r769), (Fl r95), (Fl r97)])),
   FactV.pure [2] [] [] true (fun v => ∃ cs_1 : List Value, v = (.agg cs_1.toArray) ∧ RV3 w (V3.mk (cf .f32 r769) (cf .f32 r95) (cf .f32 r97)) cs_1),
   FactV.pure [1, 3] [] [] true (fun v => ∃ r_1 : Nat, ∃ r_2 : Nat, ∃ r_3 : Nat, v = (.agg #[(Fl r1), (Fl r3), (Fl r5), (Fl r_1), (Fl r_2), (Fl r_3)]) ∧ cf .f32 r_1 = (V3.mk (cf .f32 r769) (cf .f32 r95) (cf .f32 r97)).x ∧ cf .f32 r_2 = (V3.mk (cf .f32 r769) (cf .f32 r95) (cf .f32 r97)).y ∧ cf .f32 r_3 = (V3.mk (cf .f32 r769) (cf .f32 r95) (cf .f32 r97)).z),
   FactV.pure [] [] [] true (fun v => v = (.agg #[(Fl r769), (Fl r89), (Fl r91)])),
   FactV.pure [5] [] [] true (fun v => ∃ cs_1 : List Value, v = (.agg cs_1.toArray) ∧ RV3 w (V3.mk (cf .f32 r769) (cf .f32 r89) (cf .f32 r91)) cs_1),
   FactV.pure [] [] [] true (fun v => v = (Pt b14 3)),
   FactV.pure [7] [] [] true (fun v => v = (.agg #[(Fl r7), (Fl r9), (Fl r11)])),
   FactV.pure [6, 8] [] [] true (fun v => ∃ r_1 : Nat, ∃ r_2 : Nat, ∃ r_3 : Nat, v = (.agg #[(Fl r_1), (Fl r_2), (Fl r_3), (Fl r7), (Fl r9), (Fl r11)]) ∧ cf .f32 r_1 = (V3.mk (cf .f32 r769) (cf .f32 r89) (cf .f32 r91)).x ∧ cf .f32 r_2 = (V3.mk (cf .f32 r769) (cf .f32 r89) (cf .f32 r91)).y ∧ cf .f32 r_3 = (V3.mk (cf .f32 r769) (cf .f32 r89) (cf .f32 r91)).z),
   FactV.new [] [] [] false (fun v w' => ∃ b : Nat, v = .pointer (some ⟨b, 0, none⟩) ∧ w778.heap.size ≤ b ∧ Blk w' b [(Fl 0), (Fl 0), (Fl 0), (Fl 0), (Fl 0), (Fl 0)]) (by rintro v w1 w2 L hx hL ⟨b, rfl, hb, hB⟩; exact ⟨b, rfl, hb, (hB.kl hx (fun hm => (hL b hm).elim (fun h => absurd h (by show b ∉ ([] : List Nat); exact nin0)) (fun h => h.2 rfl)))⟩),
   FactV.new [] [] [] true (fun v w' => ∃ b : Nat, v = .pointer (some ⟨b, 0, none⟩) ∧ w778.heap.size ≤ b ∧ Blk w' b [(Fl 0), (Fl 0), (Fl 0), (Fl 0), (Fl 0), (Fl 0)]) (by rintro v w1 w2 L hx hL ⟨b, rfl, hb, hB⟩; exact ⟨b, rfl, hb, (hB.kl hx (fun hm => (hL b hm).elim (fun h => absurd h (by show b ∉ ([] : List Nat); exact nin0)) (fun h => h.2 rfl)))⟩),
   FactV.into [10, 4] [] [] 10 true (fun o v w' => v = undef ∧ ∃ b : Nat, ∃ r_1 : Nat, ∃ r_2 : Nat, ∃ r_3 : Nat, o = .pointer (some ⟨b, 0, none⟩) ∧ w778.heap.size ≤ b ∧ Blk w' b [(Fl r1), (Fl r3), (Fl r5), (Fl r_1), (Fl r_2), (Fl r_3)] ∧ cf .f32 r_1 = (V3.mk (cf .f32 r769) (cf .f32 r95) (cf .f32 r97)).x ∧ cf .f32 r_2 = (V3.mk (cf .f32 r769) (cf .f32 r95) (cf .f32 r97)).y ∧ cf .f32 r_3 = (V3.mk (cf .f32 r769) (cf .f32 r95) (cf .f32 r97)).z) (by rintro o v w1 w2 L hx hL ⟨rfl, b, z0, z1, z2, rfl, hb, hB, k0, k1, k2⟩; exact ⟨rfl, b, z0, z1, z2, rfl, hb, hB.kl hx (fun hm => (hL b hm).elim (fun h => absurd h (by show b ∉ ([] : List Nat); exact nin0)) (fun h => h.2 rfl)), k0, k1, k2⟩)]) mixed (by kernel_rfl) ?_
 obtain ⟨w781, hw783⟩ : ∃ w', w' = World.drew w778 := ⟨_, rfl⟩; rw [← hw783]; have E782 : Ext w778 w781 := by rw [hw783]; exact Ext.draw _
 clear hw783
 have X784 := Ext.gr X779 E782
 refine RW4_d _ rfl rfl (fun v => by dsimp only [List.set]; try rfl) (fun u hu hF => ?_) (fun v785 => ?_)
 ·replace hu : KpL [] _ _ := hu
  clear hF
  refine doesG_un rfl ?_
  refine (does_fieldAddr (ev rfl) fa29_0).mono ?_; rintro _ _ ⟨rfl, rfl⟩
  exact ⟨rfl, KpL.refl _ _⟩
 refine RW4_d _ rfl rfl (fun v => by dsimp only [List.set]; try rfl) (fun u hu hF => ?_) (fun v786 => ?_)
 ·replace hu : KpL [] _ _ := hu
  have h61_ : v785 = (Pt b14 0) := hF.1
  clear hF
  refine doesG_un rfl ?_
  obtain rfl := h61_
  refine (does_loadAgg (cs := [(Fl r1), (Fl r3), (Fl r5)]) (ev rfl) Try.isAgg27 Try.sizeOf27 (Cells.sub (Blk.cells (((((((((((((((((((hB16.ext E24).ext E32).ext E40).ext E68).kl E80 nin0).wr W114 (Nat.ne_of_lt n102)).wr W118 (Nat.ne_of_lt n109)).ext E130).ext E149).ext E160).ext E179).ext E554).ext E573).ext E749).ext E765).wr W772 (Nat.ne_of_lt n102)).wr W776 (Nat.ne_of_lt n109)).ext E782).ext (KpL.toExt hu))) 0 3) rfl).mono ?_; rintro _ _ ⟨rfl, rfl⟩
  exact ⟨rfl, KpL.refl _ _⟩
 refine RW4_d _ rfl rfl (fun v => by dsimp only [List.set]; try rfl) (fun u hu hF => ?_) (fun v787 => ?_)
 ·replace hu : KpL [] _ _ := hu
  clear hF
  refine doesG_un rfl ?_
  refine (does_loadAgg (cs := [(Fl r769), (Fl r95), (Fl r97)]) (ev rfl) Try.isAgg41 Try.sizeOf41 (Blk.cells ((hB777.ext E782).ext (KpL.toExt hu))) rfl).mono ?_; rintro _ _ ⟨rfl, rfl⟩
  exact ⟨rfl, KpL.refl _ _⟩
 refine RW4_d _ rfl rfl (fun v => by dsimp only [List.set]; try rfl) (fun u hu hF => ?_) (fun v788 => ?_)
 ·replace hu : KpL [] _ _ := hu
  have h63_ : v787 = (.agg #[(Fl r769), (Fl r95), (Fl r97)]) := hF.1
  clear hF
  refine doesG_un rfl ?_
  obtain rfl := h63_
  refine (does_call (args := #[(.agg #[(Fl r769), (Fl r95), (Fl r97)])]) cal13 (evs rfl) (c_impl_vectorOf r769 r95 r97 _)).mono ?_; rintro v u' ⟨hx, ⟨csn1, hv, k0⟩⟩
  exact ⟨⟨csn1, hv, k0⟩, (KpL.of_ext hx)⟩
 refine RW4_d _ rfl rfl (fun v => by dsimp only [List.set]; try rfl) (fun u hu hF => ?_) (fun v789 => ?_)
 ·replace hu : KpL [] _ _ := hu
  have h62_ : v786 = (.agg #[(Fl r1), (Fl r3), (Fl r5)]) := hF.1
  have h64_ : ∃ cs_1 : List Value, v788 = (.agg cs_1.toArray) ∧ RV3 w (V3.mk (cf .f32 r769) (cf .f32 r95) (cf .f32 r97)) cs_1 := hF.2.1
  clear hF
  refine doesG_un rfl ?_
  obtain rfl := h62_
  obtain ⟨_, rfl, ⟨r64_1, r64_3, r64_5, rfl, h64_2, h64_4, h64_6⟩⟩ := h64_
  refine (does_build (parts' := [(0, (.agg #[(Fl r1), (Fl r3), (Fl r5)])), (1, (.agg #[(Fl r64_1), (Fl r64_3), (Fl r64_5)]))]) (cells := #[(Fl r1), (Fl r3), (Fl r5), (Fl r64_1), (Fl r64_3), (Fl r64_5)]) (evp rfl) (by kernel_rfl)).mono ?_; rintro _ _ ⟨rfl, rfl⟩
  exact ⟨⟨r64_1, r64_3, r64_5, rfl, (by simp only [h64_2, h64_4, h64_6]), (by simp only [h64_2, h64_4, h64_6]), (by simp only [h64_2, h64_4, h64_6])⟩, KpL.refl _ _⟩
 refine RW4_d _ rfl rfl (fun v => by dsimp only [List.set]; try rfl) (fun u hu hF => ?_) (fun v790 => ?_)
 ·replace hu : KpL [] _ _ := hu
  clear hF
  refine doesG_un rfl ?_
  refine (does_loadAgg (cs := [(Fl r769), (Fl r89), (Fl r91)]) (ev rfl) Try.isAgg41 Try.sizeOf41 (Blk.cells (((hB773.wr W776 (Ne.symm n113)).ext E782).ext (KpL.toExt hu))) rfl).mono ?_; rintro _ _ ⟨rfl, rfl⟩
  exact ⟨rfl, KpL.refl _ _⟩
 refine RW4_d _ rfl rfl (fun v => by dsimp only [List.set]; try rfl) (fun u hu hF => ?_) (fun v791 => ?_)
 ·replace hu : KpL [] _ _ := hu
  have h66_ : v790 = (.agg #[(Fl r769), (Fl r89), (Fl r91)]) := hF.1
  clear hF
  refine doesG_un rfl ?_
  obtain rfl := h66_
  refine (does_call (args := #[(.agg #[(Fl r769), (Fl r89), (Fl r91)])]) cal13 (evs rfl) (c_impl_vectorOf r769 r89 r91 _)).mono ?_; rintro v u' ⟨hx, ⟨csn1, hv, k0⟩⟩
  exact ⟨⟨csn1, hv, k0⟩, (KpL.of_ext hx)⟩
 refine RW4_d _ rfl rfl (fun v => by dsimp only [List.set]; try rfl) (fun u hu hF => ?_) (fun v792 => ?_)
 ·replace hu : KpL [] _ _ := hu
  clear hF
  refine doesG_un rfl ?_
  refine (does_fieldAddr (ev rfl) fa29_1).mono ?_; rintro _ _ ⟨rfl, rfl⟩
  exact ⟨rfl, KpL.refl _ _⟩
 refine RW4_d _ rfl rfl (fun v => by dsimp only [List.set]; try rfl) (fun u hu hF => ?_) (fun v793 => ?_)
 ·replace hu : KpL [] _ _ := hu
  have h68_ : v792 = (Pt b14 3) := hF.1
  clear hF
  refine doesG_un rfl ?_
  obtain rfl := h68_
  refine (does_loadAgg (cs := [(Fl r7), (Fl r9), (Fl r11)]) (ev rfl) Try.isAgg27 Try.sizeOf27 (Cells.sub (Blk.cells (((((((((((((((((((hB16.ext E24).ext E32).ext E40).ext E68).kl E80 nin0).wr W114 (Nat.ne_of_lt n102)).wr W118 (Nat.ne_of_lt n109)).ext E130).ext E149).ext E160).ext E179).ext E554).ext E573).ext E749).ext E765).wr W772 (Nat.ne_of_lt n102)).wr W776 (Nat.ne_of_lt n109)).ext E782).ext (KpL.toExt hu))) 3 3) rfl).mono ?_; rintro _ _ ⟨rfl, rfl⟩
  exact ⟨rfl, KpL.refl _ _⟩
 refine RW4_d _ rfl rfl (fun v => by dsimp only [List.set]; try rfl) (fun u hu hF => ?_) (fun v794 => ?_)
 ·replace hu : KpL [] _ _ := hu
  have h67_ : ∃ cs_1 : List Value, v791 = (.agg cs_1.toArray) ∧ RV3 w (V3.mk (cf .f32 r769) (cf .f32 r89) (cf .f32 r91)) cs_1 := hF.1
  have h69_ : v793 = (.agg #[(Fl r7), (Fl r9), (Fl r11)]) := hF.2.1
  clear hF
  refine doesG_un rfl ?_
  obtain ⟨_, rfl, ⟨r67_1, r67_3, r67_5, rfl, h67_2, h67_4, h67_6⟩⟩ := h67_
  obtain rfl := h69_
  refine (does_build (parts' := [(0, (.agg #[(Fl r67_1), (Fl r67_3), (Fl r67_5)])), (1, (.agg #[(Fl r7), (Fl r9), (Fl r11)]))]) (cells := #[(Fl r67_1), (Fl r67_3), (Fl r67_5), (Fl r7), (Fl r9), (Fl r11)]) (evp rfl) (by kernel_rfl)).mono ?_; rintro _ _ ⟨rfl, rfl⟩
  exact ⟨⟨r67_1, r67_3, r67_5, rfl, (by simp only [h67_2, h67_4, h67_6]), (by simp only [h67_2, h67_4, h67_6]), (by simp only [h67_2, h67_4, h67_6])⟩, KpL.refl _ _⟩
 refine RW4_b _ rfl rfl (fun v => by dsimp only [List.set]; try rfl) (fun u hu hF => ?_) (fun v795 => ?_)
 ·replace hu : KpL [] _ _ := hu
  clear hF
  refine doesG_un rfl ?_
  refine (does_alloc z29).mono ?_; rintro _ _ ⟨b, rfl, hb, hB, hx⟩
  exact ⟨⟨b, rfl, Nat.le_trans (Nat.le_trans (Below.size E782) (KpL.size hu)) hb, hB⟩, (KpL.of_ext hx), ⟨b, rfl, hb, hB.lt⟩⟩
 refine RW4_b _ rfl rfl (fun v => by dsimp only [List.set]; try rfl) (fun u hu hF => ?_) (fun v796 => ?_)
 ·replace hu : KpL [] _ _ := hu
  clear hF
  refine doesG_un rfl ?_
  refine (does_alloc z29).mono ?_; rintro _ _ ⟨b, rfl, hb, hB, hx⟩
  exact ⟨⟨b, rfl, Nat.le_trans (Nat.le_trans (Below.size E782) (KpL.size hu)) hb, hB⟩, (KpL.of_ext hx), ⟨b, rfl, hb, hB.lt⟩⟩
 refine RW4_i v795 rfl rfl rfl rfl (fun u hu hF => ?_) (fun v797 => ?_)
 ·replace hu : KpL [] _ _ := hu
  have h10_ : ∃ b : Nat, v795 = .pointer (some ⟨b, 0, none⟩) ∧ w778.heap.size ≤ b ∧ Blk u b [(Fl 0), (Fl 0), (Fl 0), (Fl 0), (Fl 0), (Fl 0)] := hF.1
  have h65_ : ∃ r_1 : Nat, ∃ r_2 : Nat, ∃ r_3 : Nat, v789 = (.agg #[(Fl r1), (Fl r3), (Fl r5), (Fl r_1), (Fl r_2), (Fl r_3)]) ∧ cf .f32 r_1 = (V3.mk (cf .f32 r769) (cf .f32 r95) (cf .f32 r97)).x ∧ cf .f32 r_2 = (V3.mk (cf .f32 r769) (cf .f32 r95) (cf .f32 r97)).y ∧ cf .f32 r_3 = (V3.mk (cf .f32 r769) (cf .f32 r95) (cf .f32 r97)).z := hF.2.1
  clear hF
  refine doesG_un rfl ?_
  obtain ⟨b10_, rfl, hb10_, hB10_⟩ := h10_
  obtain ⟨r65_1, r65_3, r65_5, rfl, h65_2, h65_4, h65_6⟩ := h65_
  refine (does_store (n := 6) (cs := [(Fl 0), (Fl 0), (Fl 0), (Fl 0), (Fl 0), (Fl 0)]) (u := (.agg #[(Fl r1), (Fl r3), (Fl r5), (Fl r65_1), (Fl r65_3), (Fl r65_5)])) (ev rfl) (ev rfl) Try.sizeOf29 rfl hB10_ (Nat.le_of_ble_eq_true rfl) rfl).mono ?_; rintro _ _ ⟨rfl, hW, hB⟩
  exact ⟨⟨rfl, _, r65_1, r65_3, r65_5, rfl, hb10_, hB, (by simp only [h65_2, h65_4, h65_6]), (by simp only [h65_2, h65_4, h65_6]), (by simp only [h65_2, h65_4, h65_6])⟩, _, rfl, hb10_, KpL.of_wr hW⟩
 refine RW4_fin ?_; intro w798 E799 hP800 hND; replace E799 : KpL [] _ _ := E799
 obtain ⟨⟨⟨⟨⟨⟨⟨⟨⟨⟨⟨⟨⟨-, -⟩, -⟩, -⟩, -⟩, -⟩, -⟩, -⟩, -⟩, -⟩, q801⟩, -⟩, q802⟩, q803⟩ := hP800
 have X804 := Below.kl X784 E799 all0 (Nat.le_refl _)
 obtain ⟨_, b805, r809, r810, r811, hv806, hb807, hB808, h812, h813, h814⟩ := q803 rfl; subst hv806
 have n815 : b14 < b805 := Nat.lt_of_lt_of_le (Blk.lt (((((((((((((((((hB16.ext E24).ext E32).ext E40).ext E68).kl E80 nin0).wr W114 (Nat.ne_of_lt n102)).wr W118 (Nat.ne_of_lt n109)).ext E130).ext E149).ext E160).ext E179).ext E554).ext E573).ext E749).ext E765).wr W772 (Nat.ne_of_lt n102)).wr W776 (Nat.ne_of_lt n109))) hb807
 have n816 : b21 < b805 := Nat.lt_of_lt_of_le (Blk.lt ((((((((((((((((hB23.ext E32).ext E40).ext E68).kl E80 nin0).wr W114 (Nat.ne_of_lt n103)).wr W118 (Nat.ne_of_lt n110)).ext E130).ext E149).ext E160).ext E179).ext E554).ext E573).ext E749).ext E765).wr W772 (Nat.ne_of_lt n103)).wr W776 (Nat.ne_of_lt n110))) hb807
 have n817 : b29 < b805 := Nat.lt_of_lt_of_le (Blk.lt (((((((((((((((hB31.ext E40).ext E68).kl E80 nin0).wr W114 (Nat.ne_of_lt n104)).wr W118 (Nat.ne_of_lt n111)).ext E130).ext E149).ext E160).ext E179).ext E554).ext E573).ext E749).ext E765).wr W772 (Nat.ne_of_lt n104)).wr W776 (Nat.ne_of_lt n111))) hb807
 have n818 : b99 < b805 := Nat.lt_of_lt_of_le (Blk.lt (hB773.wr W776 (Ne.symm n113))) hb807
 have n819 : b106 < b805 := Nat.lt_of_lt_of_le (Blk.lt hB777) hb807
 have g820 : w.heap.size ≤ b805 := Nat.le_trans (Below.size X779) hb807
 have q801 : ∃ r_1 : Nat, ∃ r_2 : Nat, ∃ r_3 : Nat, v794 = (.agg #[(Fl r_1), (Fl r_2), (Fl r_3), (Fl r7), (Fl r9), (Fl r11)]) ∧ cf .f32 r_1 = (V3.mk (cf .f32 r769) (cf .f32 r89) (cf .f32 r91)).x ∧ cf .f32 r_2 = (V3.mk (cf .f32 r769) (cf .f32 r89) (cf .f32 r91)).y ∧ cf .f32 r_3 = (V3.mk (cf .f32 r769) (cf .f32 r89) (cf .f32 r91)).z := q801 rfl
 obtain ⟨r821, r823, r825, rfl, h822, h824, h826⟩ := q801
 have q802 : ∃ b : Nat, v796 = .pointer (some ⟨b, 0, none⟩) ∧ w778.heap.size ≤ b ∧ Blk w798 b [(Fl 0), (Fl 0), (Fl 0), (Fl 0), (Fl 0), (Fl 0)] := q802 rfl
 obtain ⟨b827, rfl, hb828, hB829⟩ := q802
 have n830 : b14 < b827 := Nat.lt_of_lt_of_le (Blk.lt (((((((((((((((((hB16.ext E24).ext E32).ext E40).ext E68).kl E80 nin0).wr W114 (Nat.ne_of_lt n102)).wr W118 (Nat.ne_of_lt n109)).ext E130).ext E149).ext E160).ext E179).ext E554).ext E573).ext E749).ext E765).wr W772 (Nat.ne_of_lt n102)).wr W776 (Nat.ne_of_lt n109))) hb828
 have n831 : b21 < b827 := Nat.lt_of_lt_of_le (Blk.lt ((((((((((((((((hB23.ext E32).ext E40).ext E68).kl E80 nin0).wr W114 (Nat.ne_of_lt n103)).wr W118 (Nat.ne_of_lt n110)).ext E130).ext E149).ext E160).ext E179).ext E554).ext E573).ext E749).ext E765).wr W772 (Nat.ne_of_lt n103)).wr W776 (Nat.ne_of_lt n110))) hb828
 have n832 : b29 < b827 := Nat.lt_of_lt_of_le (Blk.lt (((((((((((((((hB31.ext E40).ext E68).kl E80 nin0).wr W114 (Nat.ne_of_lt n104)).wr W118 (Nat.ne_of_lt n111)).ext E130).ext E149).ext E160).ext E179).ext E554).ext E573).ext E749).ext E765).wr W772 (Nat.ne_of_lt n104)).wr W776 (Nat.ne_of_lt n111))) hb828
 have n833 : b99 < b827 := Nat.lt_of_lt_of_le (Blk.lt (hB773.wr W776 (Ne.symm n113))) hb828
 have n834 : b106 < b827 := Nat.lt_of_lt_of_le (Blk.lt hB777) hb828
 have g835 : w.heap.size ≤ b827 := Nat.le_trans (Below.size X779) hb828
 have n836 : b827 ≠ b805 := by intro h; subst h; simp at hND
 clear hND
 show wpList _ _ _ _ (fr [_, _, _, _, _, _, _, _, _, _, _, _, _, _, _, _, _, _, _, _, _, _, _, _, _, _, _, _, _, _, _, _, _, _, _, _, _, _, _, _, _, _, _, _, _, _, _, _, _, _, _, _, _, _, _, _, _, _, _, _, _, _, _, _, _, _, _, _, _, _, _, _, _, _, _, _, _, _, _, _, _, _, _]) _
 refine seqn rfl rfl (does_store (n := 6) (cs := [(Fl 0), (Fl 0), (Fl 0), (Fl 0), (Fl 0), (Fl 0)]) (u := (.agg #[(Fl r821), (Fl r823), (Fl r825), (Fl r7), (Fl r9), (Fl r11)])) (ev rfl) (ev rfl) Try.sizeOf29 rfl hB829 (Nat.le_of_ble_eq_true rfl) rfl) ?_; rintro _ w839 ⟨rfl, W837, hB838⟩
 change Blk _ _ [(Fl r821), (Fl r823), (Fl r825), (Fl r7), (Fl r9), (Fl r11)] at hB838
 have X840 := Below.wr X804 W837 g835
 refine wpList_nil (hK780 _ _ ?_)
 refine wp_seq_k fun K841 hK841 => ?_
 refine wp_seq_k fun K842 hK842 => ?_
 obtain ⟨β11, hβ11⟩ : ∃ b : Bool, b = (isBox (Bx.mk A_b.lo (V3.mk (cf .f32 r769) (cf .f32 r95) (cf .f32 r97)))) := ⟨_, rfl⟩
 obtain ⟨β12, hβ12⟩ : ∃ b : Bool, b = (isBox (Bx.mk (V3.mk (cf .f32 r821) (cf .f32 r823) (cf .f32 r825)) A_b.hi)) := ⟨_, rfl⟩
 refine region_text (
  [Fact.pure [] (fun v => v = (.agg #[(Fl r1), (Fl r3), (Fl r5), (Fl r809), (Fl r810), (Fl r811)])),
  Fact.pure [71] (fun v => v = (Bo β11)),
  Fact.pure [72] (fun v => v = (Bo (!β11))),
  Fact.pure [73] (fun v => v = (Bo (!β11))),
  Fact.pure [74] (fun v => (!β11) = false → v = (.agg #[(Fl r821), (Fl r823), (Fl r825), (Fl r7), (Fl r9), (Fl r11)])),
  Fact.pure [75, 74] (fun v => (!β11) = false → v = (Bo β12)),
  Fact.pure [76, 74] (fun v => (!β11) = false → v = (Bo (!β12))),
  Fact.pure [74, 77] (fun v => v = (Bo ((!β11) || (!β12))))]) (by simp [Fact.pure, Fact.mem]) ?_
 refine RW_d _ rfl (fun v => by dsimp only [List.set]; try rfl) (fun u hu hF => ?_) (fun v843 => ?_)
 ·clear hF
  refine doesG_un rfl ?_
  refine (does_loadAgg (cs := [(Fl r1), (Fl r3), (Fl r5), (Fl r809), (Fl r810), (Fl r811)]) (ev rfl) Try.isAgg29 Try.sizeOf29 (Blk.cells ((hB808.wr W837 (Ne.symm n836)).ext hu)) rfl).mono ?_; rintro _ _ ⟨rfl, rfl⟩
  exact ⟨rfl, Ext.refl _⟩
 refine RW_d _ rfl (fun v => by dsimp only [List.set]; try rfl) (fun u hu hF => ?_) (fun v844 => ?_)
 ·have h71_ : v843 = (.agg #[(Fl r1), (Fl r3), (Fl r5), (Fl r809), (Fl r810), (Fl r811)]) := hF.1
  clear hF
  refine doesG_un rfl ?_
  obtain rfl := h71_
  refine (does_call (args := #[(.agg #[(Fl r1), (Fl r3), (Fl r5), (Fl r809), (Fl r810), (Fl r811)])]) cal11 (evs rfl) (c_impl_ValidBox [(Fl r1), (Fl r3), (Fl r5), (Fl r809), (Fl r810), (Fl r811)] (Bx.mk A_b.lo (V3.mk (cf .f32 r769) (cf .f32 r95) (cf .f32 r97))) _ ⟨r1, r3, r5, r809, r810, r811, rfl, h2, h4, h6, h812, h813, h814⟩)).mono ?_; rintro v u' ⟨hx, hv⟩
  exact ⟨hv.trans (by simp only [hβ11]), hx⟩
 refine RW_d _ rfl (fun v => by dsimp only [List.set]; try rfl) (fun u hu hF => ?_) (fun v845 => ?_)
 ·have h72_ : v844 = (Bo β11) := hF.1
  clear hF
  refine doesG_un rfl ?_
  obtain rfl := h72_
  refine (does_not (ev rfl)).mono ?_; rintro _ _ ⟨rfl, rfl⟩
  exact ⟨rfl, Ext.refl _⟩
 refine RW_d _ rfl (fun v => by dsimp only [List.set]; try rfl) (fun u hu hF => ?_) (fun v846 => ?_)
 ·have h73_ : v845 = (Bo (!β11)) := hF.1
  clear hF
  refine doesG_un rfl ?_
  obtain rfl := h73_
  refine (does_move (u := (Bo (!β11))) (ev rfl)).mono ?_; rintro _ _ ⟨rfl, rfl⟩
  exact ⟨rfl, Ext.refl _⟩
 refine RW_d _ rfl (fun v => by dsimp only [List.set]; try rfl) (fun u hu hF => ?_) (fun v847 => ?_)
 ·have h74_ : v846 = (Bo (!β11)) := hF.1
  clear hF
  obtain rfl := h74_
  refine doesG_g (b := (!β11)) rfl (yld rfl rfl) (fun hg1 => ?_) (fun hc => ⟨fun hg1 => absurd hg1 hc, Ext.refl _⟩)
  refine (does_loadAgg (cs := [(Fl r821), (Fl r823), (Fl r825), (Fl r7), (Fl r9), (Fl r11)]) (ev rfl) Try.isAgg29 Try.sizeOf29 (Blk.cells (hB838.ext hu)) rfl).mono ?_; rintro _ _ ⟨rfl, rfl⟩
  exact ⟨fun _ => rfl, Ext.refl _⟩
 refine RW_d _ rfl (fun v => by dsimp only [List.set]; try rfl) (fun u hu hF => ?_) (fun v848 => ?_)
 ·have h75_ : (!β11) = false → v847 = (.agg #[(Fl r821), (Fl r823), (Fl r825), (Fl r7), (Fl r9), (Fl r11)]) := hF.1
  have h74_ : v846 = (Bo (!β11)) := hF.2.1
  clear hF
  obtain rfl := h74_
  refine doesG_g (b := (!β11)) rfl (yld rfl rfl) (fun hg1 => ?_) (fun hc => ⟨fun hg1 => absurd hg1 hc, Ext.refl _⟩)
  obtain rfl := h75_ hg1
  refine (does_call (args := #[(.agg #[(Fl r821), (Fl r823), (Fl r825), (Fl r7), (Fl r9), (Fl r11)])]) cal11 (evs rfl) (c_impl_ValidBox [(Fl r821), (Fl r823), (Fl r825), (Fl r7), (Fl r9), (Fl r11)] (Bx.mk (V3.mk (cf .f32 r821) (cf .f32 r823) (cf .f32 r825)) A_b.hi) _ ⟨r821, r823, r825, r7, r9, r11, rfl, rfl, rfl, rfl, h8, h10, h12⟩)).mono ?_; rintro v u' ⟨hx, hv⟩
  exact ⟨fun _ => hv.trans (by simp only [hβ12]), hx⟩
 refine RW_d _ rfl (fun v => by dsimp only [List.set]; try rfl) (fun u hu hF => ?_) (fun v849 => ?_)
 ·have h76_ : (!β11) = false → v848 = (Bo β12) := hF.1
  have h74_ : v846 = (Bo (!β11)) := hF.2.1
  clear hF
  obtain rfl := h74_
  refine doesG_g (b := (!β11)) rfl (yld rfl rfl) (fun hg1 => ?_) (fun hc => ⟨fun hg1 => absurd hg1 hc, Ext.refl _⟩)
  obtain rfl := h76_ hg1
  refine (does_not (ev rfl)).mono ?_; rintro _ _ ⟨rfl, rfl⟩
  exact ⟨fun _ => rfl, Ext.refl _⟩
 refine RW_d _ rfl (fun v => by dsimp only [List.set]; try rfl) (fun u hu hF => ?_) (fun v850 => ?_)
 ·have h74_ : v846 = (Bo (!β11)) := hF.1
  have h77_ : (!β11) = false → v849 = (Bo (!β12)) := hF.2.1
  clear hF
  refine doesG_un rfl ?_
  skip
  obtain rfl := h74_
  refine (does_pick (b := (!β11)) (u := (Bo true)) (v := v849) (ev rfl) (ev rfl) (ev rfl)).mono ?_; rintro _ _ ⟨rfl, rfl⟩; refine ⟨?_, Ext.refl _⟩; skip
  cases hbb : (!β11)
  all_goals first | (show _ = _; simp only [↓reduceIte, Bool.true_and, Bool.false_and, Bool.true_or, Bool.false_or, Bool.false_eq_true]; done) | (have e_ := h77_ hbb; subst e_; show _ = _; simp only [↓reduceIte, Bool.true_and, Bool.false_and, Bool.true_or, Bool.false_or, Bool.false_eq_true]; done) | rfl | (have e_ := h77_ hbb; subst e_; rfl) | (simp [hbb] at h77_ ⊢; first | done | rfl | (subst h77_; rfl) | simp_all) | (simp [hbb] at h77_ ⊢; done)
 refine RW_fin ?_; intro w851 E852 hP853
 obtain ⟨⟨⟨⟨⟨⟨⟨⟨-, -⟩, -⟩, -⟩, -⟩, -⟩, -⟩, -⟩, q854⟩ := hP853
 have X855 := Ext.gr X840 E852
 have q854 : v850 = (Bo ((!β11) || (!β12))) := q854
 obtain rfl := q854
 show wpList _ _ _ _ (fr [_, _, _, _, _, _, _, _, _, _, _, _, _, _, _, _, _, _, _, _, _, _, _, _, _, _, _, _, _, _, _, _, _, _, _, _, _, _, _, _, _, _, _, _, _, _, _, _, _, _, _, _, _, _, _, _, _, _, _, _, _, _, _, _, _, _, _, _, _, _, _, _, _, _, _, _, _, _, _, _, _, _, _]) _
 refine wpList_nil (hK842 _ _ ?_)
 refine wp_cond_split (t := (!β11) || (!β12)) (ev rfl) (fun c856 => ?_) (fun c856 => ?_)
 ·have c856' := c856
  (try simp only [hβ1, hβ2, hβ8, hβ11, hβ12] at c856')
  (try simp only [icmp, Bool.and_eq_true, Bool.or_eq_true, Bool.and_eq_false_iff, Bool.or_eq_false_iff, Bool.not_eq_true', Bool.not_eq_false', decide_eq_true_eq, decide_eq_false_iff_not, beq_iff_eq, bne_iff_ne, beq_eq_false_iff_ne, bne_eq_false_iff_eq] at c856')
  first | have hax : axB A_b = 0 := by (simp only [axB, gtF, dimB, pickV_0, pickV_1, pickV_2, c43, c153, c183, c577, c856, if_true, if_false, Bool.false_eq_true, ↓reduceIte]; done) | have hax : axB A_b = 1 := by (simp only [axB, gtF, dimB, pickV_0, pickV_1, pickV_2, c43, c153, c183, c577, c856, if_true, if_false, Bool.false_eq_true, ↓reduceIte]; done) | have hax : axB A_b = 2 := by (simp only [axB, gtF, dimB, pickV_0, pickV_1, pickV_2, c43, c153, c183, c577, c856, if_true, if_false, Bool.false_eq_true, ↓reduceIte]; done)
  have hsf : splitOk A_b = false := splitOk_1 (by simp only [h2, h4, h6, h8, h10, h12, h88, h90, h92, h94, h96, h98, hβ1, hβ2, hβ8, h770, h812, h813, h814, h822, h824, h826, hβ11, hβ12, half_two] at c856'; simp only [oneB, twoB, midB, dimB, hax, half_two, pickV_0, pickV_1, pickV_2, setV_0, setV_1, setV_2]; exact c856')
  refine wp_seq_k fun K857 hK857 => ?_
  refine wp_region_lit ?_
  refine q_is rfl rfl (does_build (parts' := []) (cells := #[(Fl 0), (Fl 0), (Fl 0), (Fl 0), (Fl 0), (Fl 0)]) (evp rfl) (by kernel_rfl)) (by dsimp only [List.set]; try rfl) ?_
  refine q_is rfl rfl (does_build (parts' := []) (cells := #[(Fl 0), (Fl 0), (Fl 0), (Fl 0), (Fl 0), (Fl 0)]) (evp rfl) (by kernel_rfl)) (by dsimp only [List.set]; try rfl) ?_
  refine seqn rfl rfl (does_store (n := 6) (cs := [(Fl 0), (Fl 0), (Fl 0), (Fl 0), (Fl 0), (Fl 0)]) (u := (.agg #[(Fl 0), (Fl 0), (Fl 0), (Fl 0), (Fl 0), (Fl 0)])) (ev rfl) (ev rfl) Try.sizeOf29 rfl ((((((((((((((((((((hB23.ext E32).ext E40).ext E68).kl E80 nin0).wr W114 (Nat.ne_of_lt n103)).wr W118 (Nat.ne_of_lt n110)).ext E130).ext E149).ext E160).ext E179).ext E554).ext E573).ext E749).ext E765).wr W772 (Nat.ne_of_lt n103)).wr W776 (Nat.ne_of_lt n110)).ext E782).kl E799 nin0).wr W837 (Nat.ne_of_lt n831)).ext E852) (Nat.le_of_ble_eq_true rfl) rfl) ?_; rintro _ w860 ⟨rfl, W858, hB859⟩
  change Blk _ _ [(Fl 0), (Fl 0), (Fl 0), (Fl 0), (Fl 0), (Fl 0)] at hB859
  have X861 := Below.wr X855 W858 g27
  refine seqn rfl rfl (does_store (n := 6) (cs := [(Fl 0), (Fl 0), (Fl 0), (Fl 0), (Fl 0), (Fl 0)]) (u := (.agg #[(Fl 0), (Fl 0), (Fl 0), (Fl 0), (Fl 0), (Fl 0)])) (ev rfl) (ev rfl) Try.sizeOf29 rfl ((((((((((((((((((((hB31.ext E40).ext E68).kl E80 nin0).wr W114 (Nat.ne_of_lt n104)).wr W118 (Nat.ne_of_lt n111)).ext E130).ext E149).ext E160).ext E179).ext E554).ext E573).ext E749).ext E765).wr W772 (Nat.ne_of_lt n104)).wr W776 (Nat.ne_of_lt n111)).ext E782).kl E799 nin0).wr W837 (Nat.ne_of_lt n832)).ext E852).wr W858 (Nat.ne_of_gt n35)) (Nat.le_of_ble_eq_true rfl) rfl) ?_; rintro _ w864 ⟨rfl, W862, hB863⟩
  change Blk _ _ [(Fl 0), (Fl 0), (Fl 0), (Fl 0), (Fl 0), (Fl 0)] at hB863
  have X865 := Below.wr X861 W862 g36
  refine q_is rfl rfl (does_assign (u := (Bo false)) (ev rfl)) (by dsimp only [List.set]; try rfl) ?_
  refine wpList_nil (hK857 _ _ ?_)
  refine wp_ret ?_
  dsimp only [Exit.then, Exit.inBlock]
  refine ret_val (v := (.tuple #[(.agg #[(Fl 0), (Fl 0), (Fl 0), (Fl 0), (Fl 0), (Fl 0)]), (.agg #[(Fl 0), (Fl 0), (Fl 0), (Fl 0), (Fl 0), (Fl 0)]), (Bo false)])) (res_CCT rfl (slot rfl) (run_loadAgg (cs := [(Fl 0), (Fl 0), (Fl 0), (Fl 0), (Fl 0), (Fl 0)]) Try.isAgg29 Try.sizeOf29 (Blk.cells (hB859.wr W862 (Nat.ne_of_lt n35))) rfl) (slot rfl) (run_loadAgg (cs := [(Fl 0), (Fl 0), (Fl 0), (Fl 0), (Fl 0), (Fl 0)]) Try.isAgg29 Try.sizeOf29 (Blk.cells hB863) rfl) (slot rfl)) X865 ?_
  try simp only [h2, h4, h6, h8, h10, h12, h88, h90, h92, h94, h96, h98, hβ1, hβ2, hβ8, h770, h812, h813, h814, h822, h824, h826, hβ11, hβ12] at c43 c153 c183 c577 c856
  have x866 : (splitOk A_b) = false := by first | exact hsf | exact hst | (rw [hsf] <;> rfl) | (rw [hst, gvB_t]; first | rfl | assumption | (simp only [oneB, twoB, midB, dimB, hax, half_two, pickV_0, pickV_1, pickV_2, setV_0, setV_1, setV_2, h2, h4, h6, h8, h10, h12, h88, h90, h92, h94, h96, h98, hβ1, hβ2, hβ8, h770, h812, h813, h814, h822, h824, h826, hβ11, hβ12, c43, c153, c183, c577, c856]; done) | (simp only [oneB, twoB, midB, dimB, hax, half_two, pickV_0, pickV_1, pickV_2, setV_0, setV_1, setV_2, h2, h4, h6, h8, h10, h12, h88, h90, h92, h94, h96, h98, hβ1, hβ2, hβ8, h770, h812, h813, h814, h822, h824, h826, hβ11, hβ12, c43, c153, c183, c577, c856]; rfl))
  have x867 : cf .f32 0 = (gvB (splitOk A_b) (oneB A_b)).lo.x := by first | exact hsf | exact hst | (rw [hsf] <;> rfl) | (rw [hst, gvB_t]; first | rfl | assumption | (simp only [oneB, twoB, midB, dimB, hax, half_two, pickV_0, pickV_1, pickV_2, setV_0, setV_1, setV_2, h2, h4, h6, h8, h10, h12, h88, h90, h92, h94, h96, h98, hβ1, hβ2, hβ8, h770, h812, h813, h814, h822, h824, h826, hβ11, hβ12, c43, c153, c183, c577, c856]; done) | (simp only [oneB, twoB, midB, dimB, hax, half_two, pickV_0, pickV_1, pickV_2, setV_0, setV_1, setV_2, h2, h4, h6, h8, h10, h12, h88, h90, h92, h94, h96, h98, hβ1, hβ2, hβ8, h770, h812, h813, h814, h822, h824, h826, hβ11, hβ12, c43, c153, c183, c577, c856]; rfl))
  have x868 : cf .f32 0 = (gvB (splitOk A_b) (oneB A_b)).lo.y := by first | exact hsf | exact hst | (rw [hsf] <;> rfl) | (rw [hst, gvB_t]; first | rfl | assumption | (simp only [oneB, twoB, midB, dimB, hax, half_two, pickV_0, pickV_1, pickV_2, setV_0, setV_1, setV_2, h2, h4, h6, h8, h10, h12, h88, h90, h92, h94, h96, h98, hβ1, hβ2, hβ8, h770, h812, h813, h814, h822, h824, h826, hβ11, hβ12, c43, c153, c183, c577, c856]; done) | (simp only [oneB, twoB, midB, dimB, hax, half_two, pickV_0, pickV_1, pickV_2, setV_0, setV_1, setV_2, h2, h4, h6, h8, h10, h12, h88, h90, h92, h94, h96, h98, hβ1, hβ2, hβ8, h770, h812, h813, h814, h822, h824, h826, hβ11, hβ12, c43, c153, c183, c577, c856]; rfl))
  have x869 : cf .f32 0 = (gvB (splitOk A_b) (oneB A_b)).lo.z := by first | exact hsf | exact hst | (rw [hsf] <;> rfl) | (rw [hst, gvB_t]; first | rfl | assumption | (simp only [oneB, twoB, midB, dimB, hax, half_two, pickV_0, pickV_1, pickV_2, setV_0, setV_1, setV_2, h2, h4, h6, h8, h10, h12, h88, h90, h92, h94, h96, h98, hβ1, hβ2, hβ8, h770, h812, h813, h814, h822, h824, h826, hβ11, hβ12, c43, c153, c183, c577, c856]; done) | (simp only [oneB, twoB, midB, dimB, hax, half_two, pickV_0, pickV_1, pickV_2, setV_0, setV_1, setV_2, h2, h4, h6, h8, h10, h12, h88, h90, h92, h94, h96, h98, hβ1, hβ2, hβ8, h770, h812, h813, h814, h822, h824, h826, hβ11, hβ12, c43, c153, c183, c577, c856]; rfl))
  have x870 : cf .f32 0 = (gvB (splitOk A_b) (oneB A_b)).hi.x := by first | exact hsf | exact hst | (rw [hsf] <;> rfl) | (rw [hst, gvB_t]; first | rfl | assumption | (simp only [oneB, twoB, midB, dimB, hax, half_two, pickV_0, pickV_1, pickV_2, setV_0, setV_1, setV_2, h2, h4, h6, h8, h10, h12, h88, h90, h92, h94, h96, h98, hβ1, hβ2, hβ8, h770, h812, h813, h814, h822, h824, h826, hβ11, hβ12, c43, c153, c183, c577, c856]; done) | (simp only [oneB, twoB, midB, dimB, hax, half_two, pickV_0, pickV_1, pickV_2, setV_0, setV_1, setV_2, h2, h4, h6, h8, h10, h12, h88, h90, h92, h94, h96, h98, hβ1, hβ2, hβ8, h770, h812, h813, h814, h822, h824, h826, hβ11, hβ12, c43, c153, c183, c577, c856]; rfl))
  have x871 : cf .f32 0 = (gvB (splitOk A_b) (oneB A_b)).hi.y := by first | exact hsf | exact hst | (rw [hsf] <;> rfl) | (rw [hst, gvB_t]; first | rfl | assumption | (simp only [oneB, twoB, midB, dimB, hax, half_two, pickV_0, pickV_1, pickV_2, setV_0, setV_1, setV_2, h2, h4, h6, h8, h10, h12, h88, h90, h92, h94, h96, h98, hβ1, hβ2, hβ8, h770, h812, h813, h814, h822, h824, h826, hβ11, hβ12, c43, c153, c183, c577, c856]; done) | (simp only [oneB, twoB, midB, dimB, hax, half_two, pickV_0, pickV_1, pickV_2, setV_0, setV_1, setV_2, h2, h4, h6, h8, h10, h12, h88, h90, h92, h94, h96, h98, hβ1, hβ2, hβ8, h770, h812, h813, h814, h822, h824, h826, hβ11, hβ12, c43, c153, c183, c577, c856]; rfl))
  have x872 : cf .f32 0 = (gvB (splitOk A_b) (oneB A_b)).hi.z := by first | exact hsf | exact hst | (rw [hsf] <;> rfl) | (rw [hst, gvB_t]; first | rfl | assumption | (simp only [oneB, twoB, midB, dimB, hax, half_two, pickV_0, pickV_1, pickV_2, setV_0, setV_1, setV_2, h2, h4, h6, h8, h10, h12, h88, h90, h92, h94, h96, h98, hβ1, hβ2, hβ8, h770, h812, h813, h814, h822, h824, h826, hβ11, hβ12, c43, c153, c183, c577, c856]; done) | (simp only [oneB, twoB, midB, dimB, hax, half_two, pickV_0, pickV_1, pickV_2, setV_0, setV_1, setV_2, h2, h4, h6, h8, h10, h12, h88, h90, h92, h94, h96, h98, hβ1, hβ2, hβ8, h770, h812, h813, h814, h822, h824, h826, hβ11, hβ12, c43, c153, c183, c577, c856]; rfl))
  have x873 : cf .f32 0 = (gvB (splitOk A_b) (twoB A_b)).lo.x := by first | exact hsf | exact hst | (rw [hsf] <;> rfl) | (rw [hst, gvB_t]; first | rfl | assumption | (simp only [oneB, twoB, midB, dimB, hax, half_two, pickV_0, pickV_1, pickV_2, setV_0, setV_1, setV_2, h2, h4, h6, h8, h10, h12, h88, h90, h92, h94, h96, h98, hβ1, hβ2, hβ8, h770, h812, h813, h814, h822, h824, h826, hβ11, hβ12, c43, c153, c183, c577, c856]; done) | (simp only [oneB, twoB, midB, dimB, hax, half_two, pickV_0, pickV_1, pickV_2, setV_0, setV_1, setV_2, h2, h4, h6, h8, h10, h12, h88, h90, h92, h94, h96, h98, hβ1, hβ2, hβ8, h770, h812, h813, h814, h822, h824, h826, hβ11, hβ12, c43, c153, c183, c577, c856]; rfl))
  have x874 : cf .f32 0 = (gvB (splitOk A_b) (twoB A_b)).lo.y := by first | exact hsf | exact hst | (rw [hsf] <;> rfl) | (rw [hst, gvB_t]; first | rfl | assumption | (simp only [oneB, twoB, midB, dimB, hax, half_two, pickV_0, pickV_1, pickV_2, setV_0, setV_1, setV_2, h2, h4, h6, h8, h10, h12, h88, h90, h92, h94, h96, h98, hβ1, hβ2, hβ8, h770, h812, h813, h814, h822, h824, h826, hβ11, hβ12, c43, c153, c183, c577, c856]; done) | (simp only [oneB, twoB, midB, dimB, hax, half_two, pickV_0, pickV_1, pickV_2, setV_0, setV_1, setV_2, h2, h4, h6, h8, h10, h12, h88, h90, h92, h94, h96, h98, hβ1, hβ2, hβ8, h770, h812, h813, h814, h822, h824, h826, hβ11, hβ12, c43, c153, c183, c577, c856]; rfl))
  have x875 : cf .f32 0 = (gvB (splitOk A_b) (twoB A_b)).lo.z := by first | exact hsf | exact hst | (rw [hsf] <;> rfl) | (rw [hst, gvB_t]; first | rfl | assumption | (simp only [oneB, twoB, midB, dimB, hax, half_two, pickV_0, pickV_1, pickV_2, setV_0, setV_1, setV_2, h2, h4, h6, h8, h10, h12, h88, h90, h92, h94, h96, h98, hβ1, hβ2, hβ8, h770, h812, h813, h814, h822, h824, h826, hβ11, hβ12, c43, c153, c183, c577, c856]; done) | (simp only [oneB, twoB, midB, dimB, hax, half_two, pickV_0, pickV_1, pickV_2, setV_0, setV_1, setV_2, h2, h4, h6, h8, h10, h12, h88, h90, h92, h94, h96, h98, hβ1, hβ2, hβ8, h770, h812, h813, h814, h822, h824, h826, hβ11, hβ12, c43, c153, c183, c577, c856]; rfl))
  have x876 : cf .f32 0 = (gvB (splitOk A_b) (twoB A_b)).hi.x := by first | exact hsf | exact hst | (rw [hsf] <;> rfl) | (rw [hst, gvB_t]; first | rfl | assumption | (simp only [oneB, twoB, midB, dimB, hax, half_two, pickV_0, pickV_1, pickV_2, setV_0, setV_1, setV_2, h2, h4, h6, h8, h10, h12, h88, h90, h92, h94, h96, h98, hβ1, hβ2, hβ8, h770, h812, h813, h814, h822, h824, h826, hβ11, hβ12, c43, c153, c183, c577, c856]; done) | (simp only [oneB, twoB, midB, dimB, hax, half_two, pickV_0, pickV_1, pickV_2, setV_0, setV_1, setV_2, h2, h4, h6, h8, h10, h12, h88, h90, h92, h94, h96, h98, hβ1, hβ2, hβ8, h770, h812, h813, h814, h822, h824, h826, hβ11, hβ12, c43, c153, c183, c577, c856]; rfl))
  have x877 : cf .f32 0 = (gvB (splitOk A_b) (twoB A_b)).hi.y := by first | exact hsf | exact hst | (rw [hsf] <;> rfl) | (rw [hst, gvB_t]; first | rfl | assumption | (simp only [oneB, twoB, midB, dimB, hax, half_two, pickV_0, pickV_1, pickV_2, setV_0, setV_1, setV_2, h2, h4, h6, h8, h10, h12, h88, h90, h92, h94, h96, h98, hβ1, hβ2, hβ8, h770, h812, h813, h814, h822, h824, h826, hβ11, hβ12, c43, c153, c183, c577, c856]; done) | (simp only [oneB, twoB, midB, dimB, hax, half_two, pickV_0, pickV_1, pickV_2, setV_0, setV_1, setV_2, h2, h4, h6, h8, h10, h12, h88, h90, h92, h94, h96, h98, hβ1, hβ2, hβ8, h770, h812, h813, h814, h822, h824, h826, hβ11, hβ12, c43, c153, c183, c577, c856]; rfl))
  have x878 : cf .f32 0 = (gvB (splitOk A_b) (twoB A_b)).hi.z := by first | exact hsf | exact hst | (rw [hsf] <;> rfl) | (rw [hst, gvB_t]; first | rfl | assumption | (simp only [oneB, twoB, midB, dimB, hax, half_two, pickV_0, pickV_1, pickV_2, setV_0, setV_1, setV_2, h2, h4, h6, h8, h10, h12, h88, h90, h92, h94, h96, h98, hβ1, hβ2, hβ8, h770, h812, h813, h814, h822, h824, h826, hβ11, hβ12, c43, c153, c183, c577, c856]; done) | (simp only [oneB, twoB, midB, dimB, hax, half_two, pickV_0, pickV_1, pickV_2, setV_0, setV_1, setV_2, h2, h4, h6, h8, h10, h12, h88, h90, h92, h94, h96, h98, hβ1, hβ2, hβ8, h770, h812, h813, h814, h822, h824, h826, hβ11, hβ12, c43, c153, c183, c577, c856]; rfl))
  exact ⟨[(Fl 0), (Fl 0), (Fl 0), (Fl 0), (Fl 0), (Fl 0)], [(Fl 0), (Fl 0), (Fl 0), (Fl 0), (Fl 0), (Fl 0)], (by first | with_reducible rfl | rw [x866] | rfl), ⟨0, 0, 0, 0, 0, 0, rfl, x867, x868, x869, x870, x871, x872⟩, ⟨0, 0, 0, 0, 0, 0, rfl, x873, x874, x875, x876, x877, x878⟩⟩
 have c856' := c856
 (try simp only [hβ1, hβ2, hβ8, hβ11, hβ12] at c856')
 (try simp only [icmp, Bool.and_eq_true, Bool.or_eq_true, Bool.and_eq_false_iff, Bool.or_eq_false_iff, Bool.not_eq_true', Bool.not_eq_false', decide_eq_true_eq, decide_eq_false_iff_not, beq_iff_eq, bne_iff_ne, beq_eq_false_iff_ne, bne_eq_false_iff_eq] at c856')
 first | have hax : axB A_b = 0 := by (simp only [axB, gtF, dimB, pickV_0, pickV_1, pickV_2, c43, c153, c183, c577, c856, if_true, if_false, Bool.false_eq_true, ↓reduceIte]; done) | have hax : axB A_b = 1 := by (simp only [axB, gtF, dimB, pickV_0, pickV_1, pickV_2, c43, c153, c183, c577, c856, if_true, if_false, Bool.false_eq_true, ↓reduceIte]; done) | have hax : axB A_b = 2 := by (simp only [axB, gtF, dimB, pickV_0, pickV_1, pickV_2, c43, c153, c183, c577, c856, if_true, if_false, Bool.false_eq_true, ↓reduceIte]; done)
 have hst : splitOk A_b = true := splitOk_t hs0 (by simp only [h2, h4, h6, h8, h10, h12, h88, h90, h92, h94, h96, h98, hβ1, hβ2, hβ8, h770, h812, h813, h814, h822, h824, h826, hβ11, hβ12, half_two] at c856'; simp only [oneB, twoB, midB, dimB, hax, half_two, pickV_0, pickV_1, pickV_2, setV_0, setV_1, setV_2]; exact c856')
 refine wp_skip (hK841 _ _ ?_)
 refine wp_seq_k fun K879 hK879 => ?_
 have n883 : b21 < w851.heap.size := Blk.lt ((((((((((((((((((((hB23.ext E32).ext E40).ext E68).kl E80 nin0).wr W114 (Nat.ne_of_lt n103)).wr W118 (Nat.ne_of_lt n110)).ext E130).ext E149).ext E160).ext E179).ext E554).ext E573).ext E749).ext E765).wr W772 (Nat.ne_of_lt n103)).wr W776 (Nat.ne_of_lt n110)).ext E782).kl E799 nin0).wr W837 (Nat.ne_of_lt n831)).ext E852)
 refine region_any2 [b21] [0, 0, 1, 7, 15] [0] (
  [FactW.pure [] [] [0] true (fun v => v = (.agg #[(Fl r1), (Fl r3), (Fl r5), (Fl r809), (Fl r810), (Fl r811)])),
   FactW.pure [] [0] [0] true (fun v => v = (.agg #[(Fl r821), (Fl r823), (Fl r825), (Fl r7), (Fl r9), (Fl r11)])),
   FactW.mem [0] [] [0] [] true (fun v w' => v = undef ∧ Blk w' b21 [(Fl r1), (Fl r3), (Fl r5), (Fl r809), (Fl r810), (Fl r811)]) (by rintro v w1 w2 hx ⟨rfl, h⟩; exact ⟨rfl, h.ext (KpL.toExt hx)⟩)]) mixed (by kernel_rfl) ?_
 obtain ⟨w880, hw882⟩ : ∃ w', w' = World.drew w851 := ⟨_, rfl⟩; rw [← hw882]; have E881 : Ext w851 w880 := by rw [hw882]; exact Ext.draw _
 clear hw882
 have X884 := Ext.gr X855 E881
 refine RW2_d _ rfl (fun v => by dsimp only [List.set]; try rfl) (fun u hu hF => ?_) (fun v885 => ?_)
 ·replace hu : KpL [] _ _ := hu
  clear hF
  refine doesG_un rfl ?_
  refine (does_loadAgg (cs := [(Fl r1), (Fl r3), (Fl r5), (Fl r809), (Fl r810), (Fl r811)]) (ev rfl) Try.isAgg29 Try.sizeOf29 (Blk.cells ((((hB808.wr W837 (Ne.symm n836)).ext E852).ext E881).ext (KpL.toExt hu))) rfl).mono ?_; rintro _ _ ⟨rfl, rfl⟩
  exact ⟨rfl, KpL.refl _ _⟩
 refine RW2_d _ rfl (fun v => by dsimp only [List.set]; try rfl) (fun u hu hF => ?_) (fun v886 => ?_)
 ·replace hu : KpL [b21] _ _ := hu
  clear hF
  refine doesG_un rfl ?_
  refine (does_loadAgg (cs := [(Fl r821), (Fl r823), (Fl r825), (Fl r7), (Fl r9), (Fl r11)]) (ev rfl) Try.isAgg29 Try.sizeOf29 (Blk.cells (((hB838.ext E852).ext E881).kl hu (ninS (Nat.ne_of_gt n831) nin0))) rfl).mono ?_; rintro _ _ ⟨rfl, rfl⟩
  exact ⟨rfl, KpL.refl _ _⟩
 refine RW2_n rfl (fun u hu hF => ?_) (fun v887 => ?_)
 ·replace hu : KpL [] _ _ := hu
  have h81_ : v885 = (.agg #[(Fl r1), (Fl r3), (Fl r5), (Fl r809), (Fl r810), (Fl r811)]) := hF.1
  clear hF
  refine doesG_un rfl ?_
  obtain rfl := h81_
  refine (does_store (n := 6) (cs := [(Fl 0), (Fl 0), (Fl 0), (Fl 0), (Fl 0), (Fl 0)]) (u := (.agg #[(Fl r1), (Fl r3), (Fl r5), (Fl r809), (Fl r810), (Fl r811)])) (ev rfl) (ev rfl) Try.sizeOf29 rfl ((((((((((((((((((((((hB23.ext E32).ext E40).ext E68).kl E80 nin0).wr W114 (Nat.ne_of_lt n103)).wr W118 (Nat.ne_of_lt n110)).ext E130).ext E149).ext E160).ext E179).ext E554).ext E573).ext E749).ext E765).wr W772 (Nat.ne_of_lt n103)).wr W776 (Nat.ne_of_lt n110)).ext E782).kl E799 nin0).wr W837 (Nat.ne_of_lt n831)).ext E852).ext E881).ext (KpL.toExt hu)) (Nat.le_of_ble_eq_true rfl) rfl).mono ?_; rintro _ _ ⟨rfl, hW, hB⟩
  exact ⟨⟨rfl, hB⟩, KpL.of_wr hW⟩
 refine RW2_fin ?_; intro w888 E889 hP890; replace E889 : KpL [b21] _ _ := E889
 obtain ⟨⟨⟨-, -⟩, q891⟩, q892⟩ := hP890
 have X893 := Below.kl X884 E889 (allS g27 all0) (Nat.le_refl _)
 obtain ⟨_, hB894⟩ := q892 rfl
 change Blk _ _ [(Fl r1), (Fl r3), (Fl r5), (Fl r809), (Fl r810), (Fl r811)] at hB894
 have q891 : v886 = (.agg #[(Fl r821), (Fl r823), (Fl r825), (Fl r7), (Fl r9), (Fl r11)]) := q891 rfl
 obtain rfl := q891
 show wpList _ _ _ _ (fr [_, _, _, _, _, _, _, _, _, _, _, _, _, _, _, _, _, _, _, _, _, _, _, _, _, _, _, _, _, _, _, _, _, _, _, _, _, _, _, _, _, _, _, _, _, _, _, _, _, _, _, _, _, _, _, _, _, _, _, _, _, _, _, _, _, _, _, _, _, _, _, _, _, _, _, _, _, _, _, _, _, _, _]) _
 refine seqn rfl rfl (does_store (n := 6) (cs := [(Fl 0), (Fl 0), (Fl 0), (Fl 0), (Fl 0), (Fl 0)]) (u := (.agg #[(Fl r821), (Fl r823), (Fl r825), (Fl r7), (Fl r9), (Fl r11)])) (ev rfl) (ev rfl) Try.sizeOf29 rfl (((((((((((((((((((((hB31.ext E40).ext E68).kl E80 nin0).wr W114 (Nat.ne_of_lt n104)).wr W118 (Nat.ne_of_lt n111)).ext E130).ext E149).ext E160).ext E179).ext E554).ext E573).ext E749).ext E765).wr W772 (Nat.ne_of_lt n104)).wr W776 (Nat.ne_of_lt n111)).ext E782).kl E799 nin0).wr W837 (Nat.ne_of_lt n832)).ext E852).ext E881).kl E889 (ninS (Nat.ne_of_gt n35) nin0)) (Nat.le_of_ble_eq_true rfl) rfl) ?_; rintro _ w897 ⟨rfl, W895, hB896⟩
 change Blk _ _ [(Fl r821), (Fl r823), (Fl r825), (Fl r7), (Fl r9), (Fl r11)] at hB896
 have X898 := Below.wr X893 W895 g36
 refine q_is rfl rfl (does_assign (u := (Bo true)) (ev rfl)) (by dsimp only [List.set]; try rfl) ?_
 refine wpList_nil (hK879 _ _ ?_)
 refine wp_ret ?_
 refine ret_val (v := (.tuple #[(.agg #[(Fl r1), (Fl r3), (Fl r5), (Fl r809), (Fl r810), (Fl r811)]), (.agg #[(Fl r821), (Fl r823), (Fl r825), (Fl r7), (Fl r9), (Fl r11)]), (Bo true)])) (res_CCT rfl (slot rfl) (run_loadAgg (cs := [(Fl r1), (Fl r3), (Fl r5), (Fl r809), (Fl r810), (Fl r811)]) Try.isAgg29 Try.sizeOf29 (Blk.cells (hB894.wr W895 (Nat.ne_of_lt n35))) rfl) (slot rfl) (run_loadAgg (cs := [(Fl r821), (Fl r823), (Fl r825), (Fl r7), (Fl r9), (Fl r11)]) Try.isAgg29 Try.sizeOf29 (Blk.cells hB896) rfl) (slot rfl)) X898 ?_
 try simp only [h2, h4, h6, h8, h10, h12, h88, h90, h92, h94, h96, h98, hβ1, hβ2, hβ8, h770, h812, h813, h814, h822, h824, h826, hβ11, hβ12] at c43 c153 c183 c577 c856
 have x899 : (splitOk A_b) = true := by first | exact hsf | exact hst | (rw [hsf] <;> rfl) | (rw [hst, gvB_t]; first | rfl | assumption | (simp only [oneB, twoB, midB, dimB, hax, half_two, pickV_0, pickV_1, pickV_2, setV_0, setV_1, setV_2, h2, h4, h6, h8, h10, h12, h88, h90, h92, h94, h96, h98, hβ1, hβ2, hβ8, h770, h812, h813, h814, h822, h824, h826, hβ11, hβ12, c43, c153, c183, c577, c856]; done) | (simp only [oneB, twoB, midB, dimB, hax, half_two, pickV_0, pickV_1, pickV_2, setV_0, setV_1, setV_2, h2, h4, h6, h8, h10, h12, h88, h90, h92, h94, h96, h98, hβ1, hβ2, hβ8, h770, h812, h813, h814, h822, h824, h826, hβ11, hβ12, c43, c153, c183, c577, c856]; rfl))
 have x900 : cf .f32 r1 = (gvB (splitOk A_b) (oneB A_b)).lo.x := by first | exact hsf | exact hst | (rw [hsf] <;> rfl) | (rw [hst, gvB_t]; first | rfl | assumption | (simp only [oneB, twoB, midB, dimB, hax, half_two, pickV_0, pickV_1, pickV_2, setV_0, setV_1, setV_2, h2, h4, h6, h8, h10, h12, h88, h90, h92, h94, h96, h98, hβ1, hβ2, hβ8, h770, h812, h813, h814, h822, h824, h826, hβ11, hβ12, c43, c153, c183, c577, c856]; done) | (simp only [oneB, twoB, midB, dimB, hax, half_two, pickV_0, pickV_1, pickV_2, setV_0, setV_1, setV_2, h2, h4, h6, h8, h10, h12, h88, h90, h92, h94, h96, h98, hβ1, hβ2, hβ8, h770, h812, h813, h814, h822, h824, h826, hβ11, hβ12, c43, c153, c183, c577, c856]; rfl))
 have x901 : cf .f32 r3 = (gvB (splitOk A_b) (oneB A_b)).lo.y := by first | exact hsf | exact hst | (rw [hsf] <;> rfl) | (rw [hst, gvB_t]; first | rfl | assumption | (simp only [oneB, twoB, midB, dimB, hax, half_two, pickV_0, pickV_1, pickV_2, setV_0, setV_1, setV_2, h2, h4, h6, h8, h10, h12, h88, h90, h92, h94, h96, h98, hβ1, hβ2, hβ8, h770, h812, h813, h814, h822, h824, h826, hβ11, hβ12, c43, c153, c183, c577, c856]; done) | (simp only [oneB, twoB, midB, dimB, hax, half_two, pickV_0, pickV_1, pickV_2, setV_0, setV_1, setV_2, h2, h4, h6, h8, h10, h12, h88, h90, h92, h94, h96, h98, hβ1, hβ2, hβ8, h770, h812, h813, h814, h822, h824, h826, hβ11, hβ12, c43, c153, c183, c577, c856]; rfl))
 have x902 : cf .f32 r5 = (gvB (splitOk A_b) (oneB A_b)).lo.z := by first | exact hsf | exact hst | (rw [hsf] <;> rfl) | (rw [hst, gvB_t]; first | rfl | assumption | (simp only [oneB, twoB, midB, dimB, hax, half_two, pickV_0, pickV_1, pickV_2, setV_0, setV_1, setV_2, h2, h4, h6, h8, h10, h12, h88, h90, h92, h94, h96, h98, hβ1, hβ2, hβ8, h770, h812, h813, h814, h822, h824, h826, hβ11, hβ12, c43, c153, c183, c577, c856]; done) | (simp only [oneB, twoB, midB, dimB, hax, half_two, pickV_0, pickV_1, pickV_2, setV_0, setV_1, setV_2, h2, h4, h6, h8, h10, h12, h88, h90, h92, h94, h96, h98, hβ1, hβ2, hβ8, h770, h812, h813, h814, h822, h824, h826, hβ11, hβ12, c43, c153, c183, c577, c856]; rfl))
 have x903 : cf .f32 r809 = (gvB (splitOk A_b) (oneB A_b)).hi.x := by first | exact hsf | exact hst | (rw [hsf] <;> rfl) | (rw [hst, gvB_t]; first | rfl | assumption | (simp only [oneB, twoB, midB, dimB, hax, half_two, pickV_0, pickV_1, pickV_2, setV_0, setV_1, setV_2, h2, h4, h6, h8, h10, h12, h88, h90, h92, h94, h96, h98, hβ1, hβ2, hβ8, h770, h812, h813, h814, h822, h824, h826, hβ11, hβ12, c43, c153, c183, c577, c856]; done) | (simp only [oneB, twoB, midB, dimB, hax, half_two, pickV_0, pickV_1, pickV_2, setV_0, setV_1, setV_2, h2, h4, h6, h8, h10, h12, h88, h90, h92, h94, h96, h98, hβ1, hβ2, hβ8, h770, h812, h813, h814, h822, h824, h826, hβ11, hβ12, c43, c153, c183, c577, c856]; rfl))
 have x904 : cf .f32 r810 = (gvB (splitOk A_b) (oneB A_b)).hi.y := by first | exact hsf | exact hst | (rw [hsf] <;> rfl) | (rw [hst, gvB_t]; first | rfl | assumption | (simp only [oneB, twoB, midB, dimB, hax, half_two, pickV_0, pickV_1, pickV_2, setV_0, setV_1, setV_2, h2, h4, h6, h8, h10, h12, h88, h90, h92, h94, h96, h98, hβ1, hβ2, hβ8, h770, h812, h813, h814, h822, h824, h826, hβ11, hβ12, c43, c153, c183, c577, c856]; done) | (simp only [oneB, twoB, midB, dimB, hax, half_two, pickV_0, pickV_1, pickV_2, setV_0, setV_1, setV_2, h2, h4, h6, h8, h10, h12, h88, h90, h92, h94, h96, h98, hβ1, hβ2, hβ8, h770, h812, h813, h814, h822, h824, h826, hβ11, hβ12, c43, c153, c183, c577, c856]; rfl))
 have x905 : cf .f32 r811 = (gvB (splitOk A_b) (oneB A_b)).hi.z := by first | exact hsf | exact hst | (rw [hsf] <;> rfl) | (rw [hst, gvB_t]; first | rfl | assumption | (simp only [oneB, twoB, midB, dimB, hax, half_two, pickV_0, pickV_1, pickV_2, setV_0, setV_1, setV_2, h2, h4, h6, h8, h10, h12, h88, h90, h92, h94, h96, h98, hβ1, hβ2, hβ8, h770, h812, h813, h814, h822, h824, h826, hβ11, hβ12, c43, c153, c183, c577, c856]; done) | (simp only [oneB, twoB, midB, dimB, hax, half_two, pickV_0, pickV_1, pickV_2, setV_0, setV_1, setV_2, h2, h4, h6, h8, h10, h12, h88, h90, h92, h94, h96, h98, hβ1, hβ2, hβ8, h770, h812, h813, h814, h822, h824, h826, hβ11, hβ12, c43, c153, c183, c577, c856]; rfl))
 have x906 : cf .f32 r821 = (gvB (splitOk A_b) (twoB A_b)).lo.x := by first | exact hsf | exact hst | (rw [hsf] <;> rfl) | (rw [hst, gvB_t]; first | rfl | assumption | (simp only [oneB, twoB, midB, dimB, hax, half_two, pickV_0, pickV_1, pickV_2, setV_0, setV_1, setV_2, h2, h4, h6, h8, h10, h12, h88, h90, h92, h94, h96, h98, hβ1, hβ2, hβ8, h770, h812, h813, h814, h822, h824, h826, hβ11, hβ12, c43, c153, c183, c577, c856]; done) | (simp only [oneB, twoB, midB, dimB, hax, half_two, pickV_0, pickV_1, pickV_2, setV_0, setV_1, setV_2, h2, h4, h6, h8, h10, h12, h88, h90, h92, h94, h96, h98, hβ1, hβ2, hβ8, h770, h812, h813, h814, h822, h824, h826, hβ11, hβ12, c43, c153, c183, c577, c856]; rfl))
 have x907 : cf .f32 r823 = (gvB (splitOk A_b) (twoB A_b)).lo.y := by first | exact hsf | exact hst | (rw [hsf] <;> rfl) | (rw [hst, gvB_t]; first | rfl | assumption | (simp only [oneB, twoB, midB, dimB, hax, half_two, pickV_0, pickV_1, pickV_2, setV_0, setV_1, setV_2, h2, h4, h6, h8, h10, h12, h88, h90, h92, h94, h96, h98, hβ1, hβ2, hβ8, h770, h812, h813, h814, h822, h824, h826, hβ11, hβ12, c43, c153, c183, c577, c856]; done) | (simp only [oneB, twoB, midB, dimB, hax, half_two, pickV_0, pickV_1, pickV_2, setV_0, setV_1, setV_2, h2, h4, h6, h8, h10, h12, h88, h90, h92, h94, h96, h98, hβ1, hβ2, hβ8, h770, h812, h813, h814, h822, h824, h826, hβ11, hβ12, c43, c153, c183, c577, c856]; rfl))
 have x908 : cf .f32 r825 = (gvB (splitOk A_b) (twoB A_b)).lo.z := by first | exact hsf | exact hst | (rw [hsf] <;> rfl) | (rw [hst, gvB_t]; first | rfl | assumption | (simp only [oneB, twoB, midB, dimB, hax, half_two, pickV_0, pickV_1, pickV_2, setV_0, setV_1, setV_2, h2, h4, h6, h8, h10, h12, h88, h90, h92, h94, h96, h98, hβ1, hβ2, hβ8, h770, h812, h813, h814, h822, h824, h826, hβ11, hβ12, c43, c153, c183, c577, c856]; done) | (simp only [oneB, twoB, midB, dimB, hax, half_two, pickV_0, pickV_1, pickV_2, setV_0, setV_1, setV_2, h2, h4, h6, h8, h10, h12, h88, h90, h92, h94, h96, h98, hβ1, hβ2, hβ8, h770, h812, h813, h814, h822, h824, h826, hβ11, hβ12, c43, c153, c183, c577, c856]; rfl))
 have x909 : cf .f32 r7 = (gvB (splitOk A_b) (twoB A_b)).hi.x := by first | exact hsf | exact hst | (rw [hsf] <;> rfl) | (rw [hst, gvB_t]; first | rfl | assumption | (simp only [oneB, twoB, midB, dimB, hax, half_two, pickV_0, pickV_1, pickV_2, setV_0, setV_1, setV_2, h2, h4, h6, h8, h10, h12, h88, h90, h92, h94, h96, h98, hβ1, hβ2, hβ8, h770, h812, h813, h814, h822, h824, h826, hβ11, hβ12, c43, c153, c183, c577, c856]; done) | (simp only [oneB, twoB, midB, dimB, hax, half_two, pickV_0, pickV_1, pickV_2, setV_0, setV_1, setV_2, h2, h4, h6, h8, h10, h12, h88, h90, h92, h94, h96, h98, hβ1, hβ2, hβ8, h770, h812, h813, h814, h822, h824, h826, hβ11, hβ12, c43, c153, c183, c577, c856]; rfl))
 have x910 : cf .f32 r9 = (gvB (splitOk A_b) (twoB A_b)).hi.y := by first | exact hsf | exact hst | (rw [hsf] <;> rfl) | (rw [hst, gvB_t]; first | rfl | assumption | (simp only [oneB, twoB, midB, dimB, hax, half_two, pickV_0, pickV_1, pickV_2, setV_0, setV_1, setV_2, h2, h4, h6, h8, h10, h12, h88, h90, h92, h94, h96, h98, hβ1, hβ2, hβ8, h770, h812, h813, h814, h822, h824, h826, hβ11, hβ12, c43, c153, c183, c577, c856]; done) | (simp only [oneB, twoB, midB, dimB, hax, half_two, pickV_0, pickV_1, pickV_2, setV_0, setV_1, setV_2, h2, h4, h6, h8, h10, h12, h88, h90, h92, h94, h96, h98, hβ1, hβ2, hβ8, h770, h812, h813, h814, h822, h824, h826, hβ11, hβ12, c43, c153, c183, c577, c856]; rfl))
 have x911 : cf .f32 r11 = (gvB (splitOk A_b) (twoB A_b)).hi.z := by first | exact hsf | exact hst | (rw [hsf] <;> rfl) | (rw [hst, gvB_t]; first | rfl | assumption | (simp only [oneB, twoB, midB, dimB, hax, half_two, pickV_0, pickV_1, pickV_2, setV_0, setV_1, setV_2, h2, h4, h6, h8, h10, h12, h88, h90, h92, h94, h96, h98, hβ1, hβ2, hβ8, h770, h812, h813, h814, h822, h824, h826, hβ11, hβ12, c43, c153, c183, c577, c856]; done) | (simp only [oneB, twoB, midB, dimB, hax, half_two, pickV_0, pickV_1, pickV_2, setV_0, setV_1, setV_2, h2, h4, h6, h8, h10, h12, h88, h90, h92, h94, h96, h98, hβ1, hβ2, hβ8, h770, h812, h813, h814, h822, h824, h826, hβ11, hβ12, c43, c153, c183, c577, c856]; rfl))
 exact ⟨[(Fl r1), (Fl r3), (Fl r5), (Fl r809), (Fl r810), (Fl r811)], [(Fl r821), (Fl r823), (Fl r825), (Fl r7), (Fl r9), (Fl r11)], (by first | with_reducible rfl | rw [x899] | rfl), ⟨r1, r3, r5, r809, r810, r811, rfl, x900, x901, x902, x903, x904, x905⟩, ⟨r821, r823, r825, r7, r9, r11, rfl, x906, x907, x908, x909, x910, x911⟩⟩

end Go.Proofs.Ythffielpjjggeaa
