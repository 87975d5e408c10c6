/- contracts of functions, each walked once -/
import Derived.Test.YtbbidfadenmmjaaT
namespace Go.Proofs.Ytbbidfadenmmjaa
open Go Go.RowKit
set_option maxRecDepth 100000
set_option maxHeartbeats 3200000
set_option linter.unusedVariables false
set_option linter.unusedSimpArgs false

/- impl.RootNumber -/
theorem c_impl_RootNumber (x : Nat) (w : World) : Gives Try.prog 99 #[(Fl x)] w (fun v w' => ∃ r_1 : Nat, v = (Fl r_1) ∧ cf .f32 r_1 = rootF (cf .f32 x)) := by
  refine enter [(Fl x), Ud, Ud, Ud, Ud, Ud, Ud] Try.func99 rfl Try.ntmps99 rfl ?_
  refine wp_seq_k fun K1 hK1 => ?_
  refine wp_region_lit ?_
  refine q_is (l' := [(Fl x), Ud, (Fl 0), Ud, Ud, Ud, Ud]) rfl rfl (does_assign (u := (Fl 0)) (ev rfl)) rfl ?_
  refine wpList_nil (hK1 _ _ ?_)
  refine wp_seq_k fun K2 hK2 => ?_
  refine wp_region_lit ?_
  refine q_is (l' := [(Fl x), Ud, (Fl 0), (Fl x), Ud, Ud, Ud]) rfl rfl (does_move (u := (Fl x)) (ev rfl)) rfl ?_
  refine seqd rfl rfl (does_widen Try.underlying24 Try.underlying80 (ev rfl)) ?_; rintro _ w6 ⟨r3, rfl, h4, E5⟩
  have X7 := Ext.gr (Ext.refl w) E5
  show wpList _ _ _ _ (fr [(Fl x), Ud, (Fl 0), (Fl x), (Fd r3), Ud, Ud]) _
  refine seqd rfl rfl (does_call (args := #[(Fd r3)]) cal113 (evs rfl) (c_math_Sqrt r3 _)) ?_; rintro _ w9 ⟨E8, ⟨r10, rfl, h11⟩⟩
  have X12 := Ext.gr X7 E8
  show wpList _ _ _ _ (fr [(Fl x), Ud, (Fl 0), (Fl x), (Fd r3), (Fd r10), Ud]) _
  refine seqd rfl rfl (does_narrow Try.underlying80 Try.underlying24 (ev rfl) (by first | assumption | (simp only [h4, h11]; exact nov_sqrt _))) ?_; rintro _ w16 ⟨r13, rfl, h14, E15⟩
  have X17 := Ext.gr X12 E15
  show wpList _ _ _ _ (fr [(Fl x), Ud, (Fl 0), (Fl x), (Fd r3), (Fd r10), (Fl r13)]) _
  refine q_is (l' := [(Fl x), Ud, (Fl r13), (Fl x), (Fd r3), (Fd r10), (Fl r13)]) rfl rfl (does_assign (u := (Fl r13)) (ev rfl)) rfl ?_
  refine wpList_nil (hK2 _ _ ?_)
  refine wp_ret ?_
  refine ret_val (v := (Fl r13)) (res_T rfl (slot rfl)) X17 ?_
  have x18 : cf .f32 r13 = rootF (cf .f32 x) := by first | with_reducible rfl | (simp only [rootF, h4, h11, h14]; done) | (simp [rootF, h4, h11, h14]; done) | rfl
  exact ⟨r13, rfl, x18⟩

/- impl.InnerOf -/
theorem c_impl_InnerOf (a : List Value) (A_a : V3) (b : List Value) (A_b : V3) (w : World) (hv_a : RV3 w A_a a) (hv_b : RV3 w A_b b) : Gives Try.prog 100 #[(.agg a.toArray), (.agg b.toArray)] w (fun v w' => ∃ r_1 : Nat, v = (Fl r_1) ∧ cf .f32 r_1 = innerF A_a A_b) := by
  obtain ⟨r1, r3, r5, rfl, h2, h4, h6⟩ := hv_a
  obtain ⟨r7, r9, r11, rfl, h8, h10, h12⟩ := hv_b
  refine enter [(.agg #[(Fl r1), (Fl r3), (Fl r5)]), (.agg #[(Fl r7), (Fl r9), (Fl r11)]), Ud, Ud, Ud, Ud, Ud, Ud, Ud, Ud, Ud, Ud, Ud, Ud, Ud, Ud, Ud, Ud, Ud, Ud, Ud, Ud] Try.func100 rfl Try.ntmps100 rfl ?_
  refine wp_seq_k fun K13 hK13 => ?_
  refine wp_region_lit ?_
  refine seqd rfl rfl (does_box (u := (.agg #[(Fl r1), (Fl r3), (Fl r5)])) (ev rfl)) ?_; rintro _ w18 ⟨b14, rfl, hb15, hB16, E17⟩
  have g19 : w.heap.size ≤ b14 := Nat.le_trans (Below.size (Ext.refl w)) hb15
  change Blk _ _ [(Fl r1), (Fl r3), (Fl r5)] at hB16
  have X20 := Ext.gr (Ext.refl w) E17
  show wpList _ _ _ _ (fr [(.agg #[(Fl r1), (Fl r3), (Fl r5)]), (.agg #[(Fl r7), (Fl r9), (Fl r11)]), (Pt b14 0), Ud, Ud, Ud, Ud, Ud, Ud, Ud, Ud, Ud, Ud, Ud, Ud, Ud, Ud, Ud, Ud, Ud, Ud, Ud]) _
  refine seqd rfl rfl (does_box (u := (.agg #[(Fl r7), (Fl r9), (Fl r11)])) (ev rfl)) ?_; rintro _ w25 ⟨b21, rfl, hb22, hB23, E24⟩
  have n26 : b14 < b21 := Nat.lt_of_lt_of_le (Blk.lt hB16) hb22
  have g27 : w.heap.size ≤ b21 := Nat.le_trans (Below.size X20) hb22
  change Blk _ _ [(Fl r7), (Fl r9), (Fl r11)] at hB23
  have X28 := Ext.gr X20 E24
  show wpList _ _ _ _ (fr [(.agg #[(Fl r1), (Fl r3), (Fl r5)]), (.agg #[(Fl r7), (Fl r9), (Fl r11)]), (Pt b14 0), (Pt b21 0), Ud, Ud, Ud, Ud, Ud, Ud, Ud, Ud, Ud, Ud, Ud, Ud, Ud, Ud, Ud, Ud, Ud, Ud]) _
  refine q_is (l' := [(.agg #[(Fl r1), (Fl r3), (Fl r5)]), (.agg #[(Fl r7), (Fl r9), (Fl r11)]), (Pt b14 0), (Pt b21 0), (Fl 0), Ud, Ud, Ud, Ud, Ud, Ud, Ud, Ud, Ud, Ud, Ud, Ud, Ud, Ud, Ud, Ud, Ud]) rfl rfl (does_assign (u := (Fl 0)) (ev rfl)) rfl ?_
  refine wpList_nil (hK13 _ _ ?_)
  refine wp_seq_k fun K29 hK29 => ?_
  refine wp_region_lit ?_
  refine q_is (l' := [(.agg #[(Fl r1), (Fl r3), (Fl r5)]), (.agg #[(Fl r7), (Fl r9), (Fl r11)]), (Pt b14 0), (Pt b21 0), (Fl 0), (Pt b14 0), Ud, Ud, Ud, Ud, Ud, Ud, Ud, Ud, Ud, Ud, Ud, Ud, Ud, Ud, Ud, Ud]) rfl rfl (does_fieldAddr (ev rfl) fa26_0) rfl ?_
  refine q_is (l' := [(.agg #[(Fl r1), (Fl r3), (Fl r5)]), (.agg #[(Fl r7), (Fl r9), (Fl r11)]), (Pt b14 0), (Pt b21 0), (Fl 0), (Pt b14 0), (Fl r1), Ud, Ud, Ud, Ud, Ud, Ud, Ud, Ud, Ud, Ud, Ud, Ud, Ud, Ud, Ud]) rfl rfl (does_load (u := (Fl r1)) (ev rfl) Try.isAgg24 (Cells.at (Blk.cells (hB16.ext E24)) 0 rfl)) rfl ?_
  refine q_is (l' := [(.agg #[(Fl r1), (Fl r3), (Fl r5)]), (.agg #[(Fl r7), (Fl r9), (Fl r11)]), (Pt b14 0), (Pt b21 0), (Fl 0), (Pt b14 0), (Fl r1), (Pt b21 0), Ud, Ud, Ud, Ud, Ud, Ud, Ud, Ud, Ud, Ud, Ud, Ud, Ud, Ud]) rfl rfl (does_fieldAddr (ev rfl) fa26_0) rfl ?_
  refine q_is (l' := [(.agg #[(Fl r1), (Fl r3), (Fl r5)]), (.agg #[(Fl r7), (Fl r9), (Fl r11)]), (Pt b14 0), (Pt b21 0), (Fl 0), (Pt b14 0), (Fl r1), (Pt b21 0), (Fl r7), Ud, Ud, Ud, Ud, Ud, Ud, Ud, Ud, Ud, Ud, Ud, Ud, Ud]) rfl rfl (does_load (u := (Fl r7)) (ev rfl) Try.isAgg24 (Cells.at (Blk.cells hB23) 0 rfl)) rfl ?_
  refine seqd rfl rfl (does_float (.inr (.inr (.inl rfl))) (ev rfl) (ev rfl)) ?_; rintro _ w33 ⟨r30, rfl, h31, E32⟩
  have X34 := Ext.gr X28 E32
  show wpList _ _ _ _ (fr [(.agg #[(Fl r1), (Fl r3), (Fl r5)]), (.agg #[(Fl r7), (Fl r9), (Fl r11)]), (Pt b14 0), (Pt b21 0), (Fl 0), (Pt b14 0), (Fl r1), (Pt b21 0), (Fl r7), (Fl r30), Ud, Ud, Ud, Ud, Ud, Ud, Ud, Ud, Ud, Ud, Ud, Ud]) _
  refine q_is (l' := [(.agg #[(Fl r1), (Fl r3), (Fl r5)]), (.agg #[(Fl r7), (Fl r9), (Fl r11)]), (Pt b14 0), (Pt b21 0), (Fl 0), (Pt b14 0), (Fl r1), (Pt b21 0), (Fl r7), (Fl r30), (Pt b14 1), Ud, Ud, Ud, Ud, Ud, Ud, Ud, Ud, Ud, Ud, Ud]) rfl rfl (does_fieldAddr (ev rfl) fa26_1) rfl ?_
  refine q_is (l' := [(.agg #[(Fl r1), (Fl r3), (Fl r5)]), (.agg #[(Fl r7), (Fl r9), (Fl r11)]), (Pt b14 0), (Pt b21 0), (Fl 0), (Pt b14 0), (Fl r1), (Pt b21 0), (Fl r7), (Fl r30), (Pt b14 1), (Fl r3), Ud, Ud, Ud, Ud, Ud, Ud, Ud, Ud, Ud, Ud]) rfl rfl (does_load (u := (Fl r3)) (ev rfl) Try.isAgg24 (Cells.at (Blk.cells ((hB16.ext E24).ext E32)) 1 rfl)) rfl ?_
  refine q_is (l' := [(.agg #[(Fl r1), (Fl r3), (Fl r5)]), (.agg #[(Fl r7), (Fl r9), (Fl r11)]), (Pt b14 0), (Pt b21 0), (Fl 0), (Pt b14 0), (Fl r1), (Pt b21 0), (Fl r7), (Fl r30), (Pt b14 1), (Fl r3), (Pt b21 1), Ud, Ud, Ud, Ud, Ud, Ud, Ud, Ud, Ud]) rfl rfl (does_fieldAddr (ev rfl) fa26_1) rfl ?_
  refine q_is (l' := [(.agg #[(Fl r1), (Fl r3), (Fl r5)]), (.agg #[(Fl r7), (Fl r9), (Fl r11)]), (Pt b14 0), (Pt b21 0), (Fl 0), (Pt b14 0), (Fl r1), (Pt b21 0), (Fl r7), (Fl r30), (Pt b14 1), (Fl r3), (Pt b21 1), (Fl r9), Ud, Ud, Ud, Ud, Ud, Ud, Ud, Ud]) rfl rfl (does_load (u := (Fl r9)) (ev rfl) Try.isAgg24 (Cells.at (Blk.cells (hB23.ext E32)) 1 rfl)) rfl ?_
  refine seqd rfl rfl (does_float (.inr (.inr (.inl rfl))) (ev rfl) (ev rfl)) ?_; rintro _ w38 ⟨r35, rfl, h36, E37⟩
  have X39 := Ext.gr X34 E37
  show wpList _ _ _ _ (fr [(.agg #[(Fl r1), (Fl r3), (Fl r5)]), (.agg #[(Fl r7), (Fl r9), (Fl r11)]), (Pt b14 0), (Pt b21 0), (Fl 0), (Pt b14 0), (Fl r1), (Pt b21 0), (Fl r7), (Fl r30), (Pt b14 1), (Fl r3), (Pt b21 1), (Fl r9), (Fl r35), Ud, Ud, Ud, Ud, Ud, Ud, Ud]) _
  refine seqd rfl rfl (does_float (.inl rfl) (ev rfl) (ev rfl)) ?_; rintro _ w43 ⟨r40, rfl, h41, E42⟩
  have X44 := Ext.gr X39 E42
  show wpList _ _ _ _ (fr [(.agg #[(Fl r1), (Fl r3), (Fl r5)]), (.agg #[(Fl r7), (Fl r9), (Fl r11)]), (Pt b14 0), (Pt b21 0), (Fl 0), (Pt b14 0), (Fl r1), (Pt b21 0), (Fl r7), (Fl r30), (Pt b14 1), (Fl r3), (Pt b21 1), (Fl r9), (Fl r35), (Fl r40), Ud, Ud, Ud, Ud, Ud, Ud]) _
  refine q_is (l' := [(.agg #[(Fl r1), (Fl r3), (Fl r5)]), (.agg #[(Fl r7), (Fl r9), (Fl r11)]), (Pt b14 0), (Pt b21 0), (Fl 0), (Pt b14 0), (Fl r1), (Pt b21 0), (Fl r7), (Fl r30), (Pt b14 1), (Fl r3), (Pt b21 1), (Fl r9), (Fl r35), (Fl r40), (Pt b14 2), Ud, Ud, Ud, Ud, Ud]) rfl rfl (does_fieldAddr (ev rfl) fa26_2) rfl ?_
  refine q_is (l' := [(.agg #[(Fl r1), (Fl r3), (Fl r5)]), (.agg #[(Fl r7), (Fl r9), (Fl r11)]), (Pt b14 0), (Pt b21 0), (Fl 0), (Pt b14 0), (Fl r1), (Pt b21 0), (Fl r7), (Fl r30), (Pt b14 1), (Fl r3), (Pt b21 1), (Fl r9), (Fl r35), (Fl r40), (Pt b14 2), (Fl r5), Ud, Ud, Ud, Ud]) rfl rfl (does_load (u := (Fl r5)) (ev rfl) Try.isAgg24 (Cells.at (Blk.cells ((((hB16.ext E24).ext E32).ext E37).ext E42)) 2 rfl)) rfl ?_
  refine q_is (l' := [(.agg #[(Fl r1), (Fl r3), (Fl r5)]), (.agg #[(Fl r7), (Fl r9), (Fl r11)]), (Pt b14 0), (Pt b21 0), (Fl 0), (Pt b14 0), (Fl r1), (Pt b21 0), (Fl r7), (Fl r30), (Pt b14 1), (Fl r3), (Pt b21 1), (Fl r9), (Fl r35), (Fl r40), (Pt b14 2), (Fl r5), (Pt b21 2), Ud, Ud, Ud]) rfl rfl (does_fieldAddr (ev rfl) fa26_2) rfl ?_
  refine q_is (l' := [(.agg #[(Fl r1), (Fl r3), (Fl r5)]), (.agg #[(Fl r7), (Fl r9), (Fl r11)]), (Pt b14 0), (Pt b21 0), (Fl 0), (Pt b14 0), (Fl r1), (Pt b21 0), (Fl r7), (Fl r30), (Pt b14 1), (Fl r3), (Pt b21 1), (Fl r9), (Fl r35), (Fl r40), (Pt b14 2), (Fl r5), (Pt b21 2), (Fl r11), Ud, Ud]) rfl rfl (does_load (u := (Fl r11)) (ev rfl) Try.isAgg24 (Cells.at (Blk.cells (((hB23.ext E32).ext E37).ext E42)) 2 rfl)) rfl ?_
  refine seqd rfl rfl (does_float (.inr (.inr (.inl rfl))) (ev rfl) (ev rfl)) ?_; rintro _ w48 ⟨r45, rfl, h46, E47⟩
  have X49 := Ext.gr X44 E47
  show wpList _ _ _ _ (fr [(.agg #[(Fl r1), (Fl r3), (Fl r5)]), (.agg #[(Fl r7), (Fl r9), (Fl r11)]), (Pt b14 0), (Pt b21 0), (Fl 0), (Pt b14 0), (Fl r1), (Pt b21 0), (Fl r7), (Fl r30), (Pt b14 1), (Fl r3), (Pt b21 1), (Fl r9), (Fl r35), (Fl r40), (Pt b14 2), (Fl r5), (Pt b21 2), (Fl r11), (Fl r45), Ud]) _
  refine seqd rfl rfl (does_float (.inl rfl) (ev rfl) (ev rfl)) ?_; rintro _ w53 ⟨r50, rfl, h51, E52⟩
  have X54 := Ext.gr X49 E52
  show wpList _ _ _ _ (fr [(.agg #[(Fl r1), (Fl r3), (Fl r5)]), (.agg #[(Fl r7), (Fl r9), (Fl r11)]), (Pt b14 0), (Pt b21 0), (Fl 0), (Pt b14 0), (Fl r1), (Pt b21 0), (Fl r7), (Fl r30), (Pt b14 1), (Fl r3), (Pt b21 1), (Fl r9), (Fl r35), (Fl r40), (Pt b14 2), (Fl r5), (Pt b21 2), (Fl r11), (Fl r45), (Fl r50)]) _
  refine q_is (l' := [(.agg #[(Fl r1), (Fl r3), (Fl r5)]), (.agg #[(Fl r7), (Fl r9), (Fl r11)]), (Pt b14 0), (Pt b21 0), (Fl r50), (Pt b14 0), (Fl r1), (Pt b21 0), (Fl r7), (Fl r30), (Pt b14 1), (Fl r3), (Pt b21 1), (Fl r9), (Fl r35), (Fl r40), (Pt b14 2), (Fl r5), (Pt b21 2), (Fl r11), (Fl r45), (Fl r50)]) rfl rfl (does_assign (u := (Fl r50)) (ev rfl)) rfl ?_
  refine wpList_nil (hK29 _ _ ?_)
  refine wp_ret ?_
  refine ret_val (v := (Fl r50)) (res_T rfl (slot rfl)) X54 ?_
  have x55 : cf .f32 r50 = innerF A_a A_b := by first | with_reducible rfl | (simp only [innerF, h2, h4, h6, h8, h10, h12, h31, h36, h41, h46, h51]; done) | (simp [innerF, h2, h4, h6, h8, h10, h12, h31, h36, h41, h46, h51]; done) | rfl
  exact ⟨r50, rfl, x55⟩

/- impl.LongOf -/
theorem c_impl_LongOf (v : List Value) (A_v : V3) (w : World) (hv_v : RV3 w A_v v) : Gives Try.prog 63 #[(.agg v.toArray)] w (fun v w' => ∃ r_1 : Nat, v = (Fl r_1) ∧ cf .f32 r_1 = longF A_v) := by
  obtain ⟨r1, r3, r5, rfl, h2, h4, h6⟩ := hv_v
  refine enter [(.agg #[(Fl r1), (Fl r3), (Fl r5)]), Ud, Ud, Ud, Ud, Ud, Ud] Try.func63 rfl Try.ntmps63 rfl ?_
  refine wp_seq_k fun K7 hK7 => ?_
  refine wp_region_lit ?_
  refine seqd rfl rfl (does_box (u := (.agg #[(Fl r1), (Fl r3), (Fl r5)])) (ev rfl)) ?_; rintro _ w12 ⟨b8, rfl, hb9, hB10, E11⟩
  have g13 : w.heap.size ≤ b8 := Nat.le_trans (Below.size (Ext.refl w)) hb9
  change Blk _ _ [(Fl r1), (Fl r3), (Fl r5)] at hB10
  have X14 := Ext.gr (Ext.refl w) E11
  show wpList _ _ _ _ (fr [(.agg #[(Fl r1), (Fl r3), (Fl r5)]), (Pt b8 0), Ud, Ud, Ud, Ud, Ud]) _
  refine q_is (l' := [(.agg #[(Fl r1), (Fl r3), (Fl r5)]), (Pt b8 0), (Fl 0), Ud, Ud, Ud, Ud]) rfl rfl (does_assign (u := (Fl 0)) (ev rfl)) rfl ?_
  refine wpList_nil (hK7 _ _ ?_)
  refine wp_seq_k fun K15 hK15 => ?_
  refine wp_region_lit ?_
  refine q_is (l' := [(.agg #[(Fl r1), (Fl r3), (Fl r5)]), (Pt b8 0), (Fl 0), (.agg #[(Fl r1), (Fl r3), (Fl r5)]), Ud, Ud, Ud]) rfl rfl (does_loadAgg (cs := [(Fl r1), (Fl r3), (Fl r5)]) (ev rfl) Try.isAgg26 Try.sizeOf26 (Blk.cells hB10) rfl) rfl ?_
  refine q_is (l' := [(.agg #[(Fl r1), (Fl r3), (Fl r5)]), (Pt b8 0), (Fl 0), (.agg #[(Fl r1), (Fl r3), (Fl r5)]), (.agg #[(Fl r1), (Fl r3), (Fl r5)]), Ud, Ud]) rfl rfl (does_loadAgg (cs := [(Fl r1), (Fl r3), (Fl r5)]) (ev rfl) Try.isAgg26 Try.sizeOf26 (Blk.cells hB10) rfl) rfl ?_
  refine seqd rfl rfl (does_call (args := #[(.agg #[(Fl r1), (Fl r3), (Fl r5)]), (.agg #[(Fl r1), (Fl r3), (Fl r5)])]) cal100 (evs rfl) (c_impl_InnerOf [(Fl r1), (Fl r3), (Fl r5)] A_v [(Fl r1), (Fl r3), (Fl r5)] A_v _ ⟨r1, r3, r5, rfl, h2, h4, h6⟩ ⟨r1, r3, r5, rfl, h2, h4, h6⟩)) ?_; rintro _ w17 ⟨E16, ⟨r18, rfl, h19⟩⟩
  have X20 := Ext.gr X14 E16
  show wpList _ _ _ _ (fr [(.agg #[(Fl r1), (Fl r3), (Fl r5)]), (Pt b8 0), (Fl 0), (.agg #[(Fl r1), (Fl r3), (Fl r5)]), (.agg #[(Fl r1), (Fl r3), (Fl r5)]), (Fl r18), Ud]) _
  refine seqd rfl rfl (does_call (args := #[(Fl r18)]) cal99 (evs rfl) (c_impl_RootNumber r18 _)) ?_; rintro _ w22 ⟨E21, ⟨r23, rfl, h24⟩⟩
  have X25 := Ext.gr X20 E21
  show wpList _ _ _ _ (fr [(.agg #[(Fl r1), (Fl r3), (Fl r5)]), (Pt b8 0), (Fl 0), (.agg #[(Fl r1), (Fl r3), (Fl r5)]), (.agg #[(Fl r1), (Fl r3), (Fl r5)]), (Fl r18), (Fl r23)]) _
  refine q_is (l' := [(.agg #[(Fl r1), (Fl r3), (Fl r5)]), (Pt b8 0), (Fl r23), (.agg #[(Fl r1), (Fl r3), (Fl r5)]), (.agg #[(Fl r1), (Fl r3), (Fl r5)]), (Fl r18), (Fl r23)]) rfl rfl (does_assign (u := (Fl r23)) (ev rfl)) rfl ?_
  refine wpList_nil (hK15 _ _ ?_)
  refine wp_ret ?_
  refine ret_val (v := (Fl r23)) (res_T rfl (slot rfl)) X25 ?_
  have x26 : cf .f32 r23 = longF A_v := by first | with_reducible rfl | (simp only [longF, h2, h4, h6, h19, h24]; done) | (simp [longF, h2, h4, h6, h19, h24]; done) | rfl
  exact ⟨r23, rfl, x26⟩

/- impl.ScaleVector -/
theorem c_impl_ScaleVector (a : List Value) (A_a : V3) (b : Nat) (w : World) (hv_a : RV3 w A_a a) : Gives Try.prog 92 #[(.agg a.toArray), (Fl b)] w (fun v w' => ∃ cs_1 : List Value, v = (.agg cs_1.toArray) ∧ RV3 w (vscale A_a (cf .f32 b)) cs_1) := by
  obtain ⟨r1, r3, r5, rfl, h2, h4, h6⟩ := hv_a
  refine enter [(.agg #[(Fl r1), (Fl r3), (Fl r5)]), (Fl b), Ud, Ud, Ud, Ud, Ud, Ud, Ud, Ud, Ud, Ud, Ud, Ud, Ud, Ud, Ud, Ud] Try.func92 rfl Try.ntmps92 rfl ?_
  refine wp_seq_k fun K7 hK7 => ?_
  refine wp_region_lit ?_
  refine seqd rfl rfl (does_box (u := (.agg #[(Fl r1), (Fl r3), (Fl r5)])) (ev rfl)) ?_; rintro _ w12 ⟨b8, rfl, hb9, hB10, E11⟩
  have g13 : w.heap.size ≤ b8 := Nat.le_trans (Below.size (Ext.refl w)) hb9
  change Blk _ _ [(Fl r1), (Fl r3), (Fl r5)] at hB10
  have X14 := Ext.gr (Ext.refl w) E11
  show wpList _ _ _ _ (fr [(.agg #[(Fl r1), (Fl r3), (Fl r5)]), (Fl b), (Pt b8 0), Ud, Ud, Ud, Ud, Ud, Ud, Ud, Ud, Ud, Ud, Ud, Ud, Ud, Ud, Ud]) _
  refine seqd rfl rfl (does_alloc z26) ?_; rintro _ w19 ⟨b15, rfl, hb16, hB17, E18⟩
  have n20 : b8 < b15 := Nat.lt_of_lt_of_le (Blk.lt hB10) hb16
  have g21 : w.heap.size ≤ b15 := Nat.le_trans (Below.size X14) hb16
  change Blk _ _ [(Fl 0), (Fl 0), (Fl 0)] at hB17
  have X22 := Ext.gr X14 E18
  show wpList _ _ _ _ (fr [(.agg #[(Fl r1), (Fl r3), (Fl r5)]), (Fl b), (Pt b8 0), Ud, (Pt b15 0), Ud, Ud, Ud, Ud, Ud, Ud, Ud, Ud, Ud, Ud, Ud, Ud, Ud]) _
  refine wpList_nil (hK7 _ _ ?_)
  refine wp_seq_k fun K23 hK23 => ?_
  refine wp_region_lit ?_
  refine q_is (l' := [(.agg #[(Fl r1), (Fl r3), (Fl r5)]), (Fl b), (Pt b8 0), Ud, (Pt b15 0), (Pt b8 0), Ud, Ud, Ud, Ud, Ud, Ud, Ud, Ud, Ud, Ud, Ud, Ud]) rfl rfl (does_fieldAddr (ev rfl) fa26_0) rfl ?_
  refine q_is (l' := [(.agg #[(Fl r1), (Fl r3), (Fl r5)]), (Fl b), (Pt b8 0), Ud, (Pt b15 0), (Pt b8 0), (Fl r1), Ud, Ud, Ud, Ud, Ud, Ud, Ud, Ud, Ud, Ud, Ud]) rfl rfl (does_load (u := (Fl r1)) (ev rfl) Try.isAgg24 (Cells.at (Blk.cells (hB10.ext E18)) 0 rfl)) rfl ?_
  refine q_is (l' := [(.agg #[(Fl r1), (Fl r3), (Fl r5)]), (Fl b), (Pt b8 0), Ud, (Pt b15 0), (Pt b8 0), (Fl r1), (Fl b), Ud, Ud, Ud, Ud, Ud, Ud, Ud, Ud, Ud, Ud]) rfl rfl (does_move (u := (Fl b)) (ev rfl)) rfl ?_
  refine seqd rfl rfl (does_float (.inr (.inr (.inl rfl))) (ev rfl) (ev rfl)) ?_; rintro _ w27 ⟨r24, rfl, h25, E26⟩
  have X28 := Ext.gr X22 E26
  show wpList _ _ _ _ (fr [(.agg #[(Fl r1), (Fl r3), (Fl r5)]), (Fl b), (Pt b8 0), Ud, (Pt b15 0), (Pt b8 0), (Fl r1), (Fl b), (Fl r24), Ud, Ud, Ud, Ud, Ud, Ud, Ud, Ud, Ud]) _
  refine q_is (l' := [(.agg #[(Fl r1), (Fl r3), (Fl r5)]), (Fl b), (Pt b8 0), Ud, (Pt b15 0), (Pt b8 0), (Fl r1), (Fl b), (Fl r24), (Pt b8 1), Ud, Ud, Ud, Ud, Ud, Ud, Ud, Ud]) rfl rfl (does_fieldAddr (ev rfl) fa26_1) rfl ?_
  refine q_is (l' := [(.agg #[(Fl r1), (Fl r3), (Fl r5)]), (Fl b), (Pt b8 0), Ud, (Pt b15 0), (Pt b8 0), (Fl r1), (Fl b), (Fl r24), (Pt b8 1), (Fl r3), Ud, Ud, Ud, Ud, Ud, Ud, Ud]) rfl rfl (does_load (u := (Fl r3)) (ev rfl) Try.isAgg24 (Cells.at (Blk.cells ((hB10.ext E18).ext E26)) 1 rfl)) rfl ?_
  refine q_is (l' := [(.agg #[(Fl r1), (Fl r3), (Fl r5)]), (Fl b), (Pt b8 0), Ud, (Pt b15 0), (Pt b8 0), (Fl r1), (Fl b), (Fl r24), (Pt b8 1), (Fl r3), (Fl b), Ud, Ud, Ud, Ud, Ud, Ud]) rfl rfl (does_move (u := (Fl b)) (ev rfl)) rfl ?_
  refine seqd rfl rfl (does_float (.inr (.inr (.inl rfl))) (ev rfl) (ev rfl)) ?_; rintro _ w32 ⟨r29, rfl, h30, E31⟩
  have X33 := Ext.gr X28 E31
  show wpList _ _ _ _ (fr [(.agg #[(Fl r1), (Fl r3), (Fl r5)]), (Fl b), (Pt b8 0), Ud, (Pt b15 0), (Pt b8 0), (Fl r1), (Fl b), (Fl r24), (Pt b8 1), (Fl r3), (Fl b), (Fl r29), Ud, Ud, Ud, Ud, Ud]) _
  refine q_is (l' := [(.agg #[(Fl r1), (Fl r3), (Fl r5)]), (Fl b), (Pt b8 0), Ud, (Pt b15 0), (Pt b8 0), (Fl r1), (Fl b), (Fl r24), (Pt b8 1), (Fl r3), (Fl b), (Fl r29), (Pt b8 2), Ud, Ud, Ud, Ud]) rfl rfl (does_fieldAddr (ev rfl) fa26_2) rfl ?_
  refine q_is (l' := [(.agg #[(Fl r1), (Fl r3), (Fl r5)]), (Fl b), (Pt b8 0), Ud, (Pt b15 0), (Pt b8 0), (Fl r1), (Fl b), (Fl r24), (Pt b8 1), (Fl r3), (Fl b), (Fl r29), (Pt b8 2), (Fl r5), Ud, Ud, Ud]) rfl rfl (does_load (u := (Fl r5)) (ev rfl) Try.isAgg24 (Cells.at (Blk.cells (((hB10.ext E18).ext E26).ext E31)) 2 rfl)) rfl ?_
  refine q_is (l' := [(.agg #[(Fl r1), (Fl r3), (Fl r5)]), (Fl b), (Pt b8 0), Ud, (Pt b15 0), (Pt b8 0), (Fl r1), (Fl b), (Fl r24), (Pt b8 1), (Fl r3), (Fl b), (Fl r29), (Pt b8 2), (Fl r5), (Fl b), Ud, Ud]) rfl rfl (does_move (u := (Fl b)) (ev rfl)) rfl ?_
  refine seqd rfl rfl (does_float (.inr (.inr (.inl rfl))) (ev rfl) (ev rfl)) ?_; rintro _ w37 ⟨r34, rfl, h35, E36⟩
  have X38 := Ext.gr X33 E36
  show wpList _ _ _ _ (fr [(.agg #[(Fl r1), (Fl r3), (Fl r5)]), (Fl b), (Pt b8 0), Ud, (Pt b15 0), (Pt b8 0), (Fl r1), (Fl b), (Fl r24), (Pt b8 1), (Fl r3), (Fl b), (Fl r29), (Pt b8 2), (Fl r5), (Fl b), (Fl r34), Ud]) _
  refine q_is (l' := [(.agg #[(Fl r1), (Fl r3), (Fl r5)]), (Fl b), (Pt b8 0), Ud, (Pt b15 0), (Pt b8 0), (Fl r1), (Fl b), (Fl r24), (Pt b8 1), (Fl r3), (Fl b), (Fl r29), (Pt b8 2), (Fl r5), (Fl b), (Fl r34), (.agg #[(Fl r24), (Fl r29), (Fl r34)])]) rfl rfl (does_build (parts' := [(0, (Fl r24)), (1, (Fl r29)), (2, (Fl r34))]) (cells := #[(Fl r24), (Fl r29), (Fl r34)]) (evp rfl) (by kernel_rfl)) rfl ?_
  refine seqn rfl rfl (does_store (n := 3) (cs := [(Fl 0), (Fl 0), (Fl 0)]) (u := (.agg #[(Fl r24), (Fl r29), (Fl r34)])) (ev rfl) (ev rfl) Try.sizeOf26 rfl (((hB17.ext E26).ext E31).ext E36) (Nat.le_of_ble_eq_true rfl) rfl) ?_; rintro _ w41 ⟨rfl, W39, hB40⟩
  change Blk _ _ [(Fl r24), (Fl r29), (Fl r34)] at hB40
  have X42 := Below.wr X38 W39 g21
  refine wpList_nil (hK23 _ _ ?_)
  refine wp_ret ?_
  refine ret_val (v := (.agg #[(Fl r24), (Fl r29), (Fl r34)])) (res_C rfl (slot rfl) (run_loadAgg (cs := [(Fl r24), (Fl r29), (Fl r34)]) Try.isAgg26 Try.sizeOf26 (Blk.cells hB40) rfl)) X42 ?_
  have x43 : cf .f32 r24 = (vscale A_a (cf .f32 b)).x := by first | with_reducible rfl | (simp only [vscale, h2, h4, h6, h25, h30, h35]; done) | (simp [vscale, h2, h4, h6, h25, h30, h35]; done) | rfl
  have x44 : cf .f32 r29 = (vscale A_a (cf .f32 b)).y := by first | with_reducible rfl | (simp only [vscale, h2, h4, h6, h25, h30, h35]; done) | (simp [vscale, h2, h4, h6, h25, h30, h35]; done) | rfl
  have x45 : cf .f32 r34 = (vscale A_a (cf .f32 b)).z := by first | with_reducible rfl | (simp only [vscale, h2, h4, h6, h25, h30, h35]; done) | (simp [vscale, h2, h4, h6, h25, h30, h35]; done) | rfl
  exact ⟨[(Fl r24), (Fl r29), (Fl r34)], rfl, ⟨r24, r29, r34, rfl, x43, x44, x45⟩⟩

/- impl.UnitOf -/
theorem c_impl_UnitOf (v : List Value) (A_v : V3) (w : World) (hv_v : RV3 w A_v v) : Gives Try.prog 90 #[(.agg v.toArray)] w (fun v w' => ∃ cs_1 : List Value, v = (.agg cs_1.toArray) ∧ RV3 w (unitF A_v) cs_1) := by
  obtain ⟨r1, r3, r5, rfl, h2, h4, h6⟩ := hv_v
  refine enter [(.agg #[(Fl r1), (Fl r3), (Fl r5)]), Ud, Ud, Ud, Ud, Ud, Ud, Ud, Ud, Ud, Ud, Ud, Ud, Ud, Ud, Ud, Ud, Ud, Ud, Ud, Ud, Ud] Try.func90 rfl Try.ntmps90 rfl ?_
  refine wp_seq_k fun K7 hK7 => ?_
  refine wp_region_lit ?_
  refine seqd rfl rfl (does_box (u := (.agg #[(Fl r1), (Fl r3), (Fl r5)])) (ev rfl)) ?_; rintro _ w12 ⟨b8, rfl, hb9, hB10, E11⟩
  have g13 : w.heap.size ≤ b8 := Nat.le_trans (Below.size (Ext.refl w)) hb9
  change Blk _ _ [(Fl r1), (Fl r3), (Fl r5)] at hB10
  have X14 := Ext.gr (Ext.refl w) E11
  show wpList _ _ _ _ (fr [(.agg #[(Fl r1), (Fl r3), (Fl r5)]), (Pt b8 0), Ud, Ud, Ud, Ud, Ud, Ud, Ud, Ud, Ud, Ud, Ud, Ud, Ud, Ud, Ud, Ud, Ud, Ud, Ud, Ud]) _
  refine seqd rfl rfl (does_alloc z26) ?_; rintro _ w19 ⟨b15, rfl, hb16, hB17, E18⟩
  have n20 : b8 < b15 := Nat.lt_of_lt_of_le (Blk.lt hB10) hb16
  have g21 : w.heap.size ≤ b15 := Nat.le_trans (Below.size X14) hb16
  change Blk _ _ [(Fl 0), (Fl 0), (Fl 0)] at hB17
  have X22 := Ext.gr X14 E18
  show wpList _ _ _ _ (fr [(.agg #[(Fl r1), (Fl r3), (Fl r5)]), (Pt b8 0), (Pt b15 0), Ud, Ud, Ud, Ud, Ud, Ud, Ud, Ud, Ud, Ud, Ud, Ud, Ud, Ud, Ud, Ud, Ud, Ud, Ud]) _
  refine wpList_nil (hK7 _ _ ?_)
  refine wp_seq_k fun K23 hK23 => ?_
  refine wp_region_lit ?_
  refine q_is (l' := [(.agg #[(Fl r1), (Fl r3), (Fl r5)]), (Pt b8 0), (Pt b15 0), Ud, Ud, (.agg #[(Fl r1), (Fl r3), (Fl r5)]), Ud, Ud, Ud, Ud, Ud, Ud, Ud, Ud, Ud, Ud, Ud, Ud, Ud, Ud, Ud, Ud]) rfl rfl (does_loadAgg (cs := [(Fl r1), (Fl r3), (Fl r5)]) (ev rfl) Try.isAgg26 Try.sizeOf26 (Blk.cells (hB10.ext E18)) rfl) rfl ?_
  refine seqd rfl rfl (does_call (args := #[(.agg #[(Fl r1), (Fl r3), (Fl r5)])]) cal63 (evs rfl) (c_impl_LongOf [(Fl r1), (Fl r3), (Fl r5)] A_v _ ⟨r1, r3, r5, rfl, h2, h4, h6⟩)) ?_; rintro _ w25 ⟨E24, ⟨r26, rfl, h27⟩⟩
  have X28 := Ext.gr X22 E24
  show wpList _ _ _ _ (fr [(.agg #[(Fl r1), (Fl r3), (Fl r5)]), (Pt b8 0), (Pt b15 0), Ud, Ud, (.agg #[(Fl r1), (Fl r3), (Fl r5)]), (Fl r26), Ud, Ud, Ud, Ud, Ud, Ud, Ud, Ud, Ud, Ud, Ud, Ud, Ud, Ud, Ud]) _
  refine q_is (l' := [(.agg #[(Fl r1), (Fl r3), (Fl r5)]), (Pt b8 0), (Pt b15 0), (Fl r26), Ud, (.agg #[(Fl r1), (Fl r3), (Fl r5)]), (Fl r26), Ud, Ud, Ud, Ud, Ud, Ud, Ud, Ud, Ud, Ud, Ud, Ud, Ud, Ud, Ud]) rfl rfl (does_assign (u := (Fl r26)) (ev rfl)) rfl ?_
  refine wpList_nil (hK23 _ _ ?_)
  refine wp_seq_k fun K29 hK29 => ?_
  refine wp_region_lit ?_
  refine q_is (l' := [(.agg #[(Fl r1), (Fl r3), (Fl r5)]), (Pt b8 0), (Pt b15 0), (Fl r26), Ud, (.agg #[(Fl r1), (Fl r3), (Fl r5)]), (Fl r26), (Fl r26), Ud, Ud, Ud, Ud, Ud, Ud, Ud, Ud, Ud, Ud, Ud, Ud, Ud, Ud]) rfl rfl (does_move (u := (Fl r26)) (ev rfl)) rfl ?_
  refine seqd rfl rfl (does_float (.inr (.inr (.inr rfl))) (ev rfl) (ev rfl)) ?_; rintro _ w33 ⟨r30, rfl, h31, E32⟩
  have X34 := Ext.gr X28 E32
  show wpList _ _ _ _ (fr [(.agg #[(Fl r1), (Fl r3), (Fl r5)]), (Pt b8 0), (Pt b15 0), (Fl r26), Ud, (.agg #[(Fl r1), (Fl r3), (Fl r5)]), (Fl r26), (Fl r26), (Fl r30), Ud, Ud, Ud, Ud, Ud, Ud, Ud, Ud, Ud, Ud, Ud, Ud, Ud]) _
  refine q_is (l' := [(.agg #[(Fl r1), (Fl r3), (Fl r5)]), (Pt b8 0), (Pt b15 0), (Fl r26), (Fl r30), (.agg #[(Fl r1), (Fl r3), (Fl r5)]), (Fl r26), (Fl r26), (Fl r30), Ud, Ud, Ud, Ud, Ud, Ud, Ud, Ud, Ud, Ud, Ud, Ud, Ud]) rfl rfl (does_assign (u := (Fl r30)) (ev rfl)) rfl ?_
  refine wpList_nil (hK29 _ _ ?_)
  refine wp_seq_k fun K35 hK35 => ?_
  refine wp_seq_k fun K36 hK36 => ?_
  obtain ⟨β1, hβ1⟩ : ∃ b : Bool, b = (fcmp .eql (ford .f32 (cf .f32 r26) (cf .f32 0))) := ⟨_, rfl⟩
  obtain ⟨β2, hβ2⟩ : ∃ b : Bool, b = (!([(cf .f32 r26), (cf .f32 r30)]).any (fun x => !finF x)) := ⟨_, rfl⟩
  refine region_text (
    [Fact.pure [] (fun v => v = (Fl r26)),
    Fact.pure [9] (fun v => v = (Bo β1)),
    Fact.pure [10] (fun v => v = (Bo β1)),
    Fact.pure [11] (fun v => β1 = false → v = (Fl r26)),
    Fact.pure [11] (fun v => β1 = false → v = (Fl r30)),
    Fact.mem [12, 13, 11] (fun v w' => β1 = false → ∃ b : Nat, v = .slice (some ⟨b, 0, none⟩) 2 2 ∧ w33.heap.size ≤ b ∧ Blk w' b [(Fl r26), (Fl r30)]) (by intro v w1 w2 hx h hg1; obtain ⟨b, rfl, hb, hB⟩ := h hg1; exact ⟨b, rfl, hb, (hB.ext hx)⟩),
    Fact.pure [14, 11] (fun v => β1 = false → v = (Bo β2)),
    Fact.pure [15, 11] (fun v => β1 = false → v = (Bo (!β2))),
    Fact.pure [11, 16] (fun v => v = (Bo (β1 || (!β2))))]) (by simp [Fact.pure, Fact.mem]) ?_
  refine RW_d (fun v37 => [(.agg #[(Fl r1), (Fl r3), (Fl r5)]), (Pt b8 0), (Pt b15 0), (Fl r26), (Fl r30), (.agg #[(Fl r1), (Fl r3), (Fl r5)]), (Fl r26), (Fl r26), (Fl r30), v37, Ud, Ud, Ud, Ud, Ud, Ud, Ud, Ud, Ud, Ud, Ud, Ud]) rfl (fun _ => rfl) (fun u hu hF => ?_) (fun v37 => ?_)
  · clear hF
    refine doesG_un rfl ?_
    refine (does_move (u := (Fl r26)) (ev rfl)).mono ?_; rintro _ _ ⟨rfl, rfl⟩
    exact ⟨rfl, Ext.refl _⟩
  refine RW_d (fun v38 => [(.agg #[(Fl r1), (Fl r3), (Fl r5)]), (Pt b8 0), (Pt b15 0), (Fl r26), (Fl r30), (.agg #[(Fl r1), (Fl r3), (Fl r5)]), (Fl r26), (Fl r26), (Fl r30), v37, v38, Ud, Ud, Ud, Ud, Ud, Ud, Ud, Ud, Ud, Ud, Ud]) rfl (fun _ => rfl) (fun u hu hF => ?_) (fun v38 => ?_)
  · have h9_ : v37 = (Fl r26) := hF.1
    clear hF
    refine doesG_un rfl ?_
    obtain rfl := h9_
    refine (does_fcmp (.inl rfl) (ev rfl) (ev rfl)).mono ?_; rintro _ _ ⟨rfl, rfl⟩
    exact ⟨(by first | rfl | (show _ = _; simp only [hβ1])), Ext.refl _⟩
  refine RW_d (fun v39 => [(.agg #[(Fl r1), (Fl r3), (Fl r5)]), (Pt b8 0), (Pt b15 0), (Fl r26), (Fl r30), (.agg #[(Fl r1), (Fl r3), (Fl r5)]), (Fl r26), (Fl r26), (Fl r30), v37, v38, v39, Ud, Ud, Ud, Ud, Ud, Ud, Ud, Ud, Ud, Ud]) rfl (fun _ => rfl) (fun u hu hF => ?_) (fun v39 => ?_)
  · have h10_ : v38 = (Bo β1) := hF.1
    clear hF
    refine doesG_un rfl ?_
    obtain rfl := h10_
    refine (does_move (u := (Bo β1)) (ev rfl)).mono ?_; rintro _ _ ⟨rfl, rfl⟩
    exact ⟨rfl, Ext.refl _⟩
  refine RW_d (fun v40 => [(.agg #[(Fl r1), (Fl r3), (Fl r5)]), (Pt b8 0), (Pt b15 0), (Fl r26), (Fl r30), (.agg #[(Fl r1), (Fl r3), (Fl r5)]), (Fl r26), (Fl r26), (Fl r30), v37, v38, v39, v40, Ud, Ud, Ud, Ud, Ud, Ud, Ud, Ud, Ud]) rfl (fun _ => rfl) (fun u hu hF => ?_) (fun v40 => ?_)
  · have h11_ : v39 = (Bo β1) := hF.1
    clear hF
    obtain rfl := h11_
    refine doesG_g (b := β1) rfl (yld rfl rfl) (fun hg1 => ?_) (fun hc => ⟨fun hg1 => absurd hg1 hc, Ext.refl _⟩)
    refine (does_move (u := (Fl r26)) (ev rfl)).mono ?_; rintro _ _ ⟨rfl, rfl⟩
    exact ⟨fun _ => rfl, Ext.refl _⟩
  refine RW_d (fun v41 => [(.agg #[(Fl r1), (Fl r3), (Fl r5)]), (Pt b8 0), (Pt b15 0), (Fl r26), (Fl r30), (.agg #[(Fl r1), (Fl r3), (Fl r5)]), (Fl r26), (Fl r26), (Fl r30), v37, v38, v39, v40, v41, Ud, Ud, Ud, Ud, Ud, Ud, Ud, Ud]) rfl (fun _ => rfl) (fun u hu hF => ?_) (fun v41 => ?_)
  · have h11_ : v39 = (Bo β1) := hF.1
    clear hF
    obtain rfl := h11_
    refine doesG_g (b := β1) rfl (yld rfl rfl) (fun hg1 => ?_) (fun hc => ⟨fun hg1 => absurd hg1 hc, Ext.refl _⟩)
    refine (does_move (u := (Fl r30)) (ev rfl)).mono ?_; rintro _ _ ⟨rfl, rfl⟩
    exact ⟨fun _ => rfl, Ext.refl _⟩
  refine RW_d (fun v42 => [(.agg #[(Fl r1), (Fl r3), (Fl r5)]), (Pt b8 0), (Pt b15 0), (Fl r26), (Fl r30), (.agg #[(Fl r1), (Fl r3), (Fl r5)]), (Fl r26), (Fl r26), (Fl r30), v37, v38, v39, v40, v41, v42, Ud, Ud, Ud, Ud, Ud, Ud, Ud]) rfl (fun _ => rfl) (fun u hu hF => ?_) (fun v42 => ?_)
  · have h12_ : β1 = false → v40 = (Fl r26) := hF.1
    have h13_ : β1 = false → v41 = (Fl r30) := hF.2.1
    have h11_ : v39 = (Bo β1) := hF.2.2.1
    clear hF
    obtain rfl := h11_
    refine doesG_g (b := β1) rfl (yld rfl rfl) (fun hg1 => ?_) (fun hc => ⟨fun hg1 => absurd hg1 hc, Ext.refl _⟩)
    obtain rfl := h12_ hg1
    obtain rfl := h13_ hg1
    refine (does_buildSlice (e := 24) (parts' := [(0, (Fl r26)), (1, (Fl r30))]) (cells := [(Fl r26), (Fl r30)]) (evp rfl) (fun _ => by kernel_rfl)).mono ?_; rintro _ _ ⟨b, rfl, hb, hB, hx⟩
    exact ⟨fun _ => ⟨b, rfl, Nat.le_trans (Below.size hu) hb, hB⟩, hx⟩
  refine RW_d (fun v43 => [(.agg #[(Fl r1), (Fl r3), (Fl r5)]), (Pt b8 0), (Pt b15 0), (Fl r26), (Fl r30), (.agg #[(Fl r1), (Fl r3), (Fl r5)]), (Fl r26), (Fl r26), (Fl r30), v37, v38, v39, v40, v41, v42, v43, Ud, Ud, Ud, Ud, Ud, Ud]) rfl (fun _ => rfl) (fun u hu hF => ?_) (fun v43 => ?_)
  · have h14_ : β1 = false → ∃ b : Nat, v42 = .slice (some ⟨b, 0, none⟩) 2 2 ∧ w33.heap.size ≤ b ∧ Blk u b [(Fl r26), (Fl r30)] := hF.1
    have h11_ : v39 = (Bo β1) := hF.2.1
    clear hF
    obtain rfl := h11_
    refine doesG_g (b := β1) rfl (yld rfl rfl) (fun hg1 => ?_) (fun hc => ⟨fun hg1 => absurd hg1 hc, Ext.refl _⟩)
    obtain ⟨b14_, rfl, hb14_, hB14_⟩ := h14_ hg1
    refine (does_call (args := #[(.slice (some ⟨b14_, 0, none⟩) 2 2)]) cal96 (evs rfl) (c_impl_finite (.slice (some ⟨b14_, 0, none⟩) 2 2) [(cf .f32 r26), (cf .f32 r30)] _ (Sl_lit2 hB14_ ⟨_, rfl, rfl⟩ ⟨_, rfl, rfl⟩))).mono ?_; rintro v u' ⟨hx, hv⟩
    exact ⟨fun _ => hv.trans (by simp only [hβ2]), hx⟩
  refine RW_d (fun v44 => [(.agg #[(Fl r1), (Fl r3), (Fl r5)]), (Pt b8 0), (Pt b15 0), (Fl r26), (Fl r30), (.agg #[(Fl r1), (Fl r3), (Fl r5)]), (Fl r26), (Fl r26), (Fl r30), v37, v38, v39, v40, v41, v42, v43, v44, Ud, Ud, Ud, Ud, Ud]) rfl (fun _ => rfl) (fun u hu hF => ?_) (fun v44 => ?_)
  · have h15_ : β1 = false → v43 = (Bo β2) := hF.1
    have h11_ : v39 = (Bo β1) := hF.2.1
    clear hF
    obtain rfl := h11_
    refine doesG_g (b := β1) rfl (yld rfl rfl) (fun hg1 => ?_) (fun hc => ⟨fun hg1 => absurd hg1 hc, Ext.refl _⟩)
    obtain rfl := h15_ hg1
    refine (does_not (ev rfl)).mono ?_; rintro _ _ ⟨rfl, rfl⟩
    exact ⟨fun _ => rfl, Ext.refl _⟩
  refine RW_d (fun v45 => [(.agg #[(Fl r1), (Fl r3), (Fl r5)]), (Pt b8 0), (Pt b15 0), (Fl r26), (Fl r30), (.agg #[(Fl r1), (Fl r3), (Fl r5)]), (Fl r26), (Fl r26), (Fl r30), v37, v38, v39, v40, v41, v42, v43, v44, v45, Ud, Ud, Ud, Ud]) rfl (fun _ => rfl) (fun u hu hF => ?_) (fun v45 => ?_)
  · have h11_ : v39 = (Bo β1) := hF.1
    have h16_ : β1 = false → v44 = (Bo (!β2)) := hF.2.1
    clear hF
    refine doesG_un rfl ?_
    skip
    obtain rfl := h11_
    refine (does_pick (b := β1) (ev rfl) (ev rfl) (ev rfl)).mono ?_; rintro _ _ ⟨rfl, rfl⟩; refine ⟨?_, Ext.refl _⟩; skip
    cases hbb : β1 <;> simp [hbb] at h16_ ⊢
    all_goals (first | rfl | (subst h16_; rfl) | simp_all)
  refine RW_fin ?_; intro w46 E47 hP48
  obtain ⟨⟨⟨⟨⟨⟨⟨⟨⟨-, -⟩, -⟩, -⟩, -⟩, -⟩, -⟩, -⟩, -⟩, q49⟩ := hP48
  have X50 := Ext.gr X34 E47
  have q49 : v45 = (Bo (β1 || (!β2))) := q49
  obtain rfl := q49
  show wpList _ _ _ _ (fr [(.agg #[(Fl r1), (Fl r3), (Fl r5)]), (Pt b8 0), (Pt b15 0), (Fl r26), (Fl r30), (.agg #[(Fl r1), (Fl r3), (Fl r5)]), (Fl r26), (Fl r26), (Fl r30), v37, v38, v39, v40, v41, v42, v43, v44, (Bo (β1 || (!β2))), Ud, Ud, Ud, Ud]) _
  refine wpList_nil (hK36 _ _ ?_)
  refine wp_cond_split (t := β1 || (!β2)) (ev rfl) (fun c51 => ?_) (fun c51 => ?_)
  · have c51' := c51
    (try simp only [hβ1, hβ2, any2_finF] at c51')
    (try simp only [hβ1, hβ2] at c51')
    (try simp only [icmp, Bool.and_eq_true, Bool.or_eq_true, Bool.and_eq_false_iff, Bool.or_eq_false_iff, Bool.not_eq_true', Bool.not_eq_false', decide_eq_true_eq, decide_eq_false_iff_not, beq_iff_eq, bne_iff_ne, beq_eq_false_iff_ne, bne_eq_false_iff_eq] at c51')
    refine wp_seq_k fun K52 hK52 => ?_
    refine wp_region_lit ?_
    refine q_is (l' := [(.agg #[(Fl r1), (Fl r3), (Fl r5)]), (Pt b8 0), (Pt b15 0), (Fl r26), (Fl r30), (.agg #[(Fl r1), (Fl r3), (Fl r5)]), (Fl r26), (Fl r26), (Fl r30), v37, v38, v39, v40, v41, v42, v43, v44, (Bo (β1 || (!β2))), (.agg #[(Fl 0), (Fl 0), (Fl 0)]), Ud, Ud, Ud]) rfl rfl (does_build (parts' := []) (cells := #[(Fl 0), (Fl 0), (Fl 0)]) (evp rfl) (by kernel_rfl)) rfl ?_
    refine seqn rfl rfl (does_store (n := 3) (cs := [(Fl 0), (Fl 0), (Fl 0)]) (u := (.agg #[(Fl 0), (Fl 0), (Fl 0)])) (ev rfl) (ev rfl) Try.sizeOf26 rfl (((hB17.ext E24).ext E32).ext E47) (Nat.le_of_ble_eq_true rfl) rfl) ?_; rintro _ w55 ⟨rfl, W53, hB54⟩
    change Blk _ _ [(Fl 0), (Fl 0), (Fl 0)] at hB54
    have X56 := Below.wr X50 W53 g21
    refine wpList_nil (hK52 _ _ ?_)
    refine wp_ret ?_
    dsimp only [Exit.then, Exit.inBlock]
    refine ret_val (v := (.agg #[(Fl 0), (Fl 0), (Fl 0)])) (res_C rfl (slot rfl) (run_loadAgg (cs := [(Fl 0), (Fl 0), (Fl 0)]) Try.isAgg26 Try.sizeOf26 (Blk.cells hB54) rfl)) X56 ?_
    try simp only [h2, h4, h6, h27, h31, hβ1, hβ2, any2_finF] at c51
    have x57 : cf .f32 0 = (unitF A_v).x := by first | (rw [unit_zero1 (by assumption)]; rfl) | (rw [unit_zero2 (by assumption)]; rfl) | (rw [unit_by1 (by assumption)]; simp only [vscale, h2, h4, h6, h27, h31, hβ1, hβ2, c51]; done) | (rw [unit_by2 (by assumption)]; simp only [vscale, h2, h4, h6, h27, h31, hβ1, hβ2, c51]; done)
    have x58 : cf .f32 0 = (unitF A_v).y := by first | (rw [unit_zero1 (by assumption)]; rfl) | (rw [unit_zero2 (by assumption)]; rfl) | (rw [unit_by1 (by assumption)]; simp only [vscale, h2, h4, h6, h27, h31, hβ1, hβ2, c51]; done) | (rw [unit_by2 (by assumption)]; simp only [vscale, h2, h4, h6, h27, h31, hβ1, hβ2, c51]; done)
    have x59 : cf .f32 0 = (unitF A_v).z := by first | (rw [unit_zero1 (by assumption)]; rfl) | (rw [unit_zero2 (by assumption)]; rfl) | (rw [unit_by1 (by assumption)]; simp only [vscale, h2, h4, h6, h27, h31, hβ1, hβ2, c51]; done) | (rw [unit_by2 (by assumption)]; simp only [vscale, h2, h4, h6, h27, h31, hβ1, hβ2, c51]; done)
    exact ⟨[(Fl 0), (Fl 0), (Fl 0)], rfl, ⟨0, 0, 0, rfl, x57, x58, x59⟩⟩
  have c51' := c51
  (try simp only [hβ1, hβ2, any2_finF] at c51')
  (try simp only [hβ1, hβ2] at c51')
  (try simp only [icmp, Bool.and_eq_true, Bool.or_eq_true, Bool.and_eq_false_iff, Bool.or_eq_false_iff, Bool.not_eq_true', Bool.not_eq_false', decide_eq_true_eq, decide_eq_false_iff_not, beq_iff_eq, bne_iff_ne, beq_eq_false_iff_ne, bne_eq_false_iff_eq] at c51')
  refine wp_skip (hK35 _ _ ?_)
  refine wp_seq_k fun K60 hK60 => ?_
  refine wp_region_lit ?_
  refine q_is (l' := [(.agg #[(Fl r1), (Fl r3), (Fl r5)]), (Pt b8 0), (Pt b15 0), (Fl r26), (Fl r30), (.agg #[(Fl r1), (Fl r3), (Fl r5)]), (Fl r26), (Fl r26), (Fl r30), v37, v38, v39, v40, v41, v42, v43, v44, (Bo (β1 || (!β2))), Ud, (.agg #[(Fl r1), (Fl r3), (Fl r5)]), Ud, Ud]) rfl rfl (does_loadAgg (cs := [(Fl r1), (Fl r3), (Fl r5)]) (ev rfl) Try.isAgg26 Try.sizeOf26 (Blk.cells ((((hB10.ext E18).ext E24).ext E32).ext E47)) rfl) rfl ?_
  refine q_is (l' := [(.agg #[(Fl r1), (Fl r3), (Fl r5)]), (Pt b8 0), (Pt b15 0), (Fl r26), (Fl r30), (.agg #[(Fl r1), (Fl r3), (Fl r5)]), (Fl r26), (Fl r26), (Fl r30), v37, v38, v39, v40, v41, v42, v43, v44, (Bo (β1 || (!β2))), Ud, (.agg #[(Fl r1), (Fl r3), (Fl r5)]), (Fl r30), Ud]) rfl rfl (does_move (u := (Fl r30)) (ev rfl)) rfl ?_
  refine seqd rfl rfl (does_call (args := #[(.agg #[(Fl r1), (Fl r3), (Fl r5)]), (Fl r30)]) cal92 (evs rfl) (c_impl_ScaleVector [(Fl r1), (Fl r3), (Fl r5)] A_v r30 _ ⟨r1, r3, r5, rfl, h2, h4, h6⟩)) ?_; rintro _ w62 ⟨E61, ⟨_, rfl, ⟨r63, r65, r67, rfl, h64, h66, h68⟩⟩⟩
  have X69 := Ext.gr X50 E61
  show wpList _ _ _ _ (fr [(.agg #[(Fl r1), (Fl r3), (Fl r5)]), (Pt b8 0), (Pt b15 0), (Fl r26), (Fl r30), (.agg #[(Fl r1), (Fl r3), (Fl r5)]), (Fl r26), (Fl r26), (Fl r30), v37, v38, v39, v40, v41, v42, v43, v44, (Bo (β1 || (!β2))), Ud, (.agg #[(Fl r1), (Fl r3), (Fl r5)]), (Fl r30), (.agg #[(Fl r63), (Fl r65), (Fl r67)])]) _
  refine seqn rfl rfl (does_store (n := 3) (cs := [(Fl 0), (Fl 0), (Fl 0)]) (u := (.agg #[(Fl r63), (Fl r65), (Fl r67)])) (ev rfl) (ev rfl) Try.sizeOf26 rfl ((((hB17.ext E24).ext E32).ext E47).ext E61) (Nat.le_of_ble_eq_true rfl) rfl) ?_; rintro _ w72 ⟨rfl, W70, hB71⟩
  change Blk _ _ [(Fl r63), (Fl r65), (Fl r67)] at hB71
  have X73 := Below.wr X69 W70 g21
  refine wpList_nil (hK60 _ _ ?_)
  refine wp_ret ?_
  refine ret_val (v := (.agg #[(Fl r63), (Fl r65), (Fl r67)])) (res_C rfl (slot rfl) (run_loadAgg (cs := [(Fl r63), (Fl r65), (Fl r67)]) Try.isAgg26 Try.sizeOf26 (Blk.cells hB71) rfl)) X73 ?_
  try simp only [h2, h4, h6, h27, h31, hβ1, hβ2, h64, h66, h68, any2_finF] at c51
  have x74 : cf .f32 r63 = (unitF A_v).x := by first | (rw [unit_zero1 (by assumption)]; rfl) | (rw [unit_zero2 (by assumption)]; rfl) | (rw [unit_by1 (by assumption)]; simp only [vscale, h2, h4, h6, h27, h31, hβ1, hβ2, h64, h66, h68, c51]; done) | (rw [unit_by2 (by assumption)]; simp only [vscale, h2, h4, h6, h27, h31, hβ1, hβ2, h64, h66, h68, c51]; done)
  have x75 : cf .f32 r65 = (unitF A_v).y := by first | (rw [unit_zero1 (by assumption)]; rfl) | (rw [unit_zero2 (by assumption)]; rfl) | (rw [unit_by1 (by assumption)]; simp only [vscale, h2, h4, h6, h27, h31, hβ1, hβ2, h64, h66, h68, c51]; done) | (rw [unit_by2 (by assumption)]; simp only [vscale, h2, h4, h6, h27, h31, hβ1, hβ2, h64, h66, h68, c51]; done)
  have x76 : cf .f32 r67 = (unitF A_v).z := by first | (rw [unit_zero1 (by assumption)]; rfl) | (rw [unit_zero2 (by assumption)]; rfl) | (rw [unit_by1 (by assumption)]; simp only [vscale, h2, h4, h6, h27, h31, hβ1, hβ2, h64, h66, h68, c51]; done) | (rw [unit_by2 (by assumption)]; simp only [vscale, h2, h4, h6, h27, h31, hβ1, hβ2, h64, h66, h68, c51]; done)
  exact ⟨[(Fl r63), (Fl r65), (Fl r67)], rfl, ⟨r63, r65, r67, rfl, x74, x75, x76⟩⟩

/- impl.LessVectors -/
theorem c_impl_LessVectors (a : List Value) (A_a : V3) (b : List Value) (A_b : V3) (w : World) (hv_a : RV3 w A_a a) (hv_b : RV3 w A_b b) : Gives Try.prog 91 #[(.agg a.toArray), (.agg b.toArray)] w (fun v w' => ∃ cs_1 : List Value, v = (.agg cs_1.toArray) ∧ RV3 w (vsub A_a A_b) cs_1) := by
  obtain ⟨r1, r3, r5, rfl, h2, h4, h6⟩ := hv_a
  obtain ⟨r7, r9, r11, rfl, h8, h10, h12⟩ := hv_b
  refine enter [(.agg #[(Fl r1), (Fl r3), (Fl r5)]), (.agg #[(Fl r7), (Fl r9), (Fl r11)]), Ud, Ud, Ud, Ud, Ud, Ud, Ud, Ud, Ud, Ud, Ud, Ud, Ud, Ud, Ud, Ud, Ud, Ud, Ud] Try.func91 rfl Try.ntmps91 rfl ?_
  refine wp_seq_k fun K13 hK13 => ?_
  refine wp_region_lit ?_
  refine seqd rfl rfl (does_box (u := (.agg #[(Fl r1), (Fl r3), (Fl r5)])) (ev rfl)) ?_; rintro _ w18 ⟨b14, rfl, hb15, hB16, E17⟩
  have g19 : w.heap.size ≤ b14 := Nat.le_trans (Below.size (Ext.refl w)) hb15
  change Blk _ _ [(Fl r1), (Fl r3), (Fl r5)] at hB16
  have X20 := Ext.gr (Ext.refl w) E17
  show wpList _ _ _ _ (fr [(.agg #[(Fl r1), (Fl r3), (Fl r5)]), (.agg #[(Fl r7), (Fl r9), (Fl r11)]), (Pt b14 0), Ud, Ud, Ud, Ud, Ud, Ud, Ud, Ud, Ud, Ud, Ud, Ud, Ud, Ud, Ud, Ud, Ud, Ud]) _
  refine seqd rfl rfl (does_box (u := (.agg #[(Fl r7), (Fl r9), (Fl r11)])) (ev rfl)) ?_; rintro _ w25 ⟨b21, rfl, hb22, hB23, E24⟩
  have n26 : b14 < b21 := Nat.lt_of_lt_of_le (Blk.lt hB16) hb22
  have g27 : w.heap.size ≤ b21 := Nat.le_trans (Below.size X20) hb22
  change Blk _ _ [(Fl r7), (Fl r9), (Fl r11)] at hB23
  have X28 := Ext.gr X20 E24
  show wpList _ _ _ _ (fr [(.agg #[(Fl r1), (Fl r3), (Fl r5)]), (.agg #[(Fl r7), (Fl r9), (Fl r11)]), (Pt b14 0), (Pt b21 0), Ud, Ud, Ud, Ud, Ud, Ud, Ud, Ud, Ud, Ud, Ud, Ud, Ud, Ud, Ud, Ud, Ud]) _
  refine seqd rfl rfl (does_alloc z26) ?_; rintro _ w33 ⟨b29, rfl, hb30, hB31, E32⟩
  have n34 : b14 < b29 := Nat.lt_of_lt_of_le (Blk.lt (hB16.ext E24)) hb30
  have n35 : b21 < b29 := Nat.lt_of_lt_of_le (Blk.lt hB23) hb30
  have g36 : w.heap.size ≤ b29 := Nat.le_trans (Below.size X28) hb30
  change Blk _ _ [(Fl 0), (Fl 0), (Fl 0)] at hB31
  have X37 := Ext.gr X28 E32
  show wpList _ _ _ _ (fr [(.agg #[(Fl r1), (Fl r3), (Fl r5)]), (.agg #[(Fl r7), (Fl r9), (Fl r11)]), (Pt b14 0), (Pt b21 0), (Pt b29 0), Ud, Ud, Ud, Ud, Ud, Ud, Ud, Ud, Ud, Ud, Ud, Ud, Ud, Ud, Ud, Ud]) _
  refine wpList_nil (hK13 _ _ ?_)
  refine wp_seq_k fun K38 hK38 => ?_
  refine wp_region_lit ?_
  refine q_is (l' := [(.agg #[(Fl r1), (Fl r3), (Fl r5)]), (.agg #[(Fl r7), (Fl r9), (Fl r11)]), (Pt b14 0), (Pt b21 0), (Pt b29 0), (Pt b14 0), Ud, Ud, Ud, Ud, Ud, Ud, Ud, Ud, Ud, Ud, Ud, Ud, Ud, Ud, Ud]) rfl rfl (does_fieldAddr (ev rfl) fa26_0) rfl ?_
  refine q_is (l' := [(.agg #[(Fl r1), (Fl r3), (Fl r5)]), (.agg #[(Fl r7), (Fl r9), (Fl r11)]), (Pt b14 0), (Pt b21 0), (Pt b29 0), (Pt b14 0), (Fl r1), Ud, Ud, Ud, Ud, Ud, Ud, Ud, Ud, Ud, Ud, Ud, Ud, Ud, Ud]) rfl rfl (does_load (u := (Fl r1)) (ev rfl) Try.isAgg24 (Cells.at (Blk.cells ((hB16.ext E24).ext E32)) 0 rfl)) rfl ?_
  refine q_is (l' := [(.agg #[(Fl r1), (Fl r3), (Fl r5)]), (.agg #[(Fl r7), (Fl r9), (Fl r11)]), (Pt b14 0), (Pt b21 0), (Pt b29 0), (Pt b14 0), (Fl r1), (Pt b21 0), Ud, Ud, Ud, Ud, Ud, Ud, Ud, Ud, Ud, Ud, Ud, Ud, Ud]) rfl rfl (does_fieldAddr (ev rfl) fa26_0) rfl ?_
  refine q_is (l' := [(.agg #[(Fl r1), (Fl r3), (Fl r5)]), (.agg #[(Fl r7), (Fl r9), (Fl r11)]), (Pt b14 0), (Pt b21 0), (Pt b29 0), (Pt b14 0), (Fl r1), (Pt b21 0), (Fl r7), Ud, Ud, Ud, Ud, Ud, Ud, Ud, Ud, Ud, Ud, Ud, Ud]) rfl rfl (does_load (u := (Fl r7)) (ev rfl) Try.isAgg24 (Cells.at (Blk.cells (hB23.ext E32)) 0 rfl)) rfl ?_
  refine seqd rfl rfl (does_float (.inr (.inl rfl)) (ev rfl) (ev rfl)) ?_; rintro _ w42 ⟨r39, rfl, h40, E41⟩
  have X43 := Ext.gr X37 E41
  show wpList _ _ _ _ (fr [(.agg #[(Fl r1), (Fl r3), (Fl r5)]), (.agg #[(Fl r7), (Fl r9), (Fl r11)]), (Pt b14 0), (Pt b21 0), (Pt b29 0), (Pt b14 0), (Fl r1), (Pt b21 0), (Fl r7), (Fl r39), Ud, Ud, Ud, Ud, Ud, Ud, Ud, Ud, Ud, Ud, Ud]) _
  refine q_is (l' := [(.agg #[(Fl r1), (Fl r3), (Fl r5)]), (.agg #[(Fl r7), (Fl r9), (Fl r11)]), (Pt b14 0), (Pt b21 0), (Pt b29 0), (Pt b14 0), (Fl r1), (Pt b21 0), (Fl r7), (Fl r39), (Pt b14 1), Ud, Ud, Ud, Ud, Ud, Ud, Ud, Ud, Ud, Ud]) rfl rfl (does_fieldAddr (ev rfl) fa26_1) rfl ?_
  refine q_is (l' := [(.agg #[(Fl r1), (Fl r3), (Fl r5)]), (.agg #[(Fl r7), (Fl r9), (Fl r11)]), (Pt b14 0), (Pt b21 0), (Pt b29 0), (Pt b14 0), (Fl r1), (Pt b21 0), (Fl r7), (Fl r39), (Pt b14 1), (Fl r3), Ud, Ud, Ud, Ud, Ud, Ud, Ud, Ud, Ud]) rfl rfl (does_load (u := (Fl r3)) (ev rfl) Try.isAgg24 (Cells.at (Blk.cells (((hB16.ext E24).ext E32).ext E41)) 1 rfl)) rfl ?_
  refine q_is (l' := [(.agg #[(Fl r1), (Fl r3), (Fl r5)]), (.agg #[(Fl r7), (Fl r9), (Fl r11)]), (Pt b14 0), (Pt b21 0), (Pt b29 0), (Pt b14 0), (Fl r1), (Pt b21 0), (Fl r7), (Fl r39), (Pt b14 1), (Fl r3), (Pt b21 1), Ud, Ud, Ud, Ud, Ud, Ud, Ud, Ud]) rfl rfl (does_fieldAddr (ev rfl) fa26_1) rfl ?_
  refine q_is (l' := [(.agg #[(Fl r1), (Fl r3), (Fl r5)]), (.agg #[(Fl r7), (Fl r9), (Fl r11)]), (Pt b14 0), (Pt b21 0), (Pt b29 0), (Pt b14 0), (Fl r1), (Pt b21 0), (Fl r7), (Fl r39), (Pt b14 1), (Fl r3), (Pt b21 1), (Fl r9), Ud, Ud, Ud, Ud, Ud, Ud, Ud]) rfl rfl (does_load (u := (Fl r9)) (ev rfl) Try.isAgg24 (Cells.at (Blk.cells ((hB23.ext E32).ext E41)) 1 rfl)) rfl ?_
  refine seqd rfl rfl (does_float (.inr (.inl rfl)) (ev rfl) (ev rfl)) ?_; rintro _ w47 ⟨r44, rfl, h45, E46⟩
  have X48 := Ext.gr X43 E46
  show wpList _ _ _ _ (fr [(.agg #[(Fl r1), (Fl r3), (Fl r5)]), (.agg #[(Fl r7), (Fl r9), (Fl r11)]), (Pt b14 0), (Pt b21 0), (Pt b29 0), (Pt b14 0), (Fl r1), (Pt b21 0), (Fl r7), (Fl r39), (Pt b14 1), (Fl r3), (Pt b21 1), (Fl r9), (Fl r44), Ud, Ud, Ud, Ud, Ud, Ud]) _
  refine q_is (l' := [(.agg #[(Fl r1), (Fl r3), (Fl r5)]), (.agg #[(Fl r7), (Fl r9), (Fl r11)]), (Pt b14 0), (Pt b21 0), (Pt b29 0), (Pt b14 0), (Fl r1), (Pt b21 0), (Fl r7), (Fl r39), (Pt b14 1), (Fl r3), (Pt b21 1), (Fl r9), (Fl r44), (Pt b14 2), Ud, Ud, Ud, Ud, Ud]) rfl rfl (does_fieldAddr (ev rfl) fa26_2) rfl ?_
  refine q_is (l' := [(.agg #[(Fl r1), (Fl r3), (Fl r5)]), (.agg #[(Fl r7), (Fl r9), (Fl r11)]), (Pt b14 0), (Pt b21 0), (Pt b29 0), (Pt b14 0), (Fl r1), (Pt b21 0), (Fl r7), (Fl r39), (Pt b14 1), (Fl r3), (Pt b21 1), (Fl r9), (Fl r44), (Pt b14 2), (Fl r5), Ud, Ud, Ud, Ud]) rfl rfl (does_load (u := (Fl r5)) (ev rfl) Try.isAgg24 (Cells.at (Blk.cells ((((hB16.ext E24).ext E32).ext E41).ext E46)) 2 rfl)) rfl ?_
  refine q_is (l' := [(.agg #[(Fl r1), (Fl r3), (Fl r5)]), (.agg #[(Fl r7), (Fl r9), (Fl r11)]), (Pt b14 0), (Pt b21 0), (Pt b29 0), (Pt b14 0), (Fl r1), (Pt b21 0), (Fl r7), (Fl r39), (Pt b14 1), (Fl r3), (Pt b21 1), (Fl r9), (Fl r44), (Pt b14 2), (Fl r5), (Pt b21 2), Ud, Ud, Ud]) rfl rfl (does_fieldAddr (ev rfl) fa26_2) rfl ?_
  refine q_is (l' := [(.agg #[(Fl r1), (Fl r3), (Fl r5)]), (.agg #[(Fl r7), (Fl r9), (Fl r11)]), (Pt b14 0), (Pt b21 0), (Pt b29 0), (Pt b14 0), (Fl r1), (Pt b21 0), (Fl r7), (Fl r39), (Pt b14 1), (Fl r3), (Pt b21 1), (Fl r9), (Fl r44), (Pt b14 2), (Fl r5), (Pt b21 2), (Fl r11), Ud, Ud]) rfl rfl (does_load (u := (Fl r11)) (ev rfl) Try.isAgg24 (Cells.at (Blk.cells (((hB23.ext E32).ext E41).ext E46)) 2 rfl)) rfl ?_
  refine seqd rfl rfl (does_float (.inr (.inl rfl)) (ev rfl) (ev rfl)) ?_; rintro _ w52 ⟨r49, rfl, h50, E51⟩
  have X53 := Ext.gr X48 E51
  show wpList _ _ _ _ (fr [(.agg #[(Fl r1), (Fl r3), (Fl r5)]), (.agg #[(Fl r7), (Fl r9), (Fl r11)]), (Pt b14 0), (Pt b21 0), (Pt b29 0), (Pt b14 0), (Fl r1), (Pt b21 0), (Fl r7), (Fl r39), (Pt b14 1), (Fl r3), (Pt b21 1), (Fl r9), (Fl r44), (Pt b14 2), (Fl r5), (Pt b21 2), (Fl r11), (Fl r49), Ud]) _
  refine q_is (l' := [(.agg #[(Fl r1), (Fl r3), (Fl r5)]), (.agg #[(Fl r7), (Fl r9), (Fl r11)]), (Pt b14 0), (Pt b21 0), (Pt b29 0), (Pt b14 0), (Fl r1), (Pt b21 0), (Fl r7), (Fl r39), (Pt b14 1), (Fl r3), (Pt b21 1), (Fl r9), (Fl r44), (Pt b14 2), (Fl r5), (Pt b21 2), (Fl r11), (Fl r49), (.agg #[(Fl r39), (Fl r44), (Fl r49)])]) rfl rfl (does_build (parts' := [(0, (Fl r39)), (1, (Fl r44)), (2, (Fl r49))]) (cells := #[(Fl r39), (Fl r44), (Fl r49)]) (evp rfl) (by kernel_rfl)) rfl ?_
  refine seqn rfl rfl (does_store (n := 3) (cs := [(Fl 0), (Fl 0), (Fl 0)]) (u := (.agg #[(Fl r39), (Fl r44), (Fl r49)])) (ev rfl) (ev rfl) Try.sizeOf26 rfl (((hB31.ext E41).ext E46).ext E51) (Nat.le_of_ble_eq_true rfl) rfl) ?_; rintro _ w56 ⟨rfl, W54, hB55⟩
  change Blk _ _ [(Fl r39), (Fl r44), (Fl r49)] at hB55
  have X57 := Below.wr X53 W54 g36
  refine wpList_nil (hK38 _ _ ?_)
  refine wp_ret ?_
  refine ret_val (v := (.agg #[(Fl r39), (Fl r44), (Fl r49)])) (res_C rfl (slot rfl) (run_loadAgg (cs := [(Fl r39), (Fl r44), (Fl r49)]) Try.isAgg26 Try.sizeOf26 (Blk.cells hB55) rfl)) X57 ?_
  have x58 : cf .f32 r39 = (vsub A_a A_b).x := by first | with_reducible rfl | (simp only [vsub, h2, h4, h6, h8, h10, h12, h40, h45, h50]; done) | (simp [vsub, h2, h4, h6, h8, h10, h12, h40, h45, h50]; done) | rfl
  have x59 : cf .f32 r44 = (vsub A_a A_b).y := by first | with_reducible rfl | (simp only [vsub, h2, h4, h6, h8, h10, h12, h40, h45, h50]; done) | (simp [vsub, h2, h4, h6, h8, h10, h12, h40, h45, h50]; done) | rfl
  have x60 : cf .f32 r49 = (vsub A_a A_b).z := by first | with_reducible rfl | (simp only [vsub, h2, h4, h6, h8, h10, h12, h40, h45, h50]; done) | (simp [vsub, h2, h4, h6, h8, h10, h12, h40, h45, h50]; done) | rfl
  exact ⟨[(Fl r39), (Fl r44), (Fl r49)], rfl, ⟨r39, r44, r49, rfl, x58, x59, x60⟩⟩

/- impl.crossed -/
theorem c_impl_crossed (c1 : Nat) (c2 : Nat) (c3 : Nat) (c4 : Nat) (w : World) : Gives Try.prog 114 #[(Fl c1), (Fl c2), (Fl c3), (Fl c4)] w (fun v w' => ∃ r_1 : Nat, v = (Fl r_1) ∧ cf .f32 r_1 = fop .sub .f32 (fop .mul .f32 (cf .f32 c1) (cf .f32 c2)) (fop .mul .f32 (cf .f32 c3) (cf .f32 c4))) := by
  refine enter [(Fl c1), (Fl c2), (Fl c3), (Fl c4), Ud, Ud, Ud, Ud, Ud, Ud, Ud, Ud, Ud, Ud, Ud, Ud] Try.func114 rfl Try.ntmps114 rfl ?_
  refine wp_seq_k fun K1 hK1 => ?_
  refine wp_region_lit ?_
  refine q_is (l' := [(Fl c1), (Fl c2), (Fl c3), (Fl c4), Ud, Ud, Ud, Ud, (Fl 0), Ud, Ud, Ud, Ud, Ud, Ud, Ud]) rfl rfl (does_assign (u := (Fl 0)) (ev rfl)) rfl ?_
  refine wpList_nil (hK1 _ _ ?_)
  refine wp_seq_k fun K2 hK2 => ?_
  refine wp_region_lit ?_
  refine q_is (l' := [(Fl c1), (Fl c2), (Fl c3), (Fl c4), Ud, Ud, Ud, Ud, (Fl 0), (Fl c1), Ud, Ud, Ud, Ud, Ud, Ud]) rfl rfl (does_move (u := (Fl c1)) (ev rfl)) rfl ?_
  refine q_is (l' := [(Fl c1), (Fl c2), (Fl c3), (Fl c4), Ud, Ud, Ud, Ud, (Fl 0), (Fl c1), (Fl c2), Ud, Ud, Ud, Ud, Ud]) rfl rfl (does_move (u := (Fl c2)) (ev rfl)) rfl ?_
  refine seqd rfl rfl (does_float (.inr (.inr (.inl rfl))) (ev rfl) (ev rfl)) ?_; rintro _ w6 ⟨r3, rfl, h4, E5⟩
  have X7 := Ext.gr (Ext.refl w) E5
  show wpList _ _ _ _ (fr [(Fl c1), (Fl c2), (Fl c3), (Fl c4), Ud, Ud, Ud, Ud, (Fl 0), (Fl c1), (Fl c2), (Fl r3), Ud, Ud, Ud, Ud]) _
  refine q_is (l' := [(Fl c1), (Fl c2), (Fl c3), (Fl c4), Ud, Ud, Ud, Ud, (Fl 0), (Fl c1), (Fl c2), (Fl r3), (Fl c3), Ud, Ud, Ud]) rfl rfl (does_move (u := (Fl c3)) (ev rfl)) rfl ?_
  refine q_is (l' := [(Fl c1), (Fl c2), (Fl c3), (Fl c4), Ud, Ud, Ud, Ud, (Fl 0), (Fl c1), (Fl c2), (Fl r3), (Fl c3), (Fl c4), Ud, Ud]) rfl rfl (does_move (u := (Fl c4)) (ev rfl)) rfl ?_
  refine seqd rfl rfl (does_float (.inr (.inr (.inl rfl))) (ev rfl) (ev rfl)) ?_; rintro _ w11 ⟨r8, rfl, h9, E10⟩
  have X12 := Ext.gr X7 E10
  show wpList _ _ _ _ (fr [(Fl c1), (Fl c2), (Fl c3), (Fl c4), Ud, Ud, Ud, Ud, (Fl 0), (Fl c1), (Fl c2), (Fl r3), (Fl c3), (Fl c4), (Fl r8), Ud]) _
  refine seqd rfl rfl (does_float (.inr (.inl rfl)) (ev rfl) (ev rfl)) ?_; rintro _ w16 ⟨r13, rfl, h14, E15⟩
  have X17 := Ext.gr X12 E15
  show wpList _ _ _ _ (fr [(Fl c1), (Fl c2), (Fl c3), (Fl c4), Ud, Ud, Ud, Ud, (Fl 0), (Fl c1), (Fl c2), (Fl r3), (Fl c3), (Fl c4), (Fl r8), (Fl r13)]) _
  refine q_is (l' := [(Fl c1), (Fl c2), (Fl c3), (Fl c4), Ud, Ud, Ud, Ud, (Fl r13), (Fl c1), (Fl c2), (Fl r3), (Fl c3), (Fl c4), (Fl r8), (Fl r13)]) rfl rfl (does_assign (u := (Fl r13)) (ev rfl)) rfl ?_
  refine wpList_nil (hK2 _ _ ?_)
  refine wp_ret ?_
  refine ret_val (v := (Fl r13)) (res_T rfl (slot rfl)) X17 ?_
  have x18 : cf .f32 r13 = fop .sub .f32 (fop .mul .f32 (cf .f32 c1) (cf .f32 c2)) (fop .mul .f32 (cf .f32 c3) (cf .f32 c4)) := by first | with_reducible rfl | (simp only [h4, h9, h14]; done) | (simp [h4, h9, h14]; done) | rfl
  exact ⟨r13, rfl, x18⟩

/- impl.CrossOf -/
theorem c_impl_CrossOf (a : List Value) (A_a : V3) (b : List Value) (A_b : V3) (w : World) (hv_a : RV3 w A_a a) (hv_b : RV3 w A_b b) : Gives Try.prog 103 #[(.agg a.toArray), (.agg b.toArray)] w (fun v w' => ∃ cs_1 : List Value, v = (.agg cs_1.toArray) ∧ RV3 w (crossF A_a A_b) cs_1) := by
  obtain ⟨r1, r3, r5, rfl, h2, h4, h6⟩ := hv_a
  obtain ⟨r7, r9, r11, rfl, h8, h10, h12⟩ := hv_b
  refine enter [(.agg #[(Fl r1), (Fl r3), (Fl r5)]), (.agg #[(Fl r7), (Fl r9), (Fl r11)]), Ud, Ud, Ud, Ud, Ud, Ud, Ud, Ud, Ud, Ud, Ud, Ud, Ud, Ud, Ud, Ud, Ud, Ud, Ud, Ud, Ud, Ud, Ud, Ud, Ud, Ud, Ud, Ud, Ud, Ud, Ud] Try.func103 rfl Try.ntmps103 rfl ?_
  refine wp_seq_k fun K13 hK13 => ?_
  refine wp_region_lit ?_
  refine seqd rfl rfl (does_box (u := (.agg #[(Fl r1), (Fl r3), (Fl r5)])) (ev rfl)) ?_; rintro _ w18 ⟨b14, rfl, hb15, hB16, E17⟩
  have g19 : w.heap.size ≤ b14 := Nat.le_trans (Below.size (Ext.refl w)) hb15
  change Blk _ _ [(Fl r1), (Fl r3), (Fl r5)] at hB16
  have X20 := Ext.gr (Ext.refl w) E17
  show wpList _ _ _ _ (fr [(.agg #[(Fl r1), (Fl r3), (Fl r5)]), (.agg #[(Fl r7), (Fl r9), (Fl r11)]), (Pt b14 0), Ud, Ud, Ud, Ud, Ud, Ud, Ud, Ud, Ud, Ud, Ud, Ud, Ud, Ud, Ud, Ud, Ud, Ud, Ud, Ud, Ud, Ud, Ud, Ud, Ud, Ud, Ud, Ud, Ud, Ud]) _
  refine seqd rfl rfl (does_box (u := (.agg #[(Fl r7), (Fl r9), (Fl r11)])) (ev rfl)) ?_; rintro _ w25 ⟨b21, rfl, hb22, hB23, E24⟩
  have n26 : b14 < b21 := Nat.lt_of_lt_of_le (Blk.lt hB16) hb22
  have g27 : w.heap.size ≤ b21 := Nat.le_trans (Below.size X20) hb22
  change Blk _ _ [(Fl r7), (Fl r9), (Fl r11)] at hB23
  have X28 := Ext.gr X20 E24
  show wpList _ _ _ _ (fr [(.agg #[(Fl r1), (Fl r3), (Fl r5)]), (.agg #[(Fl r7), (Fl r9), (Fl r11)]), (Pt b14 0), (Pt b21 0), Ud, Ud, Ud, Ud, Ud, Ud, Ud, Ud, Ud, Ud, Ud, Ud, Ud, Ud, Ud, Ud, Ud, Ud, Ud, Ud, Ud, Ud, Ud, Ud, Ud, Ud, Ud, Ud, Ud]) _
  refine seqd rfl rfl (does_alloc z26) ?_; rintro _ w33 ⟨b29, rfl, hb30, hB31, E32⟩
  have n34 : b14 < b29 := Nat.lt_of_lt_of_le (Blk.lt (hB16.ext E24)) hb30
  have n35 : b21 < b29 := Nat.lt_of_lt_of_le (Blk.lt hB23) hb30
  have g36 : w.heap.size ≤ b29 := Nat.le_trans (Below.size X28) hb30
  change Blk _ _ [(Fl 0), (Fl 0), (Fl 0)] at hB31
  have X37 := Ext.gr X28 E32
  show wpList _ _ _ _ (fr [(.agg #[(Fl r1), (Fl r3), (Fl r5)]), (.agg #[(Fl r7), (Fl r9), (Fl r11)]), (Pt b14 0), (Pt b21 0), (Pt b29 0), Ud, Ud, Ud, Ud, Ud, Ud, Ud, Ud, Ud, Ud, Ud, Ud, Ud, Ud, Ud, Ud, Ud, Ud, Ud, Ud, Ud, Ud, Ud, Ud, Ud, Ud, Ud, Ud]) _
  refine wpList_nil (hK13 _ _ ?_)
  refine wp_seq_k fun K38 hK38 => ?_
  refine region_draw (
    [Fact.pure [] (fun v => v = (Pt b14 1)),
    Fact.pure [5] (fun v => v = (Fl r3)),
    Fact.pure [] (fun v => v = (Pt b21 2)),
    Fact.pure [7] (fun v => v = (Fl r11)),
    Fact.pure [] (fun v => v = (Pt b14 2)),
    Fact.pure [9] (fun v => v = (Fl r5)),
    Fact.pure [] (fun v => v = (Pt b21 1)),
    Fact.pure [11] (fun v => v = (Fl r9)),
    Fact.pure [6, 8, 10, 12] (fun v => ∃ r_1 : Nat, v = (Fl r_1) ∧ cf .f32 r_1 = fop .sub .f32 (fop .mul .f32 (cf .f32 r3) (cf .f32 r11)) (fop .mul .f32 (cf .f32 r5) (cf .f32 r9))),
    Fact.pure [] (fun v => v = (Pt b14 2)),
    Fact.pure [14] (fun v => v = (Fl r5)),
    Fact.pure [] (fun v => v = (Pt b21 0)),
    Fact.pure [16] (fun v => v = (Fl r7)),
    Fact.pure [] (fun v => v = (Pt b14 0)),
    Fact.pure [18] (fun v => v = (Fl r1)),
    Fact.pure [] (fun v => v = (Pt b21 2)),
    Fact.pure [20] (fun v => v = (Fl r11)),
    Fact.pure [15, 17, 19, 21] (fun v => ∃ r_1 : Nat, v = (Fl r_1) ∧ cf .f32 r_1 = fop .sub .f32 (fop .mul .f32 (cf .f32 r5) (cf .f32 r7)) (fop .mul .f32 (cf .f32 r1) (cf .f32 r11))),
    Fact.pure [] (fun v => v = (Pt b14 0)),
    Fact.pure [23] (fun v => v = (Fl r1)),
    Fact.pure [] (fun v => v = (Pt b21 1)),
    Fact.pure [25] (fun v => v = (Fl r9)),
    Fact.pure [] (fun v => v = (Pt b14 1)),
    Fact.pure [27] (fun v => v = (Fl r3)),
    Fact.pure [] (fun v => v = (Pt b21 0)),
    Fact.pure [29] (fun v => v = (Fl r7)),
    Fact.pure [24, 26, 28, 30] (fun v => ∃ r_1 : Nat, v = (Fl r_1) ∧ cf .f32 r_1 = fop .sub .f32 (fop .mul .f32 (cf .f32 r1) (cf .f32 r9)) (fop .mul .f32 (cf .f32 r3) (cf .f32 r7))),
    Fact.pure [13, 22, 31] (fun v => ∃ r_1 : Nat, ∃ r_2 : Nat, ∃ r_3 : Nat, v = (.agg #[(Fl r_1), (Fl r_2), (Fl r_3)]) ∧ cf .f32 r_1 = fop .sub .f32 (fop .mul .f32 (cf .f32 r3) (cf .f32 r11)) (fop .mul .f32 (cf .f32 r5) (cf .f32 r9)) ∧ cf .f32 r_2 = fop .sub .f32 (fop .mul .f32 (cf .f32 r5) (cf .f32 r7)) (fop .mul .f32 (cf .f32 r1) (cf .f32 r11)) ∧ cf .f32 r_3 = fop .sub .f32 (fop .mul .f32 (cf .f32 r1) (cf .f32 r9)) (fop .mul .f32 (cf .f32 r3) (cf .f32 r7)))]) mixed (by kernel_rfl) (by intro _ _ d _ _ h; cases d <;> exact h) ?_
  obtain ⟨w39, hw41⟩ : ∃ w', w' = World.drew w33 := ⟨_, rfl⟩; rw [← hw41]; have E40 : Ext w33 w39 := by rw [hw41]; exact Ext.draw _
  clear hw41
  have X42 := Ext.gr X37 E40
  refine RW_d _ rfl (fun v => by dsimp only [List.set]; try rfl) (fun u hu hF => ?_) (fun v43 => ?_)
  · clear hF
    refine doesG_un rfl ?_
    refine (does_fieldAddr (ev rfl) fa26_1).mono ?_; rintro _ _ ⟨rfl, rfl⟩
    exact ⟨rfl, Ext.refl _⟩
  refine RW_d _ rfl (fun v => by dsimp only [List.set]; try rfl) (fun u hu hF => ?_) (fun v44 => ?_)
  · have h5_ : v43 = (Pt b14 1) := hF.1
    clear hF
    refine doesG_un rfl ?_
    obtain rfl := h5_
    refine (does_load (u := (Fl r3)) (ev rfl) Try.isAgg24 (Cells.at (Blk.cells ((((hB16.ext E24).ext E32).ext E40).ext hu)) 1 rfl)).mono ?_; rintro _ _ ⟨rfl, rfl⟩
    exact ⟨rfl, Ext.refl _⟩
  refine RW_d _ rfl (fun v => by dsimp only [List.set]; try rfl) (fun u hu hF => ?_) (fun v45 => ?_)
  · clear hF
    refine doesG_un rfl ?_
    refine (does_fieldAddr (ev rfl) fa26_2).mono ?_; rintro _ _ ⟨rfl, rfl⟩
    exact ⟨rfl, Ext.refl _⟩
  refine RW_d _ rfl (fun v => by dsimp only [List.set]; try rfl) (fun u hu hF => ?_) (fun v46 => ?_)
  · have h7_ : v45 = (Pt b21 2) := hF.1
    clear hF
    refine doesG_un rfl ?_
    obtain rfl := h7_
    refine (does_load (u := (Fl r11)) (ev rfl) Try.isAgg24 (Cells.at (Blk.cells (((hB23.ext E32).ext E40).ext hu)) 2 rfl)).mono ?_; rintro _ _ ⟨rfl, rfl⟩
    exact ⟨rfl, Ext.refl _⟩
  refine RW_d _ rfl (fun v => by dsimp only [List.set]; try rfl) (fun u hu hF => ?_) (fun v47 => ?_)
  · clear hF
    refine doesG_un rfl ?_
    refine (does_fieldAddr (ev rfl) fa26_2).mono ?_; rintro _ _ ⟨rfl, rfl⟩
    exact ⟨rfl, Ext.refl _⟩
  refine RW_d _ rfl (fun v => by dsimp only [List.set]; try rfl) (fun u hu hF => ?_) (fun v48 => ?_)
  · have h9_ : v47 = (Pt b14 2) := hF.1
    clear hF
    refine doesG_un rfl ?_
    obtain rfl := h9_
    refine (does_load (u := (Fl r5)) (ev rfl) Try.isAgg24 (Cells.at (Blk.cells ((((hB16.ext E24).ext E32).ext E40).ext hu)) 2 rfl)).mono ?_; rintro _ _ ⟨rfl, rfl⟩
    exact ⟨rfl, Ext.refl _⟩
  refine RW_d _ rfl (fun v => by dsimp only [List.set]; try rfl) (fun u hu hF => ?_) (fun v49 => ?_)
  · clear hF
    refine doesG_un rfl ?_
    refine (does_fieldAddr (ev rfl) fa26_1).mono ?_; rintro _ _ ⟨rfl, rfl⟩
    exact ⟨rfl, Ext.refl _⟩
  refine RW_d _ rfl (fun v => by dsimp only [List.set]; try rfl) (fun u hu hF => ?_) (fun v50 => ?_)
  · have h11_ : v49 = (Pt b21 1) := hF.1
    clear hF
    refine doesG_un rfl ?_
    obtain rfl := h11_
    refine (does_load (u := (Fl r9)) (ev rfl) Try.isAgg24 (Cells.at (Blk.cells (((hB23.ext E32).ext E40).ext hu)) 1 rfl)).mono ?_; rintro _ _ ⟨rfl, rfl⟩
    exact ⟨rfl, Ext.refl _⟩
  refine RW_d _ rfl (fun v => by dsimp only [List.set]; try rfl) (fun u hu hF => ?_) (fun v51 => ?_)
  · have h6_ : v44 = (Fl r3) := hF.1
    have h8_ : v46 = (Fl r11) := hF.2.1
    have h10_ : v48 = (Fl r5) := hF.2.2.1
    have h12_ : v50 = (Fl r9) := hF.2.2.2.1
    clear hF
    refine doesG_un rfl ?_
    obtain rfl := h6_
    obtain rfl := h8_
    obtain rfl := h10_
    obtain rfl := h12_
    refine (does_call (args := #[(Fl r3), (Fl r11), (Fl r5), (Fl r9)]) cal114 (evs rfl) (c_impl_crossed r3 r11 r5 r9 _)).mono ?_; rintro v u' ⟨hx, ⟨rn1, hv, k0⟩⟩
    exact ⟨⟨rn1, hv, (by simp only [k0])⟩, hx⟩
  refine RW_d _ rfl (fun v => by dsimp only [List.set]; try rfl) (fun u hu hF => ?_) (fun v52 => ?_)
  · clear hF
    refine doesG_un rfl ?_
    refine (does_fieldAddr (ev rfl) fa26_2).mono ?_; rintro _ _ ⟨rfl, rfl⟩
    exact ⟨rfl, Ext.refl _⟩
  refine RW_d _ rfl (fun v => by dsimp only [List.set]; try rfl) (fun u hu hF => ?_) (fun v53 => ?_)
  · have h14_ : v52 = (Pt b14 2) := hF.1
    clear hF
    refine doesG_un rfl ?_
    obtain rfl := h14_
    refine (does_load (u := (Fl r5)) (ev rfl) Try.isAgg24 (Cells.at (Blk.cells ((((hB16.ext E24).ext E32).ext E40).ext hu)) 2 rfl)).mono ?_; rintro _ _ ⟨rfl, rfl⟩
    exact ⟨rfl, Ext.refl _⟩
  refine RW_d _ rfl (fun v => by dsimp only [List.set]; try rfl) (fun u hu hF => ?_) (fun v54 => ?_)
  · clear hF
    refine doesG_un rfl ?_
    refine (does_fieldAddr (ev rfl) fa26_0).mono ?_; rintro _ _ ⟨rfl, rfl⟩
    exact ⟨rfl, Ext.refl _⟩
  refine RW_d _ rfl (fun v => by dsimp only [List.set]; try rfl) (fun u hu hF => ?_) (fun v55 => ?_)
  · have h16_ : v54 = (Pt b21 0) := hF.1
    clear hF
    refine doesG_un rfl ?_
    obtain rfl := h16_
    refine (does_load (u := (Fl r7)) (ev rfl) Try.isAgg24 (Cells.at (Blk.cells (((hB23.ext E32).ext E40).ext hu)) 0 rfl)).mono ?_; rintro _ _ ⟨rfl, rfl⟩
    exact ⟨rfl, Ext.refl _⟩
  refine RW_d _ rfl (fun v => by dsimp only [List.set]; try rfl) (fun u hu hF => ?_) (fun v56 => ?_)
  · clear hF
    refine doesG_un rfl ?_
    refine (does_fieldAddr (ev rfl) fa26_0).mono ?_; rintro _ _ ⟨rfl, rfl⟩
    exact ⟨rfl, Ext.refl _⟩
  refine RW_d _ rfl (fun v => by dsimp only [List.set]; try rfl) (fun u hu hF => ?_) (fun v57 => ?_)
  · have h18_ : v56 = (Pt b14 0) := hF.1
    clear hF
    refine doesG_un rfl ?_
    obtain rfl := h18_
    refine (does_load (u := (Fl r1)) (ev rfl) Try.isAgg24 (Cells.at (Blk.cells ((((hB16.ext E24).ext E32).ext E40).ext hu)) 0 rfl)).mono ?_; rintro _ _ ⟨rfl, rfl⟩
    exact ⟨rfl, Ext.refl _⟩
  refine RW_d _ rfl (fun v => by dsimp only [List.set]; try rfl) (fun u hu hF => ?_) (fun v58 => ?_)
  · clear hF
    refine doesG_un rfl ?_
    refine (does_fieldAddr (ev rfl) fa26_2).mono ?_; rintro _ _ ⟨rfl, rfl⟩
    exact ⟨rfl, Ext.refl _⟩
  refine RW_d _ rfl (fun v => by dsimp only [List.set]; try rfl) (fun u hu hF => ?_) (fun v59 => ?_)
  · have h20_ : v58 = (Pt b21 2) := hF.1
    clear hF
    refine doesG_un rfl ?_
    obtain rfl := h20_
    refine (does_load (u := (Fl r11)) (ev rfl) Try.isAgg24 (Cells.at (Blk.cells (((hB23.ext E32).ext E40).ext hu)) 2 rfl)).mono ?_; rintro _ _ ⟨rfl, rfl⟩
    exact ⟨rfl, Ext.refl _⟩
  refine RW_d _ rfl (fun v => by dsimp only [List.set]; try rfl) (fun u hu hF => ?_) (fun v60 => ?_)
  · have h15_ : v53 = (Fl r5) := hF.1
    have h17_ : v55 = (Fl r7) := hF.2.1
    have h19_ : v57 = (Fl r1) := hF.2.2.1
    have h21_ : v59 = (Fl r11) := hF.2.2.2.1
    clear hF
    refine doesG_un rfl ?_
    obtain rfl := h15_
    obtain rfl := h17_
    obtain rfl := h19_
    obtain rfl := h21_
    refine (does_call (args := #[(Fl r5), (Fl r7), (Fl r1), (Fl r11)]) cal114 (evs rfl) (c_impl_crossed r5 r7 r1 r11 _)).mono ?_; rintro v u' ⟨hx, ⟨rn1, hv, k0⟩⟩
    exact ⟨⟨rn1, hv, (by simp only [k0])⟩, hx⟩
  refine RW_d _ rfl (fun v => by dsimp only [List.set]; try rfl) (fun u hu hF => ?_) (fun v61 => ?_)
  · clear hF
    refine doesG_un rfl ?_
    refine (does_fieldAddr (ev rfl) fa26_0).mono ?_; rintro _ _ ⟨rfl, rfl⟩
    exact ⟨rfl, Ext.refl _⟩
  refine RW_d _ rfl (fun v => by dsimp only [List.set]; try rfl) (fun u hu hF => ?_) (fun v62 => ?_)
  · have h23_ : v61 = (Pt b14 0) := hF.1
    clear hF
    refine doesG_un rfl ?_
    obtain rfl := h23_
    refine (does_load (u := (Fl r1)) (ev rfl) Try.isAgg24 (Cells.at (Blk.cells ((((hB16.ext E24).ext E32).ext E40).ext hu)) 0 rfl)).mono ?_; rintro _ _ ⟨rfl, rfl⟩
    exact ⟨rfl, Ext.refl _⟩
  refine RW_d _ rfl (fun v => by dsimp only [List.set]; try rfl) (fun u hu hF => ?_) (fun v63 => ?_)
  · clear hF
    refine doesG_un rfl ?_
    refine (does_fieldAddr (ev rfl) fa26_1).mono ?_; rintro _ _ ⟨rfl, rfl⟩
    exact ⟨rfl, Ext.refl _⟩
  refine RW_d _ rfl (fun v => by dsimp only [List.set]; try rfl) (fun u hu hF => ?_) (fun v64 => ?_)
  · have h25_ : v63 = (Pt b21 1) := hF.1
    clear hF
    refine doesG_un rfl ?_
    obtain rfl := h25_
    refine (does_load (u := (Fl r9)) (ev rfl) Try.isAgg24 (Cells.at (Blk.cells (((hB23.ext E32).ext E40).ext hu)) 1 rfl)).mono ?_; rintro _ _ ⟨rfl, rfl⟩
    exact ⟨rfl, Ext.refl _⟩
  refine RW_d _ rfl (fun v => by dsimp only [List.set]; try rfl) (fun u hu hF => ?_) (fun v65 => ?_)
  · clear hF
    refine doesG_un rfl ?_
    refine (does_fieldAddr (ev rfl) fa26_1).mono ?_; rintro _ _ ⟨rfl, rfl⟩
    exact ⟨rfl, Ext.refl _⟩
  refine RW_d _ rfl (fun v => by dsimp only [List.set]; try rfl) (fun u hu hF => ?_) (fun v66 => ?_)
  · have h27_ : v65 = (Pt b14 1) := hF.1
    clear hF
    refine doesG_un rfl ?_
    obtain rfl := h27_
    refine (does_load (u := (Fl r3)) (ev rfl) Try.isAgg24 (Cells.at (Blk.cells ((((hB16.ext E24).ext E32).ext E40).ext hu)) 1 rfl)).mono ?_; rintro _ _ ⟨rfl, rfl⟩
    exact ⟨rfl, Ext.refl _⟩
  refine RW_d _ rfl (fun v => by dsimp only [List.set]; try rfl) (fun u hu hF => ?_) (fun v67 => ?_)
  · clear hF
    refine doesG_un rfl ?_
    refine (does_fieldAddr (ev rfl) fa26_0).mono ?_; rintro _ _ ⟨rfl, rfl⟩
    exact ⟨rfl, Ext.refl _⟩
  refine RW_d _ rfl (fun v => by dsimp only [List.set]; try rfl) (fun u hu hF => ?_) (fun v68 => ?_)
  · have h29_ : v67 = (Pt b21 0) := hF.1
    clear hF
    refine doesG_un rfl ?_
    obtain rfl := h29_
    refine (does_load (u := (Fl r7)) (ev rfl) Try.isAgg24 (Cells.at (Blk.cells (((hB23.ext E32).ext E40).ext hu)) 0 rfl)).mono ?_; rintro _ _ ⟨rfl, rfl⟩
    exact ⟨rfl, Ext.refl _⟩
  refine RW_d _ rfl (fun v => by dsimp only [List.set]; try rfl) (fun u hu hF => ?_) (fun v69 => ?_)
  · have h24_ : v62 = (Fl r1) := hF.1
    have h26_ : v64 = (Fl r9) := hF.2.1
    have h28_ : v66 = (Fl r3) := hF.2.2.1
    have h30_ : v68 = (Fl r7) := hF.2.2.2.1
    clear hF
    refine doesG_un rfl ?_
    obtain rfl := h24_
    obtain rfl := h26_
    obtain rfl := h28_
    obtain rfl := h30_
    refine (does_call (args := #[(Fl r1), (Fl r9), (Fl r3), (Fl r7)]) cal114 (evs rfl) (c_impl_crossed r1 r9 r3 r7 _)).mono ?_; rintro v u' ⟨hx, ⟨rn1, hv, k0⟩⟩
    exact ⟨⟨rn1, hv, (by simp only [k0])⟩, hx⟩
  refine RW_d _ rfl (fun v => by dsimp only [List.set]; try rfl) (fun u hu hF => ?_) (fun v70 => ?_)
  · have h13_ : ∃ r_1 : Nat, v51 = (Fl r_1) ∧ cf .f32 r_1 = fop .sub .f32 (fop .mul .f32 (cf .f32 r3) (cf .f32 r11)) (fop .mul .f32 (cf .f32 r5) (cf .f32 r9)) := hF.1
    have h22_ : ∃ r_1 : Nat, v60 = (Fl r_1) ∧ cf .f32 r_1 = fop .sub .f32 (fop .mul .f32 (cf .f32 r5) (cf .f32 r7)) (fop .mul .f32 (cf .f32 r1) (cf .f32 r11)) := hF.2.1
    have h31_ : ∃ r_1 : Nat, v69 = (Fl r_1) ∧ cf .f32 r_1 = fop .sub .f32 (fop .mul .f32 (cf .f32 r1) (cf .f32 r9)) (fop .mul .f32 (cf .f32 r3) (cf .f32 r7)) := hF.2.2.1
    clear hF
    refine doesG_un rfl ?_
    obtain ⟨r13_1, rfl, h13_2⟩ := h13_
    obtain ⟨r22_1, rfl, h22_2⟩ := h22_
    obtain ⟨r31_1, rfl, h31_2⟩ := h31_
    refine (does_build (parts' := [(0, (Fl r13_1)), (1, (Fl r22_1)), (2, (Fl r31_1))]) (cells := #[(Fl r13_1), (Fl r22_1), (Fl r31_1)]) (evp rfl) (by kernel_rfl)).mono ?_; rintro _ _ ⟨rfl, rfl⟩
    exact ⟨⟨r13_1, r22_1, r31_1, rfl, (by simp only [h13_2, h22_2, h31_2]), (by simp only [h13_2, h22_2, h31_2]), (by simp only [h13_2, h22_2, h31_2])⟩, Ext.refl _⟩
  refine RW_fin ?_; intro w71 E72 hP73
  obtain ⟨⟨⟨⟨⟨⟨⟨⟨⟨⟨⟨⟨⟨⟨⟨⟨⟨⟨⟨⟨⟨⟨⟨⟨⟨⟨⟨⟨-, -⟩, -⟩, -⟩, -⟩, -⟩, -⟩, -⟩, -⟩, -⟩, -⟩, -⟩, -⟩, -⟩, -⟩, -⟩, -⟩, -⟩, -⟩, -⟩, -⟩, -⟩, -⟩, -⟩, -⟩, -⟩, -⟩, -⟩, q74⟩ := hP73
  have X75 := Ext.gr X42 E72
  have q74 : ∃ r_1 : Nat, ∃ r_2 : Nat, ∃ r_3 : Nat, v70 = (.agg #[(Fl r_1), (Fl r_2), (Fl r_3)]) ∧ cf .f32 r_1 = fop .sub .f32 (fop .mul .f32 (cf .f32 r3) (cf .f32 r11)) (fop .mul .f32 (cf .f32 r5) (cf .f32 r9)) ∧ cf .f32 r_2 = fop .sub .f32 (fop .mul .f32 (cf .f32 r5) (cf .f32 r7)) (fop .mul .f32 (cf .f32 r1) (cf .f32 r11)) ∧ cf .f32 r_3 = fop .sub .f32 (fop .mul .f32 (cf .f32 r1) (cf .f32 r9)) (fop .mul .f32 (cf .f32 r3) (cf .f32 r7)) := q74
  obtain ⟨r76, r78, r80, rfl, h77, h79, h81⟩ := q74
  show wpList _ _ _ _ (fr [(.agg #[(Fl r1), (Fl r3), (Fl r5)]), (.agg #[(Fl r7), (Fl r9), (Fl r11)]), (Pt b14 0), (Pt b21 0), (Pt b29 0), v43, v44, v45, v46, v47, v48, v49, v50, v51, v52, v53, v54, v55, v56, v57, v58, v59, v60, v61, v62, v63, v64, v65, v66, v67, v68, v69, (.agg #[(Fl r76), (Fl r78), (Fl r80)])]) _
  refine seqn rfl rfl (does_store (n := 3) (cs := [(Fl 0), (Fl 0), (Fl 0)]) (u := (.agg #[(Fl r76), (Fl r78), (Fl r80)])) (ev rfl) (ev rfl) Try.sizeOf26 rfl ((hB31.ext E40).ext E72) (Nat.le_of_ble_eq_true rfl) rfl) ?_; rintro _ w84 ⟨rfl, W82, hB83⟩
  change Blk _ _ [(Fl r76), (Fl r78), (Fl r80)] at hB83
  have X85 := Below.wr X75 W82 g36
  refine wpList_nil (hK38 _ _ ?_)
  refine wp_ret ?_
  refine ret_val (v := (.agg #[(Fl r76), (Fl r78), (Fl r80)])) (res_C rfl (slot rfl) (run_loadAgg (cs := [(Fl r76), (Fl r78), (Fl r80)]) Try.isAgg26 Try.sizeOf26 (Blk.cells hB83) rfl)) X85 ?_
  have x86 : cf .f32 r76 = (crossF A_a A_b).x := by first | with_reducible rfl | (simp only [crossF, h2, h4, h6, h8, h10, h12, h77, h79, h81]; done) | (simp [crossF, h2, h4, h6, h8, h10, h12, h77, h79, h81]; done) | rfl
  have x87 : cf .f32 r78 = (crossF A_a A_b).y := by first | with_reducible rfl | (simp only [crossF, h2, h4, h6, h8, h10, h12, h77, h79, h81]; done) | (simp [crossF, h2, h4, h6, h8, h10, h12, h77, h79, h81]; done) | rfl
  have x88 : cf .f32 r80 = (crossF A_a A_b).z := by first | with_reducible rfl | (simp only [crossF, h2, h4, h6, h8, h10, h12, h77, h79, h81]; done) | (simp [crossF, h2, h4, h6, h8, h10, h12, h77, h79, h81]; done) | rfl
  exact ⟨[(Fl r76), (Fl r78), (Fl r80)], rfl, ⟨r76, r78, r80, rfl, x86, x87, x88⟩⟩

/- (*impl.Camera).axes -/
theorem c_impl_Camera_axes (c_b : Nat) (c_o : Nat) (c : List Value) (A_c : CamT) (w : World) (hc_c : Cells w c_b c_o c) (hv_c : RCamT w A_c c) : Gives Try.prog 65 #[(Pt c_b c_o)] w (fun v w' => ∃ cs_1 : List Value, ∃ cs_2 : List Value, ∃ cs_3 : List Value, v = (.tuple #[(.agg cs_1.toArray), (.agg cs_2.toArray), (.agg cs_3.toArray)]) ∧ RV3 w (rgtC A_c) cs_1 ∧ RV3 w (upC A_c) cs_2 ∧ RV3 w (fwdC A_c) cs_3) := by
  obtain ⟨r1, r3, r5, r7, r9, r11, r13, rfl, h2, h4, h6, h8, h10, h12, h14⟩ := hv_c
  refine enter [(Pt c_b c_o), Ud, Ud, Ud, Ud, Ud, Ud, Ud, Ud, Ud, Ud, Ud, Ud, Ud, Ud, Ud, Ud, Ud, Ud, Ud, Ud, Ud, Ud, Ud, Ud, Ud] Try.func65 rfl Try.ntmps65 rfl ?_
  refine wp_seq_k fun K15 hK15 => ?_
  refine wp_region_lit ?_
  refine seqd rfl rfl (does_alloc z26) ?_; rintro _ w20 ⟨b16, rfl, hb17, hB18, E19⟩
  have n21 : c_b < b16 := Nat.lt_of_lt_of_le (cell_lt (Cells.at hc_c 0 rfl)) hb17
  have g22 : w.heap.size ≤ b16 := Nat.le_trans (Below.size (Ext.refl w)) hb17
  change Blk _ _ [(Fl 0), (Fl 0), (Fl 0)] at hB18
  have X23 := Ext.gr (Ext.refl w) E19
  show wpList _ _ _ _ (fr [(Pt c_b c_o), Ud, (Pt b16 0), Ud, Ud, Ud, Ud, Ud, Ud, Ud, Ud, Ud, Ud, Ud, Ud, Ud, Ud, Ud, Ud, Ud, Ud, Ud, Ud, Ud, Ud, Ud]) _
  refine seqd rfl rfl (does_alloc z26) ?_; rintro _ w28 ⟨b24, rfl, hb25, hB26, E27⟩
  have n29 : c_b < b24 := Nat.lt_of_lt_of_le (cell_lt (Cells.at (hc_c.ext X23) 0 rfl)) hb25
  have n30 : b16 < b24 := Nat.lt_of_lt_of_le (Blk.lt hB18) hb25
  have g31 : w.heap.size ≤ b24 := Nat.le_trans (Below.size X23) hb25
  change Blk _ _ [(Fl 0), (Fl 0), (Fl 0)] at hB26
  have X32 := Ext.gr X23 E27
  show wpList _ _ _ _ (fr [(Pt c_b c_o), Ud, (Pt b16 0), (Pt b24 0), Ud, Ud, Ud, Ud, Ud, Ud, Ud, Ud, Ud, Ud, Ud, Ud, Ud, Ud, Ud, Ud, Ud, Ud, Ud, Ud, Ud, Ud]) _
  refine seqd rfl rfl (does_alloc z26) ?_; rintro _ w37 ⟨b33, rfl, hb34, hB35, E36⟩
  have n38 : c_b < b33 := Nat.lt_of_lt_of_le (cell_lt (Cells.at (hc_c.ext X32) 0 rfl)) hb34
  have n39 : b16 < b33 := Nat.lt_of_lt_of_le (Blk.lt (hB18.ext E27)) hb34
  have n40 : b24 < b33 := Nat.lt_of_lt_of_le (Blk.lt hB26) hb34
  have g41 : w.heap.size ≤ b33 := Nat.le_trans (Below.size X32) hb34
  change Blk _ _ [(Fl 0), (Fl 0), (Fl 0)] at hB35
  have X42 := Ext.gr X32 E36
  show wpList _ _ _ _ (fr [(Pt c_b c_o), Ud, (Pt b16 0), (Pt b24 0), (Pt b33 0), Ud, Ud, Ud, Ud, Ud, Ud, Ud, Ud, Ud, Ud, Ud, Ud, Ud, Ud, Ud, Ud, Ud, Ud, Ud, Ud, Ud]) _
  refine wpList_nil (hK15 _ _ ?_)
  refine wp_seq_k fun K43 hK43 => ?_
  refine region_draw (
    [Fact.pure [] (fun v => v = (Pt c_b c_o)),
    Fact.pure [7] (fun v => v = (Pt c_b c_o)),
    Fact.pure [8] (fun v => v = (Pt c_b (c_o + 3))),
    Fact.pure [9] (fun v => v = (.agg #[(Fl r7), (Fl r9), (Fl r11)])),
    Fact.pure [] (fun v => v = (Pt c_b c_o)),
    Fact.pure [11] (fun v => v = (Pt c_b c_o)),
    Fact.pure [12] (fun v => v = (Pt c_b c_o)),
    Fact.pure [13] (fun v => v = (.agg #[(Fl r1), (Fl r3), (Fl r5)])),
    Fact.pure [10, 14] (fun v => ∃ cs_1 : List Value, v = (.agg cs_1.toArray) ∧ RV3 w (vsub A_c.to A_c.frm) cs_1),
    Fact.pure [15] (fun v => ∃ cs_1 : List Value, v = (.agg cs_1.toArray) ∧ RV3 w (unitF (vsub A_c.to A_c.frm)) cs_1),
    Fact.mem [] (fun v w' => ∃ b : Nat, v = .pointer (some ⟨b, 0, none⟩) ∧ w37.heap.size ≤ b ∧ Blk w' b [(Fl 0), (Fl 0), (Fl 0)]) (by rintro v w1 w2 hx ⟨b, rfl, hb, hB⟩; exact ⟨b, rfl, hb, (hB.ext hx)⟩)]) mixed (by kernel_rfl) (by intro _ _ d _ _ h; cases d <;> exact h) ?_
  obtain ⟨w44, hw46⟩ : ∃ w', w' = World.drew w37 := ⟨_, rfl⟩; rw [← hw46]; have E45 : Ext w37 w44 := by rw [hw46]; exact Ext.draw _
  clear hw46
  have X47 := Ext.gr X42 E45
  refine RW_d _ rfl (fun v => by dsimp only [List.set]; try rfl) (fun u hu hF => ?_) (fun v48 => ?_)
  · clear hF
    refine doesG_un rfl ?_
    refine (does_move (u := (Pt c_b c_o)) (ev rfl)).mono ?_; rintro _ _ ⟨rfl, rfl⟩
    exact ⟨rfl, Ext.refl _⟩
  refine RW_d _ rfl (fun v => by dsimp only [List.set]; try rfl) (fun u hu hF => ?_) (fun v49 => ?_)
  · have h7_ : v48 = (Pt c_b c_o) := hF.1
    clear hF
    refine doesG_un rfl ?_
    obtain rfl := h7_
    refine (does_nilCheck (ev rfl)).mono ?_; rintro _ _ ⟨rfl, rfl⟩
    exact ⟨rfl, Ext.refl _⟩
  refine RW_d _ rfl (fun v => by dsimp only [List.set]; try rfl) (fun u hu hF => ?_) (fun v50 => ?_)
  · have h8_ : v49 = (Pt c_b c_o) := hF.1
    clear hF
    refine doesG_un rfl ?_
    obtain rfl := h8_
    refine (does_fieldAddr (ev rfl) fa48_1).mono ?_; rintro _ _ ⟨rfl, rfl⟩
    exact ⟨rfl, Ext.refl _⟩
  refine RW_d _ rfl (fun v => by dsimp only [List.set]; try rfl) (fun u hu hF => ?_) (fun v51 => ?_)
  · have h9_ : v50 = (Pt c_b (c_o + 3)) := hF.1
    clear hF
    refine doesG_un rfl ?_
    obtain rfl := h9_
    refine (does_loadAgg (cs := [(Fl r7), (Fl r9), (Fl r11)]) (ev rfl) Try.isAgg26 Try.sizeOf26 (Cells.sub ((hc_c.ext (Ext.gr X42 E45)).ext hu) 3 3) rfl).mono ?_; rintro _ _ ⟨rfl, rfl⟩
    exact ⟨rfl, Ext.refl _⟩
  refine RW_d _ rfl (fun v => by dsimp only [List.set]; try rfl) (fun u hu hF => ?_) (fun v52 => ?_)
  · clear hF
    refine doesG_un rfl ?_
    refine (does_move (u := (Pt c_b c_o)) (ev rfl)).mono ?_; rintro _ _ ⟨rfl, rfl⟩
    exact ⟨rfl, Ext.refl _⟩
  refine RW_d _ rfl (fun v => by dsimp only [List.set]; try rfl) (fun u hu hF => ?_) (fun v53 => ?_)
  · have h11_ : v52 = (Pt c_b c_o) := hF.1
    clear hF
    refine doesG_un rfl ?_
    obtain rfl := h11_
    refine (does_nilCheck (ev rfl)).mono ?_; rintro _ _ ⟨rfl, rfl⟩
    exact ⟨rfl, Ext.refl _⟩
  refine RW_d _ rfl (fun v => by dsimp only [List.set]; try rfl) (fun u hu hF => ?_) (fun v54 => ?_)
  · have h12_ : v53 = (Pt c_b c_o) := hF.1
    clear hF
    refine doesG_un rfl ?_
    obtain rfl := h12_
    refine (does_fieldAddr (ev rfl) fa48_0).mono ?_; rintro _ _ ⟨rfl, rfl⟩
    exact ⟨rfl, Ext.refl _⟩
  refine RW_d _ rfl (fun v => by dsimp only [List.set]; try rfl) (fun u hu hF => ?_) (fun v55 => ?_)
  · have h13_ : v54 = (Pt c_b c_o) := hF.1
    clear hF
    refine doesG_un rfl ?_
    obtain rfl := h13_
    refine (does_loadAgg (cs := [(Fl r1), (Fl r3), (Fl r5)]) (ev rfl) Try.isAgg26 Try.sizeOf26 (Cells.sub ((hc_c.ext (Ext.gr X42 E45)).ext hu) 0 3) rfl).mono ?_; rintro _ _ ⟨rfl, rfl⟩
    exact ⟨rfl, Ext.refl _⟩
  refine RW_d _ rfl (fun v => by dsimp only [List.set]; try rfl) (fun u hu hF => ?_) (fun v56 => ?_)
  · have h10_ : v51 = (.agg #[(Fl r7), (Fl r9), (Fl r11)]) := hF.1
    have h14_ : v55 = (.agg #[(Fl r1), (Fl r3), (Fl r5)]) := hF.2.1
    clear hF
    refine doesG_un rfl ?_
    obtain rfl := h10_
    obtain rfl := h14_
    refine (does_call (args := #[(.agg #[(Fl r7), (Fl r9), (Fl r11)]), (.agg #[(Fl r1), (Fl r3), (Fl r5)])]) cal91 (evs rfl) (c_impl_LessVectors [(Fl r7), (Fl r9), (Fl r11)] A_c.to [(Fl r1), (Fl r3), (Fl r5)] A_c.frm _ ⟨r7, r9, r11, rfl, h8, h10, h12⟩ ⟨r1, r3, r5, rfl, h2, h4, h6⟩)).mono ?_; rintro v u' ⟨hx, ⟨csn1, hv, k0⟩⟩
    exact ⟨⟨csn1, hv, k0⟩, hx⟩
  refine RW_d _ rfl (fun v => by dsimp only [List.set]; try rfl) (fun u hu hF => ?_) (fun v57 => ?_)
  · have h15_ : ∃ cs_1 : List Value, v56 = (.agg cs_1.toArray) ∧ RV3 w (vsub A_c.to A_c.frm) cs_1 := hF.1
    clear hF
    refine doesG_un rfl ?_
    obtain ⟨_, rfl, ⟨r15_1, r15_3, r15_5, rfl, h15_2, h15_4, h15_6⟩⟩ := h15_
    refine (does_call (args := #[(.agg #[(Fl r15_1), (Fl r15_3), (Fl r15_5)])]) cal90 (evs rfl) (c_impl_UnitOf [(Fl r15_1), (Fl r15_3), (Fl r15_5)] (vsub A_c.to A_c.frm) _ ⟨r15_1, r15_3, r15_5, rfl, (by assumption), (by assumption), (by assumption)⟩)).mono ?_; rintro v u' ⟨hx, ⟨csn1, hv, k0⟩⟩
    exact ⟨⟨csn1, hv.trans (by simp only [h15_2, h15_4, h15_6]), (by first | exact k0 | simpa only [h15_2, h15_4, h15_6] using RV3.any (w := w) k0)⟩, hx⟩
  refine RW_d _ rfl (fun v => by dsimp only [List.set]; try rfl) (fun u hu hF => ?_) (fun v58 => ?_)
  · clear hF
    refine doesG_un rfl ?_
    refine (does_alloc z26).mono ?_; rintro _ _ ⟨b, rfl, hb, hB, hx⟩
    exact ⟨⟨b, rfl, Nat.le_trans (Nat.le_trans (Below.size E45) (Below.size hu)) hb, hB⟩, hx⟩
  refine RW_fin ?_; intro w59 E60 hP61
  obtain ⟨⟨⟨⟨⟨⟨⟨⟨⟨⟨⟨-, -⟩, -⟩, -⟩, -⟩, -⟩, -⟩, -⟩, -⟩, -⟩, q62⟩, q63⟩ := hP61
  have X64 := Ext.gr X47 E60
  have q62 : ∃ cs_1 : List Value, v57 = (.agg cs_1.toArray) ∧ RV3 w (unitF (vsub A_c.to A_c.frm)) cs_1 := q62
  obtain ⟨_, rfl, ⟨r65, r67, r69, rfl, h66, h68, h70⟩⟩ := q62
  have q63 : ∃ b : Nat, v58 = .pointer (some ⟨b, 0, none⟩) ∧ w37.heap.size ≤ b ∧ Blk w59 b [(Fl 0), (Fl 0), (Fl 0)] := q63
  obtain ⟨b71, rfl, hb72, hB73⟩ := q63
  have n74 : c_b < b71 := Nat.lt_of_lt_of_le (cell_lt (Cells.at (hc_c.ext X42) 0 rfl)) hb72
  have n75 : b16 < b71 := Nat.lt_of_lt_of_le (Blk.lt ((hB18.ext E27).ext E36)) hb72
  have n76 : b24 < b71 := Nat.lt_of_lt_of_le (Blk.lt (hB26.ext E36)) hb72
  have n77 : b33 < b71 := Nat.lt_of_lt_of_le (Blk.lt hB35) hb72
  have g78 : w.heap.size ≤ b71 := Nat.le_trans (Below.size X42) hb72
  show wpList _ _ _ _ (fr [(Pt c_b c_o), Ud, (Pt b16 0), (Pt b24 0), (Pt b33 0), (Pt b71 0), Ud, v48, v49, v50, v51, v52, v53, v54, v55, v56, (.agg #[(Fl r65), (Fl r67), (Fl r69)]), Ud, Ud, Ud, Ud, Ud, Ud, Ud, Ud, Ud]) _
  refine seqn rfl rfl (does_store (n := 3) (cs := [(Fl 0), (Fl 0), (Fl 0)]) (u := (.agg #[(Fl r65), (Fl r67), (Fl r69)])) (ev rfl) (ev rfl) Try.sizeOf26 rfl hB73 (Nat.le_of_ble_eq_true rfl) rfl) ?_; rintro _ w81 ⟨rfl, W79, hB80⟩
  change Blk _ _ [(Fl r65), (Fl r67), (Fl r69)] at hB80
  have X82 := Below.wr X64 W79 g78
  refine wpList_nil (hK43 _ _ ?_)
  refine wp_seq_k fun K83 hK83 => ?_
  refine wp_region_lit ?_
  refine q_is rfl rfl (does_loadAgg (cs := [(Fl r65), (Fl r67), (Fl r69)]) (ev rfl) Try.isAgg26 Try.sizeOf26 (Blk.cells hB80) rfl) (by dsimp only [List.set]; try rfl) ?_
  refine q_is rfl rfl (does_build (parts' := [(0, (Fl 0)), (1, (Fl 1065353216)), (2, (Fl 0))]) (cells := #[(Fl 0), (Fl 1065353216), (Fl 0)]) (evp rfl) (by kernel_rfl)) (by dsimp only [List.set]; try rfl) ?_
  refine seqd rfl rfl (does_call (args := #[(.agg #[(Fl r65), (Fl r67), (Fl r69)]), (.agg #[(Fl 0), (Fl 1065353216), (Fl 0)])]) cal103 (evs rfl) (c_impl_CrossOf [(Fl r65), (Fl r67), (Fl r69)] (unitF (vsub A_c.to A_c.frm)) [(Fl 0), (Fl 1065353216), (Fl 0)] (V3.mk (cf .f32 0) (cf .f32 1065353216) (cf .f32 0)) _ ⟨r65, r67, r69, rfl, h66, h68, h70⟩ ⟨0, 1065353216, 0, rfl, rfl, rfl, rfl⟩)) ?_; rintro _ w85 ⟨E84, ⟨_, rfl, ⟨r86, r88, r90, rfl, h87, h89, h91⟩⟩⟩
  have X92 := Ext.gr X82 E84
  show wpList _ _ _ _ (fr [(Pt c_b c_o), Ud, (Pt b16 0), (Pt b24 0), (Pt b33 0), (Pt b71 0), Ud, v48, v49, v50, v51, v52, v53, v54, v55, v56, (.agg #[(Fl r65), (Fl r67), (Fl r69)]), (.agg #[(Fl r65), (Fl r67), (Fl r69)]), (.agg #[(Fl 0), (Fl 1065353216), (Fl 0)]), (.agg #[(Fl r86), (Fl r88), (Fl r90)]), Ud, Ud, Ud, Ud, Ud, Ud]) _
  refine seqd rfl rfl (does_call (args := #[(.agg #[(Fl r86), (Fl r88), (Fl r90)])]) cal90 (evs rfl) (c_impl_UnitOf [(Fl r86), (Fl r88), (Fl r90)] (crossF (unitF (vsub A_c.to A_c.frm)) (V3.mk (cf .f32 0) (cf .f32 1065353216) (cf .f32 0))) _ ⟨r86, r88, r90, rfl, h87, h89, h91⟩)) ?_; rintro _ w94 ⟨E93, ⟨_, rfl, ⟨r95, r97, r99, rfl, h96, h98, h100⟩⟩⟩
  have X101 := Ext.gr X92 E93
  show wpList _ _ _ _ (fr [(Pt c_b c_o), Ud, (Pt b16 0), (Pt b24 0), (Pt b33 0), (Pt b71 0), Ud, v48, v49, v50, v51, v52, v53, v54, v55, v56, (.agg #[(Fl r65), (Fl r67), (Fl r69)]), (.agg #[(Fl r65), (Fl r67), (Fl r69)]), (.agg #[(Fl 0), (Fl 1065353216), (Fl 0)]), (.agg #[(Fl r86), (Fl r88), (Fl r90)]), (.agg #[(Fl r95), (Fl r97), (Fl r99)]), Ud, Ud, Ud, Ud, Ud]) _
  refine seqd rfl rfl (does_alloc z26) ?_; rintro _ w106 ⟨b102, rfl, hb103, hB104, E105⟩
  have n107 : c_b < b102 := Nat.lt_of_lt_of_le (cell_lt (Cells.at (hc_c.ext X101) 0 rfl)) hb103
  have n108 : b16 < b102 := Nat.lt_of_lt_of_le (Blk.lt (((((((hB18.ext E27).ext E36).ext E45).ext E60).wr W79 (Nat.ne_of_lt n75)).ext E84).ext E93)) hb103
  have n109 : b24 < b102 := Nat.lt_of_lt_of_le (Blk.lt ((((((hB26.ext E36).ext E45).ext E60).wr W79 (Nat.ne_of_lt n76)).ext E84).ext E93)) hb103
  have n110 : b33 < b102 := Nat.lt_of_lt_of_le (Blk.lt (((((hB35.ext E45).ext E60).wr W79 (Nat.ne_of_lt n77)).ext E84).ext E93)) hb103
  have n111 : b71 < b102 := Nat.lt_of_lt_of_le (Blk.lt ((hB80.ext E84).ext E93)) hb103
  have g112 : w.heap.size ≤ b102 := Nat.le_trans (Below.size X101) hb103
  change Blk _ _ [(Fl 0), (Fl 0), (Fl 0)] at hB104
  have X113 := Ext.gr X101 E105
  show wpList _ _ _ _ (fr [(Pt c_b c_o), Ud, (Pt b16 0), (Pt b24 0), (Pt b33 0), (Pt b71 0), (Pt b102 0), v48, v49, v50, v51, v52, v53, v54, v55, v56, (.agg #[(Fl r65), (Fl r67), (Fl r69)]), (.agg #[(Fl r65), (Fl r67), (Fl r69)]), (.agg #[(Fl 0), (Fl 1065353216), (Fl 0)]), (.agg #[(Fl r86), (Fl r88), (Fl r90)]), (.agg #[(Fl r95), (Fl r97), (Fl r99)]), Ud, Ud, Ud, Ud, Ud]) _
  refine seqn rfl rfl (does_store (n := 3) (cs := [(Fl 0), (Fl 0), (Fl 0)]) (u := (.agg #[(Fl r95), (Fl r97), (Fl r99)])) (ev rfl) (ev rfl) Try.sizeOf26 rfl hB104 (Nat.le_of_ble_eq_true rfl) rfl) ?_; rintro _ w116 ⟨rfl, W114, hB115⟩
  change Blk _ _ [(Fl r95), (Fl r97), (Fl r99)] at hB115
  have X117 := Below.wr X113 W114 g112
  refine wpList_nil (hK83 _ _ ?_)
  refine wp_seq_k fun K118 hK118 => ?_
  have n122 : b16 < w116.heap.size := Blk.lt (((((((((hB18.ext E27).ext E36).ext E45).ext E60).wr W79 (Nat.ne_of_lt n75)).ext E84).ext E93).ext E105).wr W114 (Nat.ne_of_lt n108))
  have n123 : b24 < w116.heap.size := Blk.lt ((((((((hB26.ext E36).ext E45).ext E60).wr W79 (Nat.ne_of_lt n76)).ext E84).ext E93).ext E105).wr W114 (Nat.ne_of_lt n109))
  refine region_any2 [b16, b24] [0, 0, 0, 6, 0, 15, 47, 127] [0, 1] (
    [FactW.pure [] [] [0, 1] true (fun v => v = (.agg #[(Fl r95), (Fl r97), (Fl r99)])),
      FactW.pure [] [] [0, 1] true (fun v => v = (.agg #[(Fl r95), (Fl r97), (Fl r99)])),
      FactW.pure [] [] [0, 1] true (fun v => v = (.agg #[(Fl r65), (Fl r67), (Fl r69)])),
      FactW.pure [1, 2] [] [0, 1] true (fun v => ∃ cs_1 : List Value, v = (.agg cs_1.toArray) ∧ RV3 w (crossF (unitF (crossF (unitF (vsub A_c.to A_c.frm)) (V3.mk (cf .f32 0) (cf .f32 1065353216) (cf .f32 0)))) (unitF (vsub A_c.to A_c.frm))) cs_1),
      FactW.pure [] [0, 1] [0, 1] true (fun v => v = (.agg #[(Fl r65), (Fl r67), (Fl r69)])),
      FactW.mem [0] [] [0] [1] true (fun v w' => v = undef ∧ Blk w' b16 [(Fl r95), (Fl r97), (Fl r99)]) (by rintro v w1 w2 hx ⟨rfl, h⟩; exact ⟨rfl, h.kl hx (ninS (Nat.ne_of_lt n30) nin0)⟩),
      FactW.mem [5, 3] [0] [1] [0] true (fun v w' => v = undef ∧ ∃ r_1 : Nat, ∃ r_2 : Nat, ∃ r_3 : Nat, Blk w' b24 [(Fl r_1), (Fl r_2), (Fl r_3)] ∧ cf .f32 r_1 = (crossF (unitF (crossF (unitF (vsub A_c.to A_c.frm)) (V3.mk (cf .f32 0) (cf .f32 1065353216) (cf .f32 0)))) (unitF (vsub A_c.to A_c.frm))).x ∧ cf .f32 r_2 = (crossF (unitF (crossF (unitF (vsub A_c.to A_c.frm)) (V3.mk (cf .f32 0) (cf .f32 1065353216) (cf .f32 0)))) (unitF (vsub A_c.to A_c.frm))).y ∧ cf .f32 r_3 = (crossF (unitF (crossF (unitF (vsub A_c.to A_c.frm)) (V3.mk (cf .f32 0) (cf .f32 1065353216) (cf .f32 0)))) (unitF (vsub A_c.to A_c.frm))).z) (by rintro v w1 w2 hx ⟨rfl, z0, z1, z2, h, k0, k1, k2⟩; exact ⟨rfl, z0, z1, z2, h.kl hx (ninS (Nat.ne_of_gt n30) nin0), k0, k1, k2⟩)]) mixed (by kernel_rfl) ?_
  obtain ⟨w119, hw121⟩ : ∃ w', w' = World.drew w116 := ⟨_, rfl⟩; rw [← hw121]; have E120 : Ext w116 w119 := by rw [hw121]; exact Ext.draw _
  clear hw121
  have X124 := Ext.gr X117 E120
  refine RW2_d _ rfl (fun v => by dsimp only [List.set]; try rfl) (fun u hu hF => ?_) (fun v125 => ?_)
  · replace hu : KpL [] _ _ := hu
    clear hF
    refine doesG_un rfl ?_
    refine (does_loadAgg (cs := [(Fl r95), (Fl r97), (Fl r99)]) (ev rfl) Try.isAgg26 Try.sizeOf26 (Blk.cells ((hB115.ext E120).ext (KpL.toExt hu))) rfl).mono ?_; rintro _ _ ⟨rfl, rfl⟩
    exact ⟨rfl, KpL.refl _ _⟩
  refine RW2_d _ rfl (fun v => by dsimp only [List.set]; try rfl) (fun u hu hF => ?_) (fun v126 => ?_)
  · replace hu : KpL [] _ _ := hu
    clear hF
    refine doesG_un rfl ?_
    refine (does_loadAgg (cs := [(Fl r95), (Fl r97), (Fl r99)]) (ev rfl) Try.isAgg26 Try.sizeOf26 (Blk.cells ((hB115.ext E120).ext (KpL.toExt hu))) rfl).mono ?_; rintro _ _ ⟨rfl, rfl⟩
    exact ⟨rfl, KpL.refl _ _⟩
  refine RW2_d _ rfl (fun v => by dsimp only [List.set]; try rfl) (fun u hu hF => ?_) (fun v127 => ?_)
  · replace hu : KpL [] _ _ := hu
    clear hF
    refine doesG_un rfl ?_
    refine (does_loadAgg (cs := [(Fl r65), (Fl r67), (Fl r69)]) (ev rfl) Try.isAgg26 Try.sizeOf26 (Blk.cells ((((((hB80.ext E84).ext E93).ext E105).wr W114 (Nat.ne_of_lt n111)).ext E120).ext (KpL.toExt hu))) rfl).mono ?_; rintro _ _ ⟨rfl, rfl⟩
    exact ⟨rfl, KpL.refl _ _⟩
  refine RW2_d _ rfl (fun v => by dsimp only [List.set]; try rfl) (fun u hu hF => ?_) (fun v128 => ?_)
  · replace hu : KpL [] _ _ := hu
    have h22_ : v126 = (.agg #[(Fl r95), (Fl r97), (Fl r99)]) := hF.1
    have h23_ : v127 = (.agg #[(Fl r65), (Fl r67), (Fl r69)]) := hF.2.1
    clear hF
    refine doesG_un rfl ?_
    obtain rfl := h22_
    obtain rfl := h23_
    refine (does_call (args := #[(.agg #[(Fl r95), (Fl r97), (Fl r99)]), (.agg #[(Fl r65), (Fl r67), (Fl r69)])]) cal103 (evs rfl) (c_impl_CrossOf [(Fl r95), (Fl r97), (Fl r99)] (unitF (crossF (unitF (vsub A_c.to A_c.frm)) (V3.mk (cf .f32 0) (cf .f32 1065353216) (cf .f32 0)))) [(Fl r65), (Fl r67), (Fl r69)] (unitF (vsub A_c.to A_c.frm)) _ ⟨r95, r97, r99, rfl, h96, h98, h100⟩ ⟨r65, r67, r69, rfl, h66, h68, h70⟩)).mono ?_; rintro v u' ⟨hx, ⟨csn1, hv, k0⟩⟩
    exact ⟨⟨csn1, hv, k0⟩, (KpL.of_ext hx)⟩
  refine RW2_d _ rfl (fun v => by dsimp only [List.set]; try rfl) (fun u hu hF => ?_) (fun v129 => ?_)
  · replace hu : KpL [b16, b24] _ _ := hu
    clear hF
    refine doesG_un rfl ?_
    refine (does_loadAgg (cs := [(Fl r65), (Fl r67), (Fl r69)]) (ev rfl) Try.isAgg26 Try.sizeOf26 (Blk.cells ((((((hB80.ext E84).ext E93).ext E105).wr W114 (Nat.ne_of_lt n111)).ext E120).kl hu (ninS (Nat.ne_of_gt n75) (ninS (Nat.ne_of_gt n76) nin0)))) rfl).mono ?_; rintro _ _ ⟨rfl, rfl⟩
    exact ⟨rfl, KpL.refl _ _⟩
  refine RW2_n rfl (fun u hu hF => ?_) (fun v130 => ?_)
  · replace hu : KpL [] _ _ := hu
    have h21_ : v125 = (.agg #[(Fl r95), (Fl r97), (Fl r99)]) := hF.1
    clear hF
    refine doesG_un rfl ?_
    obtain rfl := h21_
    refine (does_store (n := 3) (cs := [(Fl 0), (Fl 0), (Fl 0)]) (u := (.agg #[(Fl r95), (Fl r97), (Fl r99)])) (ev rfl) (ev rfl) Try.sizeOf26 rfl (((((((((((hB18.ext E27).ext E36).ext E45).ext E60).wr W79 (Nat.ne_of_lt n75)).ext E84).ext E93).ext E105).wr W114 (Nat.ne_of_lt n108)).ext E120).ext (KpL.toExt hu)) (Nat.le_of_ble_eq_true rfl) rfl).mono ?_; rintro _ _ ⟨rfl, hW, hB⟩
    exact ⟨⟨rfl, hB⟩, KpL.of_wr hW⟩
  refine RW2_n rfl (fun u hu hF => ?_) (fun v131 => ?_)
  · replace hu : KpL [b16] _ _ := hu
    obtain ⟨_, hs5_⟩ := hF.1
    have h24_ : ∃ cs_1 : List Value, v128 = (.agg cs_1.toArray) ∧ RV3 w (crossF (unitF (crossF (unitF (vsub A_c.to A_c.frm)) (V3.mk (cf .f32 0) (cf .f32 1065353216) (cf .f32 0)))) (unitF (vsub A_c.to A_c.frm))) cs_1 := hF.2.1
    clear hF
    refine doesG_un rfl ?_
    obtain ⟨_, rfl, ⟨r24_1, r24_3, r24_5, rfl, h24_2, h24_4, h24_6⟩⟩ := h24_
    refine (does_store (n := 3) (cs := [(Fl 0), (Fl 0), (Fl 0)]) (u := (.agg #[(Fl r24_1), (Fl r24_3), (Fl r24_5)])) (ev rfl) (ev rfl) Try.sizeOf26 rfl ((((((((((hB26.ext E36).ext E45).ext E60).wr W79 (Nat.ne_of_lt n76)).ext E84).ext E93).ext E105).wr W114 (Nat.ne_of_lt n109)).ext E120).kl hu (ninS (Nat.ne_of_gt n30) nin0)) (Nat.le_of_ble_eq_true rfl) rfl).mono ?_; rintro _ _ ⟨rfl, hW, hB⟩
    exact ⟨⟨rfl, r24_1, r24_3, r24_5, hB, (by simp only [h24_2, h24_4, h24_6]), (by simp only [h24_2, h24_4, h24_6]), (by simp only [h24_2, h24_4, h24_6])⟩, KpL.of_wr hW⟩
  refine RW2_fin ?_; intro w132 E133 hP134; replace E133 : KpL [b16, b24] _ _ := E133
  obtain ⟨⟨⟨⟨⟨⟨⟨-, -⟩, -⟩, -⟩, -⟩, q135⟩, q136⟩, q137⟩ := hP134
  have X138 := Below.kl X124 E133 (allS g22 (allS g31 all0)) (Nat.le_refl _)
  obtain ⟨_, hB139⟩ := q136 rfl
  change Blk _ _ [(Fl r95), (Fl r97), (Fl r99)] at hB139
  obtain ⟨_, r141, r142, r143, hB140, h144, h145, h146⟩ := q137 rfl
  change Blk _ _ [(Fl r141), (Fl r142), (Fl r143)] at hB140
  have q135 : v129 = (.agg #[(Fl r65), (Fl r67), (Fl r69)]) := q135 rfl
  obtain rfl := q135
  show wpList _ _ _ _ (fr [(Pt c_b c_o), Ud, (Pt b16 0), (Pt b24 0), (Pt b33 0), (Pt b71 0), (Pt b102 0), v48, v49, v50, v51, v52, v53, v54, v55, v56, (.agg #[(Fl r65), (Fl r67), (Fl r69)]), (.agg #[(Fl r65), (Fl r67), (Fl r69)]), (.agg #[(Fl 0), (Fl 1065353216), (Fl 0)]), (.agg #[(Fl r86), (Fl r88), (Fl r90)]), (.agg #[(Fl r95), (Fl r97), (Fl r99)]), v125, v126, v127, v128, (.agg #[(Fl r65), (Fl r67), (Fl r69)])]) _
  refine seqn rfl rfl (does_store (n := 3) (cs := [(Fl 0), (Fl 0), (Fl 0)]) (u := (.agg #[(Fl r65), (Fl r67), (Fl r69)])) (ev rfl) (ev rfl) Try.sizeOf26 rfl (((((((((hB35.ext E45).ext E60).wr W79 (Nat.ne_of_lt n77)).ext E84).ext E93).ext E105).wr W114 (Nat.ne_of_lt n110)).ext E120).kl E133 (ninS (Nat.ne_of_gt n39) (ninS (Nat.ne_of_gt n40) nin0))) (Nat.le_of_ble_eq_true rfl) rfl) ?_; rintro _ w149 ⟨rfl, W147, hB148⟩
  change Blk _ _ [(Fl r65), (Fl r67), (Fl r69)] at hB148
  have X150 := Below.wr X138 W147 g41
  refine wpList_nil (hK118 _ _ ?_)
  refine wp_ret ?_
  refine ret_val (v := (.tuple #[(.agg #[(Fl r95), (Fl r97), (Fl r99)]), (.agg #[(Fl r141), (Fl r142), (Fl r143)]), (.agg #[(Fl r65), (Fl r67), (Fl r69)])])) (res_CCC rfl (slot rfl) (run_loadAgg (cs := [(Fl r95), (Fl r97), (Fl r99)]) Try.isAgg26 Try.sizeOf26 (Blk.cells (hB139.wr W147 (Nat.ne_of_lt n39))) rfl) (slot rfl) (run_loadAgg (cs := [(Fl r141), (Fl r142), (Fl r143)]) Try.isAgg26 Try.sizeOf26 (Blk.cells (hB140.wr W147 (Nat.ne_of_lt n40))) rfl) (slot rfl) (run_loadAgg (cs := [(Fl r65), (Fl r67), (Fl r69)]) Try.isAgg26 Try.sizeOf26 (Blk.cells hB148) rfl)) X150 ?_
  have x151 : cf .f32 r95 = (rgtC A_c).x := by first | with_reducible rfl | (simp only [rgtC, upC, fwdC, h2, h4, h6, h8, h10, h12, h14, h66, h68, h70, h87, h89, h91, h96, h98, h100, h144, h145, h146]; done) | (simp [rgtC, upC, fwdC, h2, h4, h6, h8, h10, h12, h14, h66, h68, h70, h87, h89, h91, h96, h98, h100, h144, h145, h146]; done) | rfl
  have x152 : cf .f32 r97 = (rgtC A_c).y := by first | with_reducible rfl | (simp only [rgtC, upC, fwdC, h2, h4, h6, h8, h10, h12, h14, h66, h68, h70, h87, h89, h91, h96, h98, h100, h144, h145, h146]; done) | (simp [rgtC, upC, fwdC, h2, h4, h6, h8, h10, h12, h14, h66, h68, h70, h87, h89, h91, h96, h98, h100, h144, h145, h146]; done) | rfl
  have x153 : cf .f32 r99 = (rgtC A_c).z := by first | with_reducible rfl | (simp only [rgtC, upC, fwdC, h2, h4, h6, h8, h10, h12, h14, h66, h68, h70, h87, h89, h91, h96, h98, h100, h144, h145, h146]; done) | (simp [rgtC, upC, fwdC, h2, h4, h6, h8, h10, h12, h14, h66, h68, h70, h87, h89, h91, h96, h98, h100, h144, h145, h146]; done) | rfl
  have x154 : cf .f32 r141 = (upC A_c).x := by first | with_reducible rfl | (simp only [rgtC, upC, fwdC, h2, h4, h6, h8, h10, h12, h14, h66, h68, h70, h87, h89, h91, h96, h98, h100, h144, h145, h146]; done) | (simp [rgtC, upC, fwdC, h2, h4, h6, h8, h10, h12, h14, h66, h68, h70, h87, h89, h91, h96, h98, h100, h144, h145, h146]; done) | rfl
  have x155 : cf .f32 r142 = (upC A_c).y := by first | with_reducible rfl | (simp only [rgtC, upC, fwdC, h2, h4, h6, h8, h10, h12, h14, h66, h68, h70, h87, h89, h91, h96, h98, h100, h144, h145, h146]; done) | (simp [rgtC, upC, fwdC, h2, h4, h6, h8, h10, h12, h14, h66, h68, h70, h87, h89, h91, h96, h98, h100, h144, h145, h146]; done) | rfl
  have x156 : cf .f32 r143 = (upC A_c).z := by first | with_reducible rfl | (simp only [rgtC, upC, fwdC, h2, h4, h6, h8, h10, h12, h14, h66, h68, h70, h87, h89, h91, h96, h98, h100, h144, h145, h146]; done) | (simp [rgtC, upC, fwdC, h2, h4, h6, h8, h10, h12, h14, h66, h68, h70, h87, h89, h91, h96, h98, h100, h144, h145, h146]; done) | rfl
  have x157 : cf .f32 r65 = (fwdC A_c).x := by first | with_reducible rfl | (simp only [rgtC, upC, fwdC, h2, h4, h6, h8, h10, h12, h14, h66, h68, h70, h87, h89, h91, h96, h98, h100, h144, h145, h146]; done) | (simp [rgtC, upC, fwdC, h2, h4, h6, h8, h10, h12, h14, h66, h68, h70, h87, h89, h91, h96, h98, h100, h144, h145, h146]; done) | rfl
  have x158 : cf .f32 r67 = (fwdC A_c).y := by first | with_reducible rfl | (simp only [rgtC, upC, fwdC, h2, h4, h6, h8, h10, h12, h14, h66, h68, h70, h87, h89, h91, h96, h98, h100, h144, h145, h146]; done) | (simp [rgtC, upC, fwdC, h2, h4, h6, h8, h10, h12, h14, h66, h68, h70, h87, h89, h91, h96, h98, h100, h144, h145, h146]; done) | rfl
  have x159 : cf .f32 r69 = (fwdC A_c).z := by first | with_reducible rfl | (simp only [rgtC, upC, fwdC, h2, h4, h6, h8, h10, h12, h14, h66, h68, h70, h87, h89, h91, h96, h98, h100, h144, h145, h146]; done) | (simp [rgtC, upC, fwdC, h2, h4, h6, h8, h10, h12, h14, h66, h68, h70, h87, h89, h91, h96, h98, h100, h144, h145, h146]; done) | rfl
  exact ⟨[(Fl r95), (Fl r97), (Fl r99)], [(Fl r141), (Fl r142), (Fl r143)], [(Fl r65), (Fl r67), (Fl r69)], rfl, ⟨r95, r97, r99, rfl, x151, x152, x153⟩, ⟨r141, r142, r143, rfl, x154, x155, x156⟩, ⟨r65, r67, r69, rfl, x157, x158, x159⟩⟩

/- impl.stepOk -/
theorem c_impl_stepOk (x : Nat) (w : World) : Gives Try.prog 66 #[(Fl x)] w (fun v w' => v = (Bo (finF (cf .f32 x) && posF (cf .f32 x)))) := by
  refine enter [(Fl x), Ud, Ud, Ud, Ud, Ud, Ud, Ud, Ud] Try.func66 rfl Try.ntmps66 rfl ?_
  refine wp_seq_k fun K1 hK1 => ?_
  refine wp_region_lit ?_
  refine q_is (l' := [(Fl x), Ud, (Bo false), Ud, Ud, Ud, Ud, Ud, Ud]) rfl rfl (does_assign (u := (Bo false)) (ev rfl)) rfl ?_
  refine wpList_nil (hK1 _ _ ?_)
  refine wp_seq_k fun K2 hK2 => ?_
  obtain ⟨β1, hβ1⟩ : ∃ b : Bool, b = (fcmp .gtr (ford .f32 (cf .f32 x) (cf .f32 0))) := ⟨_, rfl⟩
  refine region_text (
    [Fact.pure [] (fun v => v = (Fl x)),
    Fact.pure [3] (fun v => v = (Bo (finF (cf .f32 x)))),
    Fact.pure [4] (fun v => v = (Bo (finF (cf .f32 x)))),
    Fact.pure [5] (fun v => (finF (cf .f32 x)) = true → v = (Fl x)),
    Fact.pure [6, 5] (fun v => (finF (cf .f32 x)) = true → v = (Bo β1)),
    Fact.pure [5, 7] (fun v => v = (Bo ((finF (cf .f32 x)) && β1)))]) (by simp [Fact.pure, Fact.mem]) ?_
  refine RW_d (fun v3 => [(Fl x), Ud, (Bo false), v3, Ud, Ud, Ud, Ud, Ud]) rfl (fun _ => rfl) (fun u hu hF => ?_) (fun v3 => ?_)
  · clear hF
    refine doesG_un rfl ?_
    refine (does_move (u := (Fl x)) (ev rfl)).mono ?_; rintro _ _ ⟨rfl, rfl⟩
    exact ⟨rfl, Ext.refl _⟩
  refine RW_d (fun v4 => [(Fl x), Ud, (Bo false), v3, v4, Ud, Ud, Ud, Ud]) rfl (fun _ => rfl) (fun u hu hF => ?_) (fun v4 => ?_)
  · have h3_ : v3 = (Fl x) := hF.1
    clear hF
    refine doesG_un rfl ?_
    obtain rfl := h3_
    refine (does_call (args := #[(Fl x)]) cal104 (evs rfl) (c_impl_IsFinite x _)).mono ?_; rintro v u' ⟨hx, hv⟩
    exact ⟨hv, hx⟩
  refine RW_d (fun v5 => [(Fl x), Ud, (Bo false), v3, v4, v5, Ud, Ud, Ud]) rfl (fun _ => rfl) (fun u hu hF => ?_) (fun v5 => ?_)
  · have h4_ : v4 = (Bo (finF (cf .f32 x))) := hF.1
    clear hF
    refine doesG_un rfl ?_
    obtain rfl := h4_
    refine (does_move (u := (Bo (finF (cf .f32 x)))) (ev rfl)).mono ?_; rintro _ _ ⟨rfl, rfl⟩
    exact ⟨rfl, Ext.refl _⟩
  refine RW_d (fun v6 => [(Fl x), Ud, (Bo false), v3, v4, v5, v6, Ud, Ud]) rfl (fun _ => rfl) (fun u hu hF => ?_) (fun v6 => ?_)
  · have h5_ : v5 = (Bo (finF (cf .f32 x))) := hF.1
    clear hF
    obtain rfl := h5_
    refine doesG_g (b := (finF (cf .f32 x))) rfl (yld rfl rfl) (fun hg1 => ?_) (fun hc => ⟨fun hg1 => absurd hg1 hc, Ext.refl _⟩)
    refine (does_move (u := (Fl x)) (ev rfl)).mono ?_; rintro _ _ ⟨rfl, rfl⟩
    exact ⟨fun _ => rfl, Ext.refl _⟩
  refine RW_d (fun v7 => [(Fl x), Ud, (Bo false), v3, v4, v5, v6, v7, Ud]) rfl (fun _ => rfl) (fun u hu hF => ?_) (fun v7 => ?_)
  · have h6_ : (finF (cf .f32 x)) = true → v6 = (Fl x) := hF.1
    have h5_ : v5 = (Bo (finF (cf .f32 x))) := hF.2.1
    clear hF
    obtain rfl := h5_
    refine doesG_g (b := (finF (cf .f32 x))) rfl (yld rfl rfl) (fun hg1 => ?_) (fun hc => ⟨fun hg1 => absurd hg1 hc, Ext.refl _⟩)
    obtain rfl := h6_ hg1
    refine (does_fcmp (.inr (.inr (.inr (.inr (.inl rfl))))) (ev rfl) (ev rfl)).mono ?_; rintro _ _ ⟨rfl, rfl⟩
    exact ⟨fun _ => (by first | rfl | (show _ = _; simp only [hβ1])), Ext.refl _⟩
  refine RW_d (fun v8 => [(Fl x), Ud, (Bo false), v3, v4, v5, v6, v7, v8]) rfl (fun _ => rfl) (fun u hu hF => ?_) (fun v8 => ?_)
  · have h5_ : v5 = (Bo (finF (cf .f32 x))) := hF.1
    have h7_ : (finF (cf .f32 x)) = true → v7 = (Bo β1) := hF.2.1
    clear hF
    refine doesG_un rfl ?_
    skip
    obtain rfl := h5_
    refine (does_pick (b := (finF (cf .f32 x))) (ev rfl) (ev rfl) (ev rfl)).mono ?_; rintro _ _ ⟨rfl, rfl⟩; refine ⟨?_, Ext.refl _⟩; skip
    cases hbb : (finF (cf .f32 x)) <;> simp [hbb] at h7_ ⊢
    all_goals (first | rfl | (subst h7_; rfl) | simp_all)
  refine RW_fin ?_; intro w9 E10 hP11
  obtain ⟨⟨⟨⟨⟨⟨-, -⟩, -⟩, -⟩, -⟩, -⟩, q12⟩ := hP11
  have X13 := Ext.gr (Ext.refl w) E10
  have q12 : v8 = (Bo ((finF (cf .f32 x)) && β1)) := q12
  obtain rfl := q12
  show wpList _ _ _ _ (fr [(Fl x), Ud, (Bo false), v3, v4, v5, v6, v7, (Bo ((finF (cf .f32 x)) && β1))]) _
  refine q_is (l' := [(Fl x), Ud, (Bo ((finF (cf .f32 x)) && β1)), v3, v4, v5, v6, v7, (Bo ((finF (cf .f32 x)) && β1))]) rfl rfl (does_assign (u := (Bo ((finF (cf .f32 x)) && β1))) (ev rfl)) rfl ?_
  refine wpList_nil (hK2 _ _ ?_)
  refine wp_ret ?_
  refine ret_val (v := (Bo ((finF (cf .f32 x)) && β1))) (res_T rfl (slot rfl)) X13 ?_
  have x14 : (finF (cf .f32 x) && posF (cf .f32 x)) = ((finF (cf .f32 x)) && β1) := by first | with_reducible rfl | (simp only [posF, hβ1]; done) | (simp [posF, hβ1]; done) | rfl
  exact (by first | rfl | rw [x14])

/- impl.isZero -/
theorem c_impl_isZero (v : List Value) (A_v : V3) (w : World) (hv_v : RV3 w A_v v) : Gives Try.prog 67 #[(.agg v.toArray)] w (fun v w' => v = (Bo (zeroV A_v))) := by
  obtain ⟨r1, r3, r5, rfl, h2, h4, h6⟩ := hv_v
  refine enter [(.agg #[(Fl r1), (Fl r3), (Fl r5)]), Ud, Ud, Ud, Ud, Ud, Ud, Ud, Ud, Ud, Ud, Ud, Ud, Ud, Ud, Ud] Try.func67 rfl Try.ntmps67 rfl ?_
  refine wp_seq_k fun K7 hK7 => ?_
  refine wp_region_lit ?_
  refine seqd rfl rfl (does_box (u := (.agg #[(Fl r1), (Fl r3), (Fl r5)])) (ev rfl)) ?_; rintro _ w12 ⟨b8, rfl, hb9, hB10, E11⟩
  have g13 : w.heap.size ≤ b8 := Nat.le_trans (Below.size (Ext.refl w)) hb9
  change Blk _ _ [(Fl r1), (Fl r3), (Fl r5)] at hB10
  have X14 := Ext.gr (Ext.refl w) E11
  show wpList _ _ _ _ (fr [(.agg #[(Fl r1), (Fl r3), (Fl r5)]), (Pt b8 0), Ud, Ud, Ud, Ud, Ud, Ud, Ud, Ud, Ud, Ud, Ud, Ud, Ud, Ud]) _
  refine q_is (l' := [(.agg #[(Fl r1), (Fl r3), (Fl r5)]), (Pt b8 0), (Bo false), Ud, Ud, Ud, Ud, Ud, Ud, Ud, Ud, Ud, Ud, Ud, Ud, Ud]) rfl rfl (does_assign (u := (Bo false)) (ev rfl)) rfl ?_
  refine wpList_nil (hK7 _ _ ?_)
  refine wp_seq_k fun K15 hK15 => ?_
  obtain ⟨β1, hβ1⟩ : ∃ b : Bool, b = (fcmp .eql (ford .f32 (cf .f32 r1) (cf .f32 0))) := ⟨_, rfl⟩
  obtain ⟨β2, hβ2⟩ : ∃ b : Bool, b = (fcmp .eql (ford .f32 (cf .f32 r3) (cf .f32 0))) := ⟨_, rfl⟩
  obtain ⟨β3, hβ3⟩ : ∃ b : Bool, b = (fcmp .eql (ford .f32 (cf .f32 r5) (cf .f32 0))) := ⟨_, rfl⟩
  refine region_text (
    [Fact.pure [] (fun v => v = (Pt b8 0)),
    Fact.pure [3] (fun v => v = (Fl r1)),
    Fact.pure [4] (fun v => v = (Bo β1)),
    Fact.pure [5] (fun v => v = (Bo β1)),
    Fact.pure [6] (fun v => β1 = true → v = (Pt b8 1)),
    Fact.pure [7, 6] (fun v => β1 = true → v = (Fl r3)),
    Fact.pure [8, 6] (fun v => β1 = true → v = (Bo β2)),
    Fact.pure [6, 9] (fun v => v = (Bo (β1 && β2))),
    Fact.pure [10] (fun v => v = (Bo (β1 && β2))),
    Fact.pure [11] (fun v => (β1 && β2) = true → v = (Pt b8 2)),
    Fact.pure [12, 11] (fun v => (β1 && β2) = true → v = (Fl r5)),
    Fact.pure [13, 11] (fun v => (β1 && β2) = true → v = (Bo β3)),
    Fact.pure [11, 14] (fun v => v = (Bo ((β1 && β2) && β3)))]) (by simp [Fact.pure, Fact.mem]) ?_
  refine RW_d (fun v16 => [(.agg #[(Fl r1), (Fl r3), (Fl r5)]), (Pt b8 0), (Bo false), v16, Ud, Ud, Ud, Ud, Ud, Ud, Ud, Ud, Ud, Ud, Ud, Ud]) rfl (fun _ => rfl) (fun u hu hF => ?_) (fun v16 => ?_)
  · clear hF
    refine doesG_un rfl ?_
    refine (does_fieldAddr (ev rfl) fa26_0).mono ?_; rintro _ _ ⟨rfl, rfl⟩
    exact ⟨rfl, Ext.refl _⟩
  refine RW_d (fun v17 => [(.agg #[(Fl r1), (Fl r3), (Fl r5)]), (Pt b8 0), (Bo false), v16, v17, Ud, Ud, Ud, Ud, Ud, Ud, Ud, Ud, Ud, Ud, Ud]) rfl (fun _ => rfl) (fun u hu hF => ?_) (fun v17 => ?_)
  · have h3_ : v16 = (Pt b8 0) := hF.1
    clear hF
    refine doesG_un rfl ?_
    obtain rfl := h3_
    refine (does_load (u := (Fl r1)) (ev rfl) Try.isAgg24 (Cells.at (Blk.cells (hB10.ext hu)) 0 rfl)).mono ?_; rintro _ _ ⟨rfl, rfl⟩
    exact ⟨rfl, Ext.refl _⟩
  refine RW_d (fun v18 => [(.agg #[(Fl r1), (Fl r3), (Fl r5)]), (Pt b8 0), (Bo false), v16, v17, v18, Ud, Ud, Ud, Ud, Ud, Ud, Ud, Ud, Ud, Ud]) rfl (fun _ => rfl) (fun u hu hF => ?_) (fun v18 => ?_)
  · have h4_ : v17 = (Fl r1) := hF.1
    clear hF
    refine doesG_un rfl ?_
    obtain rfl := h4_
    refine (does_fcmp (.inl rfl) (ev rfl) (ev rfl)).mono ?_; rintro _ _ ⟨rfl, rfl⟩
    exact ⟨(by first | rfl | (show _ = _; simp only [hβ1])), Ext.refl _⟩
  refine RW_d (fun v19 => [(.agg #[(Fl r1), (Fl r3), (Fl r5)]), (Pt b8 0), (Bo false), v16, v17, v18, v19, Ud, Ud, Ud, Ud, Ud, Ud, Ud, Ud, Ud]) rfl (fun _ => rfl) (fun u hu hF => ?_) (fun v19 => ?_)
  · have h5_ : v18 = (Bo β1) := hF.1
    clear hF
    refine doesG_un rfl ?_
    obtain rfl := h5_
    refine (does_move (u := (Bo β1)) (ev rfl)).mono ?_; rintro _ _ ⟨rfl, rfl⟩
    exact ⟨rfl, Ext.refl _⟩
  refine RW_d (fun v20 => [(.agg #[(Fl r1), (Fl r3), (Fl r5)]), (Pt b8 0), (Bo false), v16, v17, v18, v19, v20, Ud, Ud, Ud, Ud, Ud, Ud, Ud, Ud]) rfl (fun _ => rfl) (fun u hu hF => ?_) (fun v20 => ?_)
  · have h6_ : v19 = (Bo β1) := hF.1
    clear hF
    obtain rfl := h6_
    refine doesG_g (b := β1) rfl (yld rfl rfl) (fun hg1 => ?_) (fun hc => ⟨fun hg1 => absurd hg1 hc, Ext.refl _⟩)
    refine (does_fieldAddr (ev rfl) fa26_1).mono ?_; rintro _ _ ⟨rfl, rfl⟩
    exact ⟨fun _ => rfl, Ext.refl _⟩
  refine RW_d (fun v21 => [(.agg #[(Fl r1), (Fl r3), (Fl r5)]), (Pt b8 0), (Bo false), v16, v17, v18, v19, v20, v21, Ud, Ud, Ud, Ud, Ud, Ud, Ud]) rfl (fun _ => rfl) (fun u hu hF => ?_) (fun v21 => ?_)
  · have h7_ : β1 = true → v20 = (Pt b8 1) := hF.1
    have h6_ : v19 = (Bo β1) := hF.2.1
    clear hF
    obtain rfl := h6_
    refine doesG_g (b := β1) rfl (yld rfl rfl) (fun hg1 => ?_) (fun hc => ⟨fun hg1 => absurd hg1 hc, Ext.refl _⟩)
    obtain rfl := h7_ hg1
    refine (does_load (u := (Fl r3)) (ev rfl) Try.isAgg24 (Cells.at (Blk.cells (hB10.ext hu)) 1 rfl)).mono ?_; rintro _ _ ⟨rfl, rfl⟩
    exact ⟨fun _ => rfl, Ext.refl _⟩
  refine RW_d (fun v22 => [(.agg #[(Fl r1), (Fl r3), (Fl r5)]), (Pt b8 0), (Bo false), v16, v17, v18, v19, v20, v21, v22, Ud, Ud, Ud, Ud, Ud, Ud]) rfl (fun _ => rfl) (fun u hu hF => ?_) (fun v22 => ?_)
  · have h8_ : β1 = true → v21 = (Fl r3) := hF.1
    have h6_ : v19 = (Bo β1) := hF.2.1
    clear hF
    obtain rfl := h6_
    refine doesG_g (b := β1) rfl (yld rfl rfl) (fun hg1 => ?_) (fun hc => ⟨fun hg1 => absurd hg1 hc, Ext.refl _⟩)
    obtain rfl := h8_ hg1
    refine (does_fcmp (.inl rfl) (ev rfl) (ev rfl)).mono ?_; rintro _ _ ⟨rfl, rfl⟩
    exact ⟨fun _ => (by first | rfl | (show _ = _; simp only [hβ2])), Ext.refl _⟩
  refine RW_d (fun v23 => [(.agg #[(Fl r1), (Fl r3), (Fl r5)]), (Pt b8 0), (Bo false), v16, v17, v18, v19, v20, v21, v22, v23, Ud, Ud, Ud, Ud, Ud]) rfl (fun _ => rfl) (fun u hu hF => ?_) (fun v23 => ?_)
  · have h6_ : v19 = (Bo β1) := hF.1
    have h9_ : β1 = true → v22 = (Bo β2) := hF.2.1
    clear hF
    refine doesG_un rfl ?_
    skip
    obtain rfl := h6_
    refine (does_pick (b := β1) (ev rfl) (ev rfl) (ev rfl)).mono ?_; rintro _ _ ⟨rfl, rfl⟩; refine ⟨?_, Ext.refl _⟩; skip
    cases hbb : β1 <;> simp [hbb] at h9_ ⊢
    all_goals (first | rfl | (subst h9_; rfl) | simp_all)
  refine RW_d (fun v24 => [(.agg #[(Fl r1), (Fl r3), (Fl r5)]), (Pt b8 0), (Bo false), v16, v17, v18, v19, v20, v21, v22, v23, v24, Ud, Ud, Ud, Ud]) rfl (fun _ => rfl) (fun u hu hF => ?_) (fun v24 => ?_)
  · have h10_ : v23 = (Bo (β1 && β2)) := hF.1
    clear hF
    refine doesG_un rfl ?_
    obtain rfl := h10_
    refine (does_move (u := (Bo (β1 && β2))) (ev rfl)).mono ?_; rintro _ _ ⟨rfl, rfl⟩
    exact ⟨rfl, Ext.refl _⟩
  refine RW_d (fun v25 => [(.agg #[(Fl r1), (Fl r3), (Fl r5)]), (Pt b8 0), (Bo false), v16, v17, v18, v19, v20, v21, v22, v23, v24, v25, Ud, Ud, Ud]) rfl (fun _ => rfl) (fun u hu hF => ?_) (fun v25 => ?_)
  · have h11_ : v24 = (Bo (β1 && β2)) := hF.1
    clear hF
    obtain rfl := h11_
    refine doesG_g (b := (β1 && β2)) rfl (yld rfl rfl) (fun hg1 => ?_) (fun hc => ⟨fun hg1 => absurd hg1 hc, Ext.refl _⟩)
    refine (does_fieldAddr (ev rfl) fa26_2).mono ?_; rintro _ _ ⟨rfl, rfl⟩
    exact ⟨fun _ => rfl, Ext.refl _⟩
  refine RW_d (fun v26 => [(.agg #[(Fl r1), (Fl r3), (Fl r5)]), (Pt b8 0), (Bo false), v16, v17, v18, v19, v20, v21, v22, v23, v24, v25, v26, Ud, Ud]) rfl (fun _ => rfl) (fun u hu hF => ?_) (fun v26 => ?_)
  · have h12_ : (β1 && β2) = true → v25 = (Pt b8 2) := hF.1
    have h11_ : v24 = (Bo (β1 && β2)) := hF.2.1
    clear hF
    obtain rfl := h11_
    refine doesG_g (b := (β1 && β2)) rfl (yld rfl rfl) (fun hg1 => ?_) (fun hc => ⟨fun hg1 => absurd hg1 hc, Ext.refl _⟩)
    obtain rfl := h12_ hg1
    refine (does_load (u := (Fl r5)) (ev rfl) Try.isAgg24 (Cells.at (Blk.cells (hB10.ext hu)) 2 rfl)).mono ?_; rintro _ _ ⟨rfl, rfl⟩
    exact ⟨fun _ => rfl, Ext.refl _⟩
  refine RW_d (fun v27 => [(.agg #[(Fl r1), (Fl r3), (Fl r5)]), (Pt b8 0), (Bo false), v16, v17, v18, v19, v20, v21, v22, v23, v24, v25, v26, v27, Ud]) rfl (fun _ => rfl) (fun u hu hF => ?_) (fun v27 => ?_)
  · have h13_ : (β1 && β2) = true → v26 = (Fl r5) := hF.1
    have h11_ : v24 = (Bo (β1 && β2)) := hF.2.1
    clear hF
    obtain rfl := h11_
    refine doesG_g (b := (β1 && β2)) rfl (yld rfl rfl) (fun hg1 => ?_) (fun hc => ⟨fun hg1 => absurd hg1 hc, Ext.refl _⟩)
    obtain rfl := h13_ hg1
    refine (does_fcmp (.inl rfl) (ev rfl) (ev rfl)).mono ?_; rintro _ _ ⟨rfl, rfl⟩
    exact ⟨fun _ => (by first | rfl | (show _ = _; simp only [hβ3])), Ext.refl _⟩
  refine RW_d (fun v28 => [(.agg #[(Fl r1), (Fl r3), (Fl r5)]), (Pt b8 0), (Bo false), v16, v17, v18, v19, v20, v21, v22, v23, v24, v25, v26, v27, v28]) rfl (fun _ => rfl) (fun u hu hF => ?_) (fun v28 => ?_)
  · have h11_ : v24 = (Bo (β1 && β2)) := hF.1
    have h14_ : (β1 && β2) = true → v27 = (Bo β3) := hF.2.1
    clear hF
    refine doesG_un rfl ?_
    skip
    obtain rfl := h11_
    refine (does_pick (b := (β1 && β2)) (ev rfl) (ev rfl) (ev rfl)).mono ?_; rintro _ _ ⟨rfl, rfl⟩; refine ⟨?_, Ext.refl _⟩; skip
    cases hbb : (β1 && β2) <;> simp [hbb] at h14_ ⊢
    all_goals (first | rfl | (subst h14_; rfl) | simp_all)
  refine RW_fin ?_; intro w29 E30 hP31
  obtain ⟨⟨⟨⟨⟨⟨⟨⟨⟨⟨⟨⟨⟨-, -⟩, -⟩, -⟩, -⟩, -⟩, -⟩, -⟩, -⟩, -⟩, -⟩, -⟩, -⟩, q32⟩ := hP31
  have X33 := Ext.gr X14 E30
  have q32 : v28 = (Bo ((β1 && β2) && β3)) := q32
  obtain rfl := q32
  show wpList _ _ _ _ (fr [(.agg #[(Fl r1), (Fl r3), (Fl r5)]), (Pt b8 0), (Bo false), v16, v17, v18, v19, v20, v21, v22, v23, v24, v25, v26, v27, (Bo ((β1 && β2) && β3))]) _
  refine q_is (l' := [(.agg #[(Fl r1), (Fl r3), (Fl r5)]), (Pt b8 0), (Bo ((β1 && β2) && β3)), v16, v17, v18, v19, v20, v21, v22, v23, v24, v25, v26, v27, (Bo ((β1 && β2) && β3))]) rfl rfl (does_assign (u := (Bo ((β1 && β2) && β3))) (ev rfl)) rfl ?_
  refine wpList_nil (hK15 _ _ ?_)
  refine wp_ret ?_
  refine ret_val (v := (Bo ((β1 && β2) && β3))) (res_T rfl (slot rfl)) X33 ?_
  have x34 : (zeroV A_v) = ((β1 && β2) && β3) := by first | with_reducible rfl | (simp only [zeroV, h2, h4, h6, hβ1, hβ2, hβ3]; done) | (simp [zeroV, h2, h4, h6, hβ1, hβ2, hβ3]; done) | rfl
  exact (by first | rfl | rw [x34])

/- impl.ValidCamera -/
theorem c_impl_ValidCamera (c : List Value) (A_c : CamT) (w : World) (hv_c : RCamT w A_c c) : Gives Try.prog 25 #[(.agg c.toArray)] w (fun v w' => v = (Bo (isCam A_c))) := by
  obtain ⟨r1, r3, r5, r7, r9, r11, r13, rfl, h2, h4, h6, h8, h10, h12, h14⟩ := hv_c
  refine enter [(.agg #[(Fl r1), (Fl r3), (Fl r5), (Fl r7), (Fl r9), (Fl r11), (Fl r13), (Iv A_c.width), (Iv A_c.height)]), Ud, Ud, Ud, Ud, Ud, Ud, Ud, Ud, Ud, Ud, Ud, Ud, Ud, Ud, Ud, Ud, Ud, Ud, Ud, Ud, Ud, Ud, Ud, Ud, Ud, Ud, Ud, Ud, Ud, Ud, Ud, Ud, Ud, Ud, Ud, Ud, Ud, Ud, Ud, Ud, Ud, Ud, Ud, Ud, Ud] Try.func25 rfl Try.ntmps25 rfl ?_
  refine wp_seq_k fun K15 hK15 => ?_
  refine wp_region_lit ?_
  refine seqd rfl rfl (does_box (u := (.agg #[(Fl r1), (Fl r3), (Fl r5), (Fl r7), (Fl r9), (Fl r11), (Fl r13), (Iv A_c.width), (Iv A_c.height)])) (ev rfl)) ?_; rintro _ w20 ⟨b16, rfl, hb17, hB18, E19⟩
  have g21 : w.heap.size ≤ b16 := Nat.le_trans (Below.size (Ext.refl w)) hb17
  change Blk _ _ [(Fl r1), (Fl r3), (Fl r5), (Fl r7), (Fl r9), (Fl r11), (Fl r13), (Iv A_c.width), (Iv A_c.height)] at hB18
  have X22 := Ext.gr (Ext.refl w) E19
  show wpList _ _ _ _ (fr [(.agg #[(Fl r1), (Fl r3), (Fl r5), (Fl r7), (Fl r9), (Fl r11), (Fl r13), (Iv A_c.width), (Iv A_c.height)]), (Pt b16 0), Ud, Ud, Ud, Ud, Ud, Ud, Ud, Ud, Ud, Ud, Ud, Ud, Ud, Ud, Ud, Ud, Ud, Ud, Ud, Ud, Ud, Ud, Ud, Ud, Ud, Ud, Ud, Ud, Ud, Ud, Ud, Ud, Ud, Ud, Ud, Ud, Ud, Ud, Ud, Ud, Ud, Ud, Ud, Ud]) _
  refine q_is rfl rfl (does_assign (u := (Bo false)) (ev rfl)) (by dsimp only [List.set]; try rfl) ?_
  refine wpList_nil (hK15 _ _ ?_)
  refine wp_seq_k fun K23 hK23 => ?_
  refine wp_region_lit ?_
  refine seqd rfl rfl (does_call (args := #[(Pt b16 0)]) cal65 (evs rfl) (c_impl_Camera_axes b16 0 [(Fl r1), (Fl r3), (Fl r5), (Fl r7), (Fl r9), (Fl r11), (Fl r13), (Iv A_c.width), (Iv A_c.height)] A_c _ (Blk.cells hB18) ⟨r1, r3, r5, r7, r9, r11, r13, rfl, h2, h4, h6, h8, h10, h12, h14⟩)) ?_; rintro _ w25 ⟨E24, ⟨_, _, _, rfl, ⟨r26, r28, r30, rfl, h27, h29, h31⟩, ⟨r32, r34, r36, rfl, h33, h35, h37⟩, ⟨r38, r40, r42, rfl, h39, h41, h43⟩⟩⟩
  have X44 := Ext.gr X22 E24
  show wpList _ _ _ _ (fr [(.agg #[(Fl r1), (Fl r3), (Fl r5), (Fl r7), (Fl r9), (Fl r11), (Fl r13), (Iv A_c.width), (Iv A_c.height)]), (Pt b16 0), (Bo false), Ud, Ud, Ud, Ud, Ud, (.tuple #[(.agg #[(Fl r26), (Fl r28), (Fl r30)]), (.agg #[(Fl r32), (Fl r34), (Fl r36)]), (.agg #[(Fl r38), (Fl r40), (Fl r42)])]), Ud, Ud, Ud, Ud, Ud, Ud, Ud, Ud, Ud, Ud, Ud, Ud, Ud, Ud, Ud, Ud, Ud, Ud, Ud, Ud, Ud, Ud, Ud, Ud, Ud, Ud, Ud, Ud, Ud, Ud, Ud, Ud, Ud, Ud, Ud, Ud, Ud]) _
  refine q_is rfl rfl (does_move (u := (.tuple #[(.agg #[(Fl r26), (Fl r28), (Fl r30)]), (.agg #[(Fl r32), (Fl r34), (Fl r36)]), (.agg #[(Fl r38), (Fl r40), (Fl r42)])])) (ev rfl)) (by dsimp only [List.set]; try rfl) ?_
  refine q_is rfl rfl (does_extract (vs := #[(.agg #[(Fl r26), (Fl r28), (Fl r30)]), (.agg #[(Fl r32), (Fl r34), (Fl r36)]), (.agg #[(Fl r38), (Fl r40), (Fl r42)])]) (u := (.agg #[(Fl r26), (Fl r28), (Fl r30)])) (ev rfl) rfl) (by dsimp only [List.set]; try rfl) ?_
  refine q_is rfl rfl (does_extract (vs := #[(.agg #[(Fl r26), (Fl r28), (Fl r30)]), (.agg #[(Fl r32), (Fl r34), (Fl r36)]), (.agg #[(Fl r38), (Fl r40), (Fl r42)])]) (u := (.agg #[(Fl r32), (Fl r34), (Fl r36)])) (ev rfl) rfl) (by dsimp only [List.set]; try rfl) ?_
  refine q_is rfl rfl (does_extract (vs := #[(.agg #[(Fl r26), (Fl r28), (Fl r30)]), (.agg #[(Fl r32), (Fl r34), (Fl r36)]), (.agg #[(Fl r38), (Fl r40), (Fl r42)])]) (u := (.agg #[(Fl r38), (Fl r40), (Fl r42)])) (ev rfl) rfl) (by dsimp only [List.set]; try rfl) ?_
  refine seqd rfl rfl (does_alloc z26) ?_; rintro _ w49 ⟨b45, rfl, hb46, hB47, E48⟩
  have n50 : b16 < b45 := Nat.lt_of_lt_of_le (Blk.lt (hB18.ext E24)) hb46
  have g51 : w.heap.size ≤ b45 := Nat.le_trans (Below.size X44) hb46
  change Blk _ _ [(Fl 0), (Fl 0), (Fl 0)] at hB47
  have X52 := Ext.gr X44 E48
  show wpList _ _ _ _ (fr [(.agg #[(Fl r1), (Fl r3), (Fl r5), (Fl r7), (Fl r9), (Fl r11), (Fl r13), (Iv A_c.width), (Iv A_c.height)]), (Pt b16 0), (Bo false), (Pt b45 0), Ud, Ud, Ud, (.tuple #[(.agg #[(Fl r26), (Fl r28), (Fl r30)]), (.agg #[(Fl r32), (Fl r34), (Fl r36)]), (.agg #[(Fl r38), (Fl r40), (Fl r42)])]), (.tuple #[(.agg #[(Fl r26), (Fl r28), (Fl r30)]), (.agg #[(Fl r32), (Fl r34), (Fl r36)]), (.agg #[(Fl r38), (Fl r40), (Fl r42)])]), (.agg #[(Fl r26), (Fl r28), (Fl r30)]), (.agg #[(Fl r32), (Fl r34), (Fl r36)]), (.agg #[(Fl r38), (Fl r40), (Fl r42)]), Ud, Ud, Ud, Ud, Ud, Ud, Ud, Ud, Ud, Ud, Ud, Ud, Ud, Ud, Ud, Ud, Ud, Ud, Ud, Ud, Ud, Ud, Ud, Ud, Ud, Ud, Ud, Ud, Ud, Ud, Ud, Ud, Ud, Ud]) _
  refine seqd rfl rfl (does_alloc z26) ?_; rintro _ w57 ⟨b53, rfl, hb54, hB55, E56⟩
  have n58 : b16 < b53 := Nat.lt_of_lt_of_le (Blk.lt ((hB18.ext E24).ext E48)) hb54
  have n59 : b45 < b53 := Nat.lt_of_lt_of_le (Blk.lt hB47) hb54
  have g60 : w.heap.size ≤ b53 := Nat.le_trans (Below.size X52) hb54
  change Blk _ _ [(Fl 0), (Fl 0), (Fl 0)] at hB55
  have X61 := Ext.gr X52 E56
  show wpList _ _ _ _ (fr [(.agg #[(Fl r1), (Fl r3), (Fl r5), (Fl r7), (Fl r9), (Fl r11), (Fl r13), (Iv A_c.width), (Iv A_c.height)]), (Pt b16 0), (Bo false), (Pt b45 0), (Pt b53 0), Ud, Ud, (.tuple #[(.agg #[(Fl r26), (Fl r28), (Fl r30)]), (.agg #[(Fl r32), (Fl r34), (Fl r36)]), (.agg #[(Fl r38), (Fl r40), (Fl r42)])]), (.tuple #[(.agg #[(Fl r26), (Fl r28), (Fl r30)]), (.agg #[(Fl r32), (Fl r34), (Fl r36)]), (.agg #[(Fl r38), (Fl r40), (Fl r42)])]), (.agg #[(Fl r26), (Fl r28), (Fl r30)]), (.agg #[(Fl r32), (Fl r34), (Fl r36)]), (.agg #[(Fl r38), (Fl r40), (Fl r42)]), Ud, Ud, Ud, Ud, Ud, Ud, Ud, Ud, Ud, Ud, Ud, Ud, Ud, Ud, Ud, Ud, Ud, Ud, Ud, Ud, Ud, Ud, Ud, Ud, Ud, Ud, Ud, Ud, Ud, Ud, Ud, Ud, Ud, Ud]) _
  refine seqd rfl rfl (does_alloc z26) ?_; rintro _ w66 ⟨b62, rfl, hb63, hB64, E65⟩
  have n67 : b16 < b62 := Nat.lt_of_lt_of_le (Blk.lt (((hB18.ext E24).ext E48).ext E56)) hb63
  have n68 : b45 < b62 := Nat.lt_of_lt_of_le (Blk.lt (hB47.ext E56)) hb63
  have n69 : b53 < b62 := Nat.lt_of_lt_of_le (Blk.lt hB55) hb63
  have g70 : w.heap.size ≤ b62 := Nat.le_trans (Below.size X61) hb63
  change Blk _ _ [(Fl 0), (Fl 0), (Fl 0)] at hB64
  have X71 := Ext.gr X61 E65
  show wpList _ _ _ _ (fr [(.agg #[(Fl r1), (Fl r3), (Fl r5), (Fl r7), (Fl r9), (Fl r11), (Fl r13), (Iv A_c.width), (Iv A_c.height)]), (Pt b16 0), (Bo false), (Pt b45 0), (Pt b53 0), (Pt b62 0), Ud, (.tuple #[(.agg #[(Fl r26), (Fl r28), (Fl r30)]), (.agg #[(Fl r32), (Fl r34), (Fl r36)]), (.agg #[(Fl r38), (Fl r40), (Fl r42)])]), (.tuple #[(.agg #[(Fl r26), (Fl r28), (Fl r30)]), (.agg #[(Fl r32), (Fl r34), (Fl r36)]), (.agg #[(Fl r38), (Fl r40), (Fl r42)])]), (.agg #[(Fl r26), (Fl r28), (Fl r30)]), (.agg #[(Fl r32), (Fl r34), (Fl r36)]), (.agg #[(Fl r38), (Fl r40), (Fl r42)]), Ud, Ud, Ud, Ud, Ud, Ud, Ud, Ud, Ud, Ud, Ud, Ud, Ud, Ud, Ud, Ud, Ud, Ud, Ud, Ud, Ud, Ud, Ud, Ud, Ud, Ud, Ud, Ud, Ud, Ud, Ud, Ud, Ud, Ud]) _
  refine seqn rfl rfl (does_store (n := 3) (cs := [(Fl 0), (Fl 0), (Fl 0)]) (u := (.agg #[(Fl r26), (Fl r28), (Fl r30)])) (ev rfl) (ev rfl) Try.sizeOf26 rfl ((hB47.ext E56).ext E65) (Nat.le_of_ble_eq_true rfl) rfl) ?_; rintro _ w74 ⟨rfl, W72, hB73⟩
  change Blk _ _ [(Fl r26), (Fl r28), (Fl r30)] at hB73
  have X75 := Below.wr X71 W72 g51
  refine seqn rfl rfl (does_store (n := 3) (cs := [(Fl 0), (Fl 0), (Fl 0)]) (u := (.agg #[(Fl r32), (Fl r34), (Fl r36)])) (ev rfl) (ev rfl) Try.sizeOf26 rfl ((hB55.ext E65).wr W72 (Nat.ne_of_gt n59)) (Nat.le_of_ble_eq_true rfl) rfl) ?_; rintro _ w78 ⟨rfl, W76, hB77⟩
  change Blk _ _ [(Fl r32), (Fl r34), (Fl r36)] at hB77
  have X79 := Below.wr X75 W76 g60
  refine seqn rfl rfl (does_store (n := 3) (cs := [(Fl 0), (Fl 0), (Fl 0)]) (u := (.agg #[(Fl r38), (Fl r40), (Fl r42)])) (ev rfl) (ev rfl) Try.sizeOf26 rfl ((hB64.wr W72 (Nat.ne_of_gt n68)).wr W76 (Nat.ne_of_gt n69)) (Nat.le_of_ble_eq_true rfl) rfl) ?_; rintro _ w82 ⟨rfl, W80, hB81⟩
  change Blk _ _ [(Fl r38), (Fl r40), (Fl r42)] at hB81
  have X83 := Below.wr X79 W80 g70
  refine wpList_nil (hK23 _ _ ?_)
  refine wp_seq_k fun K84 hK84 => ?_
  obtain ⟨β1, hβ1⟩ : ∃ b : Bool, b = ((inI A_c.width 1 12) && (inI A_c.height 1 12)) := ⟨_, rfl⟩
  obtain ⟨β2, hβ2⟩ : ∃ b : Bool, b = (finF (cf .f32 r13) && posF (cf .f32 r13)) := ⟨_, rfl⟩
  refine region_text (
    [Fact.pure [] (fun v => v = (Pt b16 7)),
    Fact.pure [12] (fun v => v = (Iv A_c.width)),
    Fact.pure [13] (fun v => v = (Bo (inI A_c.width 1 12))),
    Fact.pure [14] (fun v => v = (Bo (inI A_c.width 1 12))),
    Fact.pure [15] (fun v => (inI A_c.width 1 12) = true → v = (Pt b16 8)),
    Fact.pure [16, 15] (fun v => (inI A_c.width 1 12) = true → v = (Iv A_c.height)),
    Fact.pure [17, 15] (fun v => (inI A_c.width 1 12) = true → v = (Bo (inI A_c.height 1 12))),
    Fact.pure [15, 18] (fun v => v = (Bo β1)),
    Fact.pure [19] (fun v => v = (Bo β1)),
    Fact.pure [20] (fun v => β1 = true → v = (Pt b16 6)),
    Fact.pure [21, 20] (fun v => β1 = true → v = (Fl r13)),
    Fact.pure [22, 20] (fun v => β1 = true → v = (Bo β2)),
    Fact.pure [20, 23] (fun v => v = (Bo (β1 && β2)))]) (by simp [Fact.pure, Fact.mem]) ?_
  refine RW_d _ rfl (fun v => by dsimp only [List.set]; try rfl) (fun u hu hF => ?_) (fun v85 => ?_)
  · clear hF
    refine doesG_un rfl ?_
    refine (does_fieldAddr (ev rfl) fa48_3).mono ?_; rintro _ _ ⟨rfl, rfl⟩
    exact ⟨rfl, Ext.refl _⟩
  refine RW_d _ rfl (fun v => by dsimp only [List.set]; try rfl) (fun u hu hF => ?_) (fun v86 => ?_)
  · have h12_ : v85 = (Pt b16 7) := hF.1
    clear hF
    refine doesG_un rfl ?_
    obtain rfl := h12_
    refine (does_load (u := (Iv A_c.width)) (ev rfl) Try.isAgg2 (Cells.at (Blk.cells ((((((((hB18.ext E24).ext E48).ext E56).ext E65).wr W72 (Nat.ne_of_lt n50)).wr W76 (Nat.ne_of_lt n58)).wr W80 (Nat.ne_of_lt n67)).ext hu)) 7 rfl)).mono ?_; rintro _ _ ⟨rfl, rfl⟩
    exact ⟨rfl, Ext.refl _⟩
  refine RW_d _ rfl (fun v => by dsimp only [List.set]; try rfl) (fun u hu hF => ?_) (fun v87 => ?_)
  · have h13_ : v86 = (Iv A_c.width) := hF.1
    clear hF
    refine doesG_un rfl ?_
    obtain rfl := h13_
    refine (does_call (args := #[(Iv A_c.width), (Iv 1), (Iv 12)]) cal56 (evs rfl) (c_impl_in A_c.width 1 12 _)).mono ?_; rintro v u' ⟨hx, hv⟩
    exact ⟨hv, hx⟩
  refine RW_d _ rfl (fun v => by dsimp only [List.set]; try rfl) (fun u hu hF => ?_) (fun v88 => ?_)
  · have h14_ : v87 = (Bo (inI A_c.width 1 12)) := hF.1
    clear hF
    refine doesG_un rfl ?_
    obtain rfl := h14_
    refine (does_move (u := (Bo (inI A_c.width 1 12))) (ev rfl)).mono ?_; rintro _ _ ⟨rfl, rfl⟩
    exact ⟨rfl, Ext.refl _⟩
  refine RW_d _ rfl (fun v => by dsimp only [List.set]; try rfl) (fun u hu hF => ?_) (fun v89 => ?_)
  · have h15_ : v88 = (Bo (inI A_c.width 1 12)) := hF.1
    clear hF
    obtain rfl := h15_
    refine doesG_g (b := (inI A_c.width 1 12)) rfl (yld rfl rfl) (fun hg1 => ?_) (fun hc => ⟨fun hg1 => absurd hg1 hc, Ext.refl _⟩)
    refine (does_fieldAddr (ev rfl) fa48_4).mono ?_; rintro _ _ ⟨rfl, rfl⟩
    exact ⟨fun _ => rfl, Ext.refl _⟩
  refine RW_d _ rfl (fun v => by dsimp only [List.set]; try rfl) (fun u hu hF => ?_) (fun v90 => ?_)
  · have h16_ : (inI A_c.width 1 12) = true → v89 = (Pt b16 8) := hF.1
    have h15_ : v88 = (Bo (inI A_c.width 1 12)) := hF.2.1
    clear hF
    obtain rfl := h15_
    refine doesG_g (b := (inI A_c.width 1 12)) rfl (yld rfl rfl) (fun hg1 => ?_) (fun hc => ⟨fun hg1 => absurd hg1 hc, Ext.refl _⟩)
    obtain rfl := h16_ hg1
    refine (does_load (u := (Iv A_c.height)) (ev rfl) Try.isAgg2 (Cells.at (Blk.cells ((((((((hB18.ext E24).ext E48).ext E56).ext E65).wr W72 (Nat.ne_of_lt n50)).wr W76 (Nat.ne_of_lt n58)).wr W80 (Nat.ne_of_lt n67)).ext hu)) 8 rfl)).mono ?_; rintro _ _ ⟨rfl, rfl⟩
    exact ⟨fun _ => rfl, Ext.refl _⟩
  refine RW_d _ rfl (fun v => by dsimp only [List.set]; try rfl) (fun u hu hF => ?_) (fun v91 => ?_)
  · have h17_ : (inI A_c.width 1 12) = true → v90 = (Iv A_c.height) := hF.1
    have h15_ : v88 = (Bo (inI A_c.width 1 12)) := hF.2.1
    clear hF
    obtain rfl := h15_
    refine doesG_g (b := (inI A_c.width 1 12)) rfl (yld rfl rfl) (fun hg1 => ?_) (fun hc => ⟨fun hg1 => absurd hg1 hc, Ext.refl _⟩)
    obtain rfl := h17_ hg1
    refine (does_call (args := #[(Iv A_c.height), (Iv 1), (Iv 12)]) cal56 (evs rfl) (c_impl_in A_c.height 1 12 _)).mono ?_; rintro v u' ⟨hx, hv⟩
    exact ⟨fun _ => hv, hx⟩
  refine RW_d _ rfl (fun v => by dsimp only [List.set]; try rfl) (fun u hu hF => ?_) (fun v92 => ?_)
  · have h15_ : v88 = (Bo (inI A_c.width 1 12)) := hF.1
    have h18_ : (inI A_c.width 1 12) = true → v91 = (Bo (inI A_c.height 1 12)) := hF.2.1
    clear hF
    refine doesG_un rfl ?_
    skip
    obtain rfl := h15_
    refine (does_pick (b := (inI A_c.width 1 12)) (ev rfl) (ev rfl) (ev rfl)).mono ?_; rintro _ _ ⟨rfl, rfl⟩; refine ⟨?_, Ext.refl _⟩; rw [hβ1]; skip
    cases hbb : (inI A_c.width 1 12) <;> simp [hbb] at h18_ ⊢
    all_goals (first | rfl | (subst h18_; rfl) | simp_all)
  refine RW_d _ rfl (fun v => by dsimp only [List.set]; try rfl) (fun u hu hF => ?_) (fun v93 => ?_)
  · have h19_ : v92 = (Bo β1) := hF.1
    clear hF
    refine doesG_un rfl ?_
    obtain rfl := h19_
    refine (does_move (u := (Bo β1)) (ev rfl)).mono ?_; rintro _ _ ⟨rfl, rfl⟩
    exact ⟨rfl, Ext.refl _⟩
  refine RW_d _ rfl (fun v => by dsimp only [List.set]; try rfl) (fun u hu hF => ?_) (fun v94 => ?_)
  · have h20_ : v93 = (Bo β1) := hF.1
    clear hF
    obtain rfl := h20_
    refine doesG_g (b := β1) rfl (yld rfl rfl) (fun hg1 => ?_) (fun hc => ⟨fun hg1 => absurd hg1 hc, Ext.refl _⟩)
    refine (does_fieldAddr (ev rfl) fa48_2).mono ?_; rintro _ _ ⟨rfl, rfl⟩
    exact ⟨fun _ => rfl, Ext.refl _⟩
  refine RW_d _ rfl (fun v => by dsimp only [List.set]; try rfl) (fun u hu hF => ?_) (fun v95 => ?_)
  · have h21_ : β1 = true → v94 = (Pt b16 6) := hF.1
    have h20_ : v93 = (Bo β1) := hF.2.1
    clear hF
    obtain rfl := h20_
    refine doesG_g (b := β1) rfl (yld rfl rfl) (fun hg1 => ?_) (fun hc => ⟨fun hg1 => absurd hg1 hc, Ext.refl _⟩)
    obtain rfl := h21_ hg1
    refine (does_load (u := (Fl r13)) (ev rfl) Try.isAgg24 (Cells.at (Blk.cells ((((((((hB18.ext E24).ext E48).ext E56).ext E65).wr W72 (Nat.ne_of_lt n50)).wr W76 (Nat.ne_of_lt n58)).wr W80 (Nat.ne_of_lt n67)).ext hu)) 6 rfl)).mono ?_; rintro _ _ ⟨rfl, rfl⟩
    exact ⟨fun _ => rfl, Ext.refl _⟩
  refine RW_d _ rfl (fun v => by dsimp only [List.set]; try rfl) (fun u hu hF => ?_) (fun v96 => ?_)
  · have h22_ : β1 = true → v95 = (Fl r13) := hF.1
    have h20_ : v93 = (Bo β1) := hF.2.1
    clear hF
    obtain rfl := h20_
    refine doesG_g (b := β1) rfl (yld rfl rfl) (fun hg1 => ?_) (fun hc => ⟨fun hg1 => absurd hg1 hc, Ext.refl _⟩)
    obtain rfl := h22_ hg1
    refine (does_call (args := #[(Fl r13)]) cal66 (evs rfl) (c_impl_stepOk r13 _)).mono ?_; rintro v u' ⟨hx, hv⟩
    exact ⟨fun _ => hv.trans (by simp only [hβ2]), hx⟩
  refine RW_d _ rfl (fun v => by dsimp only [List.set]; try rfl) (fun u hu hF => ?_) (fun v97 => ?_)
  · have h20_ : v93 = (Bo β1) := hF.1
    have h23_ : β1 = true → v96 = (Bo β2) := hF.2.1
    clear hF
    refine doesG_un rfl ?_
    skip
    obtain rfl := h20_
    refine (does_pick (b := β1) (ev rfl) (ev rfl) (ev rfl)).mono ?_; rintro _ _ ⟨rfl, rfl⟩; refine ⟨?_, Ext.refl _⟩; skip
    cases hbb : β1 <;> simp [hbb] at h23_ ⊢
    all_goals (first | rfl | (subst h23_; rfl) | simp_all)
  refine RW_fin ?_; intro w98 E99 hP100
  obtain ⟨⟨⟨⟨⟨⟨⟨⟨⟨⟨⟨⟨⟨-, -⟩, -⟩, -⟩, -⟩, -⟩, -⟩, -⟩, -⟩, -⟩, -⟩, -⟩, -⟩, q101⟩ := hP100
  have X102 := Ext.gr X83 E99
  have q101 : v97 = (Bo (β1 && β2)) := q101
  obtain rfl := q101
  show wpList _ _ _ _ (fr [(.agg #[(Fl r1), (Fl r3), (Fl r5), (Fl r7), (Fl r9), (Fl r11), (Fl r13), (Iv A_c.width), (Iv A_c.height)]), (Pt b16 0), (Bo false), (Pt b45 0), (Pt b53 0), (Pt b62 0), Ud, (.tuple #[(.agg #[(Fl r26), (Fl r28), (Fl r30)]), (.agg #[(Fl r32), (Fl r34), (Fl r36)]), (.agg #[(Fl r38), (Fl r40), (Fl r42)])]), (.tuple #[(.agg #[(Fl r26), (Fl r28), (Fl r30)]), (.agg #[(Fl r32), (Fl r34), (Fl r36)]), (.agg #[(Fl r38), (Fl r40), (Fl r42)])]), (.agg #[(Fl r26), (Fl r28), (Fl r30)]), (.agg #[(Fl r32), (Fl r34), (Fl r36)]), (.agg #[(Fl r38), (Fl r40), (Fl r42)]), v85, v86, v87, v88, v89, v90, v91, v92, v93, v94, v95, v96, (Bo (β1 && β2)), Ud, Ud, Ud, Ud, Ud, Ud, Ud, Ud, Ud, Ud, Ud, Ud, Ud, Ud, Ud, Ud, Ud, Ud, Ud, Ud, Ud]) _
  refine q_is rfl rfl (does_assign (u := (Bo (β1 && β2))) (ev rfl)) (by dsimp only [List.set]; try rfl) ?_
  refine wpList_nil (hK84 _ _ ?_)
  refine wp_seq_k fun K103 hK103 => ?_
  obtain ⟨β3, hβ3⟩ : ∃ b : Bool, b = ((β1 && β2) && (finV A_c.frm)) := ⟨_, rfl⟩
  obtain ⟨β4, hβ4⟩ : ∃ b : Bool, b = ((β3 && (finV A_c.to)) && (!(zeroV (rgtC A_c)))) := ⟨_, rfl⟩
  obtain ⟨β5, hβ5⟩ : ∃ b : Bool, b = (β4 && (!(zeroV (fwdC A_c)))) := ⟨_, rfl⟩
  refine region_text (
    [Fact.pure [] (fun v => v = (Bo (β1 && β2))),
    Fact.pure [25] (fun v => v = (Bo (β1 && β2))),
    Fact.pure [26] (fun v => (β1 && β2) = true → v = (Pt b16 0)),
    Fact.pure [27, 26] (fun v => (β1 && β2) = true → v = (.agg #[(Fl r1), (Fl r3), (Fl r5)])),
    Fact.pure [28, 26] (fun v => (β1 && β2) = true → v = (Bo (finV A_c.frm))),
    Fact.pure [26, 29] (fun v => v = (Bo β3)),
    Fact.pure [30] (fun v => v = (Bo β3)),
    Fact.pure [31] (fun v => β3 = true → v = (Pt b16 3)),
    Fact.pure [32, 31] (fun v => β3 = true → v = (.agg #[(Fl r7), (Fl r9), (Fl r11)])),
    Fact.pure [33, 31] (fun v => β3 = true → v = (Bo (finV A_c.to))),
    Fact.pure [31, 34] (fun v => v = (Bo (β3 && (finV A_c.to)))),
    Fact.pure [35] (fun v => v = (Bo (β3 && (finV A_c.to)))),
    Fact.pure [36] (fun v => (β3 && (finV A_c.to)) = true → v = (.agg #[(Fl r26), (Fl r28), (Fl r30)])),
    Fact.pure [37, 36] (fun v => (β3 && (finV A_c.to)) = true → v = (Bo (zeroV (rgtC A_c)))),
    Fact.pure [38, 36] (fun v => (β3 && (finV A_c.to)) = true → v = (Bo (!(zeroV (rgtC A_c))))),
    Fact.pure [36, 39] (fun v => v = (Bo β4)),
    Fact.pure [40] (fun v => v = (Bo β4)),
    Fact.pure [41] (fun v => β4 = true → v = (.agg #[(Fl r38), (Fl r40), (Fl r42)])),
    Fact.pure [42, 41] (fun v => β4 = true → v = (Bo (zeroV (fwdC A_c)))),
    Fact.pure [43, 41] (fun v => β4 = true → v = (Bo (!(zeroV (fwdC A_c))))),
    Fact.pure [41, 44] (fun v => v = (Bo β5))]) (by simp [Fact.pure, Fact.mem]) ?_
  refine RW_d _ rfl (fun v => by dsimp only [List.set]; try rfl) (fun u hu hF => ?_) (fun v104 => ?_)
  · clear hF
    refine doesG_un rfl ?_
    refine (does_move (u := (Bo (β1 && β2))) (ev rfl)).mono ?_; rintro _ _ ⟨rfl, rfl⟩
    exact ⟨rfl, Ext.refl _⟩
  refine RW_d _ rfl (fun v => by dsimp only [List.set]; try rfl) (fun u hu hF => ?_) (fun v105 => ?_)
  · have h25_ : v104 = (Bo (β1 && β2)) := hF.1
    clear hF
    refine doesG_un rfl ?_
    obtain rfl := h25_
    refine (does_move (u := (Bo (β1 && β2))) (ev rfl)).mono ?_; rintro _ _ ⟨rfl, rfl⟩
    exact ⟨rfl, Ext.refl _⟩
  refine RW_d _ rfl (fun v => by dsimp only [List.set]; try rfl) (fun u hu hF => ?_) (fun v106 => ?_)
  · have h26_ : v105 = (Bo (β1 && β2)) := hF.1
    clear hF
    obtain rfl := h26_
    refine doesG_g (b := (β1 && β2)) rfl (yld rfl rfl) (fun hg1 => ?_) (fun hc => ⟨fun hg1 => absurd hg1 hc, Ext.refl _⟩)
    refine (does_fieldAddr (ev rfl) fa48_0).mono ?_; rintro _ _ ⟨rfl, rfl⟩
    exact ⟨fun _ => rfl, Ext.refl _⟩
  refine RW_d _ rfl (fun v => by dsimp only [List.set]; try rfl) (fun u hu hF => ?_) (fun v107 => ?_)
  · have h27_ : (β1 && β2) = true → v106 = (Pt b16 0) := hF.1
    have h26_ : v105 = (Bo (β1 && β2)) := hF.2.1
    clear hF
    obtain rfl := h26_
    refine doesG_g (b := (β1 && β2)) rfl (yld rfl rfl) (fun hg1 => ?_) (fun hc => ⟨fun hg1 => absurd hg1 hc, Ext.refl _⟩)
    obtain rfl := h27_ hg1
    refine (does_loadAgg (cs := [(Fl r1), (Fl r3), (Fl r5)]) (ev rfl) Try.isAgg26 Try.sizeOf26 (Cells.sub (Blk.cells (((((((((hB18.ext E24).ext E48).ext E56).ext E65).wr W72 (Nat.ne_of_lt n50)).wr W76 (Nat.ne_of_lt n58)).wr W80 (Nat.ne_of_lt n67)).ext E99).ext hu)) 0 3) rfl).mono ?_; rintro _ _ ⟨rfl, rfl⟩
    exact ⟨fun _ => rfl, Ext.refl _⟩
  refine RW_d _ rfl (fun v => by dsimp only [List.set]; try rfl) (fun u hu hF => ?_) (fun v108 => ?_)
  · have h28_ : (β1 && β2) = true → v107 = (.agg #[(Fl r1), (Fl r3), (Fl r5)]) := hF.1
    have h26_ : v105 = (Bo (β1 && β2)) := hF.2.1
    clear hF
    obtain rfl := h26_
    refine doesG_g (b := (β1 && β2)) rfl (yld rfl rfl) (fun hg1 => ?_) (fun hc => ⟨fun hg1 => absurd hg1 hc, Ext.refl _⟩)
    obtain rfl := h28_ hg1
    refine (does_call (args := #[(.agg #[(Fl r1), (Fl r3), (Fl r5)])]) cal57 (evs rfl) (c_impl_finiteVector [(Fl r1), (Fl r3), (Fl r5)] A_c.frm _ ⟨r1, r3, r5, rfl, h2, h4, h6⟩)).mono ?_; rintro v u' ⟨hx, hv⟩
    exact ⟨fun _ => hv, hx⟩
  refine RW_d _ rfl (fun v => by dsimp only [List.set]; try rfl) (fun u hu hF => ?_) (fun v109 => ?_)
  · have h26_ : v105 = (Bo (β1 && β2)) := hF.1
    have h29_ : (β1 && β2) = true → v108 = (Bo (finV A_c.frm)) := hF.2.1
    clear hF
    refine doesG_un rfl ?_
    skip
    obtain rfl := h26_
    refine (does_pick (b := (β1 && β2)) (ev rfl) (ev rfl) (ev rfl)).mono ?_; rintro _ _ ⟨rfl, rfl⟩; refine ⟨?_, Ext.refl _⟩; rw [hβ3]; skip
    cases hbb : (β1 && β2) <;> simp [hbb] at h29_ ⊢
    all_goals (first | rfl | (subst h29_; rfl) | simp_all)
  refine RW_d _ rfl (fun v => by dsimp only [List.set]; try rfl) (fun u hu hF => ?_) (fun v110 => ?_)
  · have h30_ : v109 = (Bo β3) := hF.1
    clear hF
    refine doesG_un rfl ?_
    obtain rfl := h30_
    refine (does_move (u := (Bo β3)) (ev rfl)).mono ?_; rintro _ _ ⟨rfl, rfl⟩
    exact ⟨rfl, Ext.refl _⟩
  refine RW_d _ rfl (fun v => by dsimp only [List.set]; try rfl) (fun u hu hF => ?_) (fun v111 => ?_)
  · have h31_ : v110 = (Bo β3) := hF.1
    clear hF
    obtain rfl := h31_
    refine doesG_g (b := β3) rfl (yld rfl rfl) (fun hg1 => ?_) (fun hc => ⟨fun hg1 => absurd hg1 hc, Ext.refl _⟩)
    refine (does_fieldAddr (ev rfl) fa48_1).mono ?_; rintro _ _ ⟨rfl, rfl⟩
    exact ⟨fun _ => rfl, Ext.refl _⟩
  refine RW_d _ rfl (fun v => by dsimp only [List.set]; try rfl) (fun u hu hF => ?_) (fun v112 => ?_)
  · have h32_ : β3 = true → v111 = (Pt b16 3) := hF.1
    have h31_ : v110 = (Bo β3) := hF.2.1
    clear hF
    obtain rfl := h31_
    refine doesG_g (b := β3) rfl (yld rfl rfl) (fun hg1 => ?_) (fun hc => ⟨fun hg1 => absurd hg1 hc, Ext.refl _⟩)
    obtain rfl := h32_ hg1
    refine (does_loadAgg (cs := [(Fl r7), (Fl r9), (Fl r11)]) (ev rfl) Try.isAgg26 Try.sizeOf26 (Cells.sub (Blk.cells (((((((((hB18.ext E24).ext E48).ext E56).ext E65).wr W72 (Nat.ne_of_lt n50)).wr W76 (Nat.ne_of_lt n58)).wr W80 (Nat.ne_of_lt n67)).ext E99).ext hu)) 3 3) rfl).mono ?_; rintro _ _ ⟨rfl, rfl⟩
    exact ⟨fun _ => rfl, Ext.refl _⟩
  refine RW_d _ rfl (fun v => by dsimp only [List.set]; try rfl) (fun u hu hF => ?_) (fun v113 => ?_)
  · have h33_ : β3 = true → v112 = (.agg #[(Fl r7), (Fl r9), (Fl r11)]) := hF.1
    have h31_ : v110 = (Bo β3) := hF.2.1
    clear hF
    obtain rfl := h31_
    refine doesG_g (b := β3) rfl (yld rfl rfl) (fun hg1 => ?_) (fun hc => ⟨fun hg1 => absurd hg1 hc, Ext.refl _⟩)
    obtain rfl := h33_ hg1
    refine (does_call (args := #[(.agg #[(Fl r7), (Fl r9), (Fl r11)])]) cal57 (evs rfl) (c_impl_finiteVector [(Fl r7), (Fl r9), (Fl r11)] A_c.to _ ⟨r7, r9, r11, rfl, h8, h10, h12⟩)).mono ?_; rintro v u' ⟨hx, hv⟩
    exact ⟨fun _ => hv, hx⟩
  refine RW_d _ rfl (fun v => by dsimp only [List.set]; try rfl) (fun u hu hF => ?_) (fun v114 => ?_)
  · have h31_ : v110 = (Bo β3) := hF.1
    have h34_ : β3 = true → v113 = (Bo (finV A_c.to)) := hF.2.1
    clear hF
    refine doesG_un rfl ?_
    skip
    obtain rfl := h31_
    refine (does_pick (b := β3) (ev rfl) (ev rfl) (ev rfl)).mono ?_; rintro _ _ ⟨rfl, rfl⟩; refine ⟨?_, Ext.refl _⟩; skip
    cases hbb : β3 <;> simp [hbb] at h34_ ⊢
    all_goals (first | rfl | (subst h34_; rfl) | simp_all)
  refine RW_d _ rfl (fun v => by dsimp only [List.set]; try rfl) (fun u hu hF => ?_) (fun v115 => ?_)
  · have h35_ : v114 = (Bo (β3 && (finV A_c.to))) := hF.1
    clear hF
    refine doesG_un rfl ?_
    obtain rfl := h35_
    refine (does_move (u := (Bo (β3 && (finV A_c.to)))) (ev rfl)).mono ?_; rintro _ _ ⟨rfl, rfl⟩
    exact ⟨rfl, Ext.refl _⟩
  refine RW_d _ rfl (fun v => by dsimp only [List.set]; try rfl) (fun u hu hF => ?_) (fun v116 => ?_)
  · have h36_ : v115 = (Bo (β3 && (finV A_c.to))) := hF.1
    clear hF
    obtain rfl := h36_
    refine doesG_g (b := (β3 && (finV A_c.to))) rfl (yld rfl rfl) (fun hg1 => ?_) (fun hc => ⟨fun hg1 => absurd hg1 hc, Ext.refl _⟩)
    refine (does_loadAgg (cs := [(Fl r26), (Fl r28), (Fl r30)]) (ev rfl) Try.isAgg26 Try.sizeOf26 (Blk.cells ((((hB73.wr W76 (Nat.ne_of_lt n59)).wr W80 (Nat.ne_of_lt n68)).ext E99).ext hu)) rfl).mono ?_; rintro _ _ ⟨rfl, rfl⟩
    exact ⟨fun _ => rfl, Ext.refl _⟩
  refine RW_d _ rfl (fun v => by dsimp only [List.set]; try rfl) (fun u hu hF => ?_) (fun v117 => ?_)
  · have h37_ : (β3 && (finV A_c.to)) = true → v116 = (.agg #[(Fl r26), (Fl r28), (Fl r30)]) := hF.1
    have h36_ : v115 = (Bo (β3 && (finV A_c.to))) := hF.2.1
    clear hF
    obtain rfl := h36_
    refine doesG_g (b := (β3 && (finV A_c.to))) rfl (yld rfl rfl) (fun hg1 => ?_) (fun hc => ⟨fun hg1 => absurd hg1 hc, Ext.refl _⟩)
    obtain rfl := h37_ hg1
    refine (does_call (args := #[(.agg #[(Fl r26), (Fl r28), (Fl r30)])]) cal67 (evs rfl) (c_impl_isZero [(Fl r26), (Fl r28), (Fl r30)] (rgtC A_c) _ ⟨r26, r28, r30, rfl, h27, h29, h31⟩)).mono ?_; rintro v u' ⟨hx, hv⟩
    exact ⟨fun _ => hv, hx⟩
  refine RW_d _ rfl (fun v => by dsimp only [List.set]; try rfl) (fun u hu hF => ?_) (fun v118 => ?_)
  · have h38_ : (β3 && (finV A_c.to)) = true → v117 = (Bo (zeroV (rgtC A_c))) := hF.1
    have h36_ : v115 = (Bo (β3 && (finV A_c.to))) := hF.2.1
    clear hF
    obtain rfl := h36_
    refine doesG_g (b := (β3 && (finV A_c.to))) rfl (yld rfl rfl) (fun hg1 => ?_) (fun hc => ⟨fun hg1 => absurd hg1 hc, Ext.refl _⟩)
    obtain rfl := h38_ hg1
    refine (does_not (ev rfl)).mono ?_; rintro _ _ ⟨rfl, rfl⟩
    exact ⟨fun _ => rfl, Ext.refl _⟩
  refine RW_d _ rfl (fun v => by dsimp only [List.set]; try rfl) (fun u hu hF => ?_) (fun v119 => ?_)
  · have h36_ : v115 = (Bo (β3 && (finV A_c.to))) := hF.1
    have h39_ : (β3 && (finV A_c.to)) = true → v118 = (Bo (!(zeroV (rgtC A_c)))) := hF.2.1
    clear hF
    refine doesG_un rfl ?_
    skip
    obtain rfl := h36_
    refine (does_pick (b := (β3 && (finV A_c.to))) (ev rfl) (ev rfl) (ev rfl)).mono ?_; rintro _ _ ⟨rfl, rfl⟩; refine ⟨?_, Ext.refl _⟩; rw [hβ4]; skip
    cases hbb : (β3 && (finV A_c.to)) <;> simp [hbb] at h39_ ⊢
    all_goals (first | rfl | (subst h39_; rfl) | simp_all)
  refine RW_d _ rfl (fun v => by dsimp only [List.set]; try rfl) (fun u hu hF => ?_) (fun v120 => ?_)
  · have h40_ : v119 = (Bo β4) := hF.1
    clear hF
    refine doesG_un rfl ?_
    obtain rfl := h40_
    refine (does_move (u := (Bo β4)) (ev rfl)).mono ?_; rintro _ _ ⟨rfl, rfl⟩
    exact ⟨rfl, Ext.refl _⟩
  refine RW_d _ rfl (fun v => by dsimp only [List.set]; try rfl) (fun u hu hF => ?_) (fun v121 => ?_)
  · have h41_ : v120 = (Bo β4) := hF.1
    clear hF
    obtain rfl := h41_
    refine doesG_g (b := β4) rfl (yld rfl rfl) (fun hg1 => ?_) (fun hc => ⟨fun hg1 => absurd hg1 hc, Ext.refl _⟩)
    refine (does_loadAgg (cs := [(Fl r38), (Fl r40), (Fl r42)]) (ev rfl) Try.isAgg26 Try.sizeOf26 (Blk.cells ((hB81.ext E99).ext hu)) rfl).mono ?_; rintro _ _ ⟨rfl, rfl⟩
    exact ⟨fun _ => rfl, Ext.refl _⟩
  refine RW_d _ rfl (fun v => by dsimp only [List.set]; try rfl) (fun u hu hF => ?_) (fun v122 => ?_)
  · have h42_ : β4 = true → v121 = (.agg #[(Fl r38), (Fl r40), (Fl r42)]) := hF.1
    have h41_ : v120 = (Bo β4) := hF.2.1
    clear hF
    obtain rfl := h41_
    refine doesG_g (b := β4) rfl (yld rfl rfl) (fun hg1 => ?_) (fun hc => ⟨fun hg1 => absurd hg1 hc, Ext.refl _⟩)
    obtain rfl := h42_ hg1
    refine (does_call (args := #[(.agg #[(Fl r38), (Fl r40), (Fl r42)])]) cal67 (evs rfl) (c_impl_isZero [(Fl r38), (Fl r40), (Fl r42)] (fwdC A_c) _ ⟨r38, r40, r42, rfl, h39, h41, h43⟩)).mono ?_; rintro v u' ⟨hx, hv⟩
    exact ⟨fun _ => hv, hx⟩
  refine RW_d _ rfl (fun v => by dsimp only [List.set]; try rfl) (fun u hu hF => ?_) (fun v123 => ?_)
  · have h43_ : β4 = true → v122 = (Bo (zeroV (fwdC A_c))) := hF.1
    have h41_ : v120 = (Bo β4) := hF.2.1
    clear hF
    obtain rfl := h41_
    refine doesG_g (b := β4) rfl (yld rfl rfl) (fun hg1 => ?_) (fun hc => ⟨fun hg1 => absurd hg1 hc, Ext.refl _⟩)
    obtain rfl := h43_ hg1
    refine (does_not (ev rfl)).mono ?_; rintro _ _ ⟨rfl, rfl⟩
    exact ⟨fun _ => rfl, Ext.refl _⟩
  refine RW_d _ rfl (fun v => by dsimp only [List.set]; try rfl) (fun u hu hF => ?_) (fun v124 => ?_)
  · have h41_ : v120 = (Bo β4) := hF.1
    have h44_ : β4 = true → v123 = (Bo (!(zeroV (fwdC A_c)))) := hF.2.1
    clear hF
    refine doesG_un rfl ?_
    skip
    obtain rfl := h41_
    refine (does_pick (b := β4) (ev rfl) (ev rfl) (ev rfl)).mono ?_; rintro _ _ ⟨rfl, rfl⟩; refine ⟨?_, Ext.refl _⟩; rw [hβ5]; skip
    cases hbb : β4 <;> simp [hbb] at h44_ ⊢
    all_goals (first | rfl | (subst h44_; rfl) | simp_all)
  refine RW_fin ?_; intro w125 E126 hP127
  obtain ⟨⟨⟨⟨⟨⟨⟨⟨⟨⟨⟨⟨⟨⟨⟨⟨⟨⟨⟨⟨⟨-, -⟩, -⟩, -⟩, -⟩, -⟩, -⟩, -⟩, -⟩, -⟩, -⟩, -⟩, -⟩, -⟩, -⟩, -⟩, -⟩, -⟩, -⟩, -⟩, -⟩, q128⟩ := hP127
  have X129 := Ext.gr X102 E126
  have q128 : v124 = (Bo β5) := q128
  obtain rfl := q128
  show wpList _ _ _ _ (fr [(.agg #[(Fl r1), (Fl r3), (Fl r5), (Fl r7), (Fl r9), (Fl r11), (Fl r13), (Iv A_c.width), (Iv A_c.height)]), (Pt b16 0), (Bo false), (Pt b45 0), (Pt b53 0), (Pt b62 0), (Bo (β1 && β2)), (.tuple #[(.agg #[(Fl r26), (Fl r28), (Fl r30)]), (.agg #[(Fl r32), (Fl r34), (Fl r36)]), (.agg #[(Fl r38), (Fl r40), (Fl r42)])]), (.tuple #[(.agg #[(Fl r26), (Fl r28), (Fl r30)]), (.agg #[(Fl r32), (Fl r34), (Fl r36)]), (.agg #[(Fl r38), (Fl r40), (Fl r42)])]), (.agg #[(Fl r26), (Fl r28), (Fl r30)]), (.agg #[(Fl r32), (Fl r34), (Fl r36)]), (.agg #[(Fl r38), (Fl r40), (Fl r42)]), v85, v86, v87, v88, v89, v90, v91, v92, v93, v94, v95, v96, (Bo (β1 && β2)), v104, v105, v106, v107, v108, v109, v110, v111, v112, v113, v114, v115, v116, v117, v118, v119, v120, v121, v122, v123, (Bo β5)]) _
  refine q_is rfl rfl (does_assign (u := (Bo β5)) (ev rfl)) (by dsimp only [List.set]; try rfl) ?_
  refine wpList_nil (hK103 _ _ ?_)
  refine wp_ret ?_
  refine ret_val (v := (Bo β5)) (res_T rfl (slot rfl)) X129 ?_
  have x130 : (isCam A_c) = β5 := by unfold isCam; rw [some_fwd, some_rgt]; simp only [h2, h4, h6, h8, h10, h12, h14, h27, h29, h31, h33, h35, h37, h39, h41, h43, hβ1, hβ2, hβ3, hβ4, hβ5]; first | rfl | ac_rfl
  exact (by first | rfl | rw [x130])

/- impl.TilesOf -/
theorem c_impl_TilesOf (c : List Value) (A_c : CamT) (sz : Int) (w : World) (hv_c : RCamT w A_c c) : Gives Try.prog 38 #[(.agg c.toArray), (Iv sz)] w (fun v w' => ∃ y_1 : Value, ∃ Lw_2 : List Nat, v = (.tuple #[y_1, (Bo (tilesOk A_c sz))]) ∧ Hang w.heap.size w' (fun u => Sl RTileT 4 u y_1 (gvA [] (tilesOk A_c sz) (tilesC A_c sz))) ∧ WL 4 w.heap.size w' Lw_2 y_1 (gvA [] (tilesOk A_c sz) (tilesC A_c sz)).length) := by
  obtain ⟨r1, r3, r5, r7, r9, r11, r13, rfl, h2, h4, h6, h8, h10, h12, h14⟩ := hv_c
  refine enter [(.agg #[(Fl r1), (Fl r3), (Fl r5), (Fl r7), (Fl r9), (Fl r11), (Fl r13), (Iv A_c.width), (Iv A_c.height)]), (Iv sz), Ud, Ud, Ud, Ud, Ud, Ud, Ud, Ud, Ud, Ud, Ud, Ud, Ud, Ud, Ud, Ud, Ud, Ud, Ud, Ud, Ud, Ud, Ud, Ud, Ud, Ud, Ud, Ud, Ud, Ud, Ud, Ud, Ud, Ud, Ud, Ud, Ud, Ud, Ud, Ud, Ud, Ud, Ud, Ud, Ud, Ud, Ud, Ud, Ud] Try.func38 rfl Try.ntmps38 rfl ?_
  refine wp_seq_k fun K15 hK15 => ?_
  refine wp_region_lit ?_
  refine seqd rfl rfl (does_box (u := (.agg #[(Fl r1), (Fl r3), (Fl r5), (Fl r7), (Fl r9), (Fl r11), (Fl r13), (Iv A_c.width), (Iv A_c.height)])) (ev rfl)) ?_; rintro _ w20 ⟨b16, rfl, hb17, hB18, E19⟩
  have g21 : w.heap.size ≤ b16 := Nat.le_trans (Below.size (Ext.refl w)) hb17
  change Blk _ _ [(Fl r1), (Fl r3), (Fl r5), (Fl r7), (Fl r9), (Fl r11), (Fl r13), (Iv A_c.width), (Iv A_c.height)] at hB18
  have X22 := Ext.gr (Ext.refl w) E19
  show wpList _ _ _ _ (fr [(.agg #[(Fl r1), (Fl r3), (Fl r5), (Fl r7), (Fl r9), (Fl r11), (Fl r13), (Iv A_c.width), (Iv A_c.height)]), (Iv sz), (Pt b16 0), Ud, Ud, Ud, Ud, Ud, Ud, Ud, Ud, Ud, Ud, Ud, Ud, Ud, Ud, Ud, Ud, Ud, Ud, Ud, Ud, Ud, Ud, Ud, Ud, Ud, Ud, Ud, Ud, Ud, Ud, Ud, Ud, Ud, Ud, Ud, Ud, Ud, Ud, Ud, Ud, Ud, Ud, Ud, Ud, Ud, Ud, Ud, Ud]) _
  refine q_is rfl rfl (does_assign (u := (.slice none 0 0)) (ev rfl)) (by dsimp only [List.set]; try rfl) ?_
  refine q_is rfl rfl (does_assign (u := (Bo false)) (ev rfl)) (by dsimp only [List.set]; try rfl) ?_
  refine wpList_nil (hK15 _ _ ?_)
  refine wp_seq_k fun K23 hK23 => ?_
  refine wp_seq_k fun K24 hK24 => ?_
  obtain ⟨β1, hβ1⟩ : ∃ b : Bool, b = ((!(isCam A_c)) || (!(inI sz 1 12))) := ⟨_, rfl⟩
  refine region_text (
    [Fact.pure [] (fun v => v = (.agg #[(Fl r1), (Fl r3), (Fl r5), (Fl r7), (Fl r9), (Fl r11), (Fl r13), (Iv A_c.width), (Iv A_c.height)])),
    Fact.pure [9] (fun v => v = (Bo (isCam A_c))),
    Fact.pure [10] (fun v => v = (Bo (!(isCam A_c)))),
    Fact.pure [11] (fun v => v = (Bo (!(isCam A_c)))),
    Fact.pure [12] (fun v => (!(isCam A_c)) = false → v = (Iv sz)),
    Fact.pure [13, 12] (fun v => (!(isCam A_c)) = false → v = (Bo (inI sz 1 12))),
    Fact.pure [14, 12] (fun v => (!(isCam A_c)) = false → v = (Bo (!(inI sz 1 12)))),
    Fact.pure [12, 15] (fun v => v = (Bo β1))]) (by simp [Fact.pure, Fact.mem]) ?_
  refine RW_d _ rfl (fun v => by dsimp only [List.set]; try rfl) (fun u hu hF => ?_) (fun v25 => ?_)
  · clear hF
    refine doesG_un rfl ?_
    refine (does_loadAgg (cs := [(Fl r1), (Fl r3), (Fl r5), (Fl r7), (Fl r9), (Fl r11), (Fl r13), (Iv A_c.width), (Iv A_c.height)]) (ev rfl) Try.isAgg48 Try.sizeOf48 (Blk.cells (hB18.ext hu)) rfl).mono ?_; rintro _ _ ⟨rfl, rfl⟩
    exact ⟨rfl, Ext.refl _⟩
  refine RW_d _ rfl (fun v => by dsimp only [List.set]; try rfl) (fun u hu hF => ?_) (fun v26 => ?_)
  · have h9_ : v25 = (.agg #[(Fl r1), (Fl r3), (Fl r5), (Fl r7), (Fl r9), (Fl r11), (Fl r13), (Iv A_c.width), (Iv A_c.height)]) := hF.1
    clear hF
    refine doesG_un rfl ?_
    obtain rfl := h9_
    refine (does_call (args := #[(.agg #[(Fl r1), (Fl r3), (Fl r5), (Fl r7), (Fl r9), (Fl r11), (Fl r13), (Iv A_c.width), (Iv A_c.height)])]) cal25 (evs rfl) (c_impl_ValidCamera [(Fl r1), (Fl r3), (Fl r5), (Fl r7), (Fl r9), (Fl r11), (Fl r13), (Iv A_c.width), (Iv A_c.height)] A_c _ ⟨r1, r3, r5, r7, r9, r11, r13, rfl, h2, h4, h6, h8, h10, h12, h14⟩)).mono ?_; rintro v u' ⟨hx, hv⟩
    exact ⟨hv, hx⟩
  refine RW_d _ rfl (fun v => by dsimp only [List.set]; try rfl) (fun u hu hF => ?_) (fun v27 => ?_)
  · have h10_ : v26 = (Bo (isCam A_c)) := hF.1
    clear hF
    refine doesG_un rfl ?_
    obtain rfl := h10_
    refine (does_not (ev rfl)).mono ?_; rintro _ _ ⟨rfl, rfl⟩
    exact ⟨rfl, Ext.refl _⟩
  refine RW_d _ rfl (fun v => by dsimp only [List.set]; try rfl) (fun u hu hF => ?_) (fun v28 => ?_)
  · have h11_ : v27 = (Bo (!(isCam A_c))) := hF.1
    clear hF
    refine doesG_un rfl ?_
    obtain rfl := h11_
    refine (does_move (u := (Bo (!(isCam A_c)))) (ev rfl)).mono ?_; rintro _ _ ⟨rfl, rfl⟩
    exact ⟨rfl, Ext.refl _⟩
  refine RW_d _ rfl (fun v => by dsimp only [List.set]; try rfl) (fun u hu hF => ?_) (fun v29 => ?_)
  · have h12_ : v28 = (Bo (!(isCam A_c))) := hF.1
    clear hF
    obtain rfl := h12_
    refine doesG_g (b := (!(isCam A_c))) rfl (yld rfl rfl) (fun hg1 => ?_) (fun hc => ⟨fun hg1 => absurd hg1 hc, Ext.refl _⟩)
    refine (does_move (u := (Iv sz)) (ev rfl)).mono ?_; rintro _ _ ⟨rfl, rfl⟩
    exact ⟨fun _ => rfl, Ext.refl _⟩
  refine RW_d _ rfl (fun v => by dsimp only [List.set]; try rfl) (fun u hu hF => ?_) (fun v30 => ?_)
  · have h13_ : (!(isCam A_c)) = false → v29 = (Iv sz) := hF.1
    have h12_ : v28 = (Bo (!(isCam A_c))) := hF.2.1
    clear hF
    obtain rfl := h12_
    refine doesG_g (b := (!(isCam A_c))) rfl (yld rfl rfl) (fun hg1 => ?_) (fun hc => ⟨fun hg1 => absurd hg1 hc, Ext.refl _⟩)
    obtain rfl := h13_ hg1
    refine (does_call (args := #[(Iv sz), (Iv 1), (Iv 12)]) cal56 (evs rfl) (c_impl_in sz 1 12 _)).mono ?_; rintro v u' ⟨hx, hv⟩
    exact ⟨fun _ => hv, hx⟩
  refine RW_d _ rfl (fun v => by dsimp only [List.set]; try rfl) (fun u hu hF => ?_) (fun v31 => ?_)
  · have h14_ : (!(isCam A_c)) = false → v30 = (Bo (inI sz 1 12)) := hF.1
    have h12_ : v28 = (Bo (!(isCam A_c))) := hF.2.1
    clear hF
    obtain rfl := h12_
    refine doesG_g (b := (!(isCam A_c))) rfl (yld rfl rfl) (fun hg1 => ?_) (fun hc => ⟨fun hg1 => absurd hg1 hc, Ext.refl _⟩)
    obtain rfl := h14_ hg1
    refine (does_not (ev rfl)).mono ?_; rintro _ _ ⟨rfl, rfl⟩
    exact ⟨fun _ => rfl, Ext.refl _⟩
  refine RW_d _ rfl (fun v => by dsimp only [List.set]; try rfl) (fun u hu hF => ?_) (fun v32 => ?_)
  · have h12_ : v28 = (Bo (!(isCam A_c))) := hF.1
    have h15_ : (!(isCam A_c)) = false → v31 = (Bo (!(inI sz 1 12))) := hF.2.1
    clear hF
    refine doesG_un rfl ?_
    skip
    obtain rfl := h12_
    refine (does_pick (b := (!(isCam A_c))) (ev rfl) (ev rfl) (ev rfl)).mono ?_; rintro _ _ ⟨rfl, rfl⟩; refine ⟨?_, Ext.refl _⟩; rw [hβ1]; skip
    cases hbb : (!(isCam A_c)) <;> simp [hbb] at h15_ ⊢
    all_goals (first | rfl | (subst h15_; rfl) | simp_all)
  refine RW_fin ?_; intro w33 E34 hP35
  obtain ⟨⟨⟨⟨⟨⟨⟨⟨-, -⟩, -⟩, -⟩, -⟩, -⟩, -⟩, -⟩, q36⟩ := hP35
  have X37 := Ext.gr X22 E34
  have q36 : v32 = (Bo β1) := q36
  obtain rfl := q36
  show wpList _ _ _ _ (fr [(.agg #[(Fl r1), (Fl r3), (Fl r5), (Fl r7), (Fl r9), (Fl r11), (Fl r13), (Iv A_c.width), (Iv A_c.height)]), (Iv sz), (Pt b16 0), Ud, (.slice none 0 0), (Bo false), Ud, Ud, Ud, v25, v26, v27, v28, v29, v30, v31, (Bo β1), Ud, Ud, Ud, Ud, Ud, Ud, Ud, Ud, Ud, Ud, Ud, Ud, Ud, Ud, Ud, Ud, Ud, Ud, Ud, Ud, Ud, Ud, Ud, Ud, Ud, Ud, Ud, Ud, Ud, Ud, Ud, Ud, Ud, Ud]) _
  refine wpList_nil (hK24 _ _ ?_)
  refine wp_cond_split (t := β1) (ev rfl) (fun c38 => ?_) (fun c38 => ?_)
  · have c38' := c38
    (try simp only [hβ1] at c38')
    (try simp only [icmp, Bool.and_eq_true, Bool.or_eq_true, Bool.and_eq_false_iff, Bool.or_eq_false_iff, Bool.not_eq_true', Bool.not_eq_false', decide_eq_true_eq, decide_eq_false_iff_not, beq_iff_eq, bne_iff_ne, beq_eq_false_iff_ne, bne_eq_false_iff_eq] at c38')
    refine wp_seq_k fun K39 hK39 => ?_
    refine wp_region_lit ?_
    refine q_is rfl rfl (does_assign (u := (.slice none 0 0)) (ev rfl)) (by dsimp only [List.set]; try rfl) ?_
    refine q_is rfl rfl (does_assign (u := (Bo false)) (ev rfl)) (by dsimp only [List.set]; try rfl) ?_
    refine wpList_nil (hK39 _ _ ?_)
    refine wp_ret ?_
    dsimp only [Exit.then, Exit.inBlock]
    refine ret_val (v := (.tuple #[(.slice none 0 0), (Bo false)])) (res_TT rfl (slot rfl) (slot rfl)) X37 ?_
    try simp only [h2, h4, h6, h8, h10, h12, h14, hβ1] at c38
    have x40 : (tilesOk A_c sz) = false := by first | exact tilesOk_f (by assumption) | exact tilesOk_t (by assumption) | (rw [tilesOk_f (by assumption)]; rfl) | (rw [tilesOk_t (by assumption), gvA_t]; done) | (rw [tilesOk_t (by assumption), gvA_t, ← hye, rowsT_end (by omega), List.append_nil])
    have x41 : ([]) = (gvA [] (tilesOk A_c sz) (tilesC A_c sz)) := by first | exact tilesOk_f (by assumption) | exact tilesOk_t (by assumption) | (rw [tilesOk_f (by assumption)]; rfl) | (rw [tilesOk_t (by assumption), gvA_t]; done) | (rw [tilesOk_t (by assumption), gvA_t, ← hye, rowsT_end (by omega), List.append_nil])
    have x42 : ([]) = (gvA [] (tilesOk A_c sz) (tilesC A_c sz)) := by first | exact tilesOk_f (by assumption) | exact tilesOk_t (by assumption) | (rw [tilesOk_f (by assumption)]; rfl) | (rw [tilesOk_t (by assumption), gvA_t]; done) | (rw [tilesOk_t (by assumption), gvA_t, ← hye, rowsT_end (by omega), List.append_nil])
    exact ⟨(.slice none 0 0), [], (by first | rfl | rw [x40]), (x41 ▸ (Sl.hang_nil _ _ _ _)), (WL.cast (WL.nil _ _ _) (congrArg List.length x42))⟩
  have c38' := c38
  (try simp only [hβ1] at c38')
  (try simp only [icmp, Bool.and_eq_true, Bool.or_eq_true, Bool.and_eq_false_iff, Bool.or_eq_false_iff, Bool.not_eq_true', Bool.not_eq_false', decide_eq_true_eq, decide_eq_false_iff_not, beq_iff_eq, bne_iff_ne, beq_eq_false_iff_ne, bne_eq_false_iff_eq] at c38')
  have htk := tilesOk_iff.1 (tilesOk_t (c := A_c) (s := sz) (by assumption))
  have hwh := isCam_wh htk.1
  have hsi := inI_iff.1 htk.2
  refine wp_skip (hK23 _ _ ?_)
  refine wp_seq_k fun K43 hK43 => ?_
  refine wp_region_lit ?_
  have n50 : b16 < w33.heap.size := Blk.lt (hB18.ext E34)
  refine seqd rfl rfl (does_slice0 (e := 54) (fun _ => by kernel_rfl)) ?_; rintro _ w49 ⟨b44, rfl, hb45, hl46, hO47, E48⟩
  have X51 := Ext.gr X37 E48
  have hO52 := hO47 _ RTileT 4
  have hH53 : Hang w33.heap.size w49 (fun u => Sl RTileT 4 u (.slice (some ⟨b44, 0, none⟩) 0 0) ([])) := Own.hang hO52 RTileT.flat (by decide) hb45 (Below.size E48)
  show wpList _ _ _ _ (fr [(.agg #[(Fl r1), (Fl r3), (Fl r5), (Fl r7), (Fl r9), (Fl r11), (Fl r13), (Iv A_c.width), (Iv A_c.height)]), (Iv sz), (Pt b16 0), Ud, (.slice none 0 0), (Bo false), Ud, Ud, Ud, v25, v26, v27, v28, v29, v30, v31, (Bo β1), (.slice (some ⟨b44, 0, none⟩) 0 0), Ud, Ud, Ud, Ud, Ud, Ud, Ud, Ud, Ud, Ud, Ud, Ud, Ud, Ud, Ud, Ud, Ud, Ud, Ud, Ud, Ud, Ud, Ud, Ud, Ud, Ud, Ud, Ud, Ud, Ud, Ud, Ud, Ud]) _
  refine q_is rfl rfl (does_assign (u := (.slice (some ⟨b44, 0, none⟩) 0 0)) (ev rfl)) (by dsimp only [List.set]; try rfl) ?_
  refine wpList_nil (hK43 _ _ ?_)
  refine wp_seq_k fun K54 hK54 => ?_
  refine wp_seq_k fun K55 hK55 => ?_
  refine wp_region_lit ?_
  refine q_is rfl rfl (does_assign (u := (Iv 0)) (ev rfl)) (by dsimp only [List.set]; try rfl) ?_
  refine wpList_nil (hK55 _ _ ?_)
  refine wp_block ?_
  have n61 : b16 < w49.heap.size := Blk.lt ((hB18.ext E34).ext E48)
  obtain ⟨gg57, hg58, hg59, hO60⟩ := Own.start' hO52 hO52
  have hN62 : w33.heap.size ≤ gg57 := by rcases hg58 with h | h; exact h ▸ hb45; exact Nat.le_trans (Below.size E48) h
  have g63 : w.heap.size ≤ gg57 := Nat.le_trans (Below.size (Ext.gr (Ext.gr (Ext.refl _) E19) E34)) hN62
  have hg64 : gg57 < w49.heap.size := by rcases hg59 with h | h; exact h ▸ Nat.lt_of_lt_of_le hl46 (Nat.le_refl _); exact h
  refine loop_ghost (σ := Int × Nat × List TileT) (fun s a w' => ∃ u56 : Nat → Value, ∃ y6 : Value, a = fr [(.agg #[(Fl r1), (Fl r3), (Fl r5), (Fl r7), (Fl r9), (Fl r11), (Fl r13), (Iv A_c.width), (Iv A_c.height)]), (Iv sz), (Pt b16 0), Ud, (.slice none 0 0), (Bo false), y6, (Iv s.1), (u56 8), v25, v26, v27, v28, v29, v30, v31, (Bo β1), (.slice (some ⟨b44, 0, none⟩) 0 0), (u56 18), (u56 19), (u56 20), (u56 21), (u56 22), (u56 23), (u56 24), (u56 25), (u56 26), (u56 27), (u56 28), (u56 29), (u56 30), (u56 31), (u56 32), (u56 33), (u56 34), (u56 35), (u56 36), (u56 37), (u56 38), (u56 39), (u56 40), (u56 41), (u56 42), (u56 43), (u56 44), (u56 45), (u56 46), (u56 47), (u56 48), (u56 49), Ud] ∧ KpL [gg57] w49 w' ∧ Own RTileT 4 54 gg57 w49.heap.size w' y6 s.2.2 ∧ (0 ≤ s.1 ∧ A_c.height - s.1 ≤ s.2.1 ∧ s.2.2 ++ rowsT A_c sz s.2.1 s.1 = tilesC A_c sz)) (fun s => (A_c.height - s.1).toNat) (0, 12, []) ?_ ?_
  · refine ⟨fun t => (([(.agg #[(Fl r1), (Fl r3), (Fl r5), (Fl r7), (Fl r9), (Fl r11), (Fl r13), (Iv A_c.width), (Iv A_c.height)]), (Iv sz), (Pt b16 0), Ud, (.slice none 0 0), (Bo false), (.slice (some ⟨b44, 0, none⟩) 0 0), (Iv 0), Ud, v25, v26, v27, v28, v29, v30, v31, (Bo β1), (.slice (some ⟨b44, 0, none⟩) 0 0), Ud, Ud, Ud, Ud, Ud, Ud, Ud, Ud, Ud, Ud, Ud, Ud, Ud, Ud, Ud, Ud, Ud, Ud, Ud, Ud, Ud, Ud, Ud, Ud, Ud, Ud, Ud, Ud, Ud, Ud, Ud, Ud, Ud] : List Value)[t]?).getD undef, (.slice (some ⟨b44, 0, none⟩) 0 0), rfl, KpL.refl _ _, (Own.cast hO60 (by rfl)), ?_⟩
    exact ⟨by omega, by (try dsimp only); omega, rfl⟩
  · rintro s a w65 ⟨u56, y6, rfl, E66, hO68, ⟨hy0, hyf, hye⟩⟩
    have X69 := Below.kl X51 E66 (allS g63 all0) (Nat.le_refl _)
    obtain ⟨p70, q71, rfl⟩ := Own.shape hO68
    have hH72 : Hang w33.heap.size w65 (fun u => Sl RTileT 4 u (.slice p70 s.2.2.length q71) s.2.2) := Own.hang hO68 RTileT.flat (by decide) hN62 (Below.size E48)
    have htl := tilesC_len A_c sz
    have hyl := congrArg List.length hye
    rw [List.length_append] at hyl
    refine wp_seq_k fun K73 hK73 => ?_
    refine wp_seq_k fun K74 hK74 => ?_
    refine wp_region_lit ?_
    refine q_is rfl rfl (does_move (u := (Iv s.1)) (ev rfl)) (by dsimp only [List.set]; try rfl) ?_
    refine q_is rfl rfl (does_fieldAddr (ev rfl) fa48_4) (by dsimp only [List.set]; try rfl) ?_
    refine q_is rfl rfl (does_load (u := (Iv A_c.height)) (ev rfl) Try.isAgg2 (Cells.at (Blk.cells (((hB18.ext E34).ext E48).kl E66 (ninS (Nat.ne_of_lt (Nat.lt_of_lt_of_le n50 hN62)) nin0))) 8 rfl)) (by dsimp only [List.set]; try rfl) ?_
    refine q_is rfl rfl (does_icmp (p := s.1) (q := A_c.height) (.inr (.inr (.inl rfl))) (ev rfl) (ev rfl)) (by dsimp only [List.set]; try rfl) ?_
    refine wpList_nil (hK74 _ _ ?_)
    refine wp_cond_split (t := icmp .lss s.1 A_c.height) (ev rfl) (fun c75 => ?_) (fun c75 => ?_)
    · have c75' := c75
      (try simp only [hβ1] at c75')
      (try simp only [icmp, Bool.and_eq_true, Bool.or_eq_true, Bool.and_eq_false_iff, Bool.or_eq_false_iff, Bool.not_eq_true', Bool.not_eq_false', decide_eq_true_eq, decide_eq_false_iff_not, beq_iff_eq, bne_iff_ne, beq_eq_false_iff_ne, bne_eq_false_iff_eq] at c75')
      refine wp_skip (hK73 _ _ ?_)
      refine wp_seq_k fun K76 hK76 => ?_
      refine wp_block ?_
      refine wp_seq_k fun K77 hK77 => ?_
      refine wp_region_lit ?_
      refine q_is rfl rfl (does_assign (u := (Iv 0)) (ev rfl)) (by dsimp only [List.set]; try rfl) ?_
      refine wpList_nil (hK77 _ _ ?_)
      refine wp_block ?_
      have n83 : b16 < w65.heap.size := Blk.lt (((hB18.ext E34).ext E48).kl E66 (ninS (Nat.ne_of_lt (Nat.lt_of_lt_of_le n50 hN62)) nin0))
      obtain ⟨gg79, hg80, hg81, hO82⟩ := Own.start' hO68 hO68
      have hN84 : w33.heap.size ≤ gg79 := by rcases hg80 with h | h; exact h ▸ hN62; exact Nat.le_trans (Below.size E48) h
      have g85 : w.heap.size ≤ gg79 := Nat.le_trans (Below.size (Ext.gr (Ext.gr (Ext.refl _) E19) E34)) hN84
      have n86 : b16 ≠ gg79 := hg80.elim (fun h => by rw [h]; exact (Nat.ne_of_lt (Nat.lt_of_lt_of_le n50 hN62))) (fun h => Nat.ne_of_lt (Nat.lt_of_lt_of_le n61 h))
      have hg87 : gg79 < w65.heap.size := by rcases hg81 with h | h; exact h ▸ Nat.lt_of_lt_of_le hg64 (KpL.size E66); exact h
      refine loop_ghost (σ := Int × Nat × List TileT) (fun z a w' => ∃ u78 : Nat → Value, ∃ y6 : Value, a = fr [(.agg #[(Fl r1), (Fl r3), (Fl r5), (Fl r7), (Fl r9), (Fl r11), (Fl r13), (Iv A_c.width), (Iv A_c.height)]), (Iv sz), (Pt b16 0), Ud, (.slice none 0 0), (Bo false), y6, (Iv s.1), (Iv z.1), v25, v26, v27, v28, v29, v30, v31, (Bo β1), (.slice (some ⟨b44, 0, none⟩) 0 0), (Iv s.1), (Pt b16 8), (Iv A_c.height), (Bo (icmp .lss s.1 A_c.height)), (u56 22), (u56 23), (u56 24), (u78 25), (u78 26), (u78 27), (u78 28), (u78 29), (u78 30), (u78 31), (u78 32), (u78 33), (u78 34), (u78 35), (u78 36), (u78 37), (u78 38), (u78 39), (u78 40), (u78 41), (u78 42), (u78 43), (u78 44), (u78 45), (u78 46), (u78 47), (u78 48), (u78 49), Ud] ∧ KpL [gg79] w65 w' ∧ Own RTileT 4 54 gg79 w65.heap.size w' y6 z.2.2 ∧ (0 ≤ z.1 ∧ A_c.width - z.1 ≤ z.2.1 ∧ z.2.2 ++ rowT A_c sz s.1 z.2.1 z.1 = s.2.2 ++ rowT A_c sz s.1 12 0)) (fun z => (A_c.width - z.1).toNat) (0, 12, s.2.2) ?_ ?_
      · refine ⟨fun t => (([(.agg #[(Fl r1), (Fl r3), (Fl r5), (Fl r7), (Fl r9), (Fl r11), (Fl r13), (Iv A_c.width), (Iv A_c.height)]), (Iv sz), (Pt b16 0), Ud, (.slice none 0 0), (Bo false), (.slice p70 s.2.2.length q71), (Iv s.1), (Iv 0), v25, v26, v27, v28, v29, v30, v31, (Bo β1), (.slice (some ⟨b44, 0, none⟩) 0 0), (Iv s.1), (Pt b16 8), (Iv A_c.height), (Bo (icmp .lss s.1 A_c.height)), (u56 22), (u56 23), (u56 24), (u56 25), (u56 26), (u56 27), (u56 28), (u56 29), (u56 30), (u56 31), (u56 32), (u56 33), (u56 34), (u56 35), (u56 36), (u56 37), (u56 38), (u56 39), (u56 40), (u56 41), (u56 42), (u56 43), (u56 44), (u56 45), (u56 46), (u56 47), (u56 48), (u56 49), Ud] : List Value)[t]?).getD undef, (.slice p70 s.2.2.length q71), rfl, KpL.refl _ _, (Own.cast hO82 (by rfl)), ?_⟩
        exact ⟨by omega, by (try dsimp only); omega, rfl⟩
      · rintro z a w88 ⟨u78, y6, rfl, E89, hO91, ⟨hx0, hxf, hxe⟩⟩
        have X92 := Below.kl X69 E89 (allS g85 all0) (Nat.le_refl _)
        obtain ⟨p93, q94, rfl⟩ := Own.shape hO91
        have hH95 : Hang w33.heap.size w88 (fun u => Sl RTileT 4 u (.slice p93 z.2.2.length q94) z.2.2) := Own.hang hO91 RTileT.flat (by decide) hN84 (Nat.le_trans (Below.size E48) (KpL.size E66))
        have hrl := rowT_len A_c sz s.1 12 0
        have hxl := congrArg List.length hxe
        rw [List.length_append, List.length_append] at hxl
        refine wp_seq_k fun K96 hK96 => ?_
        refine wp_seq_k fun K97 hK97 => ?_
        refine wp_region_lit ?_
        refine q_is rfl rfl (does_move (u := (Iv z.1)) (ev rfl)) (by dsimp only [List.set]; try rfl) ?_
        refine q_is rfl rfl (does_fieldAddr (ev rfl) fa48_3) (by dsimp only [List.set]; try rfl) ?_
        refine q_is rfl rfl (does_load (u := (Iv A_c.width)) (ev rfl) Try.isAgg2 (Cells.at (Blk.cells ((((hB18.ext E34).ext E48).kl E66 (ninS (Nat.ne_of_lt (Nat.lt_of_lt_of_le n50 hN62)) nin0)).kl E89 (ninS n86 nin0))) 7 rfl)) (by dsimp only [List.set]; try rfl) ?_
        refine q_is rfl rfl (does_icmp (p := z.1) (q := A_c.width) (.inr (.inr (.inl rfl))) (ev rfl) (ev rfl)) (by dsimp only [List.set]; try rfl) ?_
        refine wpList_nil (hK97 _ _ ?_)
        refine wp_cond_split (t := icmp .lss z.1 A_c.width) (ev rfl) (fun c98 => ?_) (fun c98 => ?_)
        · have c98' := c98
          (try simp only [hβ1] at c98')
          (try simp only [icmp, Bool.and_eq_true, Bool.or_eq_true, Bool.and_eq_false_iff, Bool.or_eq_false_iff, Bool.not_eq_true', Bool.not_eq_false', decide_eq_true_eq, decide_eq_false_iff_not, beq_iff_eq, bne_iff_ne, beq_eq_false_iff_ne, bne_eq_false_iff_eq] at c98')
          refine wp_skip (hK96 _ _ ?_)
          refine wp_seq_k fun K99 hK99 => ?_
          refine wp_block ?_
          refine wp_region_lit ?_
          refine q_is rfl rfl (does_move (u := (.slice p93 z.2.2.length q94)) (ev rfl)) (by dsimp only [List.set]; try rfl) ?_
          refine q_is rfl rfl (does_move (u := (Iv z.1)) (ev rfl)) (by dsimp only [List.set]; try rfl) ?_
          refine q_is rfl rfl (does_move (u := (Iv s.1)) (ev rfl)) (by dsimp only [List.set]; try rfl) ?_
          refine q_is rfl rfl (does_move (u := (Iv sz)) (ev rfl)) (by dsimp only [List.set]; try rfl) ?_
          refine q_is rfl rfl (does_fieldAddr (ev rfl) fa48_3) (by dsimp only [List.set]; try rfl) ?_
          refine q_is rfl rfl (does_load (u := (Iv A_c.width)) (ev rfl) Try.isAgg2 (Cells.at (Blk.cells ((((hB18.ext E34).ext E48).kl E66 (ninS (Nat.ne_of_lt (Nat.lt_of_lt_of_le n50 hN62)) nin0)).kl E89 (ninS n86 nin0))) 7 rfl)) (by dsimp only [List.set]; try rfl) ?_
          refine q_is rfl rfl (does_move (u := (Iv z.1)) (ev rfl)) (by dsimp only [List.set]; try rfl) ?_
          refine q_is rfl rfl (does_iarith (p := A_c.width) (q := z.1) (r := A_c.width - z.1) (ev rfl) (ev rfl) (.inr (.inl ⟨rfl, (in_i64 (by omega) (by omega)).symm⟩))) (by dsimp only [List.set]; try rfl) ?_
          refine q_is rfl rfl (does_min (p := sz) (q := A_c.width - z.1) Try.underlying2 (ev rfl) (ev rfl)) (by dsimp only [List.set]; try rfl) ?_
          refine q_is rfl rfl (does_move (u := (Iv sz)) (ev rfl)) (by dsimp only [List.set]; try rfl) ?_
          refine q_is rfl rfl (does_fieldAddr (ev rfl) fa48_4) (by dsimp only [List.set]; try rfl) ?_
          refine q_is rfl rfl (does_load (u := (Iv A_c.height)) (ev rfl) Try.isAgg2 (Cells.at (Blk.cells ((((hB18.ext E34).ext E48).kl E66 (ninS (Nat.ne_of_lt (Nat.lt_of_lt_of_le n50 hN62)) nin0)).kl E89 (ninS n86 nin0))) 8 rfl)) (by dsimp only [List.set]; try rfl) ?_
          refine q_is rfl rfl (does_move (u := (Iv s.1)) (ev rfl)) (by dsimp only [List.set]; try rfl) ?_
          refine q_is rfl rfl (does_iarith (p := A_c.height) (q := s.1) (r := A_c.height - s.1) (ev rfl) (ev rfl) (.inr (.inl ⟨rfl, (in_i64 (by omega) (by omega)).symm⟩))) (by dsimp only [List.set]; try rfl) ?_
          refine q_is rfl rfl (does_min (p := sz) (q := A_c.height - s.1) Try.underlying2 (ev rfl) (ev rfl)) (by dsimp only [List.set]; try rfl) ?_
          refine q_is rfl rfl (does_build (parts' := [(0, (Iv z.1)), (1, (Iv s.1)), (2, (Iv (min sz (A_c.width - z.1)))), (3, (Iv (min sz (A_c.height - s.1))))]) (cells := #[(Iv z.1), (Iv s.1), (Iv (min sz (A_c.width - z.1))), (Iv (min sz (A_c.height - s.1)))]) (evp rfl) (by kernel_rfl)) (by dsimp only [List.set]; try rfl) ?_
          refine seqd rfl rfl (does_buildSlice (e := 54) (parts' := [(0, (.agg #[(Iv z.1), (Iv s.1), (Iv (min sz (A_c.width - z.1))), (Iv (min sz (A_c.height - s.1)))]))]) (cells := [(Iv z.1), (Iv s.1), (Iv (min sz (A_c.width - z.1))), (Iv (min sz (A_c.height - s.1)))]) (evp rfl) (fun _ => by kernel_rfl)) ?_; rintro _ w104 ⟨b100, rfl, hb101, hB102, E103⟩
          have n105 : b16 < b100 := Nat.lt_of_lt_of_le (Blk.lt ((((hB18.ext E34).ext E48).kl E66 (ninS (Nat.ne_of_lt (Nat.lt_of_lt_of_le n50 hN62)) nin0)).kl E89 (ninS n86 nin0))) hb101
          have g106 : w.heap.size ≤ b100 := Nat.le_trans (Below.size X92) hb101
          have X107 := Ext.gr X92 E103
          show wpList _ _ _ _ (fr [(.agg #[(Fl r1), (Fl r3), (Fl r5), (Fl r7), (Fl r9), (Fl r11), (Fl r13), (Iv A_c.width), (Iv A_c.height)]), (Iv sz), (Pt b16 0), Ud, (.slice none 0 0), (Bo false), (.slice p93 z.2.2.length q94), (Iv s.1), (Iv z.1), v25, v26, v27, v28, v29, v30, v31, (Bo β1), (.slice (some ⟨b44, 0, none⟩) 0 0), (Iv s.1), (Pt b16 8), (Iv A_c.height), (Bo (icmp .lss s.1 A_c.height)), (u56 22), (u56 23), (u56 24), (Iv z.1), (Pt b16 7), (Iv A_c.width), (Bo (icmp .lss z.1 A_c.width)), (u78 29), (u78 30), (u78 31), (.slice p93 z.2.2.length q94), (Iv z.1), (Iv s.1), (Iv sz), (Pt b16 7), (Iv A_c.width), (Iv z.1), (Iv (A_c.width - z.1)), (Iv (min sz (A_c.width - z.1))), (Iv sz), (Pt b16 8), (Iv A_c.height), (Iv s.1), (Iv (A_c.height - s.1)), (Iv (min sz (A_c.height - s.1))), (.agg #[(Iv z.1), (Iv s.1), (Iv (min sz (A_c.width - z.1))), (Iv (min sz (A_c.height - s.1)))]), (.slice (some ⟨b100, 0, none⟩) 1 1), (u78 49), Ud]) _
          refine seqd rfl rfl (does_append (R := RTileT) (k := 4) (g0 := gg79) (B := w65.heap.size) (xs := z.2.2) (ys := [(TileT.mk z.1 s.1 (min sz (A_c.width - z.1)) (min sz (A_c.height - s.1)))]) Try.underlying69 inf54 rfl (by decide) (ev rfl) (ev rfl) (Own.same hO91 RTileT.flat ((Same.refl _ _).ext E103) hN84 (Nat.le_trans (Below.size E48) (KpL.size E66))) RTileT.flat hB102 rfl rfl rfl (fun i x hi => lit1 (R := RTileT) (cs := [(Iv z.1), (Iv s.1), (Iv (min sz (A_c.width - z.1))), (Iv (min sz (A_c.height - s.1)))]) (y := (TileT.mk z.1 s.1 (min sz (A_c.width - z.1)) (min sz (A_c.height - s.1))))  rfl i x hi) (by first | (simp only [List.length_append, List.length_cons, List.length_nil]; omega) | omega) (Nat.le_trans (KpL.size E89) (Below.size E103))) ?_; rintro y' w108 ⟨gg109, hg110, K111, hO112⟩
          have hN113 : w33.heap.size ≤ gg109 := by rcases hg110 with h | h; exact h ▸ hN84; exact Nat.le_trans (Nat.le_trans (Below.size E48) (KpL.size E66)) h
          have g114 : w.heap.size ≤ gg109 := Nat.le_trans (Below.size (Ext.gr (Ext.gr (Ext.refl _) E19) E34)) hN113
          have n115 : b16 ≠ gg109 := hg110.elim (fun h => by rw [h]; exact n86) (fun h => Nat.ne_of_lt (Nat.lt_of_lt_of_le n83 h))
          have X116 := Below.kl X107 K111 (allS g114 all0) (Nat.le_refl _)
          obtain ⟨p117, q118, rfl⟩ := Own.shape hO112
          have hH119 : Hang w33.heap.size w108 (fun u => Sl RTileT 4 u (.slice p117 ((z.2.2 ++ [(TileT.mk z.1 s.1 (min sz (A_c.width - z.1)) (min sz (A_c.height - s.1)))]).length) q118) (z.2.2 ++ [(TileT.mk z.1 s.1 (min sz (A_c.width - z.1)) (min sz (A_c.height - s.1)))])) := Own.hang hO112 RTileT.flat (by decide) hN84 (Nat.le_trans (Below.size E48) (KpL.size E66))
          show wpList _ _ _ _ (fr [(.agg #[(Fl r1), (Fl r3), (Fl r5), (Fl r7), (Fl r9), (Fl r11), (Fl r13), (Iv A_c.width), (Iv A_c.height)]), (Iv sz), (Pt b16 0), Ud, (.slice none 0 0), (Bo false), (.slice p93 z.2.2.length q94), (Iv s.1), (Iv z.1), v25, v26, v27, v28, v29, v30, v31, (Bo β1), (.slice (some ⟨b44, 0, none⟩) 0 0), (Iv s.1), (Pt b16 8), (Iv A_c.height), (Bo (icmp .lss s.1 A_c.height)), (u56 22), (u56 23), (u56 24), (Iv z.1), (Pt b16 7), (Iv A_c.width), (Bo (icmp .lss z.1 A_c.width)), (u78 29), (u78 30), (u78 31), (.slice p93 z.2.2.length q94), (Iv z.1), (Iv s.1), (Iv sz), (Pt b16 7), (Iv A_c.width), (Iv z.1), (Iv (A_c.width - z.1)), (Iv (min sz (A_c.width - z.1))), (Iv sz), (Pt b16 8), (Iv A_c.height), (Iv s.1), (Iv (A_c.height - s.1)), (Iv (min sz (A_c.height - s.1))), (.agg #[(Iv z.1), (Iv s.1), (Iv (min sz (A_c.width - z.1))), (Iv (min sz (A_c.height - s.1)))]), (.slice (some ⟨b100, 0, none⟩) 1 1), (.slice p117 ((z.2.2 ++ [(TileT.mk z.1 s.1 (min sz (A_c.width - z.1)) (min sz (A_c.height - s.1)))]).length) q118), Ud]) _
          refine q_is rfl rfl (does_assign (u := (.slice p117 ((z.2.2 ++ [(TileT.mk z.1 s.1 (min sz (A_c.width - z.1)) (min sz (A_c.height - s.1)))]).length) q118)) (ev rfl)) (by dsimp only [List.set]; try rfl) ?_
          refine wpList_nil (hK99 _ _ ?_)
          refine wp_region_lit ?_
          refine q_is rfl rfl (does_move (u := (Iv z.1)) (ev rfl)) (by dsimp only [List.set]; try rfl) ?_
          refine q_is rfl rfl (does_move (u := (Iv sz)) (ev rfl)) (by dsimp only [List.set]; try rfl) ?_
          refine q_is rfl rfl (does_iarith (p := z.1) (q := sz) (r := z.1 + sz) (ev rfl) (ev rfl) (.inl ⟨rfl, (in_i64 (by omega) (by omega)).symm⟩)) (by dsimp only [List.set]; try rfl) ?_
          refine q_is rfl rfl (does_assign (u := (Iv (z.1 + sz))) (ev rfl)) (by dsimp only [List.set]; try rfl) ?_
          refine wpList_nil ?_
          have hO120 := Own.cast (ys := ((fun (z : Int × Nat × List TileT) => z.2.2) (z.1 + sz, z.2.1 - 1, z.2.2 ++ [(TileT.mk z.1 s.1 (min sz (A_c.width - z.1)) (min sz (A_c.height - s.1)))]))) hO112 (by (try dsimp only); first | done | rfl)
          refine ⟨(z.1 + sz, z.2.1 - 1, z.2.2 ++ [(TileT.mk z.1 s.1 (min sz (A_c.width - z.1)) (min sz (A_c.height - s.1)))]), ⟨fun t => (([(.agg #[(Fl r1), (Fl r3), (Fl r5), (Fl r7), (Fl r9), (Fl r11), (Fl r13), (Iv A_c.width), (Iv A_c.height)]), (Iv sz), (Pt b16 0), Ud, (.slice none 0 0), (Bo false), (.slice p117 ((z.2.2 ++ [(TileT.mk z.1 s.1 (min sz (A_c.width - z.1)) (min sz (A_c.height - s.1)))]).length) q118), (Iv s.1), (Iv (z.1 + sz)), v25, v26, v27, v28, v29, v30, v31, (Bo β1), (.slice (some ⟨b44, 0, none⟩) 0 0), (Iv s.1), (Pt b16 8), (Iv A_c.height), (Bo (icmp .lss s.1 A_c.height)), (u56 22), (u56 23), (u56 24), (Iv z.1), (Pt b16 7), (Iv A_c.width), (Bo (icmp .lss z.1 A_c.width)), (Iv z.1), (Iv sz), (Iv (z.1 + sz)), (.slice p93 z.2.2.length q94), (Iv z.1), (Iv s.1), (Iv sz), (Pt b16 7), (Iv A_c.width), (Iv z.1), (Iv (A_c.width - z.1)), (Iv (min sz (A_c.width - z.1))), (Iv sz), (Pt b16 8), (Iv A_c.height), (Iv s.1), (Iv (A_c.height - s.1)), (Iv (min sz (A_c.height - s.1))), (.agg #[(Iv z.1), (Iv s.1), (Iv (min sz (A_c.width - z.1))), (Iv (min sz (A_c.height - s.1)))]), (.slice (some ⟨b100, 0, none⟩) 1 1), (.slice p117 ((z.2.2 ++ [(TileT.mk z.1 s.1 (min sz (A_c.width - z.1)) (min sz (A_c.height - s.1)))]).length) q118), Ud] : List Value)[t]?).getD undef, (.slice p117 ((z.2.2 ++ [(TileT.mk z.1 s.1 (min sz (A_c.width - z.1)) (min sz (A_c.height - s.1)))]).length) q118), ?_, (KpL.more (KpL.ext E89 E103) K111 (allS (hg110.imp (fun h => by simp [h]) id) all0)), hO120, ?_⟩, ?_⟩
          · first | rfl | (simp only [Nat.cast_add, Nat.cast_one, Int.natCast_add, Int.natCast_one]; rfl)
          · (try dsimp only); exact ⟨by omega, by omega, by rw [List.append_assoc, List.singleton_append]; exact (congrArg _ (rowT_step (by omega) hxf).symm).trans hxe⟩
          · (try dsimp only); omega
        have c98' := c98
        (try simp only [hβ1] at c98')
        (try simp only [icmp, Bool.and_eq_true, Bool.or_eq_true, Bool.and_eq_false_iff, Bool.or_eq_false_iff, Bool.not_eq_true', Bool.not_eq_false', decide_eq_true_eq, decide_eq_false_iff_not, beq_iff_eq, bne_iff_ne, beq_eq_false_iff_ne, bne_eq_false_iff_eq] at c98')
        refine wp_exit ?_
        refine hK76 _ _ ?_
        refine wp_region_lit ?_
        refine q_is rfl rfl (does_move (u := (Iv s.1)) (ev rfl)) (by dsimp only [List.set]; try rfl) ?_
        refine q_is rfl rfl (does_move (u := (Iv sz)) (ev rfl)) (by dsimp only [List.set]; try rfl) ?_
        refine q_is rfl rfl (does_iarith (p := s.1) (q := sz) (r := s.1 + sz) (ev rfl) (ev rfl) (.inl ⟨rfl, (in_i64 (by omega) (by omega)).symm⟩)) (by dsimp only [List.set]; try rfl) ?_
        refine q_is rfl rfl (does_assign (u := (Iv (s.1 + sz))) (ev rfl)) (by dsimp only [List.set]; try rfl) ?_
        refine wpList_nil ?_
        have hO121 := Own.cast (ys := ((fun (s : Int × Nat × List TileT) => s.2.2) (s.1 + sz, s.2.1 - 1, z.2.2))) (Own.back hO91 hg80 (KpL.size E66)) (by (try dsimp only); first | done | rfl)
        refine ⟨(s.1 + sz, s.2.1 - 1, z.2.2), ⟨fun t => (([(.agg #[(Fl r1), (Fl r3), (Fl r5), (Fl r7), (Fl r9), (Fl r11), (Fl r13), (Iv A_c.width), (Iv A_c.height)]), (Iv sz), (Pt b16 0), Ud, (.slice none 0 0), (Bo false), (.slice p93 z.2.2.length q94), (Iv (s.1 + sz)), (Iv z.1), v25, v26, v27, v28, v29, v30, v31, (Bo β1), (.slice (some ⟨b44, 0, none⟩) 0 0), (Iv s.1), (Pt b16 8), (Iv A_c.height), (Bo (icmp .lss s.1 A_c.height)), (Iv s.1), (Iv sz), (Iv (s.1 + sz)), (Iv z.1), (Pt b16 7), (Iv A_c.width), (Bo (icmp .lss z.1 A_c.width)), (u78 29), (u78 30), (u78 31), (u78 32), (u78 33), (u78 34), (u78 35), (u78 36), (u78 37), (u78 38), (u78 39), (u78 40), (u78 41), (u78 42), (u78 43), (u78 44), (u78 45), (u78 46), (u78 47), (u78 48), (u78 49), Ud] : List Value)[t]?).getD undef, (.slice p93 z.2.2.length q94), ?_, (KpL.more E66 E89 (allS (hg80.imp (fun h => by simp [h]) id) all0)), hO121, ?_⟩, ?_⟩
        · first | rfl | (simp only [Nat.cast_add, Nat.cast_one, Int.natCast_add, Int.natCast_one]; rfl)
        · (try dsimp only); exact ⟨by omega, by omega, by rw [show z.2.2 = s.2.2 ++ rowT A_c sz s.1 12 0 from by rw [← hxe, rowT_end (by omega), List.append_nil], List.append_assoc, ← rowsT_step (by omega) hyf, hye]⟩
        · (try dsimp only); omega
    have c75' := c75
    (try simp only [hβ1] at c75')
    (try simp only [icmp, Bool.and_eq_true, Bool.or_eq_true, Bool.and_eq_false_iff, Bool.or_eq_false_iff, Bool.not_eq_true', Bool.not_eq_false', decide_eq_true_eq, decide_eq_false_iff_not, beq_iff_eq, bne_iff_ne, beq_eq_false_iff_ne, bne_eq_false_iff_eq] at c75')
    refine wp_exit ?_
    refine hK54 _ _ ?_
    refine wp_seq_k fun K122 hK122 => ?_
    refine wp_region_lit ?_
    refine q_is rfl rfl (does_move (u := (.slice p70 s.2.2.length q71)) (ev rfl)) (by dsimp only [List.set]; try rfl) ?_
    refine q_is rfl rfl (does_assign (u := (.slice p70 s.2.2.length q71)) (ev rfl)) (by dsimp only [List.set]; try rfl) ?_
    refine q_is rfl rfl (does_assign (u := (Bo true)) (ev rfl)) (by dsimp only [List.set]; try rfl) ?_
    refine wpList_nil (hK122 _ _ ?_)
    refine wp_ret ?_
    refine ret_val (v := (.tuple #[(.slice p70 s.2.2.length q71), (Bo true)])) (res_TT rfl (slot rfl) (slot rfl)) X69 ?_
    obtain ⟨Lw123, hw124⟩ : ∃ L, WL 4 w.heap.size w65 L (.slice p70 s.2.2.length q71) s.2.2.length := Own.wl hO68 (Nat.le_trans (Nat.le_trans (Below.size E19) (Below.size E34)) hN62) (Nat.le_trans (Nat.le_trans (Below.size E19) (Below.size E34)) (Below.size E48))
    try simp only [h2, h4, h6, h8, h10, h12, h14, hβ1] at c38 c75
    have x125 : (tilesOk A_c sz) = true := by first | exact tilesOk_f (by assumption) | exact tilesOk_t (by assumption) | (rw [tilesOk_f (by assumption)]; rfl) | (rw [tilesOk_t (by assumption), gvA_t]; done) | (rw [tilesOk_t (by assumption), gvA_t, ← hye, rowsT_end (by omega), List.append_nil])
    have x126 : s.2.2 = (gvA [] (tilesOk A_c sz) (tilesC A_c sz)) := by first | exact tilesOk_f (by assumption) | exact tilesOk_t (by assumption) | (rw [tilesOk_f (by assumption)]; rfl) | (rw [tilesOk_t (by assumption), gvA_t]; done) | (rw [tilesOk_t (by assumption), gvA_t, ← hye, rowsT_end (by omega), List.append_nil])
    have x127 : s.2.2 = (gvA [] (tilesOk A_c sz) (tilesC A_c sz)) := by first | exact tilesOk_f (by assumption) | exact tilesOk_t (by assumption) | (rw [tilesOk_f (by assumption)]; rfl) | (rw [tilesOk_t (by assumption), gvA_t]; done) | (rw [tilesOk_t (by assumption), gvA_t, ← hye, rowsT_end (by omega), List.append_nil])
    exact ⟨(.slice p70 s.2.2.length q71), Lw123, (by first | rfl | rw [x125]), (x126 ▸ (Own.hang hO68 RTileT.flat (by decide) (Nat.le_trans (Nat.le_trans (Below.size E19) (Below.size E34)) hN62) (Nat.le_trans (Nat.le_trans (Below.size E19) (Below.size E34)) (Below.size E48)))), (WL.cast hw124 (congrArg List.length x127))⟩

/- laws.eqTile -/
theorem c_laws_eqTile (a : List Value) (A_a : TileT) (b : List Value) (A_b : TileT) (w : World) (hv_a : RTileT w A_a a) (hv_b : RTileT w A_b b) : Gives Try.prog 76 #[(.agg a.toArray), (.agg b.toArray)] w (fun v w' => v = (Bo (eqTil A_a A_b))) := by
  obtain rfl := hv_a
  obtain rfl := hv_b
  refine enter [(.agg #[(Iv A_a.x), (Iv A_a.y), (Iv A_a.width), (Iv A_a.height)]), (.agg #[(Iv A_b.x), (Iv A_b.y), (Iv A_b.width), (Iv A_b.height)]), Ud, Ud, Ud, Ud, Ud, Ud, Ud, Ud, Ud, Ud, Ud, Ud, Ud, Ud, Ud, Ud, Ud, Ud, Ud, Ud, Ud, Ud, Ud] Try.func76 rfl Try.ntmps76 rfl ?_
  refine wp_seq_k fun K1 hK1 => ?_
  refine wp_region_lit ?_
  refine seqd rfl rfl (does_box (u := (.agg #[(Iv A_a.x), (Iv A_a.y), (Iv A_a.width), (Iv A_a.height)])) (ev rfl)) ?_; rintro _ w6 ⟨b2, rfl, hb3, hB4, E5⟩
  have g7 : w.heap.size ≤ b2 := Nat.le_trans (Below.size (Ext.refl w)) hb3
  change Blk _ _ [(Iv A_a.x), (Iv A_a.y), (Iv A_a.width), (Iv A_a.height)] at hB4
  have X8 := Ext.gr (Ext.refl w) E5
  show wpList _ _ _ _ (fr [(.agg #[(Iv A_a.x), (Iv A_a.y), (Iv A_a.width), (Iv A_a.height)]), (.agg #[(Iv A_b.x), (Iv A_b.y), (Iv A_b.width), (Iv A_b.height)]), (Pt b2 0), Ud, Ud, Ud, Ud, Ud, Ud, Ud, Ud, Ud, Ud, Ud, Ud, Ud, Ud, Ud, Ud, Ud, Ud, Ud, Ud, Ud, Ud]) _
  refine seqd rfl rfl (does_box (u := (.agg #[(Iv A_b.x), (Iv A_b.y), (Iv A_b.width), (Iv A_b.height)])) (ev rfl)) ?_; rintro _ w13 ⟨b9, rfl, hb10, hB11, E12⟩
  have n14 : b2 < b9 := Nat.lt_of_lt_of_le (Blk.lt hB4) hb10
  have g15 : w.heap.size ≤ b9 := Nat.le_trans (Below.size X8) hb10
  change Blk _ _ [(Iv A_b.x), (Iv A_b.y), (Iv A_b.width), (Iv A_b.height)] at hB11
  have X16 := Ext.gr X8 E12
  show wpList _ _ _ _ (fr [(.agg #[(Iv A_a.x), (Iv A_a.y), (Iv A_a.width), (Iv A_a.height)]), (.agg #[(Iv A_b.x), (Iv A_b.y), (Iv A_b.width), (Iv A_b.height)]), (Pt b2 0), (Pt b9 0), Ud, Ud, Ud, Ud, Ud, Ud, Ud, Ud, Ud, Ud, Ud, Ud, Ud, Ud, Ud, Ud, Ud, Ud, Ud, Ud, Ud]) _
  refine q_is rfl rfl (does_assign (u := (Bo false)) (ev rfl)) (by dsimp only [List.set]; try rfl) ?_
  refine wpList_nil (hK1 _ _ ?_)
  refine wp_seq_k fun K17 hK17 => ?_
  refine wp_seq_k fun K18 hK18 => ?_
  refine wp_region_lit ?_
  refine q_is rfl rfl (does_fieldAddr (ev rfl) fa54_0) (by dsimp only [List.set]; try rfl) ?_
  refine q_is rfl rfl (does_load (u := (Iv A_a.x)) (ev rfl) Try.isAgg2 (Cells.at (Blk.cells (hB4.ext E12)) 0 rfl)) (by dsimp only [List.set]; try rfl) ?_
  refine q_is rfl rfl (does_fieldAddr (ev rfl) fa54_0) (by dsimp only [List.set]; try rfl) ?_
  refine q_is rfl rfl (does_load (u := (Iv A_b.x)) (ev rfl) Try.isAgg2 (Cells.at (Blk.cells hB11) 0 rfl)) (by dsimp only [List.set]; try rfl) ?_
  refine q_is rfl rfl (does_icmp (p := A_a.x) (q := A_b.x) (.inr (.inl rfl)) (ev rfl) (ev rfl)) (by dsimp only [List.set]; try rfl) ?_
  refine wpList_nil (hK18 _ _ ?_)
  refine wp_cond_split (t := icmp .neq A_a.x A_b.x) (ev rfl) (fun c19 => ?_) (fun c19 => ?_)
  · have c19' := c19
    (try simp only [icmp, Bool.and_eq_true, Bool.or_eq_true, Bool.and_eq_false_iff, Bool.or_eq_false_iff, Bool.not_eq_true', Bool.not_eq_false', decide_eq_true_eq, decide_eq_false_iff_not, beq_iff_eq, bne_iff_ne, beq_eq_false_iff_ne, bne_eq_false_iff_eq] at c19')
    refine wp_seq_k fun K20 hK20 => ?_
    refine wp_region_lit ?_
    refine q_is rfl rfl (does_assign (u := (Bo false)) (ev rfl)) (by dsimp only [List.set]; try rfl) ?_
    refine wpList_nil (hK20 _ _ ?_)
    refine wp_ret ?_
    dsimp only [Exit.then, Exit.inBlock]
    refine ret_val (v := (Bo false)) (res_T rfl (slot rfl)) X16 ?_
    have x21 : (eqTil A_a A_b) = false := by first | with_reducible rfl | (simp only [eqTil, icmp, c19]; done) | (simp [eqTil, icmp, c19]; done) | (revert c19; simp +contextual [eqTil, icmp]; done) | (rcases c19' with hh | hh <;> simp only [hh, eqTil, icmp, c19]; done) | (rcases c19' with hh | hh <;> simp_all [eqTil, icmp]; done) | (rcases c19' with hh | hh | hh <;> simp_all [eqTil, icmp]; done) | (rcases c19' with hh | hh | hh | hh <;> simp_all [eqTil, icmp]; done) | (simp_all [eqTil, icmp]; done) | rfl
    exact (by first | rfl | rw [x21])
  have c19' := c19
  (try simp only [icmp, Bool.and_eq_true, Bool.or_eq_true, Bool.and_eq_false_iff, Bool.or_eq_false_iff, Bool.not_eq_true', Bool.not_eq_false', decide_eq_true_eq, decide_eq_false_iff_not, beq_iff_eq, bne_iff_ne, beq_eq_false_iff_ne, bne_eq_false_iff_eq] at c19')
  refine wp_skip (hK17 _ _ ?_)
  refine wp_seq_k fun K22 hK22 => ?_
  refine wp_seq_k fun K23 hK23 => ?_
  refine wp_region_lit ?_
  refine q_is rfl rfl (does_fieldAddr (ev rfl) fa54_1) (by dsimp only [List.set]; try rfl) ?_
  refine q_is rfl rfl (does_load (u := (Iv A_a.y)) (ev rfl) Try.isAgg2 (Cells.at (Blk.cells (hB4.ext E12)) 1 rfl)) (by dsimp only [List.set]; try rfl) ?_
  refine q_is rfl rfl (does_fieldAddr (ev rfl) fa54_1) (by dsimp only [List.set]; try rfl) ?_
  refine q_is rfl rfl (does_load (u := (Iv A_b.y)) (ev rfl) Try.isAgg2 (Cells.at (Blk.cells hB11) 1 rfl)) (by dsimp only [List.set]; try rfl) ?_
  refine q_is rfl rfl (does_icmp (p := A_a.y) (q := A_b.y) (.inr (.inl rfl)) (ev rfl) (ev rfl)) (by dsimp only [List.set]; try rfl) ?_
  refine wpList_nil (hK23 _ _ ?_)
  refine wp_cond_split (t := icmp .neq A_a.y A_b.y) (ev rfl) (fun c24 => ?_) (fun c24 => ?_)
  · have c24' := c24
    (try simp only [icmp, Bool.and_eq_true, Bool.or_eq_true, Bool.and_eq_false_iff, Bool.or_eq_false_iff, Bool.not_eq_true', Bool.not_eq_false', decide_eq_true_eq, decide_eq_false_iff_not, beq_iff_eq, bne_iff_ne, beq_eq_false_iff_ne, bne_eq_false_iff_eq] at c24')
    refine wp_seq_k fun K25 hK25 => ?_
    refine wp_region_lit ?_
    refine q_is rfl rfl (does_assign (u := (Bo false)) (ev rfl)) (by dsimp only [List.set]; try rfl) ?_
    refine wpList_nil (hK25 _ _ ?_)
    refine wp_ret ?_
    dsimp only [Exit.then, Exit.inBlock]
    refine ret_val (v := (Bo false)) (res_T rfl (slot rfl)) X16 ?_
    have x26 : (eqTil A_a A_b) = false := by first | with_reducible rfl | (simp only [eqTil, icmp, c19, c24]; done) | (simp [eqTil, icmp, c19, c24]; done) | (revert c19 c24; simp +contextual [eqTil, icmp]; done) | (rcases c19' with hh | hh <;> simp only [hh, eqTil, icmp, c19, c24]; done) | (rcases c24' with hh | hh <;> simp only [hh, eqTil, icmp, c19, c24]; done) | (rcases c24' with hh | hh <;> simp_all [eqTil, icmp]; done) | (rcases c24' with hh | hh | hh <;> simp_all [eqTil, icmp]; done) | (rcases c24' with hh | hh | hh | hh <;> simp_all [eqTil, icmp]; done) | (simp_all [eqTil, icmp]; done) | rfl
    exact (by first | rfl | rw [x26])
  have c24' := c24
  (try simp only [icmp, Bool.and_eq_true, Bool.or_eq_true, Bool.and_eq_false_iff, Bool.or_eq_false_iff, Bool.not_eq_true', Bool.not_eq_false', decide_eq_true_eq, decide_eq_false_iff_not, beq_iff_eq, bne_iff_ne, beq_eq_false_iff_ne, bne_eq_false_iff_eq] at c24')
  refine wp_skip (hK22 _ _ ?_)
  refine wp_seq_k fun K27 hK27 => ?_
  refine wp_seq_k fun K28 hK28 => ?_
  refine wp_region_lit ?_
  refine q_is rfl rfl (does_fieldAddr (ev rfl) fa54_2) (by dsimp only [List.set]; try rfl) ?_
  refine q_is rfl rfl (does_load (u := (Iv A_a.width)) (ev rfl) Try.isAgg2 (Cells.at (Blk.cells (hB4.ext E12)) 2 rfl)) (by dsimp only [List.set]; try rfl) ?_
  refine q_is rfl rfl (does_fieldAddr (ev rfl) fa54_2) (by dsimp only [List.set]; try rfl) ?_
  refine q_is rfl rfl (does_load (u := (Iv A_b.width)) (ev rfl) Try.isAgg2 (Cells.at (Blk.cells hB11) 2 rfl)) (by dsimp only [List.set]; try rfl) ?_
  refine q_is rfl rfl (does_icmp (p := A_a.width) (q := A_b.width) (.inr (.inl rfl)) (ev rfl) (ev rfl)) (by dsimp only [List.set]; try rfl) ?_
  refine wpList_nil (hK28 _ _ ?_)
  refine wp_cond_split (t := icmp .neq A_a.width A_b.width) (ev rfl) (fun c29 => ?_) (fun c29 => ?_)
  · have c29' := c29
    (try simp only [icmp, Bool.and_eq_true, Bool.or_eq_true, Bool.and_eq_false_iff, Bool.or_eq_false_iff, Bool.not_eq_true', Bool.not_eq_false', decide_eq_true_eq, decide_eq_false_iff_not, beq_iff_eq, bne_iff_ne, beq_eq_false_iff_ne, bne_eq_false_iff_eq] at c29')
    refine wp_seq_k fun K30 hK30 => ?_
    refine wp_region_lit ?_
    refine q_is rfl rfl (does_assign (u := (Bo false)) (ev rfl)) (by dsimp only [List.set]; try rfl) ?_
    refine wpList_nil (hK30 _ _ ?_)
    refine wp_ret ?_
    dsimp only [Exit.then, Exit.inBlock]
    refine ret_val (v := (Bo false)) (res_T rfl (slot rfl)) X16 ?_
    have x31 : (eqTil A_a A_b) = false := by first | with_reducible rfl | (simp only [eqTil, icmp, c19, c24, c29]; done) | (simp [eqTil, icmp, c19, c24, c29]; done) | (revert c19 c24 c29; simp +contextual [eqTil, icmp]; done) | (rcases c19' with hh | hh <;> simp only [hh, eqTil, icmp, c19, c24, c29]; done) | (rcases c24' with hh | hh <;> simp only [hh, eqTil, icmp, c19, c24, c29]; done) | (rcases c29' with hh | hh <;> simp only [hh, eqTil, icmp, c19, c24, c29]; done) | (rcases c29' with hh | hh <;> simp_all [eqTil, icmp]; done) | (rcases c29' with hh | hh | hh <;> simp_all [eqTil, icmp]; done) | (rcases c29' with hh | hh | hh | hh <;> simp_all [eqTil, icmp]; done) | (simp_all [eqTil, icmp]; done) | rfl
    exact (by first | rfl | rw [x31])
  have c29' := c29
  (try simp only [icmp, Bool.and_eq_true, Bool.or_eq_true, Bool.and_eq_false_iff, Bool.or_eq_false_iff, Bool.not_eq_true', Bool.not_eq_false', decide_eq_true_eq, decide_eq_false_iff_not, beq_iff_eq, bne_iff_ne, beq_eq_false_iff_ne, bne_eq_false_iff_eq] at c29')
  refine wp_skip (hK27 _ _ ?_)
  refine wp_seq_k fun K32 hK32 => ?_
  refine wp_seq_k fun K33 hK33 => ?_
  refine wp_region_lit ?_
  refine q_is rfl rfl (does_fieldAddr (ev rfl) fa54_3) (by dsimp only [List.set]; try rfl) ?_
  refine q_is rfl rfl (does_load (u := (Iv A_a.height)) (ev rfl) Try.isAgg2 (Cells.at (Blk.cells (hB4.ext E12)) 3 rfl)) (by dsimp only [List.set]; try rfl) ?_
  refine q_is rfl rfl (does_fieldAddr (ev rfl) fa54_3) (by dsimp only [List.set]; try rfl) ?_
  refine q_is rfl rfl (does_load (u := (Iv A_b.height)) (ev rfl) Try.isAgg2 (Cells.at (Blk.cells hB11) 3 rfl)) (by dsimp only [List.set]; try rfl) ?_
  refine q_is rfl rfl (does_icmp (p := A_a.height) (q := A_b.height) (.inr (.inl rfl)) (ev rfl) (ev rfl)) (by dsimp only [List.set]; try rfl) ?_
  refine wpList_nil (hK33 _ _ ?_)
  refine wp_cond_split (t := icmp .neq A_a.height A_b.height) (ev rfl) (fun c34 => ?_) (fun c34 => ?_)
  · have c34' := c34
    (try simp only [icmp, Bool.and_eq_true, Bool.or_eq_true, Bool.and_eq_false_iff, Bool.or_eq_false_iff, Bool.not_eq_true', Bool.not_eq_false', decide_eq_true_eq, decide_eq_false_iff_not, beq_iff_eq, bne_iff_ne, beq_eq_false_iff_ne, bne_eq_false_iff_eq] at c34')
    refine wp_seq_k fun K35 hK35 => ?_
    refine wp_region_lit ?_
    refine q_is rfl rfl (does_assign (u := (Bo false)) (ev rfl)) (by dsimp only [List.set]; try rfl) ?_
    refine wpList_nil (hK35 _ _ ?_)
    refine wp_ret ?_
    dsimp only [Exit.then, Exit.inBlock]
    refine ret_val (v := (Bo false)) (res_T rfl (slot rfl)) X16 ?_
    have x36 : (eqTil A_a A_b) = false := by first | with_reducible rfl | (simp only [eqTil, icmp, c19, c24, c29, c34]; done) | (simp [eqTil, icmp, c19, c24, c29, c34]; done) | (revert c19 c24 c29 c34; simp +contextual [eqTil, icmp]; done) | (rcases c19' with hh | hh <;> simp only [hh, eqTil, icmp, c19, c24, c29, c34]; done) | (rcases c24' with hh | hh <;> simp only [hh, eqTil, icmp, c19, c24, c29, c34]; done) | (rcases c29' with hh | hh <;> simp only [hh, eqTil, icmp, c19, c24, c29, c34]; done) | (rcases c34' with hh | hh <;> simp only [hh, eqTil, icmp, c19, c24, c29, c34]; done) | (rcases c34' with hh | hh <;> simp_all [eqTil, icmp]; done) | (rcases c34' with hh | hh | hh <;> simp_all [eqTil, icmp]; done) | (rcases c34' with hh | hh | hh | hh <;> simp_all [eqTil, icmp]; done) | (simp_all [eqTil, icmp]; done) | rfl
    exact (by first | rfl | rw [x36])
  have c34' := c34
  (try simp only [icmp, Bool.and_eq_true, Bool.or_eq_true, Bool.and_eq_false_iff, Bool.or_eq_false_iff, Bool.not_eq_true', Bool.not_eq_false', decide_eq_true_eq, decide_eq_false_iff_not, beq_iff_eq, bne_iff_ne, beq_eq_false_iff_ne, bne_eq_false_iff_eq] at c34')
  refine wp_skip (hK32 _ _ ?_)
  refine wp_seq_k fun K37 hK37 => ?_
  refine wp_region_lit ?_
  refine q_is rfl rfl (does_assign (u := (Bo true)) (ev rfl)) (by dsimp only [List.set]; try rfl) ?_
  refine wpList_nil (hK37 _ _ ?_)
  refine wp_ret ?_
  refine ret_val (v := (Bo true)) (res_T rfl (slot rfl)) X16 ?_
  have x38 : (eqTil A_a A_b) = true := by first | with_reducible rfl | (simp only [eqTil, icmp, c19, c24, c29, c34]; done) | (simp [eqTil, icmp, c19, c24, c29, c34]; done) | (revert c19 c24 c29 c34; simp +contextual [eqTil, icmp]; done) | (rcases c19' with hh | hh <;> simp only [hh, eqTil, icmp, c19, c24, c29, c34]; done) | (rcases c24' with hh | hh <;> simp only [hh, eqTil, icmp, c19, c24, c29, c34]; done) | (rcases c29' with hh | hh <;> simp only [hh, eqTil, icmp, c19, c24, c29, c34]; done) | (rcases c34' with hh | hh <;> simp only [hh, eqTil, icmp, c19, c24, c29, c34]; done) | (rcases c34' with hh | hh <;> simp_all [eqTil, icmp]; done) | (rcases c34' with hh | hh | hh <;> simp_all [eqTil, icmp]; done) | (rcases c34' with hh | hh | hh | hh <;> simp_all [eqTil, icmp]; done) | (simp_all [eqTil, icmp]; done) | rfl
  exact (by first | rfl | rw [x38])

/- laws.eqTileS -/
theorem c_laws_eqTileS (a : Value) (L_a : List TileT) (b : Value) (L_b : List TileT) (w : World) (hv_a : Sl RTileT 4 w a L_a) (hv_b : Sl RTileT 4 w b L_b) : Gives Try.prog 39 #[a, b] w (fun v w' => v = (Bo (sameX eqTil L_a L_b))) := by
  have hlen_a := Sl.len hv_a; obtain ⟨p_a, q_a, rfl⟩ := Sl.shape hv_a
  have hlen_b := Sl.len hv_b; obtain ⟨p_b, q_b, rfl⟩ := Sl.shape hv_b
  refine enter [(.slice p_a L_a.length q_a), (.slice p_b L_b.length q_b), Ud, Ud, Ud, Ud, Ud, Ud, Ud, Ud, Ud, Ud, Ud, Ud, Ud, Ud, Ud, Ud, Ud, Ud, Ud, Ud, Ud, Ud, Ud, Ud, Ud] Try.func39 rfl Try.ntmps39 rfl ?_
  refine wp_seq_k fun K1 hK1 => ?_
  refine wp_region_lit ?_
  refine q_is rfl rfl (does_assign (u := (Bo false)) (ev rfl)) (by dsimp only [List.set]; try rfl) ?_
  refine wpList_nil (hK1 _ _ ?_)
  refine wp_seq_k fun K2 hK2 => ?_
  refine wp_seq_k fun K3 hK3 => ?_
  refine wp_region_lit ?_
  refine q_is rfl rfl (does_move (u := (.slice p_a L_a.length q_a)) (ev rfl)) (by dsimp only [List.set]; try rfl) ?_
  refine q_is rfl rfl (does_len_slice Try.underlying69 (ev rfl)) (by dsimp only [List.set]; try rfl) ?_
  refine q_is rfl rfl (does_move (u := (.slice p_b L_b.length q_b)) (ev rfl)) (by dsimp only [List.set]; try rfl) ?_
  refine q_is rfl rfl (does_len_slice Try.underlying69 (ev rfl)) (by dsimp only [List.set]; try rfl) ?_
  refine q_is rfl rfl (does_icmp (p := (L_a.length : Int)) (q := (L_b.length : Int)) (.inr (.inl rfl)) (ev rfl) (ev rfl)) (by dsimp only [List.set]; try rfl) ?_
  refine wpList_nil (hK3 _ _ ?_)
  refine wp_cond_split (t := icmp .neq (L_a.length : Int) (L_b.length : Int)) (ev rfl) (fun c4 => ?_) (fun c4 => ?_)
  · have c4' := c4
    (try simp only [icmp, Bool.and_eq_true, Bool.or_eq_true, Bool.and_eq_false_iff, Bool.or_eq_false_iff, Bool.not_eq_true', Bool.not_eq_false', decide_eq_true_eq, decide_eq_false_iff_not, beq_iff_eq, bne_iff_ne, beq_eq_false_iff_ne, bne_eq_false_iff_eq] at c4')
    refine wp_seq_k fun K5 hK5 => ?_
    refine wp_region_lit ?_
    refine q_is rfl rfl (does_assign (u := (Bo false)) (ev rfl)) (by dsimp only [List.set]; try rfl) ?_
    refine wpList_nil (hK5 _ _ ?_)
    refine wp_ret ?_
    dsimp only [Exit.then, Exit.inBlock]
    refine ret_val (v := (Bo false)) (res_T rfl (slot rfl)) (Ext.refl w) ?_
    have x6 : (sameX eqTil L_a L_b) = false := by first | exact (sameX_len (by omega)) | exact (sameX_not (by omega) (by assumption) (by assumption) (by simp_all)) | exact (sameX_all (by omega) (by omega) hs)
    exact (by first | rfl | rw [x6])
  have c4' := c4
  (try simp only [icmp, Bool.and_eq_true, Bool.or_eq_true, Bool.and_eq_false_iff, Bool.or_eq_false_iff, Bool.not_eq_true', Bool.not_eq_false', decide_eq_true_eq, decide_eq_false_iff_not, beq_iff_eq, bne_iff_ne, beq_eq_false_iff_ne, bne_eq_false_iff_eq] at c4')
  refine wp_skip (hK2 _ _ ?_)
  refine wp_seq_k fun K7 hK7 => ?_
  refine wp_seq_k fun K8 hK8 => ?_
  refine wp_region_lit ?_
  refine q_is rfl rfl (does_assign (u := (Iv 0)) (ev rfl)) (by dsimp only [List.set]; try rfl) ?_
  refine wpList_nil (hK8 _ _ ?_)
  refine wp_block ?_
  refine loop_ghost (σ := Nat) (fun k a w' => ∃ u9 : Nat → Value, a = fr [(.slice p_a L_a.length q_a), (.slice p_b L_b.length q_b), Ud, Ud, (u9 4), (Iv (k : Int)), (.slice p_a L_a.length q_a), (Iv (L_a.length : Int)), (.slice p_b L_b.length q_b), (Iv (L_b.length : Int)), (Bo (icmp .neq (L_a.length : Int) (L_b.length : Int))), (u9 11), (u9 12), (u9 13), (u9 14), (u9 15), (u9 16), (u9 17), (u9 18), (u9 19), (u9 20), (u9 21), (u9 22), (u9 23), (u9 24), (u9 25), (u9 26)] ∧ Ext w w' ∧ (k ≤ L_a.length ∧ SameXTo eqTil L_a L_b k)) (fun k => L_a.length - k) 0 ?_ ?_
  · refine ⟨fun t => (([(.slice p_a L_a.length q_a), (.slice p_b L_b.length q_b), Ud, Ud, (Bo false), (Iv 0), (.slice p_a L_a.length q_a), (Iv (L_a.length : Int)), (.slice p_b L_b.length q_b), (Iv (L_b.length : Int)), (Bo (icmp .neq (L_a.length : Int) (L_b.length : Int))), Ud, Ud, Ud, Ud, Ud, Ud, Ud, Ud, Ud, Ud, Ud, Ud, Ud, Ud, Ud, Ud] : List Value)[t]?).getD undef, rfl, Ext.refl _, ?_⟩
    exact ⟨Nat.zero_le _, SameXTo.zero⟩
  · rintro k a w10 ⟨u9, rfl, E11, ⟨hk, hs⟩⟩
    have X13 := Ext.gr (Ext.refl w) E11
    refine wp_seq_k fun K14 hK14 => ?_
    refine wp_seq_k fun K15 hK15 => ?_
    refine wp_region_lit ?_
    refine q_is rfl rfl (does_move (u := (Iv (k : Int))) (ev rfl)) (by dsimp only [List.set]; try rfl) ?_
    refine q_is rfl rfl (does_move (u := (.slice p_a L_a.length q_a)) (ev rfl)) (by dsimp only [List.set]; try rfl) ?_
    refine q_is rfl rfl (does_len_slice Try.underlying69 (ev rfl)) (by dsimp only [List.set]; try rfl) ?_
    refine q_is rfl rfl (does_icmp (p := (k : Int)) (q := (L_a.length : Int)) (.inr (.inr (.inl rfl))) (ev rfl) (ev rfl)) (by dsimp only [List.set]; try rfl) ?_
    refine wpList_nil (hK15 _ _ ?_)
    refine wp_cond_split (t := icmp .lss (k : Int) (L_a.length : Int)) (ev rfl) (fun c16 => ?_) (fun c16 => ?_)
    · have c16' := c16
      (try simp only [icmp, Bool.and_eq_true, Bool.or_eq_true, Bool.and_eq_false_iff, Bool.or_eq_false_iff, Bool.not_eq_true', Bool.not_eq_false', decide_eq_true_eq, decide_eq_false_iff_not, beq_iff_eq, bne_iff_ne, beq_eq_false_iff_ne, bne_eq_false_iff_eq] at c16')
      refine wp_skip (hK14 _ _ ?_)
      refine wp_seq_k fun K17 hK17 => ?_
      refine wp_block ?_
      refine wp_seq_k fun K18 hK18 => ?_
      obtain ⟨el1, hel1⟩ : ∃ e, L_a[k]? = some e := ⟨_, List.getElem?_eq_getElem (by omega)⟩
      obtain ⟨el2, hel2⟩ : ∃ e, L_b[k]? = some e := ⟨_, List.getElem?_eq_getElem (by omega)⟩
      refine region_draw (
        [Fact.pure [] (fun v => v = (.slice p_a L_a.length q_a)),
    Fact.pure [] (fun v => v = (Iv (k : Int))),
    Fact.mem [17, 18] (fun v w' => PtrR RTileT w' v el1) (by intro v w1 w2 hx h; exact h.ext RTileT.mono hx),
    Fact.pure [19] (fun v => v = (.agg #[(Iv el1.x), (Iv el1.y), (Iv el1.width), (Iv el1.height)])),
    Fact.pure [] (fun v => v = (.slice p_b L_b.length q_b)),
    Fact.pure [] (fun v => v = (Iv (k : Int))),
    Fact.mem [21, 22] (fun v w' => PtrR RTileT w' v el2) (by intro v w1 w2 hx h; exact h.ext RTileT.mono hx),
    Fact.pure [23] (fun v => v = (.agg #[(Iv el2.x), (Iv el2.y), (Iv el2.width), (Iv el2.height)])),
    Fact.pure [20, 24] (fun v => v = (Bo (eqTil el1 el2))),
    Fact.pure [25] (fun v => v = (Bo (!(eqTil el1 el2))))]) mixed (by kernel_rfl) (by intro _ _ d _ _ h; cases d <;> exact h) ?_
      obtain ⟨w19, hw21⟩ : ∃ w', w' = World.drew w10 := ⟨_, rfl⟩; rw [← hw21]; have E20 : Ext w10 w19 := by rw [hw21]; exact Ext.draw _
      clear hw21
      have X22 := Ext.gr X13 E20
      refine RW_d _ rfl (fun v => by dsimp only [List.set]; try rfl) (fun u hu hF => ?_) (fun v23 => ?_)
      · clear hF
        refine doesG_un rfl ?_
        refine (does_move (u := (.slice p_a L_a.length q_a)) (ev rfl)).mono ?_; rintro _ _ ⟨rfl, rfl⟩
        exact ⟨rfl, Ext.refl _⟩
      refine RW_d _ rfl (fun v => by dsimp only [List.set]; try rfl) (fun u hu hF => ?_) (fun v24 => ?_)
      · clear hF
        refine doesG_un rfl ?_
        refine (does_move (u := (Iv (k : Int))) (ev rfl)).mono ?_; rintro _ _ ⟨rfl, rfl⟩
        exact ⟨rfl, Ext.refl _⟩
      refine RW_d _ rfl (fun v => by dsimp only [List.set]; try rfl) (fun u hu hF => ?_) (fun v25 => ?_)
      · have h17_ : v23 = (.slice p_a L_a.length q_a) := hF.1
        have h18_ : v24 = (Iv (k : Int)) := hF.2.1
        clear hF
        refine doesG_un rfl ?_
        obtain rfl := h17_
        obtain rfl := h18_
        refine (does_indexSl (R := RTileT) (i := (k : Int)) (xs := L_a) (e := el1) Try.underlying69 Try.sizeOf54 (ev rfl) (ev rfl) (Sl.ext (Sl.ext hv_a RTileT.mono (Ext.gr X13 E20)) RTileT.mono hu) (by omega) hel1).mono ?_; rintro v u' ⟨b, of, cs, hv, hc, hR, hu'⟩; subst hu'
        exact ⟨⟨b, of, cs, hv, hc, hR⟩, Ext.refl _⟩
      refine RW_d _ rfl (fun v => by dsimp only [List.set]; try rfl) (fun u hu hF => ?_) (fun v26 => ?_)
      · have h19_ : PtrR RTileT u v25 el1 := hF.1
        clear hF
        refine doesG_un rfl ?_
        obtain ⟨b19_, o19_, _, rfl, hc19_, rfl⟩ := h19_
        refine (does_loadAgg (cs := [(Iv el1.x), (Iv el1.y), (Iv el1.width), (Iv el1.height)]) (ev rfl) Try.isAgg54 Try.sizeOf54 hc19_ rfl).mono ?_; rintro _ _ ⟨rfl, rfl⟩
        exact ⟨rfl, Ext.refl _⟩
      refine RW_d _ rfl (fun v => by dsimp only [List.set]; try rfl) (fun u hu hF => ?_) (fun v27 => ?_)
      · clear hF
        refine doesG_un rfl ?_
        refine (does_move (u := (.slice p_b L_b.length q_b)) (ev rfl)).mono ?_; rintro _ _ ⟨rfl, rfl⟩
        exact ⟨rfl, Ext.refl _⟩
      refine RW_d _ rfl (fun v => by dsimp only [List.set]; try rfl) (fun u hu hF => ?_) (fun v28 => ?_)
      · clear hF
        refine doesG_un rfl ?_
        refine (does_move (u := (Iv (k : Int))) (ev rfl)).mono ?_; rintro _ _ ⟨rfl, rfl⟩
        exact ⟨rfl, Ext.refl _⟩
      refine RW_d _ rfl (fun v => by dsimp only [List.set]; try rfl) (fun u hu hF => ?_) (fun v29 => ?_)
      · have h21_ : v27 = (.slice p_b L_b.length q_b) := hF.1
        have h22_ : v28 = (Iv (k : Int)) := hF.2.1
        clear hF
        refine doesG_un rfl ?_
        obtain rfl := h21_
        obtain rfl := h22_
        refine (does_indexSl (R := RTileT) (i := (k : Int)) (xs := L_b) (e := el2) Try.underlying69 Try.sizeOf54 (ev rfl) (ev rfl) (Sl.ext (Sl.ext hv_b RTileT.mono (Ext.gr X13 E20)) RTileT.mono hu) (by omega) hel2).mono ?_; rintro v u' ⟨b, of, cs, hv, hc, hR, hu'⟩; subst hu'
        exact ⟨⟨b, of, cs, hv, hc, hR⟩, Ext.refl _⟩
      refine RW_d _ rfl (fun v => by dsimp only [List.set]; try rfl) (fun u hu hF => ?_) (fun v30 => ?_)
      · have h23_ : PtrR RTileT u v29 el2 := hF.1
        clear hF
        refine doesG_un rfl ?_
        obtain ⟨b23_, o23_, _, rfl, hc23_, rfl⟩ := h23_
        refine (does_loadAgg (cs := [(Iv el2.x), (Iv el2.y), (Iv el2.width), (Iv el2.height)]) (ev rfl) Try.isAgg54 Try.sizeOf54 hc23_ rfl).mono ?_; rintro _ _ ⟨rfl, rfl⟩
        exact ⟨rfl, Ext.refl _⟩
      refine RW_d _ rfl (fun v => by dsimp only [List.set]; try rfl) (fun u hu hF => ?_) (fun v31 => ?_)
      · have h20_ : v26 = (.agg #[(Iv el1.x), (Iv el1.y), (Iv el1.width), (Iv el1.height)]) := hF.1
        have h24_ : v30 = (.agg #[(Iv el2.x), (Iv el2.y), (Iv el2.width), (Iv el2.height)]) := hF.2.1
        clear hF
        refine doesG_un rfl ?_
        obtain rfl := h20_
        obtain rfl := h24_
        refine (does_call (args := #[(.agg #[(Iv el1.x), (Iv el1.y), (Iv el1.width), (Iv el1.height)]), (.agg #[(Iv el2.x), (Iv el2.y), (Iv el2.width), (Iv el2.height)])]) cal76 (evs rfl) (c_laws_eqTile [(Iv el1.x), (Iv el1.y), (Iv el1.width), (Iv el1.height)] el1 [(Iv el2.x), (Iv el2.y), (Iv el2.width), (Iv el2.height)] el2 _ rfl rfl)).mono ?_; rintro v u' ⟨hx, hv⟩
        exact ⟨hv, hx⟩
      refine RW_d _ rfl (fun v => by dsimp only [List.set]; try rfl) (fun u hu hF => ?_) (fun v32 => ?_)
      · have h25_ : v31 = (Bo (eqTil el1 el2)) := hF.1
        clear hF
        refine doesG_un rfl ?_
        obtain rfl := h25_
        refine (does_not (ev rfl)).mono ?_; rintro _ _ ⟨rfl, rfl⟩
        exact ⟨rfl, Ext.refl _⟩
      refine RW_fin ?_; intro w33 E34 hP35
      obtain ⟨⟨⟨⟨⟨⟨⟨⟨⟨⟨-, -⟩, -⟩, -⟩, -⟩, -⟩, -⟩, -⟩, -⟩, -⟩, q36⟩ := hP35
      have X37 := Ext.gr X22 E34
      have q36 : v32 = (Bo (!(eqTil el1 el2))) := q36
      obtain rfl := q36
      show wpList _ _ _ _ (fr [(.slice p_a L_a.length q_a), (.slice p_b L_b.length q_b), Ud, Ud, (u9 4), (Iv (k : Int)), (.slice p_a L_a.length q_a), (Iv (L_a.length : Int)), (.slice p_b L_b.length q_b), (Iv (L_b.length : Int)), (Bo (icmp .neq (L_a.length : Int) (L_b.length : Int))), (Iv (k : Int)), (.slice p_a L_a.length q_a), (Iv (L_a.length : Int)), (Bo (icmp .lss (k : Int) (L_a.length : Int))), (u9 15), (u9 16), v23, v24, v25, v26, v27, v28, v29, v30, v31, (Bo (!(eqTil el1 el2)))]) _
      refine wpList_nil (hK18 _ _ ?_)
      refine wp_cond_split (t := !(eqTil el1 el2)) (ev rfl) (fun c38 => ?_) (fun c38 => ?_)
      · rw [Bool.not_eq_true'] at c38
        have c38' := c38
        refine wp_seq_k fun K39 hK39 => ?_
        refine wp_region_lit ?_
        refine q_is rfl rfl (does_assign (u := (Bo false)) (ev rfl)) (by dsimp only [List.set]; try rfl) ?_
        refine wpList_nil (hK39 _ _ ?_)
        refine wp_ret ?_
        dsimp only [Exit.then, Exit.inBlock]
        refine ret_val (v := (Bo false)) (res_T rfl (slot rfl)) X37 ?_
        try simp only [hel1, hel2] at c4 c16 c38
        have x40 : (sameX eqTil L_a L_b) = false := by first | exact (sameX_len (by omega)) | exact (sameX_not (by omega) (by assumption) (by assumption) (by simp_all)) | exact (sameX_all (by omega) (by omega) hs)
        exact (by first | rfl | rw [x40])
      rw [Bool.not_eq_false'] at c38
      have c38' := c38
      refine wp_skip (hK17 _ _ ?_)
      refine wp_region_lit ?_
      refine q_is rfl rfl (does_move (u := (Iv (k : Int))) (ev rfl)) (by dsimp only [List.set]; try rfl) ?_
      refine q_is rfl rfl (does_iarith (p := (k : Int)) (q := 1) (r := (k : Int) + 1) (ev rfl) (ev rfl) (.inl ⟨rfl, (in_i64 (by omega) (by omega)).symm⟩)) (by dsimp only [List.set]; try rfl) ?_
      refine q_is rfl rfl (does_assign (u := (Iv ((k : Int) + 1))) (ev rfl)) (by dsimp only [List.set]; try rfl) ?_
      refine wpList_nil ?_
      refine ⟨k + 1, ⟨fun t => (([(.slice p_a L_a.length q_a), (.slice p_b L_b.length q_b), Ud, Ud, (u9 4), (Iv ((k : Int) + 1)), (.slice p_a L_a.length q_a), (Iv (L_a.length : Int)), (.slice p_b L_b.length q_b), (Iv (L_b.length : Int)), (Bo (icmp .neq (L_a.length : Int) (L_b.length : Int))), (Iv (k : Int)), (.slice p_a L_a.length q_a), (Iv (L_a.length : Int)), (Bo (icmp .lss (k : Int) (L_a.length : Int))), (Iv (k : Int)), (Iv ((k : Int) + 1)), v23, v24, v25, v26, v27, v28, v29, v30, v31, (Bo (!(eqTil el1 el2)))] : List Value)[t]?).getD undef, ?_, (Ext.gr (Ext.gr E11 E20) E34), ?_⟩, ?_⟩
      · first | rfl | (simp only [Nat.cast_add, Nat.cast_one, Int.natCast_add, Int.natCast_one]; rfl)
      · exact ⟨by omega, SameXTo.step hs (by assumption) (by assumption) (by simp_all)⟩
      · omega
    have c16' := c16
    (try simp only [icmp, Bool.and_eq_true, Bool.or_eq_true, Bool.and_eq_false_iff, Bool.or_eq_false_iff, Bool.not_eq_true', Bool.not_eq_false', decide_eq_true_eq, decide_eq_false_iff_not, beq_iff_eq, bne_iff_ne, beq_eq_false_iff_ne, bne_eq_false_iff_eq] at c16')
    refine wp_exit ?_
    refine hK7 _ _ ?_
    refine wp_seq_k fun K41 hK41 => ?_
    refine wp_region_lit ?_
    refine q_is rfl rfl (does_assign (u := (Bo true)) (ev rfl)) (by dsimp only [List.set]; try rfl) ?_
    refine wpList_nil (hK41 _ _ ?_)
    refine wp_ret ?_
    refine ret_val (v := (Bo true)) (res_T rfl (slot rfl)) X13 ?_
    have x42 : (sameX eqTil L_a L_b) = true := by first | exact (sameX_len (by omega)) | exact (sameX_not (by omega) (by assumption) (by assumption) (by simp_all)) | exact (sameX_all (by omega) (by omega) hs)
    exact (by first | rfl | rw [x42])

theorem c_laws_markTileS_nil (k : Int) (w : World) : Gives Try.prog 40 #[.slice none 0 0, Iv k] w (fun v _ => v = Iv k) := by
  refine enter [(.slice none 0 0), (Iv k), Ud, Ud, Ud, Ud, Ud, Ud, Ud, Ud, Ud, Ud, Ud, Ud, Ud, Ud, Ud, Ud, Ud, Ud, Ud, Ud, Ud, Ud, Ud, Ud, Ud, Ud, Ud, Ud, Ud, Ud, Ud, Ud, Ud, Ud, Ud, Ud, Ud, Ud, Ud] Try.func40 rfl Try.ntmps40 rfl ?_
  refine wp_seq_k fun K1 hK1 => ?_
  refine wp_region_lit ?_
  refine q_is rfl rfl (does_assign (u := (Iv 0)) (ev rfl)) (by dsimp only [List.set]; try rfl) ?_
  refine wpList_nil (hK1 _ _ ?_)
  refine wp_seq_k fun K2 hK2 => ?_
  refine wp_seq_k fun K3 hK3 => ?_
  refine wp_region_lit ?_
  refine q_is rfl rfl (does_assign (u := (Iv 0)) (ev rfl)) (by dsimp only [List.set]; try rfl) ?_
  refine wpList_nil (hK3 _ _ ?_)
  refine wp_block ?_
  refine loop_unroll 1 ?_
  refine un_step ?_
  refine wp_seq_k fun K4 hK4 => ?_
  refine wp_seq_k fun K5 hK5 => ?_
  refine wp_region_lit ?_
  refine q_is rfl rfl (does_move (u := (Iv 0)) (ev rfl)) (by dsimp only [List.set]; try rfl) ?_
  refine q_is rfl rfl (does_move (u := (.slice none 0 0)) (ev rfl)) (by dsimp only [List.set]; try rfl) ?_
  refine q_is rfl rfl (does_len_slice Try.underlying69 (ev rfl)) (by dsimp only [List.set]; try rfl) ?_
  refine q_is rfl rfl (does_icmp (p := 0) (q := 0) (.inr (.inr (.inl rfl))) (ev rfl) (ev rfl)) (by dsimp only [List.set]; try rfl) ?_
  refine wpList_nil (hK5 _ _ ?_)
  refine wp_cond_false (ev rfl) ?_
  refine wp_exit ?_
  refine hK2 _ _ ?_
  refine wp_seq_k fun K6 hK6 => ?_
  refine wp_region_lit ?_
  refine q_is rfl rfl (does_move (u := (Iv k)) (ev rfl)) (by dsimp only [List.set]; try rfl) ?_
  refine q_is rfl rfl (does_assign (u := (Iv k)) (ev rfl)) (by dsimp only [List.set]; try rfl) ?_
  refine wpList_nil (hK6 _ _ ?_)
  refine wp_ret ?_
  refine ret_val (v := (Iv k)) (res_T rfl (slot rfl)) (Ext.refl w) ?_
  have x7 : (k : Int) = k := by first | with_reducible rfl | (simp only []; done) | (simp []; done) | rfl
  exact (by first | rfl | rw [x7])

theorem c_laws_markTileS_blk (g N n cap : Nat) (k : Int) (w : World) (hM : Mk false k w g N 0) (hn : n * 4 ≤ N) (h0 : 0 ≤ k) (h1 : k + (n : Int) * 4 ≤ 4611686018427387904) : GivesK [g] Try.prog 40 #[.slice (some ⟨g, 0, none⟩) n cap, Iv k] w (fun v w' => v = Iv (k + (n : Int) * 4) ∧ Mk false k w' g N (n * 4)) := by
  refine enterK [(.slice (some ⟨g, 0, none⟩) n cap), (Iv k), Ud, Ud, Ud, Ud, Ud, Ud, Ud, Ud, Ud, Ud, Ud, Ud, Ud, Ud, Ud, Ud, Ud, Ud, Ud, Ud, Ud, Ud, Ud, Ud, Ud, Ud, Ud, Ud, Ud, Ud, Ud, Ud, Ud, Ud, Ud, Ud, Ud, Ud, Ud] Try.func40 rfl Try.ntmps40 rfl ?_
  refine wp_seq_k fun K1 hK1 => ?_
  refine wp_region_lit ?_
  refine q_is rfl rfl (does_assign (u := (Iv 0)) (ev rfl)) (by dsimp only [List.set]; try rfl) ?_
  refine wpList_nil (hK1 _ _ ?_)
  refine wp_seq_k fun K2 hK2 => ?_
  refine wp_seq_k fun K3 hK3 => ?_
  refine wp_region_lit ?_
  refine q_is rfl rfl (does_assign (u := (Iv 0)) (ev rfl)) (by dsimp only [List.set]; try rfl) ?_
  refine wpList_nil (hK3 _ _ ?_)
  refine wp_block ?_
  refine loop_ghost (σ := Nat × Int) (fun s a w' => ∃ u4 : Nat → Value, a = fr [(.slice (some ⟨g, 0, none⟩) n cap), (Iv s.2), Ud, Ud, (Iv 0), (Iv (s.1 : Int)), (u4 6), (u4 7), (u4 8), (u4 9), (u4 10), (u4 11), (u4 12), (u4 13), (u4 14), (u4 15), (u4 16), (u4 17), (u4 18), (u4 19), (u4 20), (u4 21), (u4 22), (u4 23), (u4 24), (u4 25), (u4 26), (u4 27), (u4 28), (u4 29), (u4 30), (u4 31), (u4 32), (u4 33), (u4 34), (u4 35), (u4 36), (u4 37), (u4 38), (u4 39), Ud] ∧ KpL [g] w w' ∧ Mk false k w' g N (s.1 * 4) ∧ (s.1 ≤ n ∧ s.2 = k + (s.1 : Int) * 4)) (fun s => n - s.1) (0, k) ?_ ?_
  · refine ⟨fun t => (([(.slice (some ⟨g, 0, none⟩) n cap), (Iv k), Ud, Ud, (Iv 0), (Iv 0), Ud, Ud, Ud, Ud, Ud, Ud, Ud, Ud, Ud, Ud, Ud, Ud, Ud, Ud, Ud, Ud, Ud, Ud, Ud, Ud, Ud, Ud, Ud, Ud, Ud, Ud, Ud, Ud, Ud, Ud, Ud, Ud, Ud, Ud, Ud] : List Value)[t]?).getD undef, rfl, KpL.refl _ _, (Mk.cast hM (by simp)), ?_⟩
    exact ⟨Nat.zero_le _, by simp⟩
  · rintro s a w5 ⟨u4, rfl, E6, hF7, ⟨hk, hn2⟩⟩
    have X8 := KpL.more (KpL.refl [g] w) E6 (allS (.inl (by simp)) all0)
    refine wp_seq_k fun K9 hK9 => ?_
    refine wp_seq_k fun K10 hK10 => ?_
    refine wp_region_lit ?_
    refine q_is rfl rfl (does_move (u := (Iv (s.1 : Int))) (ev rfl)) (by dsimp only [List.set]; try rfl) ?_
    refine q_is rfl rfl (does_move (u := (.slice (some ⟨g, 0, none⟩) n cap)) (ev rfl)) (by dsimp only [List.set]; try rfl) ?_
    refine q_is rfl rfl (does_len_slice Try.underlying69 (ev rfl)) (by dsimp only [List.set]; try rfl) ?_
    refine q_is rfl rfl (does_icmp (p := (s.1 : Int)) (q := (n : Int)) (.inr (.inr (.inl rfl))) (ev rfl) (ev rfl)) (by dsimp only [List.set]; try rfl) ?_
    refine wpList_nil (hK10 _ _ ?_)
    refine wp_cond_split (t := icmp .lss (s.1 : Int) (n : Int)) (ev rfl) (fun c11 => ?_) (fun c11 => ?_)
    · have c11' := c11
      (try simp only [icmp, Bool.and_eq_true, Bool.or_eq_true, Bool.and_eq_false_iff, Bool.or_eq_false_iff, Bool.not_eq_true', Bool.not_eq_false', decide_eq_true_eq, decide_eq_false_iff_not, beq_iff_eq, bne_iff_ne, beq_eq_false_iff_ne, bne_eq_false_iff_eq] at c11')
      refine wp_skip (hK9 _ _ ?_)
      refine wp_seq_k fun K12 hK12 => ?_
      refine wp_block ?_
      refine wp_seq_k fun K13 hK13 => ?_
      refine wp_region_lit ?_
      refine q_is rfl rfl (does_move (u := (.slice (some ⟨g, 0, none⟩) n cap)) (ev rfl)) (by dsimp only [List.set]; try rfl) ?_
      refine q_is rfl rfl (does_move (u := (Iv (s.1 : Int))) (ev rfl)) (by dsimp only [List.set]; try rfl) ?_
      refine q_is rfl rfl (does_move (u := (Iv s.2)) (ev rfl)) (by dsimp only [List.set]; try rfl) ?_
      refine q_is rfl rfl (does_indexOwn (b := g) (n := n) (i := (s.1 : Int)) Try.underlying69 Try.sizeOf54 (ev rfl) (ev rfl) (by omega) (by omega)) (by dsimp only [List.set]; try rfl) ?_
      refine q_is rfl rfl (does_fieldAddr (ev rfl) fa54_0) (by dsimp only [List.set]; try rfl) ?_
      refine seqn rfl rfl (does_mark (fl := false) (k := k) (N := N) (off := s.1 * 4) (j := s.1 * 4) (u := (Iv s.2)) (ev rfl) (ev rfl) Try.sizeOf2 (mkc_i (by omega)) (by omega) (by omega) hF7) ?_; rintro _ w16 ⟨rfl, W14, hM15⟩
      have X17 := KpL.more X8 (KpL.of_wr W14) (allS (.inl (by simp)) all0)
      refine wpList_nil (hK13 _ _ ?_)
      refine wp_seq_k fun K18 hK18 => ?_
      refine wp_region_lit ?_
      refine q_is rfl rfl (does_move (u := (Iv s.2)) (ev rfl)) (by dsimp only [List.set]; try rfl) ?_
      refine q_is rfl rfl (does_iarith (p := s.2) (q := 1) (r := s.2 + 1) (ev rfl) (ev rfl) (.inl ⟨rfl, (in_i64 (by omega) (by omega)).symm⟩)) (by dsimp only [List.set]; try rfl) ?_
      refine q_is rfl rfl (does_assign (u := (Iv (s.2 + 1))) (ev rfl)) (by dsimp only [List.set]; try rfl) ?_
      refine wpList_nil (hK18 _ _ ?_)
      refine wp_seq_k fun K19 hK19 => ?_
      refine wp_region_lit ?_
      refine q_is rfl rfl (does_move (u := (.slice (some ⟨g, 0, none⟩) n cap)) (ev rfl)) (by dsimp only [List.set]; try rfl) ?_
      refine q_is rfl rfl (does_move (u := (Iv (s.1 : Int))) (ev rfl)) (by dsimp only [List.set]; try rfl) ?_
      refine q_is rfl rfl (does_move (u := (Iv (s.2 + 1))) (ev rfl)) (by dsimp only [List.set]; try rfl) ?_
      refine q_is rfl rfl (does_indexOwn (b := g) (n := n) (i := (s.1 : Int)) Try.underlying69 Try.sizeOf54 (ev rfl) (ev rfl) (by omega) (by omega)) (by dsimp only [List.set]; try rfl) ?_
      refine q_is rfl rfl (does_fieldAddr (ev rfl) fa54_1) (by dsimp only [List.set]; try rfl) ?_
      refine seqn rfl rfl (does_mark (fl := false) (k := k) (N := N) (off := s.1 * 4 + 1) (j := s.1 * 4 + 1) (u := (Iv (s.2 + 1))) (ev rfl) (ev rfl) Try.sizeOf2 (mkc_i (by omega)) (by omega) (by omega) hM15) ?_; rintro _ w22 ⟨rfl, W20, hM21⟩
      have X23 := KpL.more X17 (KpL.of_wr W20) (allS (.inl (by simp)) all0)
      refine wpList_nil (hK19 _ _ ?_)
      refine wp_seq_k fun K24 hK24 => ?_
      refine wp_region_lit ?_
      refine q_is rfl rfl (does_move (u := (Iv (s.2 + 1))) (ev rfl)) (by dsimp only [List.set]; try rfl) ?_
      refine q_is rfl rfl (does_iarith (p := s.2 + 1) (q := 1) (r := (s.2 + 1) + 1) (ev rfl) (ev rfl) (.inl ⟨rfl, (in_i64 (by omega) (by omega)).symm⟩)) (by dsimp only [List.set]; try rfl) ?_
      refine q_is rfl rfl (does_assign (u := (Iv ((s.2 + 1) + 1))) (ev rfl)) (by dsimp only [List.set]; try rfl) ?_
      refine wpList_nil (hK24 _ _ ?_)
      refine wp_seq_k fun K25 hK25 => ?_
      refine wp_region_lit ?_
      refine q_is rfl rfl (does_move (u := (.slice (some ⟨g, 0, none⟩) n cap)) (ev rfl)) (by dsimp only [List.set]; try rfl) ?_
      refine q_is rfl rfl (does_move (u := (Iv (s.1 : Int))) (ev rfl)) (by dsimp only [List.set]; try rfl) ?_
      refine q_is rfl rfl (does_move (u := (Iv ((s.2 + 1) + 1))) (ev rfl)) (by dsimp only [List.set]; try rfl) ?_
      refine q_is rfl rfl (does_indexOwn (b := g) (n := n) (i := (s.1 : Int)) Try.underlying69 Try.sizeOf54 (ev rfl) (ev rfl) (by omega) (by omega)) (by dsimp only [List.set]; try rfl) ?_
      refine q_is rfl rfl (does_fieldAddr (ev rfl) fa54_2) (by dsimp only [List.set]; try rfl) ?_
      refine seqn rfl rfl (does_mark (fl := false) (k := k) (N := N) (off := s.1 * 4 + 2) (j := s.1 * 4 + 1 + 1) (u := (Iv ((s.2 + 1) + 1))) (ev rfl) (ev rfl) Try.sizeOf2 (mkc_i (by omega)) (by omega) (by omega) hM21) ?_; rintro _ w28 ⟨rfl, W26, hM27⟩
      have X29 := KpL.more X23 (KpL.of_wr W26) (allS (.inl (by simp)) all0)
      refine wpList_nil (hK25 _ _ ?_)
      refine wp_seq_k fun K30 hK30 => ?_
      refine wp_region_lit ?_
      refine q_is rfl rfl (does_move (u := (Iv ((s.2 + 1) + 1))) (ev rfl)) (by dsimp only [List.set]; try rfl) ?_
      refine q_is rfl rfl (does_iarith (p := (s.2 + 1) + 1) (q := 1) (r := ((s.2 + 1) + 1) + 1) (ev rfl) (ev rfl) (.inl ⟨rfl, (in_i64 (by omega) (by omega)).symm⟩)) (by dsimp only [List.set]; try rfl) ?_
      refine q_is rfl rfl (does_assign (u := (Iv (((s.2 + 1) + 1) + 1))) (ev rfl)) (by dsimp only [List.set]; try rfl) ?_
      refine wpList_nil (hK30 _ _ ?_)
      refine wp_seq_k fun K31 hK31 => ?_
      refine wp_region_lit ?_
      refine q_is rfl rfl (does_move (u := (.slice (some ⟨g, 0, none⟩) n cap)) (ev rfl)) (by dsimp only [List.set]; try rfl) ?_
      refine q_is rfl rfl (does_move (u := (Iv (s.1 : Int))) (ev rfl)) (by dsimp only [List.set]; try rfl) ?_
      refine q_is rfl rfl (does_move (u := (Iv (((s.2 + 1) + 1) + 1))) (ev rfl)) (by dsimp only [List.set]; try rfl) ?_
      refine q_is rfl rfl (does_indexOwn (b := g) (n := n) (i := (s.1 : Int)) Try.underlying69 Try.sizeOf54 (ev rfl) (ev rfl) (by omega) (by omega)) (by dsimp only [List.set]; try rfl) ?_
      refine q_is rfl rfl (does_fieldAddr (ev rfl) fa54_3) (by dsimp only [List.set]; try rfl) ?_
      refine seqn rfl rfl (does_mark (fl := false) (k := k) (N := N) (off := s.1 * 4 + 3) (j := s.1 * 4 + 1 + 1 + 1) (u := (Iv (((s.2 + 1) + 1) + 1))) (ev rfl) (ev rfl) Try.sizeOf2 (mkc_i (by omega)) (by omega) (by omega) hM27) ?_; rintro _ w34 ⟨rfl, W32, hM33⟩
      have X35 := KpL.more X29 (KpL.of_wr W32) (allS (.inl (by simp)) all0)
      refine wpList_nil (hK31 _ _ ?_)
      refine wp_region_lit ?_
      refine q_is rfl rfl (does_move (u := (Iv (((s.2 + 1) + 1) + 1))) (ev rfl)) (by dsimp only [List.set]; try rfl) ?_
      refine q_is rfl rfl (does_iarith (p := ((s.2 + 1) + 1) + 1) (q := 1) (r := (((s.2 + 1) + 1) + 1) + 1) (ev rfl) (ev rfl) (.inl ⟨rfl, (in_i64 (by omega) (by omega)).symm⟩)) (by dsimp only [List.set]; try rfl) ?_
      refine q_is rfl rfl (does_assign (u := (Iv ((((s.2 + 1) + 1) + 1) + 1))) (ev rfl)) (by dsimp only [List.set]; try rfl) ?_
      refine wpList_nil (hK12 _ _ ?_)
      refine wp_region_lit ?_
      refine q_is rfl rfl (does_move (u := (Iv (s.1 : Int))) (ev rfl)) (by dsimp only [List.set]; try rfl) ?_
      refine q_is rfl rfl (does_iarith (p := (s.1 : Int)) (q := 1) (r := (s.1 : Int) + 1) (ev rfl) (ev rfl) (.inl ⟨rfl, (in_i64 (by omega) (by omega)).symm⟩)) (by dsimp only [List.set]; try rfl) ?_
      refine q_is rfl rfl (does_assign (u := (Iv ((s.1 : Int) + 1))) (ev rfl)) (by dsimp only [List.set]; try rfl) ?_
      refine wpList_nil ?_
      refine ⟨(s.1 + 1, (((s.2 + 1) + 1) + 1) + 1), ⟨fun t => (([(.slice (some ⟨g, 0, none⟩) n cap), (Iv ((((s.2 + 1) + 1) + 1) + 1)), Ud, Ud, (Iv 0), (Iv ((s.1 : Int) + 1)), (Iv (s.1 : Int)), (.slice (some ⟨g, 0, none⟩) n cap), (Iv (n : Int)), (Bo (icmp .lss (s.1 : Int) (n : Int))), (Iv (s.1 : Int)), (Iv ((s.1 : Int) + 1)), (.slice (some ⟨g, 0, none⟩) n cap), (Iv (s.1 : Int)), (Iv s.2), (Pt g (s.1 * 4)), (Pt g (s.1 * 4)), (Iv s.2), (Iv (s.2 + 1)), (.slice (some ⟨g, 0, none⟩) n cap), (Iv (s.1 : Int)), (Iv (s.2 + 1)), (Pt g (s.1 * 4)), (Pt g (s.1 * 4 + 1)), (Iv (s.2 + 1)), (Iv ((s.2 + 1) + 1)), (.slice (some ⟨g, 0, none⟩) n cap), (Iv (s.1 : Int)), (Iv ((s.2 + 1) + 1)), (Pt g (s.1 * 4)), (Pt g (s.1 * 4 + 2)), (Iv ((s.2 + 1) + 1)), (Iv (((s.2 + 1) + 1) + 1)), (.slice (some ⟨g, 0, none⟩) n cap), (Iv (s.1 : Int)), (Iv (((s.2 + 1) + 1) + 1)), (Pt g (s.1 * 4)), (Pt g (s.1 * 4 + 3)), (Iv (((s.2 + 1) + 1) + 1)), (Iv ((((s.2 + 1) + 1) + 1) + 1)), Ud] : List Value)[t]?).getD undef, ?_, (KpL.more (KpL.more (KpL.more (KpL.more E6 (KpL.of_wr W14) (allS (.inl (by simp)) all0)) (KpL.of_wr W20) (allS (.inl (by simp)) all0)) (KpL.of_wr W26) (allS (.inl (by simp)) all0)) (KpL.of_wr W32) (allS (.inl (by simp)) all0)), (Mk.cast hM33 (by (try dsimp only); omega)), ?_⟩, ?_⟩
      · first | rfl | (simp only [Nat.cast_add, Nat.cast_one, Int.natCast_add, Int.natCast_one]; rfl)
      · (try dsimp only); exact ⟨by omega, by omega⟩
      · (try dsimp only); omega
    have c11' := c11
    (try simp only [icmp, Bool.and_eq_true, Bool.or_eq_true, Bool.and_eq_false_iff, Bool.or_eq_false_iff, Bool.not_eq_true', Bool.not_eq_false', decide_eq_true_eq, decide_eq_false_iff_not, beq_iff_eq, bne_iff_ne, beq_eq_false_iff_ne, bne_eq_false_iff_eq] at c11')
    refine wp_exit ?_
    refine hK2 _ _ ?_
    refine wp_seq_k fun K36 hK36 => ?_
    refine wp_region_lit ?_
    refine q_is rfl rfl (does_move (u := (Iv s.2)) (ev rfl)) (by dsimp only [List.set]; try rfl) ?_
    refine q_is rfl rfl (does_assign (u := (Iv s.2)) (ev rfl)) (by dsimp only [List.set]; try rfl) ?_
    refine wpList_nil (hK36 _ _ ?_)
    refine wp_ret ?_
    refine ret_valK (v := (Iv s.2)) (res_T rfl (slot rfl)) X8 ?_
    have hj : s.1 = n := by omega
    exact ⟨by first | rfl | (show Value.int _ _ = Value.int _ _; congr 1; omega), Mk.cast hF7 (by rw [hj])⟩

theorem c_laws_markTileS (a : Value) (n : Nat) (L : List Nat) (B : Nat) (k : Int) (w : World) (ha : WL 4 B w L a n) (h0 : 0 ≤ k) (h1 : k + (n : Int) * 4 ≤ 4611686018427387904) : GivesK L Try.prog 40 #[a, Iv k] w (fun v w' => v = Iv (k + (n : Int) * 4) ∧ Hang B w' (fun u => Sl RTileT 4 u a (mkL fT 4 k n))) := by
  obtain ⟨hL, ⟨rfl, rfl, rfl⟩ | ⟨g, cap, cs, rfl, rfl, hB, hn, hc⟩⟩ := ha
  · exact (Gives.toK (c_laws_markTileS_nil k w)).mono fun v w' hv => ⟨by rw [hv]; simp, fun u _ => Sl_mk0 u⟩
  · exact (c_laws_markTileS_blk g cs.length n cap k w (Mk.zero hB rfl) hn h0 h1).mono fun v w' ⟨hv, hM⟩ => ⟨hv, Mk.hang hM (hL g (by simp)).1 hc (by decide) (by omega) rT⟩

/- laws.heldTileS -/
theorem c_laws_heldTileS (a : Value) (L_a : List TileT) (k : Int) (w : World) (hv_a : Sl RTileT 4 w a L_a) (hm : L_a = mkL fT 4 k L_a.length) (h0 : 0 ≤ k) (h1 : k + (L_a.length : Int) * 4 ≤ 4611686018427387904) : Gives Try.prog 41 #[a, (Iv k)] w (fun v w' => v = (Iv (k + (L_a.length : Int) * 4))) := by
  have hlen_a := Sl.len hv_a; obtain ⟨p_a, q_a, rfl⟩ := Sl.shape hv_a
  refine enter [(.slice p_a L_a.length q_a), (Iv k), Ud, Ud, Ud, Ud, Ud, Ud, Ud, Ud, Ud, Ud, Ud, Ud, Ud, Ud, Ud, Ud, Ud, Ud, Ud, Ud, Ud, Ud, Ud, Ud, Ud, Ud, Ud, Ud, Ud, Ud, Ud, Ud, Ud, Ud, Ud, Ud, Ud, Ud, Ud, Ud, Ud, Ud, Ud, Ud, Ud, Ud, Ud] Try.func41 rfl Try.ntmps41 rfl ?_
  refine wp_seq_k fun K1 hK1 => ?_
  refine wp_region_lit ?_
  refine q_is rfl rfl (does_assign (u := (Iv 0)) (ev rfl)) (by dsimp only [List.set]; try rfl) ?_
  refine wpList_nil (hK1 _ _ ?_)
  refine wp_seq_k fun K2 hK2 => ?_
  refine wp_seq_k fun K3 hK3 => ?_
  refine wp_region_lit ?_
  refine q_is rfl rfl (does_assign (u := (Iv 0)) (ev rfl)) (by dsimp only [List.set]; try rfl) ?_
  refine wpList_nil (hK3 _ _ ?_)
  refine wp_block ?_
  refine loop_ghost (σ := Nat × Int) (fun s a w' => ∃ u4 : Nat → Value, a = fr [(.slice p_a L_a.length q_a), (Iv s.2), Ud, Ud, (u4 4), (Iv (s.1 : Int)), (u4 6), (u4 7), (u4 8), (u4 9), (u4 10), (u4 11), (u4 12), (u4 13), (u4 14), (u4 15), (u4 16), (u4 17), (u4 18), (u4 19), (u4 20), (u4 21), (u4 22), (u4 23), (u4 24), (u4 25), (u4 26), (u4 27), (u4 28), (u4 29), (u4 30), (u4 31), (u4 32), (u4 33), (u4 34), (u4 35), (u4 36), (u4 37), (u4 38), (u4 39), (u4 40), (u4 41), (u4 42), (u4 43), (u4 44), (u4 45), (u4 46), (u4 47), Ud] ∧ Ext w w' ∧ (s.1 ≤ L_a.length ∧ s.2 = k + (s.1 : Int) * 4)) (fun s => L_a.length - s.1) (0, k) ?_ ?_
  · refine ⟨fun t => (([(.slice p_a L_a.length q_a), (Iv k), Ud, Ud, (Iv 0), (Iv 0), Ud, Ud, Ud, Ud, Ud, Ud, Ud, Ud, Ud, Ud, Ud, Ud, Ud, Ud, Ud, Ud, Ud, Ud, Ud, Ud, Ud, Ud, Ud, Ud, Ud, Ud, Ud, Ud, Ud, Ud, Ud, Ud, Ud, Ud, Ud, Ud, Ud, Ud, Ud, Ud, Ud, Ud, Ud] : List Value)[t]?).getD undef, rfl, Ext.refl _, ?_⟩
    exact ⟨Nat.zero_le _, by simp⟩
  · rintro s a w5 ⟨u4, rfl, E6, ⟨hk, hn2⟩⟩
    have X8 := Ext.gr (Ext.refl w) E6
    refine wp_seq_k fun K9 hK9 => ?_
    refine wp_seq_k fun K10 hK10 => ?_
    refine wp_region_lit ?_
    refine q_is rfl rfl (does_move (u := (Iv (s.1 : Int))) (ev rfl)) (by dsimp only [List.set]; try rfl) ?_
    refine q_is rfl rfl (does_move (u := (.slice p_a L_a.length q_a)) (ev rfl)) (by dsimp only [List.set]; try rfl) ?_
    refine q_is rfl rfl (does_len_slice Try.underlying69 (ev rfl)) (by dsimp only [List.set]; try rfl) ?_
    refine q_is rfl rfl (does_icmp (p := (s.1 : Int)) (q := (L_a.length : Int)) (.inr (.inr (.inl rfl))) (ev rfl) (ev rfl)) (by dsimp only [List.set]; try rfl) ?_
    refine wpList_nil (hK10 _ _ ?_)
    refine wp_cond_split (t := icmp .lss (s.1 : Int) (L_a.length : Int)) (ev rfl) (fun c11 => ?_) (fun c11 => ?_)
    · have c11' := c11
      (try simp only [icmp, Bool.and_eq_true, Bool.or_eq_true, Bool.and_eq_false_iff, Bool.or_eq_false_iff, Bool.not_eq_true', Bool.not_eq_false', decide_eq_true_eq, decide_eq_false_iff_not, beq_iff_eq, bne_iff_ne, beq_eq_false_iff_ne, bne_eq_false_iff_eq] at c11')
      refine wp_skip (hK9 _ _ ?_)
      refine wp_seq_k fun K12 hK12 => ?_
      refine wp_block ?_
      refine wp_seq_k fun K13 hK13 => ?_
      refine wp_seq_k fun K14 hK14 => ?_
      refine wp_region_lit ?_
      refine q_is rfl rfl (does_move (u := (.slice p_a L_a.length q_a)) (ev rfl)) (by dsimp only [List.set]; try rfl) ?_
      refine q_is rfl rfl (does_move (u := (Iv (s.1 : Int))) (ev rfl)) (by dsimp only [List.set]; try rfl) ?_
      obtain ⟨el1, hel1⟩ : ∃ e, L_a[s.1]? = some e := ⟨_, List.getElem?_eq_getElem (by omega)⟩
      refine seqd rfl rfl (does_indexSl (R := RTileT) (i := (s.1 : Int)) (xs := L_a) (e := el1) Try.underlying69 Try.sizeOf54 (ev rfl) (ev rfl) (Sl.ext hv_a RTileT.mono X8) (by omega) hel1) ?_; rintro _ w5 ⟨b15, o16, _, rfl, hc18, rfl, rfl⟩
      show wpList _ _ _ _ (fr [(.slice p_a L_a.length q_a), (Iv s.2), Ud, Ud, (u4 4), (Iv (s.1 : Int)), (Iv (s.1 : Int)), (.slice p_a L_a.length q_a), (Iv (L_a.length : Int)), (Bo (icmp .lss (s.1 : Int) (L_a.length : Int))), (u4 10), (u4 11), (.slice p_a L_a.length q_a), (Iv (s.1 : Int)), (Pt b15 o16), (u4 15), (u4 16), (u4 17), (u4 18), (u4 19), (u4 20), (u4 21), (u4 22), (u4 23), (u4 24), (u4 25), (u4 26), (u4 27), (u4 28), (u4 29), (u4 30), (u4 31), (u4 32), (u4 33), (u4 34), (u4 35), (u4 36), (u4 37), (u4 38), (u4 39), (u4 40), (u4 41), (u4 42), (u4 43), (u4 44), (u4 45), (u4 46), (u4 47), Ud]) _
      refine q_is rfl rfl (does_fieldAddr (ev rfl) fa54_0) (by dsimp only [List.set]; try rfl) ?_
      refine q_is rfl rfl (does_load (u := (Iv el1.x)) (ev rfl) Try.isAgg2 (Cells.at hc18 0 rfl)) (by dsimp only [List.set]; try rfl) ?_
      refine q_is rfl rfl (does_move (u := (Iv s.2)) (ev rfl)) (by dsimp only [List.set]; try rfl) ?_
      refine q_is rfl rfl (does_icmp (p := el1.x) (q := s.2) (.inr (.inl rfl)) (ev rfl) (ev rfl)) (by dsimp only [List.set]; try rfl) ?_
      refine wpList_nil (hK14 _ _ ?_)
      refine wp_cond_split (t := icmp .neq el1.x s.2) (ev rfl) (fun c19 => ?_) (fun c19 => ?_)
      · have c19' := c19
        (try simp only [icmp, Bool.and_eq_true, Bool.or_eq_true, Bool.and_eq_false_iff, Bool.or_eq_false_iff, Bool.not_eq_true', Bool.not_eq_false', decide_eq_true_eq, decide_eq_false_iff_not, beq_iff_eq, bne_iff_ne, beq_eq_false_iff_ne, bne_eq_false_iff_eq] at c19')
        exfalso; have he := mkL_at hm hel1; subst he; simp only [fT, icmp, bne_iff_ne, ne_eq] at c19; omega
      have c19' := c19
      (try simp only [icmp, Bool.and_eq_true, Bool.or_eq_true, Bool.and_eq_false_iff, Bool.or_eq_false_iff, Bool.not_eq_true', Bool.not_eq_false', decide_eq_true_eq, decide_eq_false_iff_not, beq_iff_eq, bne_iff_ne, beq_eq_false_iff_ne, bne_eq_false_iff_eq] at c19')
      refine wp_skip (hK13 _ _ ?_)
      refine wp_seq_k fun K20 hK20 => ?_
      refine wp_region_lit ?_
      refine q_is rfl rfl (does_move (u := (Iv s.2)) (ev rfl)) (by dsimp only [List.set]; try rfl) ?_
      refine q_is rfl rfl (does_iarith (p := s.2) (q := 1) (r := s.2 + 1) (ev rfl) (ev rfl) (.inl ⟨rfl, (in_i64 (by omega) (by omega)).symm⟩)) (by dsimp only [List.set]; try rfl) ?_
      refine q_is rfl rfl (does_assign (u := (Iv (s.2 + 1))) (ev rfl)) (by dsimp only [List.set]; try rfl) ?_
      refine wpList_nil (hK20 _ _ ?_)
      refine wp_seq_k fun K21 hK21 => ?_
      refine wp_seq_k fun K22 hK22 => ?_
      refine wp_region_lit ?_
      refine q_is rfl rfl (does_move (u := (.slice p_a L_a.length q_a)) (ev rfl)) (by dsimp only [List.set]; try rfl) ?_
      refine q_is rfl rfl (does_move (u := (Iv (s.1 : Int))) (ev rfl)) (by dsimp only [List.set]; try rfl) ?_
      refine seqd rfl rfl (does_indexSl (R := RTileT) (i := (s.1 : Int)) (xs := L_a) (e := el1) Try.underlying69 Try.sizeOf54 (ev rfl) (ev rfl) (Sl.ext hv_a RTileT.mono X8) (by omega) hel1) ?_; rintro _ w5 ⟨b23, o24, _, rfl, hc26, rfl, rfl⟩
      show wpList _ _ _ _ (fr [(.slice p_a L_a.length q_a), (Iv (s.2 + 1)), Ud, Ud, (u4 4), (Iv (s.1 : Int)), (Iv (s.1 : Int)), (.slice p_a L_a.length q_a), (Iv (L_a.length : Int)), (Bo (icmp .lss (s.1 : Int) (L_a.length : Int))), (u4 10), (u4 11), (.slice p_a L_a.length q_a), (Iv (s.1 : Int)), (Pt b15 o16), (Pt b15 o16), (Iv el1.x), (Iv s.2), (Bo (icmp .neq el1.x s.2)), (Iv s.2), (Iv (s.2 + 1)), (.slice p_a L_a.length q_a), (Iv (s.1 : Int)), (Pt b23 o24), (u4 24), (u4 25), (u4 26), (u4 27), (u4 28), (u4 29), (u4 30), (u4 31), (u4 32), (u4 33), (u4 34), (u4 35), (u4 36), (u4 37), (u4 38), (u4 39), (u4 40), (u4 41), (u4 42), (u4 43), (u4 44), (u4 45), (u4 46), (u4 47), Ud]) _
      refine q_is rfl rfl (does_fieldAddr (ev rfl) fa54_1) (by dsimp only [List.set]; try rfl) ?_
      refine q_is rfl rfl (does_load (u := (Iv el1.y)) (ev rfl) Try.isAgg2 (Cells.at hc26 1 rfl)) (by dsimp only [List.set]; try rfl) ?_
      refine q_is rfl rfl (does_move (u := (Iv (s.2 + 1))) (ev rfl)) (by dsimp only [List.set]; try rfl) ?_
      refine q_is rfl rfl (does_icmp (p := el1.y) (q := s.2 + 1) (.inr (.inl rfl)) (ev rfl) (ev rfl)) (by dsimp only [List.set]; try rfl) ?_
      refine wpList_nil (hK22 _ _ ?_)
      refine wp_cond_split (t := icmp .neq el1.y (s.2 + 1)) (ev rfl) (fun c27 => ?_) (fun c27 => ?_)
      · have c27' := c27
        (try simp only [icmp, Bool.and_eq_true, Bool.or_eq_true, Bool.and_eq_false_iff, Bool.or_eq_false_iff, Bool.not_eq_true', Bool.not_eq_false', decide_eq_true_eq, decide_eq_false_iff_not, beq_iff_eq, bne_iff_ne, beq_eq_false_iff_ne, bne_eq_false_iff_eq] at c27')
        exfalso; have he := mkL_at hm hel1; subst he; simp only [fT, icmp, bne_iff_ne, ne_eq] at c27; omega
      have c27' := c27
      (try simp only [icmp, Bool.and_eq_true, Bool.or_eq_true, Bool.and_eq_false_iff, Bool.or_eq_false_iff, Bool.not_eq_true', Bool.not_eq_false', decide_eq_true_eq, decide_eq_false_iff_not, beq_iff_eq, bne_iff_ne, beq_eq_false_iff_ne, bne_eq_false_iff_eq] at c27')
      refine wp_skip (hK21 _ _ ?_)
      refine wp_seq_k fun K28 hK28 => ?_
      refine wp_region_lit ?_
      refine q_is rfl rfl (does_move (u := (Iv (s.2 + 1))) (ev rfl)) (by dsimp only [List.set]; try rfl) ?_
      refine q_is rfl rfl (does_iarith (p := s.2 + 1) (q := 1) (r := (s.2 + 1) + 1) (ev rfl) (ev rfl) (.inl ⟨rfl, (in_i64 (by omega) (by omega)).symm⟩)) (by dsimp only [List.set]; try rfl) ?_
      refine q_is rfl rfl (does_assign (u := (Iv ((s.2 + 1) + 1))) (ev rfl)) (by dsimp only [List.set]; try rfl) ?_
      refine wpList_nil (hK28 _ _ ?_)
      refine wp_seq_k fun K29 hK29 => ?_
      refine wp_seq_k fun K30 hK30 => ?_
      refine wp_region_lit ?_
      refine q_is rfl rfl (does_move (u := (.slice p_a L_a.length q_a)) (ev rfl)) (by dsimp only [List.set]; try rfl) ?_
      refine q_is rfl rfl (does_move (u := (Iv (s.1 : Int))) (ev rfl)) (by dsimp only [List.set]; try rfl) ?_
      refine seqd rfl rfl (does_indexSl (R := RTileT) (i := (s.1 : Int)) (xs := L_a) (e := el1) Try.underlying69 Try.sizeOf54 (ev rfl) (ev rfl) (Sl.ext hv_a RTileT.mono X8) (by omega) hel1) ?_; rintro _ w5 ⟨b31, o32, _, rfl, hc34, rfl, rfl⟩
      show wpList _ _ _ _ (fr [(.slice p_a L_a.length q_a), (Iv ((s.2 + 1) + 1)), Ud, Ud, (u4 4), (Iv (s.1 : Int)), (Iv (s.1 : Int)), (.slice p_a L_a.length q_a), (Iv (L_a.length : Int)), (Bo (icmp .lss (s.1 : Int) (L_a.length : Int))), (u4 10), (u4 11), (.slice p_a L_a.length q_a), (Iv (s.1 : Int)), (Pt b15 o16), (Pt b15 o16), (Iv el1.x), (Iv s.2), (Bo (icmp .neq el1.x s.2)), (Iv s.2), (Iv (s.2 + 1)), (.slice p_a L_a.length q_a), (Iv (s.1 : Int)), (Pt b23 o24), (Pt b23 (o24 + 1)), (Iv el1.y), (Iv (s.2 + 1)), (Bo (icmp .neq el1.y (s.2 + 1))), (Iv (s.2 + 1)), (Iv ((s.2 + 1) + 1)), (.slice p_a L_a.length q_a), (Iv (s.1 : Int)), (Pt b31 o32), (u4 33), (u4 34), (u4 35), (u4 36), (u4 37), (u4 38), (u4 39), (u4 40), (u4 41), (u4 42), (u4 43), (u4 44), (u4 45), (u4 46), (u4 47), Ud]) _
      refine q_is rfl rfl (does_fieldAddr (ev rfl) fa54_2) (by dsimp only [List.set]; try rfl) ?_
      refine q_is rfl rfl (does_load (u := (Iv el1.width)) (ev rfl) Try.isAgg2 (Cells.at hc34 2 rfl)) (by dsimp only [List.set]; try rfl) ?_
      refine q_is rfl rfl (does_move (u := (Iv ((s.2 + 1) + 1))) (ev rfl)) (by dsimp only [List.set]; try rfl) ?_
      refine q_is rfl rfl (does_icmp (p := el1.width) (q := (s.2 + 1) + 1) (.inr (.inl rfl)) (ev rfl) (ev rfl)) (by dsimp only [List.set]; try rfl) ?_
      refine wpList_nil (hK30 _ _ ?_)
      refine wp_cond_split (t := icmp .neq el1.width ((s.2 + 1) + 1)) (ev rfl) (fun c35 => ?_) (fun c35 => ?_)
      · have c35' := c35
        (try simp only [icmp, Bool.and_eq_true, Bool.or_eq_true, Bool.and_eq_false_iff, Bool.or_eq_false_iff, Bool.not_eq_true', Bool.not_eq_false', decide_eq_true_eq, decide_eq_false_iff_not, beq_iff_eq, bne_iff_ne, beq_eq_false_iff_ne, bne_eq_false_iff_eq] at c35')
        exfalso; have he := mkL_at hm hel1; subst he; simp only [fT, icmp, bne_iff_ne, ne_eq] at c35; omega
      have c35' := c35
      (try simp only [icmp, Bool.and_eq_true, Bool.or_eq_true, Bool.and_eq_false_iff, Bool.or_eq_false_iff, Bool.not_eq_true', Bool.not_eq_false', decide_eq_true_eq, decide_eq_false_iff_not, beq_iff_eq, bne_iff_ne, beq_eq_false_iff_ne, bne_eq_false_iff_eq] at c35')
      refine wp_skip (hK29 _ _ ?_)
      refine wp_seq_k fun K36 hK36 => ?_
      refine wp_region_lit ?_
      refine q_is rfl rfl (does_move (u := (Iv ((s.2 + 1) + 1))) (ev rfl)) (by dsimp only [List.set]; try rfl) ?_
      refine q_is rfl rfl (does_iarith (p := (s.2 + 1) + 1) (q := 1) (r := ((s.2 + 1) + 1) + 1) (ev rfl) (ev rfl) (.inl ⟨rfl, (in_i64 (by omega) (by omega)).symm⟩)) (by dsimp only [List.set]; try rfl) ?_
      refine q_is rfl rfl (does_assign (u := (Iv (((s.2 + 1) + 1) + 1))) (ev rfl)) (by dsimp only [List.set]; try rfl) ?_
      refine wpList_nil (hK36 _ _ ?_)
      refine wp_seq_k fun K37 hK37 => ?_
      refine wp_seq_k fun K38 hK38 => ?_
      refine wp_region_lit ?_
      refine q_is rfl rfl (does_move (u := (.slice p_a L_a.length q_a)) (ev rfl)) (by dsimp only [List.set]; try rfl) ?_
      refine q_is rfl rfl (does_move (u := (Iv (s.1 : Int))) (ev rfl)) (by dsimp only [List.set]; try rfl) ?_
      refine seqd rfl rfl (does_indexSl (R := RTileT) (i := (s.1 : Int)) (xs := L_a) (e := el1) Try.underlying69 Try.sizeOf54 (ev rfl) (ev rfl) (Sl.ext hv_a RTileT.mono X8) (by omega) hel1) ?_; rintro _ w5 ⟨b39, o40, _, rfl, hc42, rfl, rfl⟩
      show wpList _ _ _ _ (fr [(.slice p_a L_a.length q_a), (Iv (((s.2 + 1) + 1) + 1)), Ud, Ud, (u4 4), (Iv (s.1 : Int)), (Iv (s.1 : Int)), (.slice p_a L_a.length q_a), (Iv (L_a.length : Int)), (Bo (icmp .lss (s.1 : Int) (L_a.length : Int))), (u4 10), (u4 11), (.slice p_a L_a.length q_a), (Iv (s.1 : Int)), (Pt b15 o16), (Pt b15 o16), (Iv el1.x), (Iv s.2), (Bo (icmp .neq el1.x s.2)), (Iv s.2), (Iv (s.2 + 1)), (.slice p_a L_a.length q_a), (Iv (s.1 : Int)), (Pt b23 o24), (Pt b23 (o24 + 1)), (Iv el1.y), (Iv (s.2 + 1)), (Bo (icmp .neq el1.y (s.2 + 1))), (Iv (s.2 + 1)), (Iv ((s.2 + 1) + 1)), (.slice p_a L_a.length q_a), (Iv (s.1 : Int)), (Pt b31 o32), (Pt b31 (o32 + 2)), (Iv el1.width), (Iv ((s.2 + 1) + 1)), (Bo (icmp .neq el1.width ((s.2 + 1) + 1))), (Iv ((s.2 + 1) + 1)), (Iv (((s.2 + 1) + 1) + 1)), (.slice p_a L_a.length q_a), (Iv (s.1 : Int)), (Pt b39 o40), (u4 42), (u4 43), (u4 44), (u4 45), (u4 46), (u4 47), Ud]) _
      refine q_is rfl rfl (does_fieldAddr (ev rfl) fa54_3) (by dsimp only [List.set]; try rfl) ?_
      refine q_is rfl rfl (does_load (u := (Iv el1.height)) (ev rfl) Try.isAgg2 (Cells.at hc42 3 rfl)) (by dsimp only [List.set]; try rfl) ?_
      refine q_is rfl rfl (does_move (u := (Iv (((s.2 + 1) + 1) + 1))) (ev rfl)) (by dsimp only [List.set]; try rfl) ?_
      refine q_is rfl rfl (does_icmp (p := el1.height) (q := ((s.2 + 1) + 1) + 1) (.inr (.inl rfl)) (ev rfl) (ev rfl)) (by dsimp only [List.set]; try rfl) ?_
      refine wpList_nil (hK38 _ _ ?_)
      refine wp_cond_split (t := icmp .neq el1.height (((s.2 + 1) + 1) + 1)) (ev rfl) (fun c43 => ?_) (fun c43 => ?_)
      · have c43' := c43
        (try simp only [icmp, Bool.and_eq_true, Bool.or_eq_true, Bool.and_eq_false_iff, Bool.or_eq_false_iff, Bool.not_eq_true', Bool.not_eq_false', decide_eq_true_eq, decide_eq_false_iff_not, beq_iff_eq, bne_iff_ne, beq_eq_false_iff_ne, bne_eq_false_iff_eq] at c43')
        exfalso; have he := mkL_at hm hel1; subst he; simp only [fT, icmp, bne_iff_ne, ne_eq] at c43; omega
      have c43' := c43
      (try simp only [icmp, Bool.and_eq_true, Bool.or_eq_true, Bool.and_eq_false_iff, Bool.or_eq_false_iff, Bool.not_eq_true', Bool.not_eq_false', decide_eq_true_eq, decide_eq_false_iff_not, beq_iff_eq, bne_iff_ne, beq_eq_false_iff_ne, bne_eq_false_iff_eq] at c43')
      refine wp_skip (hK37 _ _ ?_)
      refine wp_region_lit ?_
      refine q_is rfl rfl (does_move (u := (Iv (((s.2 + 1) + 1) + 1))) (ev rfl)) (by dsimp only [List.set]; try rfl) ?_
      refine q_is rfl rfl (does_iarith (p := ((s.2 + 1) + 1) + 1) (q := 1) (r := (((s.2 + 1) + 1) + 1) + 1) (ev rfl) (ev rfl) (.inl ⟨rfl, (in_i64 (by omega) (by omega)).symm⟩)) (by dsimp only [List.set]; try rfl) ?_
      refine q_is rfl rfl (does_assign (u := (Iv ((((s.2 + 1) + 1) + 1) + 1))) (ev rfl)) (by dsimp only [List.set]; try rfl) ?_
      refine wpList_nil (hK12 _ _ ?_)
      refine wp_region_lit ?_
      refine q_is rfl rfl (does_move (u := (Iv (s.1 : Int))) (ev rfl)) (by dsimp only [List.set]; try rfl) ?_
      refine q_is rfl rfl (does_iarith (p := (s.1 : Int)) (q := 1) (r := (s.1 : Int) + 1) (ev rfl) (ev rfl) (.inl ⟨rfl, (in_i64 (by omega) (by omega)).symm⟩)) (by dsimp only [List.set]; try rfl) ?_
      refine q_is rfl rfl (does_assign (u := (Iv ((s.1 : Int) + 1))) (ev rfl)) (by dsimp only [List.set]; try rfl) ?_
      refine wpList_nil ?_
      refine ⟨(s.1 + 1, (((s.2 + 1) + 1) + 1) + 1), ⟨fun t => (([(.slice p_a L_a.length q_a), (Iv ((((s.2 + 1) + 1) + 1) + 1)), Ud, Ud, (u4 4), (Iv ((s.1 : Int) + 1)), (Iv (s.1 : Int)), (.slice p_a L_a.length q_a), (Iv (L_a.length : Int)), (Bo (icmp .lss (s.1 : Int) (L_a.length : Int))), (Iv (s.1 : Int)), (Iv ((s.1 : Int) + 1)), (.slice p_a L_a.length q_a), (Iv (s.1 : Int)), (Pt b15 o16), (Pt b15 o16), (Iv el1.x), (Iv s.2), (Bo (icmp .neq el1.x s.2)), (Iv s.2), (Iv (s.2 + 1)), (.slice p_a L_a.length q_a), (Iv (s.1 : Int)), (Pt b23 o24), (Pt b23 (o24 + 1)), (Iv el1.y), (Iv (s.2 + 1)), (Bo (icmp .neq el1.y (s.2 + 1))), (Iv (s.2 + 1)), (Iv ((s.2 + 1) + 1)), (.slice p_a L_a.length q_a), (Iv (s.1 : Int)), (Pt b31 o32), (Pt b31 (o32 + 2)), (Iv el1.width), (Iv ((s.2 + 1) + 1)), (Bo (icmp .neq el1.width ((s.2 + 1) + 1))), (Iv ((s.2 + 1) + 1)), (Iv (((s.2 + 1) + 1) + 1)), (.slice p_a L_a.length q_a), (Iv (s.1 : Int)), (Pt b39 o40), (Pt b39 (o40 + 3)), (Iv el1.height), (Iv (((s.2 + 1) + 1) + 1)), (Bo (icmp .neq el1.height (((s.2 + 1) + 1) + 1))), (Iv (((s.2 + 1) + 1) + 1)), (Iv ((((s.2 + 1) + 1) + 1) + 1)), Ud] : List Value)[t]?).getD undef, ?_, E6, ?_⟩, ?_⟩
      · first | rfl | (simp only [Nat.cast_add, Nat.cast_one, Int.natCast_add, Int.natCast_one]; rfl)
      · (try dsimp only); exact ⟨by omega, by (try dsimp only); omega⟩
      · (try dsimp only); omega
    have c11' := c11
    (try simp only [icmp, Bool.and_eq_true, Bool.or_eq_true, Bool.and_eq_false_iff, Bool.or_eq_false_iff, Bool.not_eq_true', Bool.not_eq_false', decide_eq_true_eq, decide_eq_false_iff_not, beq_iff_eq, bne_iff_ne, beq_eq_false_iff_ne, bne_eq_false_iff_eq] at c11')
    refine wp_exit ?_
    refine hK2 _ _ ?_
    refine wp_seq_k fun K44 hK44 => ?_
    refine wp_region_lit ?_
    refine q_is rfl rfl (does_move (u := (Iv s.2)) (ev rfl)) (by dsimp only [List.set]; try rfl) ?_
    refine q_is rfl rfl (does_assign (u := (Iv s.2)) (ev rfl)) (by dsimp only [List.set]; try rfl) ?_
    refine wpList_nil (hK44 _ _ ?_)
    refine wp_ret ?_
    refine ret_val (v := (Iv s.2)) (res_T rfl (slot rfl)) X8 ?_
    have x45 : (k + (L_a.length : Int) * 4 : Int) = s.2 := by first | omega | (rw [hn2, show s.1 = L_a.length by omega])
    exact (by first | rfl | rw [x45])

end Go.Proofs.Ytbbidfadenmmjaa
